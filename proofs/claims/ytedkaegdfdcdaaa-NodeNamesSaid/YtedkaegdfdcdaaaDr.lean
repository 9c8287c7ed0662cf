/- The document's Decode. -/
import Derived.Test.YtedkaegdfdcdaaaDe
set_option linter.unusedVariables false
set_option linter.unusedSimpArgs false
namespace Go.Proofs.Ytedkaegdfdcdaaa
open Go Go.Proofs.YtedkaegdfdcdaaaV
structure Dr (wb w : World) (b5 kr : Nat) (G : Nat → Prop) (k v d : Sl) (s : Nd × Rd) : Prop where
  np : Np wb w b5 25 k v d s.1
  rd : RdR G w (some ⟨kr, 0, none⟩) s.2
  hkr : kr < wb.heap.size
  hG : ∀ j, G j → j < kr
  fr : Frm (fun j => j = kr) wb w
section
variable {wb w : World} {b5 kr : Nat} {G : Nat → Prop} {k v d : Sl} {n : Nd} {r : Rd}
theorem Dr.key (h : Dr wb w b5 kr G k v d (n, r)) (hl : n.keys.length ≤ 1000000) {K : World → Prop} (hk : ∀ w' k', Dr wb w' b5 kr G k' v d (⟨n.leaf, n.keys ++ [str (strR 32 r).1], n.vals, n.kids⟩, (strR 32 r).2) → K w') :
    ∃ S : World → Prop, S w.drew ∧ ∃ t32 : Sl, (∀ w', S w' → Ld w' ((⟨b5, 0, none⟩ : Addr).add 1) (.slice t32.a t32.l t32.c)) ∧
      Calls prog 42 #[.pointer (some ⟨kr, 0, none⟩), .int .i64 32] w.drew fun en w1 => ∃ t34 : ByteArray, en = .returned (.string t34) ∧ S w1 ∧ RunT prog .slice (Instr.buildSlice 22 1 #[(0, .string t34)]) w1 fun (t35 : Sl) w2 => S w2 ∧
      RunT prog .slice (Builtin.append_ #[22, 22] 22 #[.slice t32.a t32.l t32.c, .slice t35.a t35.l t35.c]) w2 fun (t36 : Sl) w3 => Wr w3 ((⟨b5, 0, none⟩ : Addr).add 1) ∧ ∀ w4, w4 = w3.setCell ((⟨b5, 0, none⟩ : Addr).add 1) (.slice t36.a t36.l t36.c) → K w4 := by
  have hkr := h.hkr
  have hz := h.fr.size
  refine ⟨fun w' => Bk w' b5 25 k v d n, h.np.bk.drew, k, fun w' h => h.l1, (strRR_calls G w.drew (some ⟨kr, 0, none⟩) r 32 (h.rd.mod0 (frm_drew w))).mono ?_⟩
  rintro _ w1 ⟨rfl, hrd, f1⟩
  have f1 : Frm (fun j => j = kr) w w1 := Frm.ofDrew (f1.mono fun j _ e => ofEq j e)
  have z1 := f1.size
  have hn1 := h.np.mod f1 (fun j hj e => by omega)
  refine ⟨_, rfl, hn1.bk, hn1.pushK (by omega) _ hl (S := fun w' => Bk w' b5 25 k v d n) (fun w' f => hn1.bk.mod f) ?_⟩
  intro w4 k' F hn4 f4 hF
  exact hk w4 k' ⟨hn4, hrd.mod f4 (fun j e e2 => by have := hF _ e2; have := ofEq j e; omega) (fun j e e2 => by have := hF _ e2; have := h.hG j e; omega), hkr, h.hG, (h.fr.trans f1 (fun _ _ h => h) (fun _ _ h => h)).trans f4 (fun _ _ h => h) (fun j hj e => by have := hF j e; omega)⟩
theorem Dr.value (h : Dr wb w b5 kr G k v d (n, r)) (hl : n.vals.length ≤ 1000000) {K : World → Prop} (hk : ∀ w' v', Dr wb w' b5 kr G k v' d (⟨n.leaf, n.keys, n.vals ++ [str (strR 64 r).1], n.kids⟩, (strR 64 r).2) → K w') :
    ∃ S : World → Prop, S w.drew ∧ ∃ t32 : Sl, (∀ w', S w' → Ld w' ((⟨b5, 0, none⟩ : Addr).add 2) (.slice t32.a t32.l t32.c)) ∧
      Calls prog 42 #[.pointer (some ⟨kr, 0, none⟩), .int .i64 64] w.drew fun en w1 => ∃ t34 : ByteArray, en = .returned (.string t34) ∧ S w1 ∧ RunT prog .slice (Instr.buildSlice 22 1 #[(0, .string t34)]) w1 fun (t35 : Sl) w2 => S w2 ∧
      RunT prog .slice (Builtin.append_ #[22, 22] 22 #[.slice t32.a t32.l t32.c, .slice t35.a t35.l t35.c]) w2 fun (t36 : Sl) w3 => Wr w3 ((⟨b5, 0, none⟩ : Addr).add 2) ∧ ∀ w4, w4 = w3.setCell ((⟨b5, 0, none⟩ : Addr).add 2) (.slice t36.a t36.l t36.c) → K w4 := by
  have hkr := h.hkr
  have hz := h.fr.size
  refine ⟨fun w' => Bk w' b5 25 k v d n, h.np.bk.drew, v, fun w' h => h.l2, (strRR_calls G w.drew (some ⟨kr, 0, none⟩) r 64 (h.rd.mod0 (frm_drew w))).mono ?_⟩
  rintro _ w1 ⟨rfl, hrd, f1⟩
  have f1 : Frm (fun j => j = kr) w w1 := Frm.ofDrew (f1.mono fun j _ e => ofEq j e)
  have z1 := f1.size
  have hn1 := h.np.mod f1 (fun j hj e => by omega)
  refine ⟨_, rfl, hn1.bk, hn1.pushV (by omega) _ hl (S := fun w' => Bk w' b5 25 k v d n) (fun w' f => hn1.bk.mod f) ?_⟩
  intro w4 k' F hn4 f4 hF
  exact hk w4 k' ⟨hn4, hrd.mod f4 (fun j e e2 => by have := hF _ e2; have := ofEq j e; omega) (fun j e e2 => by have := hF _ e2; have := h.hG j e; omega), hkr, h.hG, (h.fr.trans f1 (fun _ _ h => h) (fun _ _ h => h)).trans f4 (fun _ _ h => h) (fun j hj e => by have := hF j e; omega)⟩
theorem Dr.kid (h : Dr wb w b5 kr G k v d (n, r)) (hl : n.kids.length ≤ 1000000) {K : World → Prop} (hk : ∀ w' d', Dr wb w' b5 kr G k v d' (⟨n.leaf, n.keys, n.vals, n.kids ++ [(countR 32768 r).1]⟩, (countR 32768 r).2) → K w') :
    ∃ S : World → Prop, S w.drew ∧ ∃ t32 : Sl, (∀ w', S w' → Ld w' ((⟨b5, 0, none⟩ : Addr).add 3) (.slice t32.a t32.l t32.c)) ∧
      Calls prog 40 #[.pointer (some ⟨kr, 0, none⟩), .int .i64 32768] w.drew fun en w1 => ∃ t34 : Int, en = .returned (.int .i64 t34) ∧ S w1 ∧ RunT prog .slice (Instr.buildSlice 23 1 #[(0, .int .i64 t34)]) w1 fun (t35 : Sl) w2 => S w2 ∧
      RunT prog .slice (Builtin.append_ #[23, 23] 23 #[.slice t32.a t32.l t32.c, .slice t35.a t35.l t35.c]) w2 fun (t36 : Sl) w3 => Wr w3 ((⟨b5, 0, none⟩ : Addr).add 3) ∧ ∀ w4, w4 = w3.setCell ((⟨b5, 0, none⟩ : Addr).add 3) (.slice t36.a t36.l t36.c) → K w4 := by
  have hkr := h.hkr
  have hz := h.fr.size
  refine ⟨fun w' => Bk w' b5 25 k v d n, h.np.bk.drew, d, fun w' h => h.l3, (countRR_calls G w.drew (some ⟨kr, 0, none⟩) r 32768 (h.rd.mod0 (frm_drew w))).mono ?_⟩
  rintro _ w1 ⟨rfl, hrd, f1⟩
  have f1 : Frm (fun j => j = kr) w w1 := Frm.ofDrew (f1.mono fun j _ e => ofEq j e)
  have z1 := f1.size
  have hn1 := h.np.mod f1 (fun j hj e => by omega)
  refine ⟨_, rfl, hn1.bk, hn1.pushD (by omega) _ hl (S := fun w' => Bk w' b5 25 k v d n) (fun w' f => hn1.bk.mod f) ?_⟩
  intro w4 k' F hn4 f4 hF
  exact hk w4 k' ⟨hn4, hrd.mod f4 (fun j e e2 => by have := hF _ e2; have := ofEq j e; omega) (fun j e e2 => by have := hF _ e2; have := h.hG j e; omega), hkr, h.hG, (h.fr.trans f1 (fun _ _ h => h) (fun _ _ h => h)).trans f4 (fun _ _ h => h) (fun j hj e => by have := hF j e; omega)⟩
end
set_option maxRecDepth 20000 in
theorem Decode_calls (w : World) (b : Sl) (l : List UInt8) (hb : Has w b 1 (bv l)) (hsz : b.l ≤ 1000000) : Calls prog 22 #[.slice b.a b.l b.c] w fun e w' =>
    ∃ k v d, e = .returned (.tuple #[.agg (ndc (decN l).leaf k v d), .int .i64 (decC l)]) ∧ Own w w' k v d (decN l) ∧ Frm none_ w w' := by
  refine callsRet (W22 (Q := fun x w' => ∃ k v d, x = .tuple #[.agg (ndc (decN l).leaf k v d), .int .i64 (decC l)] ∧ Own w w' k v d (decN l) ∧ Frm none_ w w') ?_) (fun x w' ⟨k, v, d, h, h'⟩ => ⟨k, v, d, by rw [h], h'⟩)
  unfold F22
  intro b2 w1 hN2
  have f1 : Frm none_ w w1 := hN2.mod _
  have hZ := hN2.blk
  have z1 := f1.size
  have hb2 := hN2.b
  have hb2l := hZ.lt
  refine (newReaderR_calls w1 b l (hb.mod f1 (fun _ _ h => h)) (by omega)).mono ?_
  rintro _ w2 ⟨kr, G, rfl, hkr, hG, hR, f2⟩
  have z2 := f2.size
  have hkr2 : kr < w2.heap.size := hR.lt kr rfl
  refine ⟨_, rfl, (flagRR_calls G w2 (some ⟨kr, 0, none⟩) (some l) hR).mono ?_⟩
  rintro _ w5 ⟨rfl, hR5, f5⟩
  have f5 := f5.mono fun j _ e => ofEq j e
  have z5 := f5.size
  have f15 : Frm none_ w1 w5 := f2.b f5 hkr
  refine ⟨_, rfl, _, b25a _, ?_⟩
  intro b5 w6 hN5
  have f6 : Frm none_ w5 w6 := hN5.mod _
  have z6 := f6.size
  have hb5 := hN5.b
  refine hN5.blk.setW rfl rfl (ndc_one _ _ _ _) ?_
  intro w7 hB7 f7
  have z7 := f7.size
  have hR7 := (hR5.mod0 f6).mod f7 (fun j e e2 => by have := ofEq j e; have e2 : j = b5 := e2; omega) (fun j e e2 => by have e2 : j = b5 := e2; have := (hG j e).2; omega)
  refine (countRR_calls G w7 (some ⟨kr, 0, none⟩) _ 256 hR7).mono ?_
  rintro _ w8 ⟨rfl, hR8, f8⟩
  have f8 := f8.mono fun j _ e => ofEq j e
  have z8 := f8.size
  have hB8 := hB7.mod f8 (by omega)
  have f58 : Frm (fun j => j = kr) w5 w8 := (f6.trans f7 (fun _ _ h => h.elim) (fun j hj e => by have e : j = b5 := e; omega)).trans f8 (fun _ _ h => h) (fun _ _ h => h)
  have hD8 : Dr w5 w8 b5 kr G ⟨none, 0, 0⟩ ⟨none, 0, 0⟩ ⟨none, 0, 0⟩ (⟨(flagR (some l)).1, [], [], []⟩, (countR 256 (flagR (some l)).2).2) :=
    ⟨⟨hB8, own0 _ _ _, by omega, by decide, by decide⟩, hR8, by omega, fun j e => (hG j e).2, f58⟩
  have hmb := dMany_b l
  refine ⟨_, rfl, fun w' => ∃ k v d, Dr w5 w' b5 kr G k v d (dBeg l), ?_, ?_⟩
  · refine ⟨_, hD8.np.bk.l0, IfB.intro (fun hc => ?_) (fun hc => ?_)⟩
    · have hc : (flagR (some l)).1 = false := by simpa using hc
      refine hD8.kid (Nat.zero_le _) ?_
      intro w9 d' hD9
      refine ⟨⟨none, 0, 0⟩, ⟨none, 0, 0⟩, d', ?_⟩
      unfold dBeg
      rw [if_neg (by rw [hc]; decide)]
      rw [hc] at hD9
      exact hD9
    · have hc : (flagR (some l)).1 = true := by simpa using hc
      refine ⟨⟨none, 0, 0⟩, ⟨none, 0, 0⟩, ⟨none, 0, 0⟩, ?_⟩
      unfold dBeg
      rw [if_pos hc]
      rw [hc] at hD8
      exact hD8
  rintro u w9 ⟨k0, v0, d0, hD9⟩
  clear hD8 hB8 hR8 f58
  have hlf : ∀ i, (dIter i (dBeg l)).1.leaf = (flagR (some l)).1 := by
    intro i
    rw [dIter_leaf]
    unfold dBeg
    split
    · rename_i h; exact h.symm
    · rename_i h; simpa using h
  have hbl := dBeg_len l
  have hend : ∀ {w' : World}, Frm (fun j => j = kr) w5 w' → Frm none_ w w' := fun f => (f1.n f15).b f (by omega)
  refine ⟨fun w' => ∃ (i : Nat) (k v d : Sl), i ≤ (dMany l).toNat ∧ (i = (dMany l).toNat ∨ (dIter i (dBeg l)).2 = none) ∧ Dr w5 w' b5 kr G k v d (dIter i (dBeg l)), ?_, ?_⟩
  · refine ⟨fun m x w' => ∃ (i : Nat) (k v d : Sl), x = (i : Int) ∧ i ≤ (dMany l).toNat ∧ m = (dMany l).toNat - i ∧ Dr w5 w' b5 kr G k v d (dIter i (dBeg l)), (dMany l).toNat, ⟨0, k0, v0, d0, rfl, Nat.zero_le _, by omega, hD9⟩, ?_⟩
    clear hD9
    rintro m u1 x w10 ⟨i, k, v, d, rfl, hi, rfl, hD⟩
    have hil := dIter_len i (dBeg l)
    have hlfi := hlf i
    refine ⟨fun w' => (i : Int) < dMany l ∧ Dr w5 w' b5 kr G k v d (dIter i (dBeg l)), IfB.intro (fun hc => ?_) (fun hc => ?_), ?_⟩
    · have hlt : (i : Int) < dMany l := of_decide_eq_true hc
      refine (okRR_calls G w10 _ _ hD.rd).mono ?_
      rintro _ _ ⟨rfl, rfl⟩
      refine ⟨_, rfl, IfB.intro (fun hk => ⟨hlt, hD⟩) (fun hk => ⟨i, k, v, d, hi, .inr ?_, hD⟩)⟩
      cases hr : (dIter i (dBeg l)).2 with
      | none => rfl
      | some x => rw [hr] at hk; cases hk
    · have hge : ¬ (i : Int) < dMany l := of_decide_eq_false hc
      exact ⟨i, k, v, d, hi, .inl (by omega), hD⟩
    rintro u2 w11 ⟨hlt, hD11⟩
    rcases hs : dIter i (dBeg l) with ⟨n, r⟩
    rw [hs] at hD11 hil hlfi
    simp only at hil hlfi
    refine hD11.key (by omega) ?_
    intro w12 k' hD12
    have hnext : dIter (i + 1) (dBeg l) = dStep (n, r) := by rw [dIter, hs]
    refine ⟨n.leaf, hD12.np.bk.l0, IfB.intro (fun hf => ?_) (fun hf => ?_)⟩
    · refine hD12.value (by simp only; omega) ?_
      intro w13 v' hD13
      refine ⟨(dMany l).toNat - (i + 1), by omega, i + 1, k', v', d, by rw [wrap64 _ (by omega)]; omega, by omega, rfl, ?_⟩
      rw [hnext]
      unfold dStep
      rw [if_pos hf]
      exact hD13
    · refine hD12.kid (by simp only; omega) ?_
      intro w13 d' hD13
      refine ⟨(dMany l).toNat - (i + 1), by omega, i + 1, k', v, d', by rw [wrap64 _ (by omega)]; omega, by omega, rfl, ?_⟩
      rw [hnext]
      unfold dStep
      rw [if_neg (by rw [hf]; decide)]
      exact hD13
  rintro u1 w10 ⟨i, k, v, d, hi, hor, hD⟩
  have hsm : SmN (dIter i (dBeg l)).1 := by
    have h1 := dIter_len i (dBeg l)
    exact ⟨by omega, by omega, by omega⟩
  have fD := hend hD.fr
  refine ⟨fun c w' => Frm none_ w10 w' ∧ (c = true → ¬ Good l) ∧ (c = false → okR (dEnd l).2 = true ∧ MayN (dEnd l).1 ∧ dIter i (dBeg l) = dEnd l), (okRR_calls G w10 _ _ hD.rd).mono ?_, ?_⟩
  · rintro _ _ ⟨rfl, rfl⟩
    refine ⟨_, rfl, IfB.intro (fun hk => ⟨Frm.refl _ _, fun _ hg => ?_, by simp⟩) (fun hk => ?_)⟩
    · have hk : okR (dIter i (dBeg l)).2 = false := by simpa using hk
      have hr : (dIter i (dBeg l)).2 = none := by
        cases hr : (dIter i (dBeg l)).2 with
        | none => rfl
        | some x => rw [hr] at hk; cases hk
      have := dIter_none hi hr
      have h1 := hg.1
      unfold dEnd at h1
      rw [this] at h1
      cases h1
    · have hk : okR (dIter i (dBeg l)).2 = true := by simpa using hk
      have hE : dIter i (dBeg l) = dEnd l := by
        rcases hor with rfl | hr
        · rfl
        · rw [hr] at hk; cases hk
      rw [hE] at hk
      refine ⟨_, hD.np.bk.la, (May_calls w10 _ _ _ _ hD.np.own.s hsm).mono ?_⟩
      rintro _ w11 ⟨c, rfl, hc, f11⟩
      rw [hE] at hc
      refine ⟨_, rfl, f11, fun e hg => ?_, fun e => ⟨hk, hc.1 (by simpa using e), hE⟩⟩
      have e : c = false := by simpa using e
      have hnm : ¬ MayN (dEnd l).1 := fun hm => by have := hc.2 hm; rw [e] at this; cases this
      have h2 := hg.2.1
      unfold encC at h2
      rw [if_neg hnm] at h2
      exact absurd h2 (by decide)
  rintro u2 c w11 ⟨f11, hct, hcf⟩
  have fD11 := fD.n f11
  have bad : ∀ {w' : World}, Frm none_ w10 w' → ¬ Good l → (∃ t44 : Array Value, BuildIs prog 25 #[] t44 ∧ t44.size = 4 ∧ (∀ u, u ∈ t44.toList → u.oneCell' = true) ∧ WrA w' (⟨b2, 0, none⟩ : Addr) 4 ∧ ∀ w1_11, w1_11 = setAt w' (⟨b2, 0, none⟩ : Addr) t44.toList 0 →
      ∃ t2r : Array Value, LdA w1_11 (⟨b2, 0, none⟩ : Addr) 4 t2r ∧ (fun x w' => ∃ k v d, x = Value.tuple #[.agg (ndc (decN l).leaf k v d), .int .i64 (decC l)] ∧ Own w w' k v d (decN l) ∧ Frm none_ w w') (.tuple #[.agg t2r, .int .i64 4]) w1_11) := by
    intro w' f hng
    have hZ' : Blk w' b2 #[.bool false, .slice none 0 0, .slice none 0 0, .slice none 0 0] 25 := (((hZ.mod f15 (fun h => h)).mod hD.fr (by omega)).mod f (fun h => h))
    refine ⟨_, b25z, hZ'.setW rfl rfl (ndc_one false ⟨none, 0, 0⟩ ⟨none, 0, 0⟩ ⟨none, 0, 0⟩) ?_⟩
    intro w'' hB f''
    rcases good_iff l with ⟨hg, _⟩ | ⟨_, e1, e2⟩
    · exact absurd hg hng
    · rw [e1, e2]
      exact ⟨_, hB.ldA rfl, ⟨none, 0, 0⟩, ⟨none, 0, 0⟩, ⟨none, 0, 0⟩, rfl, own0 _ _ _, (fD.n f).b f'' (by omega)⟩
  refine IfB.intro (fun hc => bad f11 (hct hc)) (fun hc => ?_)
  obtain ⟨hk, hm, hE⟩ := hcf hc
  rw [hE] at hD hsm
  have hN11 := hD.np.mod f11 (fun _ _ h => h)
  refine ⟨_, hN11.bk.la, (Encode_calls w11 _ _ _ _ hN11.own.s hsm).mono ?_⟩
  rintro _ w12 ⟨r, rfl, hr, _, f12⟩
  have hN12 := hN11.mod f12 (fun _ _ h => h)
  refine ⟨r, _, rfl, IfB.intro (fun he => ?_) (fun he => ?_)⟩
  · have he := iNe he
    exact bad (f11.n f12) (fun hg => he hg.2.1)
  have he := iEq he
  have hel : encL (dEnd l).1 = enc (dEnd l).1 := by unfold encL; rw [if_pos he]
  refine runT_str un22 un5 un9 hr (runT_str un22 un5 un9 (hb.mod (fD11.n f12) (fun _ _ h => h)) (IfB.intro (fun hq => ?_) (fun hq => ?_)))
  · have hq : ¬ str (encL (dEnd l).1) = str l := by
      intro e
      rw [e, (str_eqIff _ _).2 rfl] at hq; cases hq
    exact bad (f11.n f12) (fun hg => hq (by rw [hel, hg.2.2]))
  · have hq : ((str (encL (dEnd l).1)).toList == (str l).toList) = true := by simpa using hq
    have hq := (str_eqIff _ _).1 hq
    have hq : encL (dEnd l).1 = l := by
      have := congrArg (fun s : ByteArray => s.data.toList) hq
      simpa [str] using this
    rw [hel] at hq
    have hZ12 : Blk w12 b2 #[.bool false, .slice none 0 0, .slice none 0 0, .slice none 0 0] 25 := ((hZ.mod f15 (fun h => h)).mod hD.fr (by omega)).mod (f11.n f12) (fun h => h)
    refine ⟨_, hN12.bk.la, hZ12.setW rfl rfl (ndc_one _ _ _ _) ?_⟩
    intro w13 hB13 f13
    rcases good_iff l with ⟨_, e1, e2⟩ | ⟨hg, _⟩
    · rw [e1, e2]
      have hO := hN12.own.mod f13 (fun j hj e => by have e : j = b2 := e; omega)
      have hz5 := f15.size
      refine ⟨_, hB13.ldA rfl, k, v, d, rfl, ⟨hO.rk, hO.rv, hO.rd, fun j hj => by have := hO.nk j hj; omega, fun j hj => by have := hO.nv j hj; omega, fun j hj => by have := hO.nd j hj; omega, hO.kv⟩, (fD11.n f12).b f13 (by omega)⟩
    · exact absurd ⟨hk, he, hq⟩ hg
end Go.Proofs.Ytedkaegdfdcdaaa
