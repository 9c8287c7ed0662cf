/- Decode walked: the program's and the document's. -/
import Derived.Test.YtedkaegdfdcdaaaK
set_option linter.unusedVariables false
set_option linter.unusedSimpArgs false
namespace Go.Proofs.Ytedkaegdfdcdaaa
open Go Go.Proofs.YtedkaegdfdcdaaaV
theorem ofEq {k : Nat} : ∀ j, Of (some ⟨k, 0, none⟩) j → j = k := fun j e => by simpa [Of] using e.symm
theorem dEnd_sm (l : List UInt8) : SmN (dEnd l).1 := by
  have h1 := dIter_len (dMany l).toNat (dBeg l)
  have h2 := dBeg_len l
  have h3 := dMany_b l
  unfold dEnd
  exact ⟨by omega, by omega, by omega⟩
set_option maxRecDepth 20000 in
theorem decode_calls (w : World) (b : Sl) (l : List UInt8) (hb : Has w b 1 (bv l)) (hsz : b.l ≤ 1000000) : Calls prog 21 #[.slice b.a b.l b.c] w fun e w' =>
    ∃ k v d, e = .returned (.tuple #[.agg (ndc (decN l).leaf k v d), .int .i64 (decC l)]) ∧ Own w w' k v d (decN l) ∧ Frm none_ w w' := by
  refine callsRet (W21 (Q := fun x w' => ∃ k v d, x = .tuple #[.agg (ndc (decN l).leaf k v d), .int .i64 (decC l)] ∧ Own w w' k v d (decN l) ∧ Frm none_ w w') ?_) (fun x w' ⟨k, v, d, h, h'⟩ => ⟨k, v, d, by rw [h], h'⟩)
  unfold F21
  intro b2 w1 hN2
  have f1 : Frm none_ w w1 := hN2.mod _
  have hZ := hN2.blk
  have z1 := f1.size
  have hb2 := hN2.b
  have hb2l := hZ.lt
  refine (newReader_calls w1 b l (hb.mod f1 (fun _ _ h => h)) (by omega)).mono ?_
  rintro _ w2 ⟨kr, rfl, hkr, hR, f2⟩
  have z2 := f2.size
  refine ⟨_, rfl, ?_⟩
  intro b4 w3 hN4
  have f3 : Frm none_ w2 w3 := hN4.mod _
  have z3 := f3.size
  have hP := hN4.blk
  have hb4 := hN4.b
  have hb4l := hP.lt
  have hkr2 : kr < w2.heap.size := by obtain ⟨_, _, hB, _⟩ := hR; exact hB.lt
  refine ⟨hP.wr (by decide), ?_⟩
  rintro w4 rfl
  have f4 : Frm (fun j => j = b4) w3 (w3.setCell ⟨b4, 0, none⟩ (.pointer (some ⟨kr, 0, none⟩))) := mod_setCell (a := ⟨b4, 0, none⟩)
  have hP4 := hP.set 0 (.pointer (some ⟨kr, 0, none⟩))
  have hR4 := (hR.mod f3 (fun h => h)).mod f4 (fun e => by omega)
  have z4 := f4.size
  generalize hw4 : w3.setCell ⟨b4, 0, none⟩ (.pointer (some ⟨kr, 0, none⟩)) = w4 at *
  have hP4 : Blk w4 b4 #[.pointer (some ⟨kr, 0, none⟩)] 57 := hP4
  have f14 : Frm none_ w1 w4 := (f2.n f3).b f4 (by omega)
  refine ⟨_, hP4.ld rfl, (flag_read w4 (some ⟨kr, 0, none⟩) (some l) (.inr ⟨kr, rfl, hR4⟩)).mono ?_⟩
  rintro _ w5 ⟨rfl, hR5, f5⟩
  have f5 := f5.mono fun j _ e => ofEq j e
  have z5 := f5.size
  have hP5 := hP4.mod f5 (by omega)
  have f15 : Frm none_ w1 w5 := f14.b f5 hkr
  refine ⟨_, rfl, _, b28a _, ?_⟩
  intro b5 w6 hN5
  have f6 : Frm none_ w5 w6 := hN5.mod _
  have z6 := f6.size
  have hb5 := hN5.b
  refine hN5.blk.setW rfl rfl (ndc_one _ _ _ _) ?_
  intro w7 hB7 f7
  have z7 := f7.size
  rcases hR5 with ⟨e, _⟩ | ⟨_, e, hR5⟩
  · cases e
  cases e
  have hR7 := (hR5.mod f6 (fun h => h)).mod f7 (fun e => by omega)
  have hP7 := (hP5.mod f6 (fun h => h)).mod f7 (fun e => by omega)
  refine ⟨_, hP7.ld rfl, (count_read w7 (some ⟨kr, 0, none⟩) _ 256 (.inr ⟨kr, rfl, hR7⟩)).mono ?_⟩
  rintro _ w8 ⟨rfl, hR8, f8⟩
  have f8 := f8.mono fun j _ e => ofEq j e
  have z8 := f8.size
  rcases hR8 with ⟨e, _⟩ | ⟨_, e, hR8⟩
  · cases e
  cases e
  have hP8 := hP7.mod f8 (by omega)
  have hB8 := hB7.mod f8 (by omega)
  have f58 : Frm (fun j => j = kr) w5 w8 := (f6.trans f7 (fun _ _ h => h.elim) (fun j hj e => by have e : j = b5 := e; omega)).trans f8 (fun _ _ h => h) (fun _ _ h => h)
  have hD8 : Dp w5 w8 b5 b4 kr ⟨none, 0, 0⟩ ⟨none, 0, 0⟩ ⟨none, 0, 0⟩ (⟨(flagR (some l)).1, [], [], []⟩, (countR 256 (flagR (some l)).2).2) :=
    ⟨⟨hB8, own0 _ _ _, by omega, by decide, by decide⟩, hP8, hR8, by omega, by omega, by omega, f58⟩
  have hmb := dMany_b l
  refine ⟨_, rfl, fun x w' => x = .func (.func (if (flagR (some l)).1 = true then 34 else 33)) #[] #[.pointer (some (⟨b5, 0, none⟩ : Addr)), .pointer (some (⟨b4, 0, none⟩ : Addr))] ∧ ∃ k v d, Dp w5 w' b5 b4 kr k v d (dBeg l), ?_, ?_⟩
  · refine ⟨_, hD8.np.bk.l0, IfB.intro (fun hc => ?_) (fun hc => ?_)⟩
    · have hc : (flagR (some l)).1 = false := by simpa using hc
      refine hD8.kid (Nat.zero_le _) ?_
      intro w9 d' hD9
      refine ⟨rfl, by rw [if_neg (by rw [hc]; decide)], ⟨none, 0, 0⟩, ⟨none, 0, 0⟩, d', ?_⟩
      unfold dBeg
      rw [if_neg (by rw [hc]; decide)]
      rw [hc] at hD9
      exact hD9
    · have hc : (flagR (some l)).1 = true := by simpa using hc
      refine ⟨by rw [if_pos hc], ⟨none, 0, 0⟩, ⟨none, 0, 0⟩, ⟨none, 0, 0⟩, ?_⟩
      unfold dBeg
      rw [if_pos hc]
      rw [hc] at hD8
      exact hD8
  rintro u x9 w9 ⟨rfl, k0, v0, d0, hD9⟩
  clear hD8 hB8 hP8 hR8 f58
  have hlf : ∀ i, (dIter i (dBeg l)).1.leaf = (flagR (some l)).1 := by
    intro i
    rw [dIter_leaf]
    unfold dBeg
    split
    · rename_i h; exact h.symm
    · rename_i h; simpa using h
  have hbl := dBeg_len l
  refine ⟨fun m x w' => ∃ (i : Nat) (k v d : Sl), x = (i : Int) ∧ i ≤ (dMany l).toNat ∧ m = (dMany l).toNat - i ∧ Dp w5 w' b5 b4 kr k v d (dIter i (dBeg l)), (dMany l).toNat, ⟨0, k0, v0, d0, rfl, Nat.zero_le _, by omega, hD9⟩, ?_⟩
  clear hD9
  rintro m u1 x w10 ⟨i, k, v, d, rfl, hi, rfl, hD⟩
  have hil := dIter_len i (dBeg l)
  have hlfi := hlf i
  have hend : ∀ {w' : World}, Frm (fun j => j = kr) w5 w' → Frm none_ w w' := fun f => (f1.n f15).b f (by omega)
  refine IfB.intro (fun hc => ?_) (fun hc => ?_)
  · have hlt := of_decide_eq_true hc
    have hlt : i < (dMany l).toNat := by have : (i : Int) < dMany l := hlt; omega
    rcases hs : dIter i (dBeg l) with ⟨n, r⟩
    rw [hs] at hD hil hlfi
    simp only at hil hlfi
    refine hD.key (by omega) ?_
    intro w11 k' hD11
    have hnext : dIter (i + 1) (dBeg l) = dStep (n, r) := by rw [dIter, hs]
    by_cases hf : (flagR (some l)).1 = true
    · rw [if_pos hf]
      refine hD11.value (by simp only; omega) ?_
      intro w12 v' hD12
      refine ⟨rfl, (dMany l).toNat - (i + 1), by omega, i + 1, k', v', d, by rw [wrap64 _ (by omega)]; omega, by omega, rfl, ?_⟩
      rw [hnext]
      unfold dStep
      rw [if_pos (by simp only; rw [hlfi]; exact hf)]
      exact hD12
    · rw [if_neg hf]
      refine hD11.kid (by simp only; omega) ?_
      intro w12 d' hD12
      refine ⟨rfl, (dMany l).toNat - (i + 1), by omega, i + 1, k', v, d', by rw [wrap64 _ (by omega)]; omega, by omega, rfl, ?_⟩
      rw [hnext]
      unfold dStep
      rw [if_neg (by simp only; rw [hlfi]; exact hf)]
      exact hD12
  · have hge := of_decide_eq_false hc
    have hge : ¬ (i : Int) < dMany l := hge
    have hE : dIter i (dBeg l) = dEnd l := by unfold dEnd; rw [show i = (dMany l).toNat by omega]
    rw [hE] at hD
    clear hil hlfi hc hge hi
    have hsm := dEnd_sm l
    have fD := hend hD.fr
    refine ⟨_, hD.ptr.ld rfl, (ok_calls w10 (some ⟨kr, 0, none⟩) _ (.inr ⟨kr, rfl, hD.rd⟩)).mono ?_⟩
    rintro _ w11 ⟨rfl, f11⟩
    have fD11 := fD.n f11
    -- the refusal
    have bad : ∀ {w' : World}, Frm none_ w10 w' → ¬ Good l → (∃ t44 : Array Value, BuildIs prog 28 #[] t44 ∧ t44.size = 4 ∧ (∀ u, u ∈ t44.toList → u.oneCell' = true) ∧ WrA w' (⟨b2, 0, none⟩ : Addr) 4 ∧ ∀ w1_11, w1_11 = setAt w' (⟨b2, 0, none⟩ : Addr) t44.toList 0 →
        ∃ t2r : Array Value, LdA w1_11 (⟨b2, 0, none⟩ : Addr) 4 t2r ∧ (fun x w' => ∃ k v d, x = Value.tuple #[.agg (ndc (decN l).leaf k v d), .int .i64 (decC l)] ∧ Own w w' k v d (decN l) ∧ Frm none_ w w') (.tuple #[.agg t2r, .int .i64 4]) w1_11) := by
      intro w' f hng
      have hZ' : Blk w' b2 #[.bool false, .slice none 0 0, .slice none 0 0, .slice none 0 0] 28 := (((hZ.mod f15 (fun h => h)).mod hD.fr (by omega)).mod f (fun h => h))
      refine ⟨_, b28z, hZ'.setW rfl rfl (ndc_one false ⟨none, 0, 0⟩ ⟨none, 0, 0⟩ ⟨none, 0, 0⟩) ?_⟩
      intro w'' hB f''
      rcases good_iff l with ⟨hg, _⟩ | ⟨_, e1, e2⟩
      · exact absurd hg hng
      · rw [e1, e2]
        exact ⟨_, hB.ldA rfl, ⟨none, 0, 0⟩, ⟨none, 0, 0⟩, ⟨none, 0, 0⟩, rfl, own0 _ _ _, (fD.n f).b f'' (by omega)⟩
    refine ⟨_, rfl, IfB.intro (fun hk => ?_) (fun hk => ?_)⟩
    · have hk : okR (dEnd l).2 = false := by simpa using hk
      exact bad f11 (fun hg => by rw [hg.1] at hk; cases hk)
    · have hk : okR (dEnd l).2 = true := by simpa using hk
      have hN11 := hD.np.mod f11 (fun _ _ h => h)
      refine ⟨_, hN11.bk.la, (encode_calls w11 _ _ _ _ hN11.own.s hsm).mono ?_⟩
      rintro _ w12 ⟨r, rfl, hr, _, _, f12⟩
      have hN12 := hN11.mod f12 (fun _ _ h => h)
      refine ⟨r, _, rfl, IfB.intro (fun he => ?_) (fun he => ?_)⟩
      · have he := iNe he
        exact bad (f11.n f12) (fun hg => he hg.2.1)
      · have he := iEq he
        refine (equal_calls w12 r b _ l hr (hb.mod (fD11.n f12) (fun _ _ h => h))).mono ?_
        rintro _ w12 ⟨rfl, rfl⟩
        have hel : encL (dEnd l).1 = enc (dEnd l).1 := by unfold encL; rw [if_pos he]
        refine ⟨_, rfl, IfB.intro (fun hq => ?_) (fun hq => ?_)⟩
        · have hq : ¬ encL (dEnd l).1 = l := by simpa using hq
          exact bad (f11.n f12) (fun hg => hq (by rw [hel]; exact hg.2.2))
        · have hq : encL (dEnd l).1 = l := by simpa using hq
          rw [hel] at hq
          have hZ12 : Blk w12 b2 #[.bool false, .slice none 0 0, .slice none 0 0, .slice none 0 0] 28 := ((hZ.mod f15 (fun h => h)).mod hD.fr (by omega)).mod (f11.n f12) (fun h => h)
          refine ⟨_, hN12.bk.la, hZ12.setW rfl rfl (ndc_one _ _ _ _) ?_⟩
          intro w13 hB13 f13
          rcases good_iff l with ⟨_, e1, e2⟩ | ⟨hg, _⟩
          · rw [e1, e2]
            have hO := hN12.own.mod f13 (fun j hj e => by have e : j = b2 := e; omega)
            have hz5 := f15.size
            refine ⟨_, hB13.ldA rfl, k, v, d, rfl, ⟨hO.rk, hO.rv, hO.rd, fun j hj => by have := hO.nk j hj; omega, fun j hj => by have := hO.nv j hj; omega, fun j hj => by have := hO.nd j hj; omega, hO.kv⟩, (fD11.n f12).b f13 (by omega)⟩
          · exact absurd ⟨hk, he, hq⟩ hg
end Go.Proofs.Ytedkaegdfdcdaaa
