/- The document's Load, walked. -/
import Derived.Test.YthgeacnemojjgaaDp
import Derived.Test.YthgeacnemojjgaaLd
set_option linter.unusedVariables false
set_option linter.unusedSimpArgs false
set_option maxRecDepth 20000
namespace Go.Proofs.Ythgeacnemojjgaa
open Go Go.Proofs.YthgeacnemojjgaaV
theorem b43 : BuildIs prog 43 #[] #[.slice none 0 0] := fun w => by kernel_rfl
def LoadedD (w : World) (l : List UInt8) (v : Value) (w' : World) : Prop := (∃ b M D, v = .tuple #[.pointer (some ⟨b, 0, none⟩), .int .i64 0] ∧ ldOf l = some M ∧ Dcw w' D b M ∧ ∀ k, D k → w.heap.size ≤ k) ∨ (v = .tuple #[.pointer none, .int .i64 4] ∧ ldOf l = none)
theorem dLoad_calls (w : World) (x : Sl) (l : List UInt8) (hx : Has w x 1 (bv l)) (hsz : x.l ≤ 1000000000000) : Calls prog 32 #[.slice x.a x.l x.c] w fun e w' => ∃ v, e = .returned v ∧ LoadedD w l v w' ∧ Frm none_ w w' := by
  refine calls_ret (W32 (x0 := x) (Q := fun v w' => LoadedD w l v w' ∧ Frm none_ w w') ?_) (fun v w' h => ⟨v, rfl, h⟩)
  unfold F32
  refine (newReaderR_calls w x l hx hsz).mono ?_
  rintro _ w1 ⟨g, G, rfl, hg, hG, hR1, f1⟩
  refine ⟨_, rfl, (countRR_calls G w1 (some ⟨g, 0, none⟩) (some l) 4 hR1).mono ?_⟩
  rintro _ w2 ⟨rfl, hR2, f2⟩
  have ofg : ∀ k, Of (some ⟨g, 0, none⟩) k → k = g := fun k hk => by simp at hk; exact hk.symm
  obtain ⟨hst, hN0, hN4⟩ := St.first l
  generalize hcn : (countR 4 (some l)).1 = N at *
  generalize hcr : (countR 4 (some l)).2 = r0 at *
  refine ⟨_, rfl, _, b43, ?_⟩
  intro b w3 hN
  have hb : b = w2.heap.size := hN.2
  have hgl : g < w1.heap.size := hR1.lt g rfl
  have z2 := f2.size
  have z3 := hN.size
  have f12 : Frm none_ w w2 := f1.trans f2 (fun _ _ h => h) (fun k hk h => by have := ofg k h; omega)
  have f3 : Frm none_ w w3 := f12.n (hN.mod none_)
  refine ⟨fun n i W => ∃ (ps : List Pj) (r : Rd) (s : Sl), i = (ps.length : Int) ∧ (ps.length : Int) ≤ N ∧ n = (N - ps.length).toNat ∧ St l N ps r ∧ RdR G W (some ⟨g, 0, none⟩) r ∧ Dcr W b s ps ∧ New w2 s ∧ Frm none_ w W ∧ w3.heap.size ≤ W.heap.size, N.toNat, ⟨[], r0, ⟨none, 0, 0⟩, rfl, by simpa using hN0, by simp, hst, hR2.mod0 (hN.mod none_), ⟨hN.blk, Row.nil _ _ _⟩, fun k hk => by simp [Sl.blk] at hk, f3, Nat.le_refl _⟩, ?_⟩
  rintro n u i w4 ⟨ps, r, s, rfl, hle, rfl, hS, hR, hD, hsn, f4, z4⟩
  refine IfB.dec (fun hlt => ?_) (fun hge => ?_)
  · intro b8 w5 hN5
    have e8 : b8 = w4.heap.size := hN5.2
    have hB5 : Blk w5 b8 #[.string (⟨#[]⟩ : ByteArray), .int .i64 0, .int .i64 0, .bool false] 50 := hN5.blk
    obtain ⟨p, hp⟩ : ∃ p, p = (rdP r).1 := ⟨_, rfl⟩
    have p1 : str (strR 24 r).1 = p.n := by rw [hp]; rfl
    have p2 : (countR 1000 (strR 24 r).2).1 = p.sh := by rw [hp]; rfl
    have p3 : (countR 2147483647 (countR 1000 (strR 24 r).2).2).1 = p.had := by rw [hp]; rfl
    have p4 : (flagR (countR 2147483647 (countR 1000 (strR 24 r).2).2).2).1 = p.wt := by rw [hp]; rfl
    have p5 : (flagR (countR 2147483647 (countR 1000 (strR 24 r).2).2).2).2 = (rdP r).2 := rfl
    have ng8 : ∀ {W W' : World} {c : Nat} {v : Value} {r' : Rd}, RdR G W (some ⟨g, 0, none⟩) r' → W' = W.setCell ((⟨b8, 0, none⟩ : Addr).add c) v → RdR G W' (some ⟨g, 0, none⟩) r' := by
      intro W W' c v r' h e
      subst e
      rw [addr_add]
      exact h.mod (mod_setCell (a := ⟨b8, 0 + c, none⟩)) (fun k hk e => by have := ofg k hk; have e : k = b8 := e; omega) (fun k hk e => by have := hG k hk; have e : k = b8 := e; omega)
    have fX : Frm (fun k => k = g ∨ k = b8) w5 w5 := Frm.refl _ _
    have ofX : ∀ {W W' : World}, Frm (fun k => k = g ∨ k = b8) w5 W → Frm (Of (some ⟨g, 0, none⟩)) W W' → Frm (fun k => k = g ∨ k = b8) w5 W' := fun h k => h.trans k (fun _ _ h => h) (fun a _ ha => .inl (ofg a ha))
    have wrX : ∀ {W W' : World} {c : Nat} {v : Value}, Frm (fun k => k = g ∨ k = b8) w5 W → W' = W.setCell ((⟨b8, 0, none⟩ : Addr).add c) v → Frm (fun k => k = g ∨ k = b8) w5 W' := by
      intro W W' c v h e
      subst e
      rw [addr_add]
      exact h.trans (mod_setCell (a := ⟨b8, 0 + c, none⟩)) (fun _ _ h => h) (fun a _ ha => .inr ha)
    have nb8 : ∀ {W W' : World} {cs : Array Value}, Blk W b8 cs 50 → Frm (Of (some ⟨g, 0, none⟩)) W W' → Blk W' b8 cs 50 := fun h k => h.mod k (fun hk => by have := ofg _ hk; omega)
    refine (strRR_calls G w5 _ r 24 (hR.mod0 (hN5.mod none_))).mono ?_
    rintro _ w6 ⟨rfl, hR6, f6⟩
    have hB6 := nb8 hB5 f6
    refine ⟨_, rfl, by rw [addr_add]; exact hB6.wr (by show 0 < 4; omega), ?_⟩
    intro w7 e7
    have hB7 : Blk w7 b8 #[.string p.n, .int .i64 0, .int .i64 0, .bool false] 50 := by rw [e7, addr_add, p1]; exact hB6.set (0 + 0) (.string p.n)
    refine (countRR_calls G w7 _ _ 1000 (ng8 hR6 e7)).mono ?_
    rintro _ w8 ⟨rfl, hR8, f8⟩
    have hB8 := nb8 hB7 f8
    refine ⟨_, rfl, by rw [addr_add]; exact hB8.wr (by show 1 < 4; omega), ?_⟩
    intro w9 e9
    have hB9 : Blk w9 b8 #[.string p.n, .int .i64 p.sh, .int .i64 0, .bool false] 50 := by rw [e9, addr_add, p2]; exact hB8.set (0 + 1) (.int .i64 p.sh)
    refine (countRR_calls G w9 _ _ 2147483647 (ng8 hR8 e9)).mono ?_
    rintro _ w10 ⟨rfl, hR10, f10⟩
    have hB10 := nb8 hB9 f10
    refine ⟨_, rfl, by rw [addr_add]; exact hB10.wr (by show 2 < 4; omega), ?_⟩
    intro w11 e11
    have hB11 : Blk w11 b8 #[.string p.n, .int .i64 p.sh, .int .i64 p.had, .bool false] 50 := by rw [e11, addr_add, p3]; exact hB10.set (0 + 2) (.int .i64 p.had)
    refine (flagRR_calls G w11 _ _ (ng8 hR10 e11)).mono ?_
    rintro _ w12 ⟨rfl, hR12, f12'⟩
    have hB12 := nb8 hB11 f12'
    refine ⟨_, rfl, by rw [addr_add]; exact hB12.wr (by show 3 < 4; omega), ?_⟩
    intro w13 e13
    have hB13 : Blk w13 b8 (qc p).toArray 50 := by rw [e13, addr_add, p4]; exact hB12.set (0 + 3) (.bool p.wt)
    have hR13 := ng8 hR12 e13
    rw [p5] at hR13
    have fx := wrX (ofX (wrX (ofX (wrX (ofX (wrX (ofX fX f6) e7) f8) e9) f10) e11) f12') e13
    clear e7 e9 e11 e13
    have f513 : Frm (fun k => k = g ∨ k = b8) w4 w13 := (hN5.mod (fun k => k = g ∨ k = b8)).trans fx (fun _ _ h => h) (fun _ _ h => h)
    have z13 := f513.size
    have sbl := hD.row.lt
    have bbl := hD.blk.lt
    have hD13 : Dcr w13 b s ps := hD.mod f513 (by rintro (h | h) <;> omega) (fun k hk h => by have := hsn k hk; have := sbl k hk; rcases h with h | h <;> omega)
    have f13 : Frm none_ w w13 := f4.trans f513 (fun _ _ h => h) (fun k hk h => by have := f12.size; rcases h with h | h <;> omega)
    have hfin : ∀ {v : Value} {W : World}, v = .tuple #[.pointer none, .int .i64 4] → ldOf l = none → Frm none_ w W → LoadedD w l v W ∧ Frm none_ w W := fun hv hl hf => ⟨.inr ⟨hv, hl⟩, hf⟩
    have ref : ¬ ((rdP r).2 ≠ none ∧ goodP p.n ∧ 1 ≤ p.sh ∧ ∀ q ∈ ps, blt q.n p.n = true) → ldOf l = none := fun hb => hS.refuse hlt (by rw [← hp]; exact hb)
    refine ⟨fun c W => W = w13.drew ∧ ((c = true ∧ ldOf l = none) ∨ (c = false ∧ goodP p.n ∧ 1 ≤ p.sh ∧ ∀ q ∈ ps, blt q.n p.n = true)), ?_, ?_⟩
    · refine ⟨fun W => W = w13.drew, rfl, (okRR_calls G w13.drew _ _ (hR13.mod0 (frm_drew _))).mono ?_⟩
      rintro _ w14 ⟨rfl, e⟩
      subst e
      refine ⟨_, rfl, fun W => W = w13.drew, fun W h => h, rfl, IfB.intro (fun hno => ⟨rfl, .inl ⟨rfl, ref fun h => ?_⟩⟩) (fun hyes => ?_)⟩
      · have : (rdP r).2 = none := by
          cases hr : (rdP r).2 with
          | none => rfl
          | some t => rw [hr] at hno; cases hno
        exact h.1 this
      refine ⟨p.n, fun W e => by subst e; rw [addr_add]; exact hB13.drew.ld rfl, (dName_calls w13.drew p.n).mono ?_⟩
      rintro _ w14 ⟨rfl, e⟩
      subst e
      refine ⟨_, rfl, fun W => W = w13.drew, fun W h => h, rfl, ?_⟩
      by_cases hgd : goodP p.n
      rotate_left 1
      · exact IfB.t (by rw [decide_eq_false hgd]; rfl) ⟨rfl, .inl ⟨rfl, ref fun h => hgd h.2.1⟩⟩
      refine IfB.f (by rw [decide_eq_true hgd]; rfl) ⟨p.sh, fun W e => by subst e; rw [addr_add]; exact hB13.drew.ld rfl, IfB.dec (fun h1 => ⟨rfl, .inl ⟨rfl, ref fun h => by have := h.2.2.1; omega⟩⟩) (fun h1 => IfB.dec (fun hi => ?_) (fun hi => ?_))⟩
      · obtain ⟨q, hq⟩ : ∃ q, ps[ps.length - 1]? = some q := ⟨_, List.getElem?_eq_getElem (by omega)⟩
        have ei : IntKind.wrap .i64 ((ps.length : Int) - (1 : Int)) = ((ps.length - 1 : Nat) : Int) := by rw [wi _ (by omega)]; omega
        rw [ei]
        have hDd : Dcr w13.drew b s ps := hD13.n (frm_drew _)
        obtain ⟨a, ha, hal, _, hld⟩ := hDd.at hq
        refine ⟨_, rfl, s, fun W e => by subst e; exact hDd.ld0, a, ha, by omega, by omega, q.n, fun W e => by subst e; exact hld 0 _ rfl, p.n, fun W e => by subst e; rw [addr_add]; exact hB13.drew.ld rfl, rfl, ?_⟩
        have ebl : Op.bytesLess q.n.toList p.n.toList = blt q.n p.n := by rw [ByteArray.toList_eq, ByteArray.toList_eq]; rfl
        rw [ebl]
        cases hbq : blt q.n p.n with
        | false => exact .inl ⟨rfl, ref fun h => by have := h.2.2.2 q (List.mem_of_getElem? hq); rw [hbq] at this; cases this⟩
        | true =>
          refine .inr ⟨rfl, hgd, by omega, fun q' hq' => ?_⟩
          obtain ⟨j, hj⟩ := List.mem_iff_getElem?.1 hq'
          have hjl := (List.getElem?_eq_some_iff.1 hj).1
          by_cases hjj : j = ps.length - 1
          · subst hjj; rw [hq] at hj; cases hj; exact hbq
          · exact blt_trans (hS.srt.lt (by omega) hj hq) hbq
      · have : ps = [] := List.eq_nil_of_length_eq_zero (by omega)
        exact ⟨rfl, .inr ⟨rfl, hgd, by omega, by rw [this]; simp⟩⟩
    rintro u2 c W ⟨rfl, ⟨rfl, hl0⟩ | ⟨rfl, hgd, h1, hall⟩⟩
    · exact IfB.t rfl (hfin rfl hl0 f13.drew)
    have hDdd : Dcr w13.drew.drew b s ps := hD13.n ((frm_drew _).n (frm_drew _))
    refine IfB.f rfl ⟨fun W => Frm none_ w13.drew.drew W, Frm.refl _ _, _, rfl, s, fun W e => (hDdd.n e).ld0, (qc p).toArray, fun W e => ((hB13.drew.drew : Blk w13.drew.drew b8 _ 50).mod e (fun h => h)).ldA rfl, ?_⟩
    refine app1 p hDdd.row (by omega) rfl _ (fun W1 h => h) ?_
    intro t w15 hr15 hk15 f15
    have hbb : s.blk ≠ some b := fun e => hDdd.row.g.blkNeB hDdd.blk.g (by decide) e
    have hb15 : Blk w15 b #[.slice s.a s.l s.c] 43 := hDdd.blk.mod f15 hbb
    refine ⟨_, rfl, by rw [addr_add]; exact hb15.wr (by show 0 < 1; omega), ?_⟩
    rintro w16 rfl
    rw [addr_add]
    have f16 : Frm (fun k => k = b) w15 (w15.setCell ⟨b, 0 + 0, none⟩ (.slice t.a t.l t.c)) := mod_setCell (a := ⟨b, 0 + 0, none⟩)
    have hb16 : Blk (w15.setCell ⟨b, 0 + 0, none⟩ (.slice t.a t.l t.c)) b #[.slice t.a t.l t.c] 43 := hb15.set (0 + 0) (.slice t.a t.l t.c)
    have f136 : Frm (fun k => s.blk = some k ∨ k = b) w13 (w15.setCell ⟨b, 0 + 0, none⟩ (.slice t.a t.l t.c)) := ((f15.trans f16 (H := fun k => s.blk = some k ∨ k = b) (fun _ _ h => .inl h) (fun _ _ h => .inr h)).ofDrew).ofDrew
    have htb : t.blk ≠ some b := by
      intro e
      rcases hk15 b e with h | h
      · exact hbb h
      · have h : w13.heap.size ≤ b := h
        omega
    have hstep := hS.step hlt (by rw [← hp]; exact hgd) (by rw [← hp]; exact h1) (by rw [← hp]; exact hall)
    rw [← hp] at hstep
    have z16 := f136.size
    refine ⟨(N - (ps ++ [p]).length).toNat, by simp only [List.length_append, List.length_singleton]; omega, ps ++ [p], (rdP r).2, t, ?_, by simp only [List.length_append, List.length_singleton]; omega, rfl, hstep, hR13.mod f136 (fun k hk h => ?_) (fun k hk h => ?_), ⟨hb16, hr15.mod f16 (fun k hk e => htb (by rw [← show k = b from e]; exact hk))⟩, fun k hk => ?_, f13.trans f136 (fun _ _ h => h) (fun k hk h => ?_), by omega⟩
    · simp only [List.length_append, List.length_singleton]
      rw [wi _ (by omega)]
      omega
    · have := ofg k hk
      rcases h with h | h
      · have := hsn k h; omega
      · omega
    · have := hG k hk
      rcases h with h | h
      · have := hsn k h; omega
      · omega
    · rcases hk15 k hk with h | h
      · exact hsn k h
      · have h : w13.heap.size ≤ k := h
        omega
    · have := f12.size
      rcases h with h | h
      · have := hsn k h; omega
      · omega
  · refine (doneRR_calls G w4 _ r hR).mono ?_
    rintro _ w5 ⟨rfl, e⟩
    subst e
    have hend := hS.end (by omega)
    have hw2 := f12.size
    refine ⟨_, rfl, IfB.intro (fun hnd => ⟨.inr ⟨rfl, ?_⟩, f4⟩) (fun hd => ⟨.inl ⟨b, ps, fun k => k = b ∨ s.blk = some k, rfl, ?_, ⟨s, hD, .inl rfl, fun _ h => .inr h, fun k hk => ?_⟩, fun k hk => ?_⟩, f4⟩)⟩
    · rw [hend, if_neg]
      simpa using hnd
    · rw [hend, if_pos]
      simpa using hd
    · rcases hk with rfl | hk
      · exact hD.blk.lt
      · exact hD.row.lt k hk
    · rcases hk with rfl | hk
      · omega
      · have := hsn k hk; omega
end Go.Proofs.Ythgeacnemojjgaa
