/- What the document's reader does: each of its calls, over what is left of its bytes. -/
import Derived.Test.YthgeacnemojjgaaX
import Derived.Test.YthgeacnemojjgaaG
set_option linter.unusedVariables false
set_option maxRecDepth 20000
set_option linter.unusedSimpArgs false
namespace Go.Proofs.Ythgeacnemojjgaa
open Go Go.Proofs.YthgeacnemojjgaaV
theorem trN {a b c : World} (h : Frm none_ a b) (k : Frm none_ b c) : Frm none_ a c := h.trans k (fun _ _ h => h) (fun _ _ h => h)
theorem nilHas (w : World) : Has w ⟨none, 0, 0⟩ 1 (bv []) := Has.nil _ _ _ rfl
theorem rowLen {w : World} {r : Sl} {bs : List UInt8} (h : Row w r 5 1 (bv bs)) : r.l = bs.length := by have := h.len; rw [bv_length] at this; omega
theorem slA_zero (a : Option Addr) (c sz : Nat) : slA a 0 c sz = a := by
  unfold slA
  split
  · rfl
  · cases a with
    | none => rfl
    | some a => rw [Nat.zero_mul, Option.map_some, add_zero]
theorem slA_blk (a : Option Addr) (i c sz : Nat) : (slA a i c sz).map (·.block) = a.map (·.block) := by
  unfold slA
  split
  · rfl
  · cases a with
    | none => rfl
    | some a => simp [add_block]
/-- The document's reader in a block; its bytes lie in G. -/
def RdB (G : Nat → Prop) (w : World) (b : Nat) (r : Rd) : Prop := ∃ (s : Sl) (l : List UInt8) (f : Bool), Blk w b #[.slice s.a s.l s.c, .bool f] 126 ∧ Has w s 1 (bv l) ∧ s.l ≤ s.c ∧ l.length ≤ 1000000000000 ∧
  (∀ k, s.blk = some k → G k) ∧ (∀ k, G k → k ≠ b) ∧ ((r = some l ∧ f = false) ∨ (r = none ∧ f = true ∧ l = []))
def RdR (G : Nat → Prop) (w : World) (x : Option Addr) (r : Rd) : Prop := ∃ b, x = some ⟨b, 0, none⟩ ∧ RdB G w b r
theorem RdR.mod {G : Nat → Prop} {F : Nat → Prop} {w w' : World} {x : Option Addr} {r : Rd} (h : RdR G w x r) (hm : Frm F w w') (hn : ∀ k, Of x k → ¬ F k) (hg : ∀ k, G k → ¬ F k) : RdR G w' x r := by
  obtain ⟨b, rfl, s, l, f, hB, hs, h1, h2, h3, h4⟩ := h
  exact ⟨b, rfl, s, l, f, hB.mod hm (hn b rfl), hs.mod hm (fun k hk => hg k (h3 k hk)), h1, h2, h3, h4⟩
theorem RdR.mod0 {G : Nat → Prop} {w w' : World} {x : Option Addr} {r : Rd} (h : RdR G w x r) (hm : Frm none_ w w') : RdR G w' x r := h.mod hm (fun _ _ h => h) (fun _ _ h => h)
theorem RdR.lt {G : Nat → Prop} {w : World} {x : Option Addr} {r : Rd} (h : RdR G w x r) : ∀ k, Of x k → k < w.heap.size := by
  intro k hk
  obtain ⟨b, rfl, s, l, f, hB, _⟩ := h
  simp at hk; subst hk; exact hB.lt

theorem rlenR {w : World} {s : Sl} {l : List UInt8} (h : Has w s 1 (bv l)) : l.length = s.l := by have := h.len; rw [bv_length] at this; omega

set_option maxRecDepth 20000 in
theorem offR_calls (G : Nat → Prop) (w : World) (x : Option Addr) (r : Rd) (h : RdR G w x r) : Calls prog 99 #[.pointer x] w fun e w' => e = .returned (.tuple #[.int .u64 ((numP (r.getD [])).1 : Int), .int .i64 ((numP (r.getD [])).2 : Int)]) ∧ Frm none_ w w' := by
  refine calls_ret (W99 (Q := fun v w' => v = .tuple #[.int .u64 ((numP (r.getD [])).1 : Int), .int .i64 ((numP (r.getD [])).2 : Int)] ∧ Frm none_ w w') ?_) (fun v w' ⟨h, h'⟩ => ⟨by rw [h], h'⟩)
  unfold F99
  obtain ⟨b, rfl, s, l, f, hB, hs, hsc, hlen, hG, hGb, hr⟩ := h
  have hl : r.getD [] = l := by
    rcases hr with ⟨rfl, _⟩ | ⟨rfl, _, rfl⟩ <;> rfl
  rw [hl]
  have hll := rlenR hs
  have ld : ∀ {w'}, Frm none_ w w' → Ld w' ((⟨b, 0, none⟩ : Addr).add 0) (.slice s.a s.l s.c) := fun hm => by rw [addr_add]; exact (hB.mod hm (fun h => h)).ld rfl
  have no : num l = none → (Value.tuple #[.int .u64 0, .int .i64 0]) = .tuple #[.int .u64 ((numP l).1 : Int), .int .i64 ((numP l).2 : Int)] := by
    intro h; unfold numP; rw [h]; rfl
  refine ⟨fun n x5 w1 => ∃ j : Nat, x5 = (j : Int) ∧ 1 ≤ j ∧ j ≤ 11 ∧ n = 11 - j ∧ Frm none_ w w1 ∧ ∀ u i, num l = some (u, i) → j ≤ i, 10, ⟨1, rfl, by omega, by omega, by omega, Frm.refl _ _, fun u i h => (num_le h).1⟩, ?_⟩
  rintro n u x5 w1 ⟨j, rfl, hj1, hj11, rfl, hm1, hno⟩
  refine ⟨fun w' => w' = w1 ∧ j ≤ 10 ∧ j ≤ s.l, ?_, ?_⟩
  · refine IfB.intro (fun h0 => ?_) (fun h0 => ?_)
    · have h0 := of_decide_eq_true h0
      refine ⟨_, rfl, s, ld hm1, IfB.intro (fun h2 => ?_) (fun h2 => ?_)⟩
      · have h2 := of_decide_eq_true h2
        exact ⟨rfl, by omega, by omega⟩
      · have h2 := of_decide_eq_false h2
        refine ⟨no ?_, hm1⟩
        cases hn : num l with
        | none => rfl
        | some p => have := hno p.1 p.2 hn; have := num_le (u := p.1) (n := p.2) hn; omega
    · have h0 := of_decide_eq_false h0
      refine ⟨no ?_, hm1⟩
      cases hn : num l with
      | none => rfl
      | some p => have := hno p.1 p.2 hn; have := num_le (u := p.1) (n := p.2) hn; omega
  rintro u1 w1' ⟨rfl, hj10, hjs⟩
  have htl : (l.take j).length = j := by rw [List.length_take]; omega
  refine ⟨fun n x4 x6 w2 => ∃ m : Nat, x6 = (m : Int) ∧ n = m ∧ m ≤ j ∧ x4 = ((val ((l.take j).drop m) % 2 ^ 64 : Nat) : Int) ∧ w2 = w1', j, ⟨j, rfl, rfl, by omega, by rw [List.drop_eq_nil_of_le (by omega)]; rfl, rfl⟩, ?_⟩
  rintro n u2 x4 x6 w2 ⟨m, rfl, hnm, hmj, rfl, rfl⟩
  refine IfB.intro (fun h3 => ?_) (fun h3 => ?_)
  · have h3 := of_decide_eq_true h3
    obtain ⟨i, rfl⟩ : ∃ i, m = i + 1 := ⟨m - 1, by omega⟩
    have ei : IntKind.wrap .i64 (((i + 1 : Nat) : Int) - 1) = (i : Int) := by rw [wi _ (by omega)]; omega
    rw [ei]
    obtain ⟨p, v, hp, hv, hld⟩ := (hs.mod hm1 (fun _ _ h => h)).at1 (i := (i : Int)) (by omega) (by omega)
    rw [Int.toNat_natCast] at hv
    obtain ⟨c, hc, rfl⟩ := bv_get hv
    refine ⟨_, rfl, s, ld hm1, p, hp, by omega, by omega, _, hld, by decide, i, by omega, i, rfl, rfl, by omega, ?_, rfl⟩
    have hdrop : (l.take j).drop i = c :: (l.take j).drop (i + 1) := by
      have hi2 : i < (l.take j).length := by omega
      rw [List.drop_eq_getElem_cons hi2]
      congr 1
      rw [List.getElem_take]
      exact (List.getElem?_eq_some_iff.1 hc).2
    have hv2 : val ((l.take j).drop i) = c.toNat % 128 + 128 * val ((l.take j).drop (i + 1)) := by rw [hdrop]; rfl
    rw [hv2]
    generalize val ((l.take j).drop (i + 1)) = q
    have ht : Int.tmod (c.toNat : Int) 128 = ((c.toNat % 128 : Nat) : Int) := by rw [Int.tmod_eq_emod_of_nonneg (by omega)]; omega
    rw [ht, wu64m, wu64m, wu64m]
    omega
  · have h3 := of_decide_eq_false h3
    have hm0 : m = 0 := by omega
    subst hm0
    rw [List.drop_zero]
    have hu : val (l.take j) % 2 ^ 64 < 2 ^ 64 := Nat.mod_lt _ (by decide)
    generalize hq : val (l.take j) % 2 ^ 64 = q at hu
    have hhead : ∀ {w'}, Frm none_ w w' → Has w' ⟨slA s.a 0 s.c 1, (j : Int).toNat - 0, s.c - 0⟩ 1 (bv (l.take j)) := by
      intro w' hw'
      rw [slA_zero, Int.toNat_natCast, Nat.sub_zero, Nat.sub_zero, ← bv_take]
      exact (hs.mod hw' (fun _ _ h => h)).head j s.c (by omega)
    have fin : ∀ w4, Frm none_ w w4 → IfB ((str (gb q)).toList == (str (l.take j)).toList)
        ((Value.tuple #[.int .u64 (q : Int), .int .i64 (j : Int)]) = .tuple #[.int .u64 ((numP l).1 : Int), .int .i64 ((numP l).2 : Int)] ∧ Frm none_ w w4)
        (∃ n', n' < 11 - j ∧ ∃ j' : Nat, IntKind.wrap .i64 ((j : Int) + 1) = (j' : Int) ∧ 1 ≤ j' ∧ j' ≤ 11 ∧ n' = 11 - j' ∧ Frm none_ w w4 ∧ ∀ u i, num l = some (u, i) → j' ≤ i) := by
      intro w4 hw4
      rw [str_toList, str_toList]
      refine IfB.intro (fun h => ⟨?_, hw4⟩) (fun h => ?_)
      · have h := eq_of_beq h
        have : num l = some (q, j) := (num_iff l q j).2 ⟨hu, by rw [h, htl], h.symm⟩
        unfold numP; rw [this]; rfl
      · have h := ne_of_beq_false h
        refine ⟨11 - (j + 1), by omega, j + 1, by rw [wi _ (by omega)]; omega, by omega, by omega, rfl, hw4, ?_⟩
        intro u i hi
        have h1 := hno u i hi
        by_cases hij : i = j
        · exfalso
          subst hij
          obtain ⟨g1, g2, g3⟩ := (num_iff l u i).1 hi
          apply h
          rw [← hq, g3, val_gb, Nat.mod_eq_of_lt g1]
        · omega
    refine ⟨fun w' => Frm none_ w w', hm1.drew, _, rfl, s, fun w' hw' => ld hw', by omega, ?_, ?_⟩
    · refine (groupsR_calls q _ (by omega)).mono ?_
      rintro _ w3 ⟨rfl, hm3⟩
      have f3 := trN hm1.drew hm3
      exact ⟨_, rfl, f3, runT_str un22 un5 un9 (hhead f3) (fin _ f3)⟩
    · refine runT_str un22 un5 un9 (hhead hm1.drew) ?_
      refine (groupsR_calls q _ (by omega)).mono ?_
      rintro _ w3 ⟨rfl, hm3⟩
      exact ⟨_, rfl, trivial, fin _ (trN hm1.drew hm3)⟩
theorem failsR_calls (G : Nat → Prop) (w : World) (x : Option Addr) (r : Rd) (h : RdR G w x r) : Calls prog 91 #[.pointer x] w fun e w' => e = .returned (.tuple #[]) ∧ RdR G w' x none ∧ Frm (Of x) w w' := by
  refine calls_ret (W91 (Q := fun v w' => v = .tuple #[] ∧ RdR G w' x none ∧ Frm (Of x) w w') ?_) (fun v w' ⟨h, h'⟩ => ⟨by rw [h], h'⟩)
  unfold F91
  obtain ⟨b, rfl, s, l, f, hB, hs, hsc, hlen, hG, hGb, hr⟩ := h
  refine ⟨_, rfl, by rw [addr_add]; exact hB.wr (show 1 < 2 by decide), ?_⟩
  rintro w1 rfl
  rw [addr_add]
  have hB1 := hB.set 1 (.bool true)
  refine ⟨_, rfl, by rw [addr_add]; exact hB1.wr (show 0 < 2 by decide), ?_⟩
  rintro w2 rfl
  rw [addr_add]
  refine ⟨rfl, ⟨b, rfl, ⟨none, 0, 0⟩, [], true, hB1.set 0 _, nilHas _, by decide, by simp, by intro k hk; simp [Sl.blk] at hk, hGb, .inr ⟨rfl, rfl, rfl⟩⟩, ?_⟩
  exact (mod_setCell (a := ⟨b, 1, none⟩)).trans mod_setCell (fun x _ hx => by subst hx; rfl) (fun x _ hx => by subst hx; rfl)
/-- The bytes cut at their head. -/
theorem cutR (G : Nat → Prop) {w : World} {b : Nat} {s : Sl} {l : List UInt8} {f : Bool} (hB : Blk w b #[.slice s.a s.l s.c, .bool f] 126) (hs : Has w s 1 (bv l)) (hsc : s.l ≤ s.c) (hlen : l.length ≤ 1000000000000) (hG : ∀ k, s.blk = some k → G k) (hGb : ∀ k, G k → k ≠ b)
    (hf : f = false) (n : Nat) (hn : n ≤ l.length) :
    RdR G (w.setCell ⟨b, 0, none⟩ (.slice (slA s.a n s.c 1) (s.l - n) (s.c - n))) (some ⟨b, 0, none⟩) (some (l.drop n)) ∧ Frm (Of (some ⟨b, 0, none⟩)) w (w.setCell ⟨b, 0, none⟩ (.slice (slA s.a n s.c 1) (s.l - n) (s.c - n))) := by
  have hm : Frm (fun k => k = b) w (w.setCell ⟨b, 0, none⟩ (.slice (slA s.a n s.c 1) (s.l - n) (s.c - n))) := mod_setCell (a := ⟨b, 0, none⟩)
  have hll := rlenR hs
  refine ⟨⟨b, rfl, ⟨slA s.a n s.c 1, s.l - n, s.c - n⟩, l.drop n, f, hB.set 0 _, ?_, by simp only; omega, by rw [List.length_drop]; omega, ?_, hGb, .inl ⟨rfl, hf⟩⟩, hm.mono (fun x _ hx => by subst hx; rfl)⟩
  · have := hs.cut n (by omega) hsc
    rw [bv_drop] at this
    refine this.mod hm (fun k hk he => ?_)
    have : s.blk = some k := by
      have h2 : (slA s.a n s.c 1).map (·.block) = some k := hk
      rwa [slA_blk] at h2
    exact hGb k (hG k this) he
  · intro k hk
    have h2 : (slA s.a n s.c 1).map (·.block) = some k := hk
    rw [slA_blk] at h2
    exact hG k h2
theorem cntRR_calls (G : Nat → Prop) (w : World) (x : Option Addr) (r : Rd) (m : Int) (h : RdR G w x r) : Calls prog 90 #[.pointer x, .int .i64 m] w fun e w' => e = .returned (.tuple #[.int .i64 ((cntP (r.getD []) m).1 : Int), .int .i64 ((cntP (r.getD []) m).2 : Int)]) ∧ Frm none_ w w' := by
  refine calls_ret (W90 (Q := fun v w' => v = .tuple #[.int .i64 ((cntP (r.getD []) m).1 : Int), .int .i64 ((cntP (r.getD []) m).2 : Int)] ∧ Frm none_ w w') ?_) (fun v w' ⟨h, h'⟩ => ⟨by rw [h], h'⟩)
  unfold F90
  refine (offR_calls G w x r h).mono ?_
  rintro _ w1 ⟨rfl, hm1⟩
  refine ⟨_, _, rfl, ?_⟩
  generalize r.getD [] = l
  cases hn : num l with
  | none =>
    have e : numP l = (0, 0) := by unfold numP; rw [hn]; rfl
    have e2 : cntP l m = (0, 0) := by unfold cntP cnt; rw [hn]; rfl
    rw [e, e2]
    exact IfB.t rfl ⟨rfl, hm1⟩
  | some p =>
    obtain ⟨u, n⟩ := p
    have hle := num_le hn
    have e : numP l = (u, n) := by unfold numP; rw [hn]; rfl
    have e2 : cntP l m = if u > 2147483647 ∨ (u : Int) > m then (0, 0) else (u, n) := by
      unfold cntP cnt; rw [hn]; simp only; split <;> rfl
    rw [e, e2]
    refine IfB.f (beq_eq_false_iff_ne.2 (by simp only; omega)) (IfB.intro (fun h => ?_) (fun h => ?_))
    · have := of_decide_eq_true h
      rw [if_pos (.inl (by simp only at this; omega))]; exact ⟨rfl, hm1⟩
    · have h' := of_decide_eq_false h
      simp only at h'
      rw [wi _ (by simp only; omega)]
      refine IfB.intro (fun h => ?_) (fun h => ?_)
      · have := of_decide_eq_true h
        rw [if_pos (.inr (by simpa using this))]; exact ⟨rfl, hm1⟩
      · have := of_decide_eq_false h
        rw [if_neg (by simp only at this; omega)]; exact ⟨rfl, hm1⟩
theorem countRR_calls (G : Nat → Prop) (w : World) (x : Option Addr) (r : Rd) (m : Int) (h : RdR G w x r) : Calls prog 64 #[.pointer x, .int .i64 m] w fun e w' => e = .returned (.int .i64 (countR m r).1) ∧ RdR G w' x (countR m r).2 ∧ Frm (Of x) w w' := by
  refine calls_ret (W64 (Q := fun v w' => v = .int .i64 (countR m r).1 ∧ RdR G w' x (countR m r).2 ∧ Frm (Of x) w w') ?_) (fun v w' ⟨h, h'⟩ => ⟨by rw [h], h'⟩)
  unfold F64
  refine (cntRR_calls G w x r m h).mono ?_
  rintro _ w1 ⟨rfl, hm1⟩
  have h1 := h.mod0 hm1
  refine ⟨_, _, rfl, ?_⟩
  cases hn : cnt (r.getD []) m with
  | none =>
    have e : cntP (r.getD []) m = (0, 0) := by unfold cntP; rw [hn]; rfl
    have e2 : countR m r = (0, none) := by
      cases r with
      | none => rfl
      | some l => unfold countR; have hn : cnt l m = none := hn; simp only [hn]
    rw [e, e2]
    refine IfB.t rfl ((failsR_calls G w1 x r h1).mono ?_)
    rintro _ w2 ⟨rfl, h2, hm2⟩
    exact ⟨rfl, rfl, h2, hm1.trans hm2 (fun _ _ h => h.elim) (fun _ _ h => h)⟩
  | some p =>
    obtain ⟨u, n⟩ := p
    obtain ⟨b, rfl, s, l, f, hB, hs, hsc, hlen, hG, hGb, hr⟩ := h1
    have hle := num_le (cnt_num hn).1
    obtain ⟨rfl, hf⟩ : r = some l ∧ f = false := by
      rcases hr with h | ⟨rfl, _, rfl⟩
      · exact h
      · exfalso; simp at hle; omega
    have hn : cnt l m = some (u, n) := hn
    have hle : 1 ≤ n ∧ n ≤ 10 ∧ n ≤ l.length := hle
    have e : cntP ((some l).getD []) m = (u, n) := by show cntP l m = _; unfold cntP; rw [hn]; rfl
    have e2 : countR m (some l) = ((u : Int), some (l.drop n)) := by unfold countR; simp only [hn]
    have hll := rlenR hs
    rw [e, e2]
    refine IfB.f (beq_eq_false_iff_ne.2 (by simp only; omega)) ⟨_, rfl, s, by rw [addr_add]; exact hB.ld rfl, by simp only; omega, _, rfl, by rw [addr_add]; exact hB.wr (show 0 < 2 by decide), ?_⟩
    rintro w2 rfl
    rw [addr_add]
    simp only [Int.toNat_natCast]
    obtain ⟨h2, hm2⟩ := cutR G hB hs hsc hlen hG hGb hf n hle.2.2
    exact ⟨trivial, h2, hm1.trans hm2 (fun _ _ h => h.elim) (fun _ _ h => h)⟩
theorem strRR_calls (G : Nat → Prop) (w : World) (x : Option Addr) (r : Rd) (m : Int) (h : RdR G w x r) : Calls prog 65 #[.pointer x, .int .i64 m] w fun e w' => e = .returned (.string (str (strR m r).1)) ∧ RdR G w' x (strR m r).2 ∧ Frm (Of x) w w' := by
  refine calls_ret (W65 (Q := fun v w' => v = .string (str (strR m r).1) ∧ RdR G w' x (strR m r).2 ∧ Frm (Of x) w w') ?_) (fun v w' ⟨h, h'⟩ => ⟨by rw [h], h'⟩)
  unfold F65
  refine (cntRR_calls G w x r m h).mono ?_
  rintro _ w1 ⟨rfl, hm1⟩
  have h1 := h.mod0 hm1
  refine ⟨_, _, rfl, ?_⟩
  have bad : strR m r = ([], none) → ∀ w2, w2 = w1 → Calls prog 91 #[.pointer x] w2 fun en w1_2 => en = .returned (.tuple #[]) ∧ (Value.string (⟨#[]⟩ : ByteArray) = .string (str (strR m r).1) ∧ RdR G w1_2 x (strR m r).2 ∧ Frm (Of x) w w1_2) := by
    rintro e2 w2 rfl
    rw [e2]
    refine (failsR_calls G w2 x r h1).mono ?_
    rintro _ w3 ⟨rfl, h2, hm2⟩
    exact ⟨rfl, rfl, h2, hm1.trans hm2 (fun _ _ h => h.elim) (fun _ _ h => h)⟩
  cases hn : cnt (r.getD []) m with
  | none =>
    have e : cntP (r.getD []) m = (0, 0) := by unfold cntP; rw [hn]; rfl
    have e2 : strR m r = ([], none) := by
      cases r with
      | none => rfl
      | some l => unfold strR; have hn : cnt l m = none := hn; simp only [hn]
    rw [e]
    refine ⟨fun v w' => v = true ∧ w' = w1, IfB.t rfl ⟨rfl, rfl⟩, ?_⟩
    rintro u _ w2 ⟨rfl, hw2⟩
    exact IfB.t rfl (bad e2 w2 hw2)
  | some p =>
    obtain ⟨u, n⟩ := p
    obtain ⟨b, rfl, s, l, f, hB, hs, hsc, hlen, hG, hGb, hr⟩ := h1
    have hle := num_le (cnt_num hn).1
    have hun := (cnt_num hn).2.1
    obtain ⟨rfl, hf⟩ : r = some l ∧ f = false := by
      rcases hr with h | ⟨rfl, _, rfl⟩
      · exact h
      · exfalso; simp at hle; omega
    have hn : cnt l m = some (u, n) := hn
    have hle : 1 ≤ n ∧ n ≤ 10 ∧ n ≤ l.length := hle
    have e : cntP ((some l).getD []) m = (u, n) := by show cntP l m = _; unfold cntP; rw [hn]; rfl
    have hll := rlenR hs
    have ew : IntKind.wrap .i64 ((n : Int) + (u : Int)) = ((n + u : Nat) : Int) := by rw [wi _ (by omega)]; omega
    rw [e]
    simp only
    rw [ew]
    refine ⟨fun v w' => w' = w1 ∧ v = decide (n + u > l.length), IfB.f (beq_eq_false_iff_ne.2 (by omega)) ⟨_, rfl, s, by rw [addr_add]; exact hB.ld rfl, rfl, ?_⟩, ?_⟩
    · congr 1; exact propext (by omega)
    rintro u2 v w2 ⟨rfl, rfl⟩
    refine IfB.intro (fun h => ?_) (fun h => ?_)
    · have h := of_decide_eq_true h
      exact bad (by unfold strR; simp only [hn]; rw [if_neg (by omega)]) _ rfl
    · have h := of_decide_eq_false h
      have e2 : strR m (some l) = ((l.drop n).take u, some (l.drop (n + u))) := by unfold strR; simp only [hn]; rw [if_pos (by omega)]
      rw [e2]
      refine ⟨_, rfl, s, by rw [addr_add]; exact hB.ld rfl, by omega, by omega, ?_⟩
      have hcut := hs.cut n (by omega) hsc
      rw [bv_drop] at hcut
      have hh := hcut.head u (s.c - n) (by simp only; omega)
      rw [bv_take] at hh
      have e3 : ((n + u : Nat) : Int).toNat - (n : Int).toNat = u := by omega
      rw [e3, Int.toNat_natCast, Int.toNat_natCast]
      refine runT_str un22 un5 un9 hh ?_
      refine ⟨_, rfl, s, by rw [addr_add]; exact hB.ld rfl, by omega, _, rfl, by rw [addr_add]; exact hB.wr (show 0 < 2 by decide), ?_⟩
      rintro w3 rfl
      rw [addr_add]
      obtain ⟨h2, hm2⟩ := cutR G hB hs hsc hlen hG hGb hf (n + u) (by omega)
      exact ⟨rfl, h2, hm1.trans hm2 (fun _ _ h => h.elim) (fun _ _ h => h)⟩
theorem flag_nil : flagR (some []) = (false, none) := by
  have h : num [] = none := rfl
  unfold flagR countR cnt; simp only [h]; rfl
theorem flag_cons (c : UInt8) (l : List UInt8) : flagR (some (c :: l)) = if c.toNat > 1 then (false, none) else (c.toNat == 1, some l) := by
  have hc := c.toNat_lt
  by_cases h128 : c.toNat < 128
  · have hn : num (c :: l) = some (c.toNat, 1) := by
      have := num_gb (u := c.toNat) (by omega) l
      rw [gb_small h128, UInt8.ofNat_toNat] at this
      exact this
    by_cases h1 : c.toNat > 1
    · rw [if_pos h1]
      have : cnt (c :: l) 1 = none := by unfold cnt; simp only [hn]; rw [if_pos (by omega)]
      unfold flagR countR; simp only [this]; rfl
    · rw [if_neg h1]
      have : cnt (c :: l) 1 = some (c.toNat, 1) := cnt_some hn (by omega) (by omega)
      unfold flagR countR; simp only [this]
      have : c.toNat = 0 ∨ c.toNat = 1 := by omega
      rcases this with h | h <;> rw [h] <;> rfl
  · rw [if_pos (by omega)]
    have : cnt (c :: l) 1 = none := by
      cases hn : num (c :: l) with
      | none => exact cnt_none hn
      | some p =>
        obtain ⟨u, n⟩ := p
        obtain ⟨h1, h2, h3⟩ := num_some hn
        by_cases hu : u < 128
        · exfalso
          rw [gb_small hu] at h3
          have := congrArg (·.head?) h3
          simp only [List.head?_cons, List.cons_append, Option.some.injEq] at this
          rw [this, u8_ofNat _ (by omega)] at h128
          omega
        · unfold cnt; simp only [hn]; rw [if_pos (by omega)]
    unfold flagR countR; simp only [this]; rfl
theorem flagRR_calls (G : Nat → Prop) (w : World) (x : Option Addr) (r : Rd) (h : RdR G w x r) : Calls prog 66 #[.pointer x] w fun e w' => e = .returned (.bool (flagR r).1) ∧ RdR G w' x (flagR r).2 ∧ Frm (Of x) w w' := by
  refine calls_ret (W66 (Q := fun v w' => v = .bool (flagR r).1 ∧ RdR G w' x (flagR r).2 ∧ Frm (Of x) w w') ?_) (fun v w' ⟨h, h'⟩ => ⟨by rw [h], h'⟩)
  unfold F66
  have h0 := h
  obtain ⟨b, rfl, s, l, f, hB, hs, hsc, hlen, hG, hGb, hr⟩ := h
  have hll := rlenR hs
  have bad : flagR r = (false, none) → ∀ w2, w2 = w → Calls prog 91 #[.pointer (some ⟨b, 0, none⟩)] w2 fun en w1_2 => en = .returned (.tuple #[]) ∧ (Value.bool false = .bool (flagR r).1 ∧ RdR G w1_2 (some ⟨b, 0, none⟩) (flagR r).2 ∧ Frm (Of (some ⟨b, 0, none⟩)) w w1_2) := by
    rintro e2 w2 rfl
    rw [e2]
    refine (failsR_calls G w2 _ r h0).mono ?_
    rintro _ w3 ⟨rfl, h2, hm2⟩
    exact ⟨rfl, rfl, h2, hm2⟩
  cases l with
  | nil =>
    have e : flagR r = (false, none) := by
      rcases hr with ⟨rfl, _⟩ | ⟨rfl, _⟩
      · exact flag_nil
      · rfl
    simp only [List.length_nil] at hll
    refine ⟨fun v w' => v = true ∧ w' = w, ⟨_, rfl, s, by rw [addr_add]; exact hB.ld rfl, IfB.t (by rw [beq_iff_eq]; omega) ⟨rfl, rfl⟩⟩, ?_⟩
    rintro u _ w2 ⟨rfl, hw2⟩
    exact IfB.t rfl (bad e w2 hw2)
  | cons c l =>
    obtain ⟨rfl, hf⟩ : r = some (c :: l) ∧ f = false := by
      rcases hr with h | ⟨_, _, h⟩
      · exact h
      · cases h
    simp only [List.length_cons] at hll
    obtain ⟨p, v, hp, hv, hld⟩ := hs.at1 (i := 0) (by omega) (by omega)
    have hv : some (Value.int .u8 (c.toNat : Int)) = some v := hv
    cases hv
    refine ⟨fun v w' => w' = w ∧ v = decide (c.toNat > 1), ⟨_, rfl, s, by rw [addr_add]; exact hB.ld rfl, IfB.f (beq_eq_false_iff_ne.2 (by omega)) ⟨_, rfl, s, by rw [addr_add]; exact hB.ld rfl, p, hp, by omega, by omega, _, hld, rfl, ?_⟩⟩, ?_⟩
    · congr 1; exact propext (by omega)
    rintro u v w2 ⟨rfl, rfl⟩
    refine IfB.intro (fun h => ?_) (fun h => ?_)
    · have h := of_decide_eq_true h
      exact bad (by rw [flag_cons, if_pos h]) _ rfl
    · have h := of_decide_eq_false h
      rw [flag_cons, if_neg h]
      refine ⟨_, rfl, s, by rw [addr_add]; exact hB.ld rfl, p, hp, by omega, by omega, _, hld, _, rfl, s, by rw [addr_add]; exact hB.ld rfl, by omega, _, rfl, by rw [addr_add]; exact hB.wr (show 0 < 2 by decide), ?_⟩
      rintro w3 rfl
      rw [addr_add]
      obtain ⟨h2, hm2⟩ := cutR G hB hs hsc hlen hG hGb hf 1 (by simp)
      refine ⟨?_, h2, hm2⟩
      congr 1
      by_cases h1 : c.toNat = 1
      · rw [h1]; rfl
      · rw [beq_eq_false_iff_ne.2 h1, beq_eq_false_iff_ne.2 (by omega)]
theorem okRR_calls (G : Nat → Prop) (w : World) (x : Option Addr) (r : Rd) (h : RdR G w x r) : Calls prog 67 #[.pointer x] w fun e w' => e = .returned (.bool (okR r)) ∧ w = w' := by
  refine calls_ret (W67 (Q := fun v w' => v = .bool (okR r) ∧ w = w') ?_) (fun v w' ⟨h, h'⟩ => ⟨by rw [h], h'⟩)
  unfold F67
  obtain ⟨b, rfl, s, l, f, hB, hs, hsc, hlen, hG, hGb, hr⟩ := h
  refine ⟨_, rfl, f, by rw [addr_add]; exact hB.ld rfl, ?_, rfl⟩
  rcases hr with ⟨rfl, rfl⟩ | ⟨rfl, rfl, _⟩ <;> rfl
theorem doneRR_calls (G : Nat → Prop) (w : World) (x : Option Addr) (r : Rd) (h : RdR G w x r) : Calls prog 68 #[.pointer x] w fun e w' => e = .returned (.bool (doneR r)) ∧ w = w' := by
  refine calls_ret (W68 (Q := fun v w' => v = .bool (doneR r) ∧ w = w') ?_) (fun v w' ⟨h, h'⟩ => ⟨by rw [h], h'⟩)
  unfold F68
  obtain ⟨b, rfl, s, l, f, hB, hs, hsc, hlen, hG, hGb, hr⟩ := h
  have hll := rlenR hs
  refine ⟨_, rfl, f, by rw [addr_add]; exact hB.ld rfl, ?_⟩
  rcases hr with ⟨rfl, rfl⟩ | ⟨rfl, rfl, _⟩
  · refine IfB.t rfl ⟨_, rfl, s, by rw [addr_add]; exact hB.ld rfl, ?_, rfl⟩
    congr 1
    unfold doneR
    cases l with
    | nil => simp only [List.length_nil] at hll; rw [← hll]; rfl
    | cons c l =>
      simp only [List.length_cons] at hll
      rw [beq_eq_false_iff_ne.2 (by omega)]
      symm
      rw [beq_eq_false_iff_ne]
      intro h; cases h
  · exact IfB.f rfl ⟨rfl, rfl⟩
theorem b67 (s : Sl) : BuildIs prog 126 #[(0, .slice s.a s.l s.c)] #[.slice s.a s.l s.c, .bool false] := fun w => by kernel_rfl
theorem newReaderR_calls (w : World) (b : Sl) (l : List UInt8) (hb : Has w b 1 (bv l)) (hsz : b.l ≤ 1000000000000) :
    Calls prog 63 #[.slice b.a b.l b.c] w fun e w' => ∃ k G, e = .returned (.pointer (some ⟨k, 0, none⟩)) ∧ w.heap.size ≤ k ∧ (∀ j, G j → w.heap.size ≤ j ∧ j < k) ∧ RdR G w' (some ⟨k, 0, none⟩) (some l) ∧ Frm none_ w w' := by
  refine calls_ret (W63 (Q := fun v w' => ∃ k G, v = .pointer (some ⟨k, 0, none⟩) ∧ w.heap.size ≤ k ∧ (∀ j, G j → w.heap.size ≤ j ∧ j < k) ∧ RdR G w' (some ⟨k, 0, none⟩) (some l) ∧ Frm none_ w w') ?_) (fun v w' ⟨k, G, h, h'⟩ => ⟨k, G, by rw [h], h'⟩)
  unfold F63
  have hbl := rlenR hb
  refine (behind_calls w b l _ hb (by simp [ByteArray.size]; omega)).mono ?_
  rintro _ w1 ⟨r, rfl, hr, hn, hm⟩
  have hr : Row w1 r 5 1 (bv l) := by simpa using hr
  refine ⟨r, rfl, _, b67 r, ?_⟩
  intro b6 w2 hnb
  have hm2 := hnb.mod none_
  have hb6 : w1.heap.size = b6 := by obtain ⟨h, _⟩ := hnb; omega
  have hrc : r.l ≤ r.c := by
    rcases hr.cases with ⟨rfl, _⟩ | ⟨g, cur, ha, hB, h1, _⟩
    · exact Nat.le_refl _
    · exact h1
  have hrl := rowLen hr
  refine ⟨b6, fun k => r.blk = some k, rfl, by have := hm.size; omega, fun j hj => ⟨hn j hj, by have := hr.lt j hj; omega⟩, ⟨b6, rfl, r, l, false, hnb.blk, (hr.mod hm2 (fun _ _ h => h)).has, hrc, by omega, fun k hk => hk, fun k hk => by have := hr.lt k hk; omega, .inl ⟨rfl, rfl⟩⟩, trN hm hm2⟩

end Go.Proofs.Ythgeacnemojjgaa
