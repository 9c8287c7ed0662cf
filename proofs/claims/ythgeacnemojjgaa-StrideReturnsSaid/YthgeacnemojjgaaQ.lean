/- What the program's reader does: each of its calls, over what is left of its bytes. -/
import Derived.Test.YthgeacnemojjgaaN
set_option linter.unusedVariables false
set_option maxRecDepth 20000
set_option linter.unusedSimpArgs false
namespace Go.Proofs.Ythgeacnemojjgaa
open Go Go.Proofs.YthgeacnemojjgaaV

theorem callV_of {P : Program} {f : Nat} {first captured args : Array Value} {w : World} {R : Value → World → Prop} (hb : hasBody P f = true)
    (h : Calls P f ((first ++ args) ++ captured) w fun en w' => ∃ v, en = .returned v ∧ R v w') : CallV P (.func (.func f) first captured) args w R := by
  unfold CallV
  simp only [hb]
  exact h

/-- A reader in a block: what is left, or that it has failed. -/
def RdP (w : World) (b : Nat) (r : Rd) : Prop := ∃ (s : ByteArray) (a : Int), Blk w b #[.string s, .int .i64 a] 117 ∧ s.size ≤ 1000000000000 ∧
  ((∃ k : Nat, a = (k : Int) ∧ k ≤ s.size ∧ r = some (s.data.toList.drop k)) ∨ (a = (s.size : Int) + 1 ∧ r = none))
/-- A reader behind a pointer; one behind nil has failed. -/
def RdQ (w : World) (x : Option Addr) (r : Rd) : Prop := (x = none ∧ r = none) ∨ ∃ b, x = some ⟨b, 0, none⟩ ∧ RdP w b r
abbrev Of (x : Option Addr) : Nat → Prop := fun k => x.map (·.block) = some k
theorem RdP.mod {F : Nat → Prop} {w w' : World} {b : Nat} {r : Rd} (h : RdP w b r) (hm : Frm F w w') (hn : ¬ F b) : RdP w' b r := by
  obtain ⟨s, a, hB, h⟩ := h
  exact ⟨s, a, hB.mod hm hn, h⟩
theorem RdQ.mod {F : Nat → Prop} {w w' : World} {x : Option Addr} {r : Rd} (h : RdQ w x r) (hm : Frm F w w') (hn : ∀ k, Of x k → ¬ F k) : RdQ w' x r := by
  rcases h with h | ⟨b, rfl, h⟩
  · exact .inl h
  · exact .inr ⟨b, rfl, h.mod hm (hn b rfl)⟩
theorem RdQ.lt {w : World} {x : Option Addr} {r : Rd} (h : RdQ w x r) : ∀ k, Of x k → k < w.heap.size := by
  intro k hk
  rcases h with ⟨rfl, _⟩ | ⟨b, rfl, s, a, hB, _⟩
  · simp at hk
  · simp at hk; subst hk; exact hB.lt
theorem frm_drew {F : Nat → Prop} (w : World) : Frm F w w.drew := (Frm.refl F w).drew

theorem newReader_calls (w : World) (b : Sl) (l : List UInt8) (hb : Has w b 1 (bv l)) (hsz : b.l ≤ 1000000000000) :
    Calls prog 52 #[.slice b.a b.l b.c] w fun e w' => ∃ k, e = .returned (.pointer (some ⟨k, 0, none⟩)) ∧ w.heap.size ≤ k ∧ RdP w' k (some l) ∧ Frm none_ w w' := by
  refine calls_ret (W52 (Q := fun v w' => ∃ k, v = .pointer (some ⟨k, 0, none⟩) ∧ w.heap.size ≤ k ∧ RdP w' k (some l) ∧ Frm none_ w w') ?_) (fun v w' ⟨k, h, h'⟩ => ⟨k, by rw [h], h'⟩)
  unfold F52
  refine runT_str un22 un5 un9 hb ?_
  refine ⟨_, b63 _, _, b65 _ _, ?_⟩
  intro b7 w1 hnb
  refine ⟨b7, rfl, ?_, ⟨str l, 0, hnb.blk, ?_, .inl ⟨0, rfl, by omega, rfl⟩⟩, hnb.mod _⟩
  · obtain ⟨h1, _⟩ := hnb; omega
  · rw [str_size]; have := hb.len; rw [bv_length] at this; omega
theorem spotOK_calls (w : World) (b : Nat) (r : Rd) (h : RdP w b r) : Calls prog 102 #[.pointer (some ⟨b, 0, none⟩)] w fun e w' => e = .returned (.bool (okR r)) ∧ Frm none_ w w' := by
  refine calls_ret (W102 (Q := fun v w' => v = .bool (okR r) ∧ Frm none_ w w') ?_) (fun v w' ⟨h, h'⟩ => ⟨by rw [h], h'⟩)
  unfold F102
  obtain ⟨s, a, hB, hs, hr⟩ := h
  refine ⟨_, rfl, a, by rw [addr_add]; exact hB.drew.ld rfl, _, rfl, s, by rw [addr_add]; exact hB.drew.ld rfl, ?_, frm_drew w⟩
  rcases hr with ⟨k, rfl, hk, rfl⟩ | ⟨rfl, rfl⟩
  · rw [decide_eq_true (by omega)]; rfl
  · rw [decide_eq_false (by omega)]; rfl
theorem ok_calls (w : World) (x : Option Addr) (r : Rd) (h : RdQ w x r) : Calls prog 96 #[.pointer x] w fun e w' => e = .returned (.bool (okR r)) ∧ Frm none_ w w' := by
  refine calls_ret (W96 (Q := fun v w' => v = .bool (okR r) ∧ Frm none_ w w') ?_) (fun v w' ⟨h, h'⟩ => ⟨by rw [h], h'⟩)
  unfold F96
  rcases h with ⟨rfl, rfl⟩ | ⟨b, rfl, h⟩
  · exact ⟨false, nil_neq, IfB.f rfl ⟨rfl, Frm.refl _ _⟩⟩
  · refine ⟨true, some_neq b, IfB.t rfl ⟨_, rfl, ?_⟩⟩
    refine (spotOK_calls w b r h).mono ?_
    rintro _ w1 ⟨rfl, hm⟩
    exact ⟨_, rfl, rfl, hm⟩
theorem ext_list (s : ByteArray) (a b : Nat) : (s.extract a b).data.toList = (s.data.toList.drop a).take (b - a) := by
  rw [ByteArray.data_extract, Array.toList_extract, List.extract_eq_take_drop]
theorem rest_calls (w : World) (b : Nat) (r : Rd) (h : RdP w b r) : Calls prog 97 #[.pointer (some ⟨b, 0, none⟩)] w fun e w' => ∃ t : ByteArray, e = .returned (.string t) ∧ t.data.toList = r.getD [] ∧ t.size ≤ 1000000000000 ∧ Frm none_ w w' := by
  refine calls_ret (W97 (Q := fun v w' => ∃ t : ByteArray, v = .string t ∧ t.data.toList = r.getD [] ∧ t.size ≤ 1000000000000 ∧ Frm none_ w w') ?_) (fun v w' ⟨t, h, h'⟩ => ⟨t, by rw [h], h'⟩)
  unfold F97
  obtain ⟨s, a, hB, hs, hr⟩ := h
  refine ⟨_, rfl, s, by rw [addr_add]; exact hB.drew.ld rfl, _, rfl, a, by rw [addr_add]; exact hB.drew.ld rfl, _, rfl, s, by rw [addr_add]; exact hB.drew.ld rfl, ?_⟩
  have hsl : s.data.toList.length = s.size := Array.length_toList
  have hext : ∀ k : Nat, (s.extract k s.size).data.toList = s.data.toList.drop k := by
    intro k
    rw [ext_list, List.take_of_length_le (by rw [List.length_drop]; omega)]
  have hexs : ∀ k : Nat, (s.extract k s.size).size ≤ s.size := by
    intro k; rw [ByteArray.size_extract]; omega
  rcases hr with ⟨k, rfl, hk, rfl⟩ | ⟨rfl, rfl⟩
  · rw [if_neg (by omega)]
    refine ⟨by omega, _, rfl, ?_, ?_, frm_drew w⟩
    · rw [Int.toNat_natCast, hext]; rfl
    · have := hexs ((k : Int)).toNat; omega
  · rw [if_pos (by omega)]
    refine ⟨by omega, _, rfl, ?_, ?_, frm_drew w⟩
    · rw [Int.toNat_natCast, hext, List.drop_eq_nil_of_le (by omega)]; rfl
    · have := hexs ((s.size : Int)).toNat; omega
theorem done_calls (w : World) (x : Option Addr) (r : Rd) (h : RdQ w x r) : Calls prog 56 #[.pointer x] w fun e w' => e = .returned (.bool (doneR r)) ∧ Frm none_ w w' := by
  refine calls_ret (W56 (Q := fun v w' => v = .bool (doneR r) ∧ Frm none_ w w') ?_) (fun v w' ⟨h, h'⟩ => ⟨by rw [h], h'⟩)
  unfold F56
  rcases h with ⟨rfl, rfl⟩ | ⟨b, rfl, h⟩
  · exact ⟨false, nil_neq, IfB.f rfl ⟨rfl, Frm.refl _ _⟩⟩
  · refine ⟨true, some_neq b, IfB.t rfl ⟨_, rfl, ?_⟩⟩
    have hc : Calls prog 87 #[.pointer (some ⟨b, 0, none⟩)] w fun e w' => e = .returned (.bool (doneR r)) ∧ Frm none_ w w' := by
      refine calls_ret (W87 (Q := fun v w' => v = .bool (doneR r) ∧ Frm none_ w w') ?_) (fun v w' ⟨h, h'⟩ => ⟨by rw [h], h'⟩)
      unfold F87
      obtain ⟨s, a, hB, hs, hr⟩ := h
      refine ⟨_, rfl, a, by rw [addr_add]; exact hB.drew.ld rfl, _, rfl, s, by rw [addr_add]; exact hB.drew.ld rfl, ?_, frm_drew w⟩
      have hsl : s.data.toList.length = s.size := Array.length_toList
      congr 1
      rcases hr with ⟨k, rfl, hk, rfl⟩ | ⟨rfl, rfl⟩
      · unfold doneR
        by_cases hk' : k = s.size
        · rw [List.drop_eq_nil_of_le (by omega)]; simp [hk']
        · have : s.data.toList.drop k ≠ [] := by
            intro h; have := congrArg List.length h; rw [List.length_drop] at this; simp at this; omega
          rw [beq_eq_false_iff_ne.2 (by omega)]
          symm
          rw [beq_eq_false_iff_ne]
          intro h; injection h; contradiction
      · unfold doneR
        rw [beq_eq_false_iff_ne.2 (by omega)]; rfl
    refine hc.mono ?_
    rintro _ w1 ⟨rfl, hm⟩
    exact ⟨_, rfl, rfl, hm⟩

/-! ### The three closures that look, and off over each -/
theorem look83 (w : World) (s : ByteArray) (c : Nat) (m : Int) (hc : Ld w ⟨c, 0, none⟩ (.int .i64 m)) : Calls prog 83 #[.string s, .pointer (some ⟨c, 0, none⟩)] w fun e w' => e = .returned (.tuple #[.int .i64 ((cntP s.data.toList m).1 : Int), .int .i64 ((cntP s.data.toList m).2 : Int)]) ∧ w = w' := by
  refine calls_ret (W83 (Q := fun v w' => v = .tuple #[.int .i64 ((cntP s.data.toList m).1 : Int), .int .i64 ((cntP s.data.toList m).2 : Int)] ∧ w = w') ?_) (fun v w' ⟨h, h'⟩ => ⟨by rw [h], h'⟩)
  unfold F83
  refine ⟨m, hc, (within_calls w s m).mono ?_⟩
  rintro _ _ ⟨rfl, rfl⟩
  exact ⟨_, _, rfl, rfl, rfl⟩
def strP (l : List UInt8) (m : Int) : List UInt8 × Nat := match cnt l m with
  | some (u, n) => if n + u ≤ l.length then ((l.drop n).take u, n + u) else ([], 0)
  | none => ([], 0)
theorem look86 (w : World) (s : ByteArray) (hs : s.size ≤ 1000000000000) (c : Nat) (m : Int) (hc : Ld w ⟨c, 0, none⟩ (.int .i64 m)) : Calls prog 86 #[.string s, .pointer (some ⟨c, 0, none⟩)] w fun e w' => e = .returned (.tuple #[.string (str (strP s.data.toList m).1), .int .i64 ((strP s.data.toList m).2 : Int)]) ∧ w = w' := by
  refine calls_ret (W86 (Q := fun v w' => v = .tuple #[.string (str (strP s.data.toList m).1), .int .i64 ((strP s.data.toList m).2 : Int)] ∧ w = w') ?_) (fun v w' ⟨h, h'⟩ => ⟨by rw [h], h'⟩)
  unfold F86
  refine ⟨m, hc, (within_calls w s m).mono ?_⟩
  rintro _ _ ⟨rfl, rfl⟩
  refine ⟨_, _, rfl, ?_⟩
  have hsl : s.data.toList.length = s.size := Array.length_toList
  cases hn : cnt s.data.toList m with
  | none =>
    have e : cntP s.data.toList m = (0, 0) := by unfold cntP; rw [hn]; rfl
    have e2 : strP s.data.toList m = ([], 0) := by unfold strP; rw [hn]
    rw [e, e2]
    exact IfB.t rfl ⟨rfl, rfl⟩
  | some p =>
    obtain ⟨u, n⟩ := p
    have e : cntP s.data.toList m = (u, n) := by unfold cntP; rw [hn]; rfl
    obtain ⟨h1, h2, h3⟩ := cnt_num hn
    have hle := num_le h1
    have e2 : strP s.data.toList m = if n + u ≤ s.data.toList.length then ((s.data.toList.drop n).take u, n + u) else ([], 0) := by unfold strP; rw [hn]
    rw [e, e2]
    refine IfB.f (beq_eq_false_iff_ne.2 (by simp only; omega)) ?_
    simp only
    rw [wi _ (by omega), wi _ (by omega)]
    refine IfB.intro (fun h => ?_) (fun h => ?_)
    · have := of_decide_eq_true h
      rw [if_neg (by omega)]; exact ⟨rfl, trivial⟩
    · have := of_decide_eq_false h
      rw [if_pos (by omega)]
      refine ⟨by omega, by omega, ?_, trivial⟩
      have : s.extract ((n : Int)).toNat ((n : Int) + (u : Int)).toNat = str ((s.data.toList.drop n).take u) := by
        apply ByteArray.ext
        apply Array.toList_inj.1
        rw [ext_list, str_data]
        congr 2
        omega
      rw [this]
      rfl

theorem off82_calls (w : World) (x : Option Addr) (r : Rd) (h : RdQ w x r) (c : Nat) (m : Int) (hc : Ld w ⟨c, 0, none⟩ (.int .i64 m)) :
    Calls prog 82 #[.pointer x, .func (.func 83) #[] #[.pointer (some ⟨c, 0, none⟩)]] w fun e w' => e = .returned (.int .i64 (countR m r).1) ∧ RdQ w' x (countR m r).2 ∧ Frm (Of x) w w' := by
  refine calls_ret (W82 (Q := fun v w' => v = .int .i64 (countR m r).1 ∧ RdQ w' x (countR m r).2 ∧ Frm (Of x) w w') ?_) (fun v w' ⟨h, h'⟩ => ⟨by rw [h], h'⟩)
  unfold F82
  refine (ok_calls w x r h).mono ?_
  rintro _ w1 ⟨rfl, hm1⟩
  refine ⟨_, rfl, ?_⟩
  have h1 := h.mod hm1 (fun _ _ h => h)
  cases r with
  | none => exact IfB.t rfl ⟨rfl, h1, hm1.none⟩
  | some l =>
    refine IfB.f rfl ?_
    rcases h1 with ⟨_, h2⟩ | ⟨b, rfl, h1⟩
    · cases h2
    refine ⟨_, rfl, ?_⟩
    rw [add_zero]
    refine (rest_calls w1 b _ h1).mono ?_
    rintro _ w2 ⟨t, rfl, ht, hts, hm2⟩
    have ht : t.data.toList = l := ht
    refine ⟨t, rfl, callV_of (by kernel_rfl) ?_⟩
    have hm12 : Frm none_ w w2 := hm1.trans hm2 (fun _ _ h => h) (fun _ _ h => h)
    have h2 := h1.mod hm2 (fun h => h)
    refine (look83 w2 t c m (hm12.cell hc (fun h => h))).mono ?_
    rintro _ _ ⟨rfl, rfl⟩
    rw [ht]
    refine ⟨_, rfl, _, _, rfl, ?_⟩
    obtain ⟨s, a, hB, hs, hr⟩ := h2
    have hsl : s.data.toList.length = s.size := Array.length_toList
    obtain ⟨k, rfl, hk, hrl⟩ : ∃ k : Nat, a = (k : Int) ∧ k ≤ s.size ∧ some l = some (s.data.toList.drop k) := by
      rcases hr with h | ⟨_, h⟩
      · exact h
      · cases h
    have hrl : l = s.data.toList.drop k := Option.some.inj hrl
    have hll : l.length = s.size - k := by rw [hrl, List.length_drop, hsl]
    have fr : ∀ v, Frm (Of (some ⟨b, 0, none⟩)) w (w2.setCell ⟨b, 1, none⟩ v) := fun v =>
      hm12.trans mod_setCell (fun _ _ h => h.elim) (fun x _ hx => by subst hx; rfl)
    have ea : ((⟨b, 0, none⟩ : Addr).add 0).add 1 = ⟨b, 1, none⟩ := by rw [addr_add, addr_add]
    have eb : ((⟨b, 0, none⟩ : Addr).add 0).add 0 = ⟨b, 0, none⟩ := by rw [addr_add, addr_add]
    cases hn : cnt l m with
    | none =>
      have e : cntP l m = (0, 0) := by unfold cntP; rw [hn]; rfl
      have e2 : countR m (some l) = (0, none) := by unfold countR; simp only [hn]
      rw [e, e2]
      refine IfB.t rfl ⟨_, rfl, s, by first | (rw [ea]; exact hB.ld rfl) | (rw [eb]; exact hB.ld rfl), _, rfl, by rw [ea]; exact hB.wr (show 1 < 2 by decide), ?_⟩
      rintro w3 rfl
      rw [ea]
      refine ⟨rfl, .inr ⟨b, rfl, s, _, hB.set 1 _, hs, .inr ⟨by rw [wi _ (by omega)], rfl⟩⟩, fr _⟩
    | some p =>
      obtain ⟨u, n⟩ := p
      have e : cntP l m = (u, n) := by unfold cntP; rw [hn]; rfl
      have e2 : countR m (some l) = ((u : Int), some (l.drop n)) := by unfold countR; simp only [hn]
      have hle := num_le (cnt_num hn).1
      rw [e, e2]
      refine IfB.f (beq_eq_false_iff_ne.2 (by simp only; omega)) ⟨_, rfl, _, by first | (rw [ea]; exact hB.ld rfl) | (rw [eb]; exact hB.ld rfl), _, rfl, by rw [ea]; exact hB.wr (show 1 < 2 by decide), ?_⟩
      rintro w3 rfl
      rw [ea]
      refine ⟨rfl, .inr ⟨b, rfl, s, _, hB.set 1 _, hs, .inl ⟨k + n, by rw [wi _ (by omega)]; omega, by omega, ?_⟩⟩, fr _⟩
      rw [hrl, List.drop_drop]

theorem off85_calls (w : World) (x : Option Addr) (r : Rd) (h : RdQ w x r) (c : Nat) (m : Int) (hc : Ld w ⟨c, 0, none⟩ (.int .i64 m)) :
    Calls prog 85 #[.pointer x, .func (.func 86) #[] #[.pointer (some ⟨c, 0, none⟩)]] w fun e w' => e = .returned (.string (str (strR m r).1)) ∧ RdQ w' x (strR m r).2 ∧ Frm (Of x) w w' := by
  refine calls_ret (W85 (Q := fun v w' => v = .string (str (strR m r).1) ∧ RdQ w' x (strR m r).2 ∧ Frm (Of x) w w') ?_) (fun v w' ⟨h, h'⟩ => ⟨by rw [h], h'⟩)
  unfold F85
  refine (ok_calls w x r h).mono ?_
  rintro _ w1 ⟨rfl, hm1⟩
  refine ⟨_, rfl, ?_⟩
  have h1 := h.mod hm1 (fun _ _ h => h)
  cases r with
  | none => exact IfB.t rfl ⟨rfl, h1, hm1.none⟩
  | some l =>
    refine IfB.f rfl ?_
    rcases h1 with ⟨_, h2⟩ | ⟨b, rfl, h1⟩
    · cases h2
    refine ⟨_, rfl, ?_⟩
    rw [add_zero]
    refine (rest_calls w1 b _ h1).mono ?_
    rintro _ w2 ⟨t, rfl, ht, hts, hm2⟩
    have ht : t.data.toList = l := ht
    refine ⟨t, rfl, callV_of (by kernel_rfl) ?_⟩
    have hm12 : Frm none_ w w2 := hm1.trans hm2 (fun _ _ h => h) (fun _ _ h => h)
    have h2 := h1.mod hm2 (fun h => h)
    refine (look86 w2 t hts c m (hm12.cell hc (fun h => h))).mono ?_
    rintro _ _ ⟨rfl, rfl⟩
    rw [ht]
    refine ⟨_, rfl, _, _, rfl, ?_⟩
    obtain ⟨s, a, hB, hs, hr⟩ := h2
    have hsl : s.data.toList.length = s.size := Array.length_toList
    obtain ⟨k, rfl, hk, hrl⟩ : ∃ k : Nat, a = (k : Int) ∧ k ≤ s.size ∧ some l = some (s.data.toList.drop k) := by
      rcases hr with h | ⟨_, h⟩
      · exact h
      · cases h
    have hrl : l = s.data.toList.drop k := Option.some.inj hrl
    have hll : l.length = s.size - k := by rw [hrl, List.length_drop, hsl]
    have fr : ∀ v, Frm (Of (some ⟨b, 0, none⟩)) w (w2.setCell ⟨b, 1, none⟩ v) := fun v =>
      hm12.trans mod_setCell (fun _ _ h => h.elim) (fun x _ hx => by subst hx; rfl)
    have ea : ((⟨b, 0, none⟩ : Addr).add 0).add 1 = ⟨b, 1, none⟩ := by rw [addr_add, addr_add]
    have eb : ((⟨b, 0, none⟩ : Addr).add 0).add 0 = ⟨b, 0, none⟩ := by rw [addr_add, addr_add]
    by_cases hno : strP l m = ([], 0) ∧ strR m (some l) = ([], none)
    · obtain ⟨e, e2⟩ := hno
      rw [e, e2]
      refine IfB.t rfl ⟨_, rfl, s, by first | (rw [ea]; exact hB.ld rfl) | (rw [eb]; exact hB.ld rfl), _, rfl, by rw [ea]; exact hB.wr (show 1 < 2 by decide), ?_⟩
      rintro w3 rfl
      rw [ea]
      exact ⟨rfl, .inr ⟨b, rfl, s, _, hB.set 1 _, hs, .inr ⟨by rw [wi _ (by omega)], rfl⟩⟩, fr _⟩
    cases hn : cnt l m with
    | none => exact (hno ⟨by unfold strP; rw [hn], by unfold strR; simp only [hn]⟩).elim
    | some p =>
      obtain ⟨u, n⟩ := p
      have hle := num_le (cnt_num hn).1
      by_cases hfit : n + u ≤ l.length
      · have e : strP l m = ((l.drop n).take u, n + u) := by unfold strP; rw [hn]; simp only; rw [if_pos hfit]
        have e2 : strR m (some l) = ((l.drop n).take u, some (l.drop (n + u))) := by unfold strR; simp only [hn]; rw [if_pos hfit]
        rw [e, e2]
        refine IfB.f (beq_eq_false_iff_ne.2 (by simp only; omega)) ⟨_, rfl, _, by first | (rw [ea]; exact hB.ld rfl) | (rw [eb]; exact hB.ld rfl), _, rfl, by rw [ea]; exact hB.wr (show 1 < 2 by decide), ?_⟩
        rintro w3 rfl
        rw [ea]
        refine ⟨rfl, .inr ⟨b, rfl, s, _, hB.set 1 _, hs, .inl ⟨k + (n + u), by rw [wi _ (by omega)]; omega, by omega, ?_⟩⟩, fr _⟩
        show some (List.drop (n + u) l) = _
        rw [hrl, List.drop_drop]
      · exact (hno ⟨by unfold strP; rw [hn]; simp only; rw [if_neg hfit], by unfold strR; simp only [hn]; rw [if_neg hfit]⟩).elim

theorem count_read (w : World) (x : Option Addr) (r : Rd) (m : Int) (h : RdQ w x r) : Calls prog 53 #[.pointer x, .int .i64 m] w fun e w' => e = .returned (.int .i64 (countR m r).1) ∧ RdQ w' x (countR m r).2 ∧ Frm (Of x) w w' := by
  refine calls_ret (W53 (Q := fun v w' => v = .int .i64 (countR m r).1 ∧ RdQ w' x (countR m r).2 ∧ Frm (Of x) w w') ?_) (fun v w' ⟨h, h'⟩ => ⟨by rw [h], h'⟩)
  unfold F53
  intro b3 w1 hnb
  have hm := hnb.mod none_
  refine (off82_calls w1 x r (h.mod hm (fun _ _ h => h)) b3 m (hnb.blk.ld rfl)).mono ?_
  rintro _ w2 ⟨rfl, h1, hm2⟩
  exact ⟨_, rfl, rfl, h1, hm.trans hm2 (fun _ _ h => h.elim) (fun _ _ h => h)⟩
theorem str_read (w : World) (x : Option Addr) (r : Rd) (m : Int) (h : RdQ w x r) : Calls prog 54 #[.pointer x, .int .i64 m] w fun e w' => e = .returned (.string (str (strR m r).1)) ∧ RdQ w' x (strR m r).2 ∧ Frm (Of x) w w' := by
  refine calls_ret (W54 (Q := fun v w' => v = .string (str (strR m r).1) ∧ RdQ w' x (strR m r).2 ∧ Frm (Of x) w w') ?_) (fun v w' ⟨h, h'⟩ => ⟨by rw [h], h'⟩)
  unfold F54
  intro b3 w1 hnb
  have hm := hnb.mod none_
  refine (off85_calls w1 x r (h.mod hm (fun _ _ h => h)) b3 m (hnb.blk.ld rfl)).mono ?_
  rintro _ w2 ⟨rfl, h1, hm2⟩
  exact ⟨_, rfl, rfl, h1, hm.trans hm2 (fun _ _ h => h.elim) (fun _ _ h => h)⟩
theorem flag_read (w : World) (x : Option Addr) (r : Rd) (h : RdQ w x r) : Calls prog 55 #[.pointer x] w fun e w' => e = .returned (.bool (flagR r).1) ∧ RdQ w' x (flagR r).2 ∧ Frm (Of x) w w' := by
  refine calls_ret (W55 (Q := fun v w' => v = .bool (flagR r).1 ∧ RdQ w' x (flagR r).2 ∧ Frm (Of x) w w') ?_) (fun v w' ⟨h, h'⟩ => ⟨by rw [h], h'⟩)
  unfold F55
  refine (count_read w x r 1 h).mono ?_
  rintro _ w1 ⟨rfl, h1⟩
  exact ⟨_, rfl, rfl, h1⟩
end Go.Proofs.Ythgeacnemojjgaa
