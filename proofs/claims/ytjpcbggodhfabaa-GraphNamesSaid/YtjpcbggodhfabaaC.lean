/- Needs in memory; the small calls of the laws and of the document on them. -/
import Derived.Test.YtjpcbggodhfabaaG
import Derived.Test.YtjpcbggodhfabaaF
set_option linter.unusedVariables false
set_option linter.unusedSimpArgs false
namespace Go.Proofs.Ytjpcbggodhfabaa
open Go Go.Proofs.YtjpcbggodhfabaaV
theorem st25 : SlT prog 25 3 1 8 (.int .i64 0) := ⟨by kernel_rfl, by kernel_rfl, rfl, by decide⟩
theorem st22 : SlT prog 22 25 1 24 (.slice none 0 0) := ⟨by kernel_rfl, by kernel_rfl, rfl, by decide⟩
def iv (l : List Int) : List Value := l.map (Value.int .i64)
theorem iv_len (l : List Int) : (iv l).length = l.length := by simp [iv]
theorem iv_one (l : List Int) : ∀ u ∈ iv l, u.oneCell' = true := by
  intro u hu
  obtain ⟨b, _, rfl⟩ := List.mem_map.1 hu
  rfl
theorem iv_app (l m : List Int) : iv l ++ iv m = iv (l ++ m) := by simp [iv]
theorem iv_get {l : List Int} {i : Nat} {v : Value} (h : (iv l)[i]? = some v) : ∃ b, l[i]? = some b ∧ v = .int .i64 b := by
  simp only [iv, List.getElem?_map, Option.map_eq_some_iff] at h
  obtain ⟨b, hb, rfl⟩ := h
  exact ⟨b, hb, rfl⟩
@[reducible] def slv (s : Sl) : Value := .slice s.a s.l s.c
def gv (ps : List (Sl × List Int)) : List Value := ps.map fun p => slv p.1
theorem gv_len (ps : List (Sl × List Int)) : (gv ps).length = ps.length := by simp [gv]
theorem gv_one (ps : List (Sl × List Int)) : ∀ u ∈ gv ps, u.oneCell' = true := by
  intro u hu
  obtain ⟨b, _, rfl⟩ := List.mem_map.1 hu
  rfl
theorem gv_get {l : List (Sl × List Int)} {i : Nat} {v : Value} (h : (gv l)[i]? = some v) : ∃ b, l[i]? = some b ∧ v = slv b.1 := by
  simp only [gv, List.getElem?_map, Option.map_eq_some_iff] at h
  obtain ⟨b, hb, rfl⟩ := h
  exact ⟨b, hb, rfl⟩
/-- The needs lie there. -/
structure Gw (w : World) (s : Sl) (ps : List (Sl × List Int)) : Prop where
  has : Has w s 1 (gv ps)
  each : ∀ p ∈ ps, Has w p.1 1 (iv p.2)
def gOf (ps : List (Sl × List Int)) : List (List Int) := ps.map (·.2)
theorem gOf_len (ps : List (Sl × List Int)) : (gOf ps).length = ps.length := by simp [gOf]
theorem gOf_get {ps : List (Sl × List Int)} {i : Nat} {p : Sl × List Int} (h : ps[i]? = some p) : (gOf ps)[i]? = some p.2 := by simp [gOf, h]
theorem Gw.len {w : World} {s : Sl} {ps : List (Sl × List Int)} (h : Gw w s ps) : ps.length = s.l := by have := h.has.len; rw [gv_len] at this; omega
theorem Gw.mod {w w' : World} {s : Sl} {ps : List (Sl × List Int)} (h : Gw w s ps) (f : Frm none_ w w') : Gw w' s ps := ⟨h.has.mod f (fun _ _ h => h), fun p hp => (h.each p hp).mod f (fun _ _ h => h)⟩
theorem has_iv {w : World} {s : Sl} {l : List Int} (h : Has w s 1 (iv l)) : s.l = l.length := by have := h.len; rw [iv_len] at this; omega
/-- The list at a place. -/
theorem Gw.at {w : World} {s : Sl} {ps : List (Sl × List Int)} (h : Gw w s ps) {i : Nat} (hi : i < s.l) : ∃ q p, s.a = some q ∧ ps[i]? = some p ∧ p ∈ ps ∧ Ld w (q.add (i * 1)) (slv p.1) ∧ Has w p.1 1 (iv p.2) := by
  obtain ⟨q, v, hq, hv, hl⟩ := h.has.at1 (i := (i : Int)) (by omega) (by omega)
  rw [Int.toNat_natCast] at hv hl
  obtain ⟨p, hp, rfl⟩ := gv_get hv
  have hm := List.mem_of_getElem? hp
  exact ⟨q, p, hq, hp, hm, hl, h.each p hm⟩
/-- A number at a place. -/
theorem has_at {w : World} {s : Sl} {l : List Int} (h : Has w s 1 (iv l)) {i : Nat} (hi : i < s.l) : ∃ q n, s.a = some q ∧ l[i]? = some n ∧ Ld w (q.add (i * 1)) (.int .i64 n) := by
  obtain ⟨q, v, hq, hv, hl⟩ := h.at1 (i := (i : Int)) (by omega) (by omega)
  rw [Int.toNat_natCast] at hv hl
  obtain ⟨n, hn, rfl⟩ := iv_get hv
  exact ⟨q, n, hq, hn, hl⟩
/-- How many things and needs. -/
def tot (g : List (List Int)) : Nat := (g.map fun l => l.length).sum
theorem tot_take {g : List (List Int)} {i : Nat} {l : List Int} (h : g[i]? = some l) : tot (g.take (i + 1)) = tot (g.take i) + l.length := by
  unfold tot
  rw [List.take_add_one, h]
  simp
theorem tot_le (g : List (List Int)) (i : Nat) : tot (g.take i) ≤ tot g := by
  have e : tot g = tot (g.take i) + tot (g.drop i) := by
    unfold tot; rw [← List.sum_append, ← List.map_append, List.take_append_drop]
  omega
theorem tot_mem {g : List (List Int)} {l : List Int} (h : l ∈ g) : l.length ≤ tot g := by
  unfold tot
  induction g with
  | nil => simp at h
  | cons a r ih =>
    simp only [List.map_cons, List.sum_cons]
    rcases List.mem_cons.1 h with rfl | h
    · omega
    · have := ih h; omega
theorem large_calls (w : World) (s : Sl) (ps : List (Sl × List Int)) (m : Nat) (hm : m ≤ 1000) (h : Gw w s ps) (hb : s.l ≤ 140737488351232) (hbs : ∀ p ∈ ps, p.2.length ≤ 140737488351232) : Calls prog 9 #[.slice s.a s.l s.c, .int .i64 (m : Int)] w fun e w' =>
    ∃ b : Bool, e = .returned (.bool b) ∧ (b = false → ps.length ≤ m ∧ ps.length + tot (gOf ps) ≤ 10 * m) ∧ w = w' := by
  refine callsRet (W9 (Q := fun v w' => ∃ b : Bool, v = .bool b ∧ (b = false → ps.length ≤ m ∧ ps.length + tot (gOf ps) ≤ 10 * m) ∧ w = w') ?_) (fun v w' ⟨t, h, h'⟩ => ⟨t, by rw [h], h'⟩)
  unfold F9
  have hl := h.len
  refine ⟨fun n x5 x6 w' => ∃ i : Nat, x6 = (i : Int) ∧ i ≤ s.l ∧ n = s.l - i ∧ x5 = ((i + tot ((gOf ps).take i) : Nat) : Int) ∧ i + tot ((gOf ps).take i) ≤ 10 * m + 1 + 140737488351232 ∧ w = w', s.l, ⟨0, rfl, Nat.zero_le _, by omega, by simp [tot], by simp only [tot, List.take_zero, List.map_nil, List.sum_nil]; omega, rfl⟩, ?_⟩
  rintro n u x5 x6 w1 ⟨i, rfl, hi, rfl, rfl, hx, rfl⟩
  have e10 : IntKind.wrap .i64 ((10 : Int) * (m : Int)) = 10 * (m : Int) := wrap64 _ (by omega)
  rw [e10]
  refine IfB.intro (fun hc => ?_) (fun hc => ?_)
  · have hlt := of_decide_eq_true hc
    refine IfB.intro (fun hd => ?_) (fun hd => ?_)
    · have hle := of_decide_eq_true hd
      obtain ⟨q, p, hq, hp, hpm, hld, hh⟩ := h.at (i := i) (by omega)
      have hpl := has_iv hh
      have hpb := hbs p hpm
      refine ⟨q, hq, by omega, by omega, p.1, by rw [Int.toNat_natCast]; exact hld, s.l - (i + 1), by omega, i + 1, by rw [wrap64 _ (by omega)]; omega, by omega, rfl, ?_, ?_, rfl⟩
      · rw [tot_take (gOf_get hp), wrap64 ((((i + tot ((gOf ps).take i) : Nat)) : Int) + 1) (by omega), wrap64 _ (by omega)]; omega
      · rw [tot_take (gOf_get hp)]; omega
    · have hgt := of_decide_eq_false hd
      refine IfB.intro (fun _ => ⟨true, rfl, by simp, rfl⟩) (fun _ => ⟨true, ?_, by simp, rfl⟩)
      rw [decide_eq_true (by omega)]
  · have hge := of_decide_eq_false hc
    have hi2 : i = s.l := by omega
    have et : tot ((gOf ps).take i) = tot (gOf ps) := by rw [List.take_of_length_le (by rw [gOf_len]; omega)]
    refine IfB.intro (fun _ => ⟨true, rfl, by simp, rfl⟩) (fun hd => ⟨_, rfl, ?_, rfl⟩)
    have hd := of_decide_eq_false hd
    intro hf
    have hf := of_decide_eq_false hf
    rw [et] at hf
    omega
theorem ints_calls (w : World) (s t : Sl) (l m : List Int) (hs : Has w s 1 (iv l)) (ht : Has w t 1 (iv m)) (hb : s.l ≤ 140737488351232) : Calls prog 14 #[.slice s.a s.l s.c, .slice t.a t.l t.c] w fun e w' => ∃ b : Bool, e = .returned (.bool b) ∧ (b = true ↔ l = m) ∧ Frm none_ w w' := by
  refine callsRet (W14 (Q := fun v w' => ∃ b : Bool, v = .bool b ∧ (b = true ↔ l = m) ∧ Frm none_ w w') ?_) (fun v w' ⟨t, h, h'⟩ => ⟨t, by rw [h], h'⟩)
  unfold F14
  have hl := has_iv hs
  have hl' := has_iv ht
  refine IfB.intro (fun hq => ?_) (fun hq => ?_)
  · have hq := iNe hq
    refine ⟨false, rfl, ?_, Frm.refl _ _⟩
    simp only [Bool.false_eq_true, false_iff]
    rintro rfl; omega
  have hq := iEq hq
  refine ⟨fun n x w' => ∃ j : Nat, x = (j : Int) ∧ j ≤ s.l ∧ n = s.l - j ∧ (∀ i, i < j → l[i]? = m[i]?) ∧ Frm none_ w w', s.l, ⟨0, rfl, Nat.zero_le _, by omega, by simp, Frm.refl _ _⟩, ?_⟩
  rintro n u x w1 ⟨j, rfl, hj, rfl, heq, f1⟩
  refine IfB.intro (fun hc => ?_) (fun hc => ?_)
  · have hlt := of_decide_eq_true hc
    obtain ⟨q, a, hq1, ha, hla⟩ := has_at ((hs.mod f1 (fun _ _ h => h)).drew) (i := j) (by omega)
    obtain ⟨q', a', hq2, ha', hla'⟩ := has_at ((ht.mod f1 (fun _ _ h => h)).drew) (i := j) (by omega)
    refine ⟨q, hq1, by omega, by omega, a, by rw [Int.toNat_natCast]; exact hla, q', hq2, by omega, by omega, a', by rw [Int.toNat_natCast]; exact hla', IfB.intro (fun h => ?_) (fun h => ?_)⟩
    · have h := iNe h
      refine ⟨false, rfl, ?_, f1.drew⟩
      simp only [Bool.false_eq_true, false_iff]
      rintro rfl
      rw [ha] at ha'; exact h (by simpa using ha')
    · have h := iEq h
      refine ⟨s.l - (j + 1), by omega, j + 1, by rw [wrap64 _ (by omega)]; omega, by omega, rfl, ?_, f1.drew⟩
      intro i hi
      rcases Nat.lt_succ_iff_lt_or_eq.1 hi with hh | hh
      · exact heq i hh
      · rw [hh, ha, ha', h]
  · have hge := of_decide_eq_false hc
    refine ⟨true, rfl, ?_, f1⟩
    simp only [true_iff]
    apply List.ext_getElem?
    intro i
    by_cases hi : i < j
    · exact heq i hi
    · rw [List.getElem?_eq_none (by omega), List.getElem?_eq_none (by omega)]
theorem in_calls (w : World) (s : Sl) (l : List Int) (n : Int) (hs : Has w s 1 (iv l)) (hb : s.l ≤ 140737488351232) : Calls prog 26 #[.slice s.a s.l s.c, .int .i64 n] w fun e w' => ∃ b : Bool, e = .returned (.bool b) ∧ (b = true ↔ n ∈ l) ∧ w = w' := by
  refine callsRet (W26 (Q := fun v w' => ∃ b : Bool, v = .bool b ∧ (b = true ↔ n ∈ l) ∧ w = w') ?_) (fun v w' ⟨t, h, h'⟩ => ⟨t, by rw [h], h'⟩)
  unfold F26
  have hl := has_iv hs
  refine ⟨fun k x w' => ∃ j : Nat, x = (j : Int) ∧ j ≤ s.l ∧ k = s.l - j ∧ (∀ i, i < j → l[i]? ≠ some n) ∧ w = w', s.l, ⟨0, rfl, Nat.zero_le _, by omega, by simp, rfl⟩, ?_⟩
  rintro k u x w1 ⟨j, rfl, hj, rfl, hno, rfl⟩
  refine IfB.intro (fun hc => ?_) (fun hc => ?_)
  · have hlt := of_decide_eq_true hc
    obtain ⟨q, a, hq1, ha, hla⟩ := has_at hs (i := j) (by omega)
    refine ⟨q, hq1, by omega, by omega, a, by rw [Int.toNat_natCast]; exact hla, IfB.intro (fun h => ?_) (fun h => ?_)⟩
    · have h := eq_of_beq h
      subst h
      exact ⟨true, rfl, by simp [List.mem_of_getElem? ha], rfl⟩
    · have h := ne_of_beq_false h
      refine ⟨s.l - (j + 1), by omega, j + 1, by rw [wrap64 _ (by omega)]; omega, by omega, rfl, ?_, rfl⟩
      intro i hi
      rcases Nat.lt_succ_iff_lt_or_eq.1 hi with hh | hh
      · exact hno i hh
      · rw [hh, ha]; simpa using h
  · have hge := of_decide_eq_false hc
    refine ⟨false, rfl, ?_, rfl⟩
    simp only [Bool.false_eq_true, false_iff]
    intro hm
    obtain ⟨i, hi⟩ := List.mem_iff_getElem?.1 hm
    have := (List.getElem?_eq_some_iff.1 hi).1
    exact hno i (by omega) hi
theorem same_calls (w : World) (s t : Sl) (ps qs : List (Sl × List Int)) (hs : Gw w s ps) (ht : Gw w t qs) (he : gOf ps = gOf qs) (hb : s.l ≤ 140737488351232) (hbs : ∀ p ∈ ps, p.2.length ≤ 140737488351232) : Calls prog 17 #[.slice s.a s.l s.c, .slice t.a t.l t.c] w fun e w' => e = .returned (.bool true) ∧ Frm none_ w w' := by
  refine callsRet (W17 (Q := fun v w' => v = .bool true ∧ Frm none_ w w') ?_) (fun v w' ⟨h, h'⟩ => ⟨by rw [h], h'⟩)
  unfold F17
  have hl := hs.len
  have hl' := ht.len
  have hll := congrArg List.length he
  rw [gOf_len, gOf_len] at hll
  refine IfB.f (by rw [bne_eq_false_iff_eq]; omega) ?_
  refine ⟨fun n x w' => ∃ j : Nat, x = (j : Int) ∧ j ≤ s.l ∧ n = s.l - j ∧ Frm none_ w w', s.l, ⟨0, rfl, Nat.zero_le _, by omega, Frm.refl _ _⟩, ?_⟩
  rintro n u x w1 ⟨j, rfl, hj, rfl, f1⟩
  refine IfB.intro (fun hc => ?_) (fun hc => ⟨rfl, f1⟩)
  have hlt := of_decide_eq_true hc
  obtain ⟨q, p, hq, hp, hpm, _, hh⟩ := (hs.mod f1.drew).at (i := j) (by omega)
  obtain ⟨q', p', hq', hp', hpm', _, hh'⟩ := (ht.mod f1.drew).at (i := j) (by omega)
  refine ⟨fun w' => Frm none_ w w', f1.drew, q, hq, by omega, by omega, p.1, ?_, q', hq', by omega, by omega, p'.1, ?_, ?_⟩
  · intro w' f'
    obtain ⟨q2, p2, hq2, hp2, _, hld, _⟩ := (hs.mod f').at (i := j) (by omega)
    rw [hq] at hq2; cases hq2
    rw [hp] at hp2; cases hp2
    rw [Int.toNat_natCast]; exact hld
  · intro w' f'
    obtain ⟨q2, p2, hq2, hp2, _, hld, _⟩ := (ht.mod f').at (i := j) (by omega)
    rw [hq'] at hq2; cases hq2
    rw [hp'] at hp2; cases hp2
    rw [Int.toNat_natCast]; exact hld
  have epp : p.2 = p'.2 := by
    have h1 := gOf_get hp
    have h2 := gOf_get hp'
    rw [he, h2] at h1
    simpa using h1.symm
  refine (ints_calls w1.drew p.1 p'.1 p.2 p'.2 hh hh' (by rw [has_iv hh]; exact hbs p hpm)).mono ?_
  rintro _ w2 ⟨b, rfl, hbi, f2⟩
  obtain rfl : b = true := hbi.2 epp
  exact ⟨_, rfl, IfB.f rfl ⟨s.l - (j + 1), by omega, j + 1, by rw [wrap64 _ (by omega)]; omega, by omega, rfl, f1.drew.n f2⟩⟩
end Go.Proofs.Ytjpcbggodhfabaa
