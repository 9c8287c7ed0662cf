/- The plain law of what is laid and read: no program in it. -/
import Derived.Test.YtmkennapbebbmaaW
set_option linter.unusedVariables false
set_option linter.unusedSimpArgs false
namespace Go.Proofs.Ytmkennapbebbmaa
open Go Go.Proofs.YtmkennapbebbmaaV

/-! ### Sizes -/
theorem gb_mono (v : Nat) : ∀ u, u ≤ v → (gb u).length ≤ (gb v).length := by
  induction v using Nat.strongRecOn with
  | _ v ih =>
    intro u huv
    by_cases hv : v < 128
    · rw [gb_small hv, gb_small (by omega)]; simp
    · by_cases hu : u < 128
      · rw [gb_small hu]; have := gb_pos v; simpa using this
      · rw [gb_big (u := u) (by omega), gb_big (u := v) (by omega)]
        simp only [List.length_cons]
        have := ih (v / 128) (by omega) (u / 128) (by omega)
        omega
theorem gb_len5 {u : Nat} (h : u ≤ 2147483647) : (gb u).length ≤ 5 := by
  have h1 := gb_mono 2147483647 u h
  have h2 : (gb 2147483647).length = 5 := by
    rw [gb_big (by omega), gb_big (by omega), gb_big (by omega), gb_big (by omega), gb_small (by omega)]; rfl
  omega
theorem zz_lt {n : Int} (h0 : -9223372036854775808 ≤ n) (h1 : n ≤ 9223372036854775807) : zz n < 2 ^ 64 := by unfold zz; split <;> omega
theorem uz_zz (n : Int) : uz (zz n) = n := by unfold uz zz; split <;> split <;> omega
theorem zz_uz (u : Nat) : zz (uz u) = u := by unfold uz zz; split <;> split <;> omega
theorem zz_inj {n m : Int} (h : zz n = zz m) : n = m := by rw [← uz_zz n, h, uz_zz]

/-! ### No number's bytes begin another's -/
theorem gb_inj {u v : Nat} {s t : List UInt8} (hu : u < 2 ^ 64) (hv : v < 2 ^ 64) (h : gb u ++ s = gb v ++ t) : u = v ∧ s = t := by
  have h1 := num_gb hu s
  rw [h, num_gb hv t] at h1
  simp only [Option.some.injEq, Prod.mk.injEq] at h1
  obtain ⟨rfl, _⟩ := h1
  exact ⟨rfl, List.append_cancel_left h⟩
theorem gb_pre {u v : Nat} (hu : u < 2 ^ 64) (hv : v < 2 ^ 64) (h : gb u <+: gb v) : u = v := by
  obtain ⟨s, hs⟩ := h
  have : gb u ++ s = gb v ++ [] := by rw [hs, List.append_nil]
  exact (gb_inj hu hv this).1
theorem num_more {l m : List UInt8} {u n : Nat} (h : num l = some (u, n)) : num (l ++ m) = some (u, n) := by
  obtain ⟨h1, h2, h3⟩ := num_some h
  rw [h3, List.append_assoc, num_gb h1, h2]
theorem num_cut {u k : Nat} (t : List UInt8) (hu : u < 2 ^ 64) (hk : k < (gb u).length) : num ((gb u ++ t).take k) = none := by
  cases h : num ((gb u ++ t).take k) with
  | none => rfl
  | some p =>
    obtain ⟨v, n⟩ := p
    obtain ⟨h1, h2, h3⟩ := num_some h
    have h4 := num_more (m := (gb u ++ t).drop k) h
    rw [List.take_append_drop, num_gb hu] at h4
    simp only [Option.some.injEq, Prod.mk.injEq] at h4
    obtain ⟨rfl, rfl⟩ := h4
    have := num_le h
    rw [List.length_take] at this
    omega
theorem drop_more {l m : List UInt8} {n : Nat} (h : n ≤ l.length) : (l ++ m).drop n = l.drop n ++ m := List.drop_append_of_le_length h
theorem take_more {l m : List UInt8} {n : Nat} (h : n ≤ l.length) : (l ++ m).take n = l.take n := List.take_append_of_le_length h

/-! ### Asking -/
theorem cnt_some {l : List UInt8} {m : Int} {u n : Nat} (h : num l = some (u, n)) (h1 : u ≤ 2147483647) (h2 : (u : Int) ≤ m) : cnt l m = some (u, n) := by
  unfold cnt
  simp only [h]
  rw [if_neg (by omega)]
theorem cnt_none {l : List UInt8} {m : Int} (h : num l = none) : cnt l m = none := by unfold cnt; rw [h]
theorem cnt_more {l m : List UInt8} {a : Int} {u n : Nat} (h : cnt l a = some (u, n)) : cnt (l ++ m) a = some (u, n) := by
  obtain ⟨h1, h2, h3⟩ := cnt_num h
  exact cnt_some (num_more h1) h2 h3
theorem ask_none (t : Th) : askR t none = ((0, []), none) := by
  unfold askR
  split
  · rfl
  split
  · rfl
  split
  · rfl
  · rfl
theorem ask_fail {t : Th} {r : Rd} {x : Told} (h : askR t r = (x, none)) : x = (0, []) := by
  cases r with
  | none => rw [ask_none] at h; cases h; rfl
  | some l =>
    unfold askR at h
    split at h
    · cases hn : num l with
      | none => simp only [numR, hn, Prod.mk.injEq] at h; rw [← h.1]
      | some p => simp [numR, hn] at h
    split at h
    · cases hn : cnt l t.n with
      | none => simp only [countR, hn, Prod.mk.injEq] at h; rw [← h.1]
      | some p => simp [countR, hn] at h
    split at h
    · cases hn : cnt l t.n with
      | none => simp only [strR, hn, Prod.mk.injEq] at h; rw [← h.1]
      | some p =>
        obtain ⟨u, n⟩ := p
        by_cases hf : n + u ≤ l.length
        · simp only [strR, hn] at h; rw [if_pos hf] at h; simp at h
        · simp only [strR, hn] at h; rw [if_neg hf] at h; simp only [Prod.mk.injEq] at h; rw [← h.1]
    · cases hn : cnt l 1 with
      | none => simp only [flagR, countR, hn, Prod.mk.injEq] at h; rw [← h.1]; rfl
      | some p => simp [flagR, countR, hn] at h
/-- What was told, and what was taken off for it. -/
theorem ask_took {t : Th} {l l' : List UInt8} {x : Told} (h0 : 0 ≤ t.k) (h : askR t (some l) = (x, some l')) :
    l = tb ⟨t.k, x.1, str x.2⟩ ++ l' ∧ tb ⟨t.k, x.1, str x.2⟩ ≠ [] ∧ (t.k = 1 → x.1 ≤ t.n) ∧ (t.k = 2 → (x.2.length : Int) ≤ t.n) ∧ -9223372036854775808 ≤ x.1 ∧ x.1 ≤ 9223372036854775807 ∧ x.2.length ≤ l.length := by
  have ne : ∀ u, gb u ≠ [] := fun u h => by have := gb_pos u; rw [h] at this; simp at this
  unfold askR at h
  split at h
  · rename_i hk
    cases hn : num l with
    | none => simp [numR, hn] at h
    | some p =>
      obtain ⟨u, n⟩ := p
      simp only [numR, hn, Prod.mk.injEq, Option.some.injEq] at h
      obtain ⟨rfl, rfl⟩ := h
      obtain ⟨h1, h2, h3⟩ := num_some hn
      have e : tb ⟨t.k, uz u, str []⟩ = gb u := by unfold tb; simp only; rw [if_pos hk, zz_uz]
      rw [e]
      refine ⟨h3, ne u, by omega, by omega, ?_, ?_, by simp⟩ <;> simp only [uz] <;> split <;> omega
  split at h
  · rename_i hk hk1
    cases hn : cnt l t.n with
    | none => simp [countR, hn] at h
    | some p =>
      obtain ⟨u, n⟩ := p
      simp only [countR, hn, Prod.mk.injEq, Option.some.injEq] at h
      obtain ⟨rfl, rfl⟩ := h
      obtain ⟨h4, h5, h6⟩ := cnt_num hn
      obtain ⟨h1, h2, h3⟩ := num_some h4
      have e : tb ⟨t.k, (u : Int), str []⟩ = gb u := by unfold tb; simp only; rw [if_neg hk, if_pos hk1, cb, if_neg (by omega), Int.toNat_natCast]
      rw [e]
      exact ⟨h3, ne u, fun _ => h6, by omega, by simp only; omega, by simp only; omega, by simp⟩
  split at h
  · rename_i hk hk1 hk2
    cases hn : cnt l t.n with
    | none => simp [strR, hn] at h
    | some p =>
      obtain ⟨u, n⟩ := p
      by_cases hf : n + u ≤ l.length
      · simp only [strR, hn] at h
        rw [if_pos hf] at h
        simp only [Prod.mk.injEq, Option.some.injEq] at h
        obtain ⟨rfl, rfl⟩ := h
        obtain ⟨h4, h5, h6⟩ := cnt_num hn
        obtain ⟨h1, h2, h3⟩ := num_some h4
        have hlen : ((l.drop n).take u).length = u := by rw [List.length_take, List.length_drop]; omega
        have e : tb ⟨t.k, 0, str ((l.drop n).take u)⟩ = gb u ++ (l.drop n).take u := by
          unfold tb
          simp only
          rw [if_neg hk, if_neg hk1, if_pos hk2, sb, str_size, hlen, if_neg (by omega), str_data]
        rw [e]
        refine ⟨?_, ?_, by omega, ?_, by simp, by simp, ?_⟩
        · rw [List.append_assoc, show l.drop (n + u) = (l.drop n).drop u by rw [List.drop_drop], List.take_append_drop]
          exact h3
        · intro h
          exact ne u (List.append_eq_nil_iff.1 h).1
        · intro _; simp only [hlen]; exact h6
        · simp only [hlen]; omega
      · simp only [strR, hn] at h
        rw [if_neg hf] at h
        simp at h
  · rename_i hk hk1 hk2
    cases hn : cnt l 1 with
    | none => simp [flagR, countR, hn] at h
    | some p =>
      obtain ⟨u, n⟩ := p
      simp only [flagR, countR, hn, Prod.mk.injEq, Option.some.injEq] at h
      obtain ⟨rfl, rfl⟩ := h
      obtain ⟨h4, h5, h6⟩ := cnt_num hn
      obtain ⟨h1, h2, h3⟩ := num_some h4
      have e : tb ⟨t.k, one ((u : Int) == 1), str []⟩ = gb u := by
        unfold tb
        simp only
        rw [if_neg hk, if_neg hk1, if_neg hk2]
        have hu : u = 0 ∨ u = 1 := by omega
        rcases hu with rfl | rfl
        · rw [g0]; rfl
        · rw [gb_small (by omega)]; rfl
      rw [e]
      refine ⟨h3, ne u, by omega, by omega, ?_, ?_, by simp⟩ <;> simp only [one] <;> split <;> omega
/-- More behind does not matter. -/
theorem ask_more {t : Th} {l l' m : List UInt8} {x : Told} (h : askR t (some l) = (x, some l')) : askR t (some (l ++ m)) = (x, some (l' ++ m)) := by
  unfold askR at h ⊢
  split at h
  · rename_i hk
    rw [if_pos hk]
    cases hn : num l with
    | none => simp [numR, hn] at h
    | some p =>
      obtain ⟨u, n⟩ := p
      simp only [numR, hn, num_more hn, Prod.mk.injEq, Option.some.injEq] at h ⊢
      exact ⟨h.1, by rw [drop_more (num_le hn).2.2, h.2]⟩
  rename_i hk
  rw [if_neg hk]
  split at h
  · rename_i hk1
    rw [if_pos hk1]
    cases hn : cnt l t.n with
    | none => simp [countR, hn] at h
    | some p =>
      obtain ⟨u, n⟩ := p
      simp only [countR, hn, cnt_more hn, Prod.mk.injEq, Option.some.injEq] at h ⊢
      exact ⟨h.1, by rw [drop_more (num_le (cnt_num hn).1).2.2, h.2]⟩
  rename_i hk1
  rw [if_neg hk1]
  split at h
  · rename_i hk2
    rw [if_pos hk2]
    cases hn : cnt l t.n with
    | none => simp [strR, hn] at h
    | some p =>
      obtain ⟨u, n⟩ := p
      by_cases hf : n + u ≤ l.length
      · simp only [strR, hn, cnt_more hn] at h ⊢
        rw [if_pos hf] at h
        rw [if_pos (by rw [List.length_append]; omega)]
        simp only [Prod.mk.injEq, Option.some.injEq] at h ⊢
        rw [drop_more (num_le (cnt_num hn).1).2.2, take_more (by rw [List.length_drop]; omega), drop_more hf]
        exact ⟨h.1, by rw [h.2]⟩
      · simp only [strR, hn] at h
        rw [if_neg hf] at h
        simp at h
  · rename_i hk2
    rw [if_neg hk2]
    cases hn : cnt l 1 with
    | none => simp [flagR, countR, hn] at h
    | some p =>
      obtain ⟨u, n⟩ := p
      simp only [flagR, countR, hn, cnt_more hn, Prod.mk.injEq, Option.some.injEq] at h ⊢
      exact ⟨h.1, by rw [drop_more (num_le (cnt_num hn).1).2.2, h.2]⟩
end Go.Proofs.Ytmkennapbebbmaa
