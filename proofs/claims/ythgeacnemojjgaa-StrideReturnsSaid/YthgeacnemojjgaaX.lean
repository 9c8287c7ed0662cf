/- The plain law of what is laid and read: no program in it. -/
import Derived.Test.YthgeacnemojjgaaQ
set_option linter.unusedVariables false
set_option maxRecDepth 20000
set_option linter.unusedSimpArgs false
namespace Go.Proofs.Ythgeacnemojjgaa
open Go Go.Proofs.YthgeacnemojjgaaV

/-! ### Sizes -/
theorem gb_mono (v : Nat) : ∀ u, u ≤ v → (gb u).length ≤ (gb v).length := by
  induction v using Nat.strongRecOn with
  | _ v ih =>
    intro u huv
    by_cases hv : v < 128
    · rw [gb_small hv, gb_small (by omega)]; simp
    · by_cases hu : u < 128
      · rw [gb_small hu]; have := gb_pos v; simpa using this
      · rw [gb_big (u := u) (by omega), gb_big (u := v) (by omega)]
        simp only [List.length_cons]
        have := ih (v / 128) (by omega) (u / 128) (by omega)
        omega
theorem gb_len5 {u : Nat} (h : u ≤ 2147483647) : (gb u).length ≤ 5 := by
  have h1 := gb_mono 2147483647 u h
  have h2 : (gb 2147483647).length = 5 := by
    rw [gb_big (by omega), gb_big (by omega), gb_big (by omega), gb_big (by omega), gb_small (by omega)]; rfl
  omega
theorem zz_lt {n : Int} (h0 : -9223372036854775808 ≤ n) (h1 : n ≤ 9223372036854775807) : zz n < 2 ^ 64 := by unfold zz; split <;> omega
theorem uz_zz (n : Int) : uz (zz n) = n := by unfold uz zz; split <;> split <;> omega
theorem zz_uz (u : Nat) : zz (uz u) = u := by unfold uz zz; split <;> split <;> omega
theorem zz_inj {n m : Int} (h : zz n = zz m) : n = m := by rw [← uz_zz n, h, uz_zz]

/-! ### No number's bytes begin another's -/
theorem gb_inj {u v : Nat} {s t : List UInt8} (hu : u < 2 ^ 64) (hv : v < 2 ^ 64) (h : gb u ++ s = gb v ++ t) : u = v ∧ s = t := by
  have h1 := num_gb hu s
  rw [h, num_gb hv t] at h1
  simp only [Option.some.injEq, Prod.mk.injEq] at h1
  obtain ⟨rfl, _⟩ := h1
  exact ⟨rfl, List.append_cancel_left h⟩
theorem gb_pre {u v : Nat} (hu : u < 2 ^ 64) (hv : v < 2 ^ 64) (h : gb u <+: gb v) : u = v := by
  obtain ⟨s, hs⟩ := h
  have : gb u ++ s = gb v ++ [] := by rw [hs, List.append_nil]
  exact (gb_inj hu hv this).1
theorem num_more {l m : List UInt8} {u n : Nat} (h : num l = some (u, n)) : num (l ++ m) = some (u, n) := by
  obtain ⟨h1, h2, h3⟩ := num_some h
  rw [h3, List.append_assoc, num_gb h1, h2]
theorem num_cut {u k : Nat} (t : List UInt8) (hu : u < 2 ^ 64) (hk : k < (gb u).length) : num ((gb u ++ t).take k) = none := by
  cases h : num ((gb u ++ t).take k) with
  | none => rfl
  | some p =>
    obtain ⟨v, n⟩ := p
    obtain ⟨h1, h2, h3⟩ := num_some h
    have h4 := num_more (m := (gb u ++ t).drop k) h
    rw [List.take_append_drop, num_gb hu] at h4
    simp only [Option.some.injEq, Prod.mk.injEq] at h4
    obtain ⟨rfl, rfl⟩ := h4
    have := num_le h
    rw [List.length_take] at this
    omega
theorem drop_more {l m : List UInt8} {n : Nat} (h : n ≤ l.length) : (l ++ m).drop n = l.drop n ++ m := List.drop_append_of_le_length h
theorem take_more {l m : List UInt8} {n : Nat} (h : n ≤ l.length) : (l ++ m).take n = l.take n := List.take_append_of_le_length h

/-! ### Asking -/
theorem cnt_some {l : List UInt8} {m : Int} {u n : Nat} (h : num l = some (u, n)) (h1 : u ≤ 2147483647) (h2 : (u : Int) ≤ m) : cnt l m = some (u, n) := by
  unfold cnt
  simp only [h]
  rw [if_neg (by omega)]
theorem cnt_none {l : List UInt8} {m : Int} (h : num l = none) : cnt l m = none := by unfold cnt; rw [h]
theorem cnt_more {l m : List UInt8} {a : Int} {u n : Nat} (h : cnt l a = some (u, n)) : cnt (l ++ m) a = some (u, n) := by
  obtain ⟨h1, h2, h3⟩ := cnt_num h
  exact cnt_some (num_more h1) h2 h3
end Go.Proofs.Ythgeacnemojjgaa
