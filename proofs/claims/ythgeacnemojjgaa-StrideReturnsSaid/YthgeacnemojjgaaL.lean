/- Plain laws on groups of seven bits: no program and no memory in it. -/
import Derived.Test.YthgeacnemojjgaaM
import Derived.Lib.BitFns
set_option linter.unusedVariables false
set_option maxRecDepth 20000
namespace Go.Proofs.Ythgeacnemojjgaa
open Go Go.Proofs.YthgeacnemojjgaaV

/-- A number's groups, the lowest first. -/
def gb (u : Nat) : List UInt8 := if u < 128 then [UInt8.ofNat u] else UInt8.ofNat (128 + u % 128) :: gb (u / 128)
termination_by u
decreasing_by omega
theorem gb_small {u : Nat} (h : u < 128) : gb u = [UInt8.ofNat u] := by rw [gb, if_pos h]
theorem gb_big {u : Nat} (h : 128 ≤ u) : gb u = UInt8.ofNat (128 + u % 128) :: gb (u / 128) := by rw [gb, if_neg (by omega)]
theorem bitLen7 : ∀ n : Fin 128, Lib.bitLen n.val ≤ 7 := by decide +kernel
theorem gb_length (u : Nat) (h : u < 2 ^ 64) : (gb u).length = max 1 ((Lib.bitLen u + 6) / 7) := by
  induction u using Nat.strongRecOn with
  | _ u ih =>
    by_cases hs : u < 128
    · have := bitLen7 ⟨u, hs⟩
      rw [gb_small hs]
      simp only [List.length_singleton] at *
      omega
    · have h1 := ih (u / 128) (by omega) (by omega)
      have h2 := Lib.bitLen_shift 7 u (by omega) h
      simp only [Nat.reducePow] at h2
      rw [gb_big (by omega), List.length_cons, h1, h2]
      by_cases h3 : Lib.bitLen (u / 128) = 0
      · have h4 := Lib.bitLen_half (u / 128) (by omega) (by omega)
        omega
      · omega
theorem gb_pos (u : Nat) : 1 ≤ (gb u).length := by rw [gb]; split <;> simp
theorem gb_le (u : Nat) (h : u < 2 ^ 64) : (gb u).length ≤ 10 := by
  rw [gb_length u h]
  have : Lib.bitLen u ≤ 64 := by
    unfold Lib.bitLen
    have key : ∀ f x, Lib.bitLenAux f x ≤ f := by
      intro f
      induction f with
      | zero => intro x; simp [Lib.bitLenAux]
      | succ f ih =>
        intro x
        unfold Lib.bitLenAux
        split
        · omega
        · have := ih (x / 2); omega
    exact key 64 u
  omega
theorem gb_get (u : Nat) : ∀ k, k < (gb u).length → (gb u)[k]? = some (if k + 1 = (gb u).length then UInt8.ofNat (u / 128 ^ k) else UInt8.ofNat (128 + u / 128 ^ k % 128)) := by
  induction u using Nat.strongRecOn with
  | _ u ih =>
    intro k hk
    by_cases hs : u < 128
    · rw [gb_small hs] at hk ⊢
      simp at hk
      subst hk
      simp
    · rw [gb_big (by omega)] at hk ⊢
      have hp := gb_pos (u / 128)
      cases k with
      | zero =>
        simp only [List.length_cons, Nat.zero_add, List.getElem?_cons_zero, Nat.pow_zero, Nat.div_one]
        rw [if_neg (by omega)]
      | succ k =>
        simp only [List.length_cons, List.getElem?_cons_succ] at hk ⊢
        rw [ih (u / 128) (by omega) k (by omega), Nat.div_div_eq_div_mul, ← Nat.pow_succ']
        by_cases hl : k + 1 = (gb (u / 128)).length
        · rw [if_pos hl, if_pos (by omega)]
        · rw [if_neg hl, if_neg (by omega)]
/-- The last group is below 128. -/
theorem gb_last (u : Nat) : u / 128 ^ ((gb u).length - 1) < 128 := by
  induction u using Nat.strongRecOn with
  | _ u ih =>
    by_cases hs : u < 128
    · rw [gb_small hs]; simp; exact hs
    · rw [gb_big (by omega)]
      have hp := gb_pos (u / 128)
      have := ih (u / 128) (by omega)
      rw [Nat.div_div_eq_div_mul, ← Nat.pow_succ'] at this
      rwa [List.length_cons, show (gb (u / 128)).length + 1 - 1 = (gb (u / 128)).length - 1 + 1 by omega]

/-! ### machine numbers -/
theorem u8_ofNat (n : Nat) (h : n < 256) : (UInt8.ofNat n).toNat = n := by simp; omega
theorem wi (e : Int) (h : -9223372036854775808 ≤ e ∧ e ≤ 9223372036854775807) : IntKind.wrap .i64 e = e := by rw [IntKind.wrap_i64]; omega
theorem wu8 (e : Int) (h : 0 ≤ e ∧ e ≤ 255) : IntKind.wrap .u8 e = e := by
  unfold IntKind.wrap; simp [IntKind.signed, IntKind.bits]; omega
theorem wu8m (e : Int) : IntKind.wrap .u8 e = e % 256 := by
  unfold IntKind.wrap; simp [IntKind.signed, IntKind.bits]
theorem wu64 (e : Int) (h : 0 ≤ e ∧ e ≤ 18446744073709551615) : IntKind.wrap .u64 e = e := by
  unfold IntKind.wrap; simp [IntKind.signed, IntKind.bits]; omega
theorem wu64m (e : Int) : IntKind.wrap .u64 e = e % 18446744073709551616 := by
  unfold IntKind.wrap; simp [IntKind.signed, IntKind.bits]
theorem or128_fin : ∀ n : Fin 256, bitsI .or .u8 (n.val : Int) 128 = 128 + (n.val : Int) % 128 := by decide +kernel
theorem or128 (x : Int) (h : 0 ≤ x ∧ x < 256) : bitsI .or .u8 x 128 = 128 + x % 128 := by
  have := or128_fin ⟨x.toNat, by omega⟩
  simp only [Int.toNat_of_nonneg h.1] at this
  exact this
theorem andNot128_fin : ∀ n : Fin 256, bitsI .andNot .u8 (n.val : Int) 128 = (n.val : Int) % 128 := by decide +kernel
theorem andNot128 (x : Int) (h : 0 ≤ x ∧ x < 256) : bitsI .andNot .u8 x 128 = x % 128 := by
  have := andNot128_fin ⟨x.toNat, by omega⟩
  simp only [Int.toNat_of_nonneg h.1] at this
  exact this
theorem fdiv_pow (u : Int) (h : 0 ≤ u) (n : Nat) : Int.fdiv u (2 ^ n) = ((u.toNat / 2 ^ n : Nat) : Int) := by
  rw [Int.fdiv_eq_ediv_of_nonneg _ (by exact Int.le_of_lt (Int.pow_pos (by decide)))]
  rw [Int.natCast_ediv, Int.toNat_of_nonneg h]
  simp
theorem pow7 (k : Nat) : 2 ^ (7 * k) = 128 ^ k := by rw [Nat.pow_mul]
end Go.Proofs.Ythgeacnemojjgaa
