/- The plain law of numbers in groups: what stands at the head of a list of bytes. -/
import Derived.Test.YthgeacnemojjgaaL
set_option linter.unusedVariables false
set_option maxRecDepth 20000
set_option linter.unusedSimpArgs false
namespace Go.Proofs.Ythgeacnemojjgaa
open Go Go.Proofs.YthgeacnemojjgaaV

/-- What bytes stand for, the lowest group first. -/
def val : List UInt8 → Nat
  | [] => 0
  | b :: r => b.toNat % 128 + 128 * val r
/-- How many bytes at the head say that more follows. -/
def lead : List UInt8 → Nat
  | [] => 0
  | b :: r => if 128 ≤ b.toNat then lead r + 1 else 0
theorem lead_le (l : List UInt8) : lead l ≤ l.length := by
  induction l with
  | nil => simp [lead]
  | cons b r ih => unfold lead; split <;> simp <;> omega
theorem lead_spec (l : List UInt8) (k : Nat) (hk : k ≤ l.length) (h1 : ∀ j, j < k → ∃ b, l[j]? = some b ∧ 128 ≤ b.toNat) (h2 : k = l.length ∨ ∃ b, l[k]? = some b ∧ b.toNat < 128) : lead l = k := by
  induction l generalizing k with
  | nil => simp at hk; subst hk; rfl
  | cons b r ih =>
    cases k with
    | zero =>
      rcases h2 with h | ⟨c, hc, hlt⟩
      · simp at h
      · simp only [List.getElem?_cons_zero, Option.some.injEq] at hc
        subst hc
        unfold lead
        rw [if_neg (by omega)]
    | succ k =>
      obtain ⟨c, hc, hge⟩ := h1 0 (by omega)
      simp only [List.getElem?_cons_zero, Option.some.injEq] at hc
      subst hc
      unfold lead
      rw [if_pos hge, ih k (by simpa using hk) (fun j hj => by simpa using h1 (j + 1) (by omega)) (by simpa using h2)]
theorem val_append (l m : List UInt8) : val (l ++ m) = val l + 128 ^ l.length * val m := by
  induction l with
  | nil => simp [val]
  | cons b r ih =>
    simp only [List.cons_append, val, ih, List.length_cons, Nat.pow_succ, Nat.mul_add]
    rw [show 128 ^ r.length * 128 * val m = 128 * (128 ^ r.length * val m) by rw [Nat.mul_comm (128 ^ r.length) 128, Nat.mul_assoc]]
    omega
theorem val_lt (l : List UInt8) : val l < 128 ^ l.length := by
  induction l with
  | nil => simp [val]
  | cons b r ih =>
    simp only [val, List.length_cons, Nat.pow_succ]
    have := Nat.mod_lt b.toNat (show 0 < 128 by omega)
    omega
theorem val_gb (u : Nat) : val (gb u) = u := by
  induction u using Nat.strongRecOn with
  | _ u ih =>
    by_cases h : u < 128
    · rw [gb_small h]
      simp only [val, u8_ofNat _ (show u < 256 by omega)]
      omega
    · rw [gb_big (by omega)]
      simp only [val, u8_ofNat _ (show 128 + u % 128 < 256 by omega), ih (u / 128) (by omega)]
      omega
theorem lead_gb (u : Nat) (t : List UInt8) : lead (gb u ++ t) + 1 = (gb u).length := by
  induction u using Nat.strongRecOn with
  | _ u ih =>
    by_cases h : u < 128
    · rw [gb_small h]
      simp only [List.cons_append, List.nil_append, lead, u8_ofNat _ (show u < 256 by omega)]
      rw [if_neg (by omega)]
      rfl
    · rw [gb_big (by omega)]
      simp only [List.cons_append, lead, u8_ofNat _ (show 128 + u % 128 < 256 by omega)]
      rw [if_pos (by omega), ih (u / 128) (by omega)]
      rfl
/-- Bytes of which all but the last say that more follows, and as many as their number has: they are its. -/
theorem gb_val (l : List UInt8) : ∀ (k : Nat), l.length = k + 1 → lead l = k → (gb (val l)).length = k + 1 → gb (val l) = l := by
  induction l with
  | nil => intro k h; simp at h
  | cons b r ih =>
    intro k hl hk hg
    unfold lead at hk
    by_cases hb : 128 ≤ b.toNat
    · rw [if_pos hb] at hk
      have hlt := b.toNat_lt
      by_cases hv : val (b :: r) < 128
      · rw [gb_small hv] at hg
        simp only [List.length_cons, List.length_nil] at hg
        omega
      · rw [gb_big (by omega)] at hg ⊢
        simp only [val] at hg hv ⊢
        have hd : (b.toNat % 128 + 128 * val r) / 128 = val r := by omega
        have hm : 128 + (b.toNat % 128 + 128 * val r) % 128 = b.toNat := by omega
        rw [hd] at hg ⊢
        rw [hm]
        simp only [List.length_cons] at hg hl
        rw [ih (k - 1) (by omega) (by omega) (by omega), UInt8.ofNat_toNat]
    · rw [if_neg hb] at hk
      subst hk
      have hr : r = [] := List.eq_nil_of_length_eq_zero (by simpa using hl)
      subst hr
      simp only [val]
      rw [gb_small (by omega), show b.toNat % 128 + 128 * 0 = b.toNat by omega, UInt8.ofNat_toNat]

/-- The number that stands at the head of bytes, and of how many bytes it is. -/
def num (l : List UInt8) : Option (Nat × Nat) :=
  let u := val (l.take (lead l + 1))
  if lead l < l.length ∧ u < 2 ^ 64 ∧ (gb u).length = lead l + 1 then some (u, lead l + 1) else none
theorem num_some {l : List UInt8} {u n : Nat} (h : num l = some (u, n)) : u < 2 ^ 64 ∧ n = (gb u).length ∧ l = gb u ++ l.drop n := by
  unfold num at h
  simp only at h
  split at h
  · rename_i hc
    simp only [Option.some.injEq, Prod.mk.injEq] at h
    obtain ⟨rfl, rfl⟩ := h
    obtain ⟨h1, h2, h3⟩ := hc
    refine ⟨h2, h3.symm, ?_⟩
    have hlen : (l.take (lead l + 1)).length = lead l + 1 := by rw [List.length_take]; omega
    have hlead : lead (l.take (lead l + 1)) = lead l := by
      have := lead_le l
      clear h2 h3 hlen
      have key : ∀ (l : List UInt8), lead l < l.length → lead (l.take (lead l + 1)) = lead l := by
        intro l
        induction l with
        | nil => simp
        | cons b r ih =>
          intro h
          by_cases hb : 128 ≤ b.toNat
          · have e : lead (b :: r) = lead r + 1 := by rw [lead, if_pos hb]
            rw [e] at h ⊢
            rw [List.take_succ_cons, lead, if_pos hb, ih (by simpa using h)]
          · have e : lead (b :: r) = 0 := by rw [lead, if_neg hb]
            rw [e, List.take_succ_cons, lead, if_neg hb]
      exact key l h1
    rw [gb_val _ (lead l) hlen hlead h3, List.take_append_drop]
  · cases h
theorem num_gb {u : Nat} (h : u < 2 ^ 64) (t : List UInt8) : num (gb u ++ t) = some (u, (gb u).length) := by
  unfold num
  have h1 := lead_gb u t
  simp only [h1]
  rw [List.take_left, val_gb]
  rw [if_pos ⟨by rw [List.length_append]; omega, h, rfl⟩]
theorem num_none {l : List UInt8} (h : num l = none) : ∀ u t, u < 2 ^ 64 → l ≠ gb u ++ t := by
  intro u t hu he
  rw [he, num_gb hu] at h
  cases h
theorem num_iff (l : List UInt8) (u n : Nat) : num l = some (u, n) ↔ u < 2 ^ 64 ∧ n = (gb u).length ∧ l.take n = gb u := by
  constructor
  · intro h
    obtain ⟨h1, h2, h3⟩ := num_some h
    refine ⟨h1, h2, ?_⟩
    rw [h3, h2, List.take_left]
  · rintro ⟨h1, rfl, h3⟩
    have := List.take_append_drop (gb u).length l
    rw [h3] at this
    rw [← this]
    exact num_gb h1 _
theorem num_le {l : List UInt8} {u n : Nat} (h : num l = some (u, n)) : 1 ≤ n ∧ n ≤ 10 ∧ n ≤ l.length := by
  obtain ⟨h1, h2, h3⟩ := num_some h
  have := gb_pos u
  have := gb_le u h1
  have hl := congrArg List.length h3
  rw [List.length_append, List.length_drop] at hl
  omega

/-- What a number tells. -/
def uz (u : Nat) : Int := if u % 2 = 1 then -((u / 2 : Nat) : Int) - 1 else ((u / 2 : Nat) : Int)

/-! ### What a reader is, in plain words: what is left, or that it has failed -/
abbrev Rd := Option (List UInt8)
def numR : Rd → Int × Rd
  | none => (0, none)
  | some l => match num l with
    | some (u, n) => (uz u, some (l.drop n))
    | none => (0, none)
/-- A count of the head of bytes, and of how many bytes it is. -/
def cnt (l : List UInt8) (m : Int) : Option (Nat × Nat) := match num l with
  | some (u, n) => if u > 2147483647 ∨ (u : Int) > m then none else some (u, n)
  | none => none
def countR (m : Int) : Rd → Int × Rd
  | none => (0, none)
  | some l => match cnt l m with
    | some (u, n) => ((u : Int), some (l.drop n))
    | none => (0, none)
def strR (m : Int) : Rd → List UInt8 × Rd
  | none => ([], none)
  | some l => match cnt l m with
    | some (u, n) => if n + u ≤ l.length then ((l.drop n).take u, some (l.drop (n + u))) else ([], none)
    | none => ([], none)
def flagR (r : Rd) : Bool × Rd := ((countR 1 r).1 == 1, (countR 1 r).2)
def okR (r : Rd) : Bool := r.isSome
def leftR : Rd → Nat
  | none => 0
  | some l => l.length
def doneR (r : Rd) : Bool := r == some []
theorem cnt_num {l : List UInt8} {m : Int} {u n : Nat} (h : cnt l m = some (u, n)) : num l = some (u, n) ∧ u ≤ 2147483647 ∧ (u : Int) ≤ m := by
  unfold cnt at h
  split at h
  · rename_i u' n' he
    split at h
    · cases h
    · cases h
      exact ⟨he, by omega, by omega⟩
  · cases h
end Go.Proofs.Ythgeacnemojjgaa
