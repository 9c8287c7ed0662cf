/- What the calls of package code that read things do. -/
import Derived.Test.YthgeacnemojjgaaP
import Derived.Test.YthgeacnemojjgaaT
set_option linter.unusedVariables false
set_option maxRecDepth 20000
set_option linter.unusedSimpArgs false
namespace Go.Proofs.Ythgeacnemojjgaa
open Go Go.Proofs.YthgeacnemojjgaaV
theorem nil_neq : BinIs prog .neq 94 (.tmp 3) (.const (.pointer none)) (.pointer none) (.pointer none) false := fun w => by kernel_rfl
theorem some_neq (b : Nat) : BinIs prog .neq 94 (.tmp 3) (.const (.pointer none)) (.pointer (some ⟨b, 0, none⟩)) (.pointer none) true := fun w => by kernel_rfl
theorem nil_eql : BinIs prog .eql 94 (.tmp 3) (.const (.pointer none)) (.pointer none) (.pointer none) true := fun w => by kernel_rfl
theorem some_eql (b : Nat) : BinIs prog .eql 94 (.tmp 3) (.const (.pointer none)) (.pointer (some ⟨b, 0, none⟩)) (.pointer none) false := fun w => by kernel_rfl
theorem b63 (s : ByteArray) : BuildIs prog 115 #[(0, .string s)] #[.string s, .int .i64 0] := fun w => by kernel_rfl
theorem b65 (x y : Value) : BuildIs prog 117 #[(0, .agg #[x, y])] #[x, y] := fun w => by kernel_rfl

theorem or64 (a b : Nat) (h : 128 * a + b < 2 ^ 64) (hb : b < 128) : bitsI .or .u64 ((128 * a : Nat) : Int) (b : Int) = ((128 * a + b : Nat) : Int) := by
  have e3 : bitsI .or .u64 ((128 * a : Nat) : Int) (b : Int) = IntKind.wrap .u64 (((BitVec.ofInt 64 ((128 * a : Nat) : Int) ||| BitVec.ofInt 64 (b : Int) : BitVec 64).toNat : Nat) : Int) := rfl
  have e1 : BitVec.ofInt 64 ((128 * a : Nat) : Int) = BitVec.ofNat 64 (128 * a) := by rw [BitVec.ofInt_natCast]
  have e2 : BitVec.ofInt 64 (b : Int) = BitVec.ofNat 64 b := by rw [BitVec.ofInt_natCast]
  rw [e3, e1, e2, BitVec.toNat_or, BitVec.toNat_ofNat, BitVec.toNat_ofNat, Nat.mod_eq_of_lt (by omega), Nat.mod_eq_of_lt (by omega)]
  have := Nat.two_pow_add_eq_or_of_lt (i := 7) (b := b) (by omega) a
  rw [show (2 : Nat) ^ 7 = 128 by decide] at this
  rw [← this, wu64 _ (by omega)]
theorem and1 (u : Nat) (h : u < 2 ^ 64) : bitsI .and .u64 (u : Int) 1 = ((u % 2 : Nat) : Int) := by
  have e3 : bitsI .and .u64 (u : Int) 1 = IntKind.wrap .u64 (((BitVec.ofInt 64 (u : Int) &&& BitVec.ofInt 64 1 : BitVec 64).toNat : Nat) : Int) := rfl
  have e1 : BitVec.ofInt 64 (u : Int) = BitVec.ofNat 64 u := by rw [BitVec.ofInt_natCast]
  have e2 : BitVec.ofInt 64 1 = BitVec.ofNat 64 1 := rfl
  rw [e3, e1, e2, BitVec.toNat_and, BitVec.toNat_ofNat, BitVec.toNat_ofNat, Nat.mod_eq_of_lt (by omega), Nat.mod_eq_of_lt (by omega), Nat.and_one_is_mod, wu64 _ (by omega)]

theorem bt_get {s : ByteArray} {k : Nat} (h : k < s.size) : ∃ b, s.data.toList[k]? = some b ∧ bt s (k : Int) = (b.toNat : Int) := by
  refine ⟨s[k], ?_, by simp [bt, h]⟩
  rw [Array.getElem?_toList]; exact Array.getElem?_eq_getElem h
/-- What number tells. -/
def numP (l : List UInt8) : Nat × Nat := (num l).getD (0, 0)

theorem number_calls (w : World) (s : ByteArray) : Calls prog 98 #[.string s] w fun e w' => e = .returned (.tuple #[.int .u64 ((numP s.data.toList).1 : Int), .int .i64 ((numP s.data.toList).2 : Int)]) ∧ w = w' := by
  refine calls_ret (W98 (Q := fun v w' => v = .tuple #[.int .u64 ((numP s.data.toList).1 : Int), .int .i64 ((numP s.data.toList).2 : Int)] ∧ w = w') ?_) (fun v w' ⟨h, h'⟩ => ⟨by rw [h], h'⟩)
  unfold F98
  generalize hL : s.data.toList = l
  have hll : l.length = s.size := by rw [← hL]; exact Array.length_toList
  refine ⟨fun x4 w1 => w = w1 ∧ ∃ k : Nat, x4 = (k : Int) ∧ k ≤ 10 ∧ k ≤ s.size ∧ (∀ j, j < k → ∃ b, l[j]? = some b ∧ 128 ≤ b.toNat) ∧ (k = 10 ∨ k = s.size ∨ ∃ b, l[k]? = some b ∧ b.toNat < 128), ?_, ?_⟩
  · refine ⟨fun n x4 w1 => w = w1 ∧ ∃ k : Nat, x4 = (k : Int) ∧ n = 10 - k ∧ k ≤ 10 ∧ k ≤ s.size ∧ (∀ j, j < k → ∃ b, l[j]? = some b ∧ 128 ≤ b.toNat), 10, ⟨rfl, 0, rfl, rfl, by omega, by omega, by omega⟩, ?_⟩
    rintro n - x4 w1 ⟨rfl, k, rfl, rfl, hk10, hks, hall⟩
    refine IfB.intro (fun h0 => ?_) (fun h0 => ?_)
    · have h := of_decide_eq_true h0
      have hk : k < 10 ∧ k < s.size := by split at h <;> omega
      obtain ⟨b, hb, hbt⟩ := bt_get hk.2
      rw [hL] at hb
      refine ⟨by omega, by omega, ?_⟩
      rw [hbt]
      refine IfB.intro (fun h1 => ?_) (fun h1 => ?_)
      · have h1' := of_decide_eq_true h1
        refine ⟨10 - (k + 1), by omega, rfl, k + 1, by rw [wi _ (by omega)]; omega, rfl, by omega, by omega, fun j hj => ?_⟩
        by_cases hjk : j = k
        · subst hjk; exact ⟨b, hb, by omega⟩
        · exact hall j (by omega)
      · have h1' := of_decide_eq_false h1
        exact ⟨rfl, k, rfl, hk10, hks, hall, .inr (.inr ⟨b, hb, by omega⟩)⟩
    · have h := of_decide_eq_false h0
      refine ⟨rfl, k, rfl, hk10, hks, hall, ?_⟩
      by_cases hs : k = s.size
      · exact .inr (.inl hs)
      · left; split at h <;> omega
  rintro u x4 w1 ⟨rfl, k, rfl, hk10, hks, hall, hend⟩
  refine ⟨fun v w1 => w = w1 ∧ (v = true → num l = none) ∧ (v = false → k < s.size ∧ k < 10 ∧ lead l = k ∧ val (l.take (k + 1)) < 2 ^ 64), ?_, ?_⟩
  · have no : ∀ {w1 : World}, w = w1 → num l = none → (w = w1 ∧ (true = true → num l = none) ∧ (true = false → k < s.size ∧ k < 10 ∧ lead l = k ∧ val (l.take (k + 1)) < 2 ^ 64)) := fun h1 h2 => ⟨h1, fun _ => h2, by simp⟩
    refine IfB.intro (fun h0 => ?_) (fun h0 => ?_)
    · have h := of_decide_eq_true h0
      have hks' : k = s.size := by omega
      have hl : lead l = k := lead_spec l k (by omega) hall (.inl (by omega))
      refine no rfl ?_
      unfold num
      simp only
      rw [if_neg (by omega)]
    · have h := of_decide_eq_false h0
      refine IfB.intro (fun h1 => ?_) (fun h1 => ?_)
      · have hk : k = 10 := by have := eq_of_beq h1; omega
        refine no rfl ?_
        have h10 : 10 ≤ lead l := by
          have key : ∀ (l : List UInt8) (m : Nat), (∀ j, j < m → ∃ b, l[j]? = some b ∧ 128 ≤ b.toNat) → m ≤ lead l := by
            intro l
            induction l with
            | nil =>
              intro m hm
              cases m with
              | zero => omega
              | succ m => obtain ⟨b, hb, _⟩ := hm 0 (by omega); simp at hb
            | cons b r ih =>
              intro m hm
              cases m with
              | zero => omega
              | succ m =>
                obtain ⟨c, hc, hge⟩ := hm 0 (by omega)
                simp only [List.getElem?_cons_zero, Option.some.injEq] at hc
                subst hc
                unfold lead
                rw [if_pos hge]
                have := ih m (fun j hj => by simpa using hm (j + 1) (by omega))
                omega
          exact key l 10 (by rw [← hk]; exact hall)
        unfold num
        simp only
        rw [if_neg]
        rintro ⟨_, h2, h3⟩
        have := gb_le _ h2
        omega
      · have hk : ¬ k = 10 := by have := ne_of_beq_false h1; omega
        have hend' : ∃ b, l[k]? = some b ∧ b.toNat < 128 := by
          rcases hend with h | h | h
          · omega
          · omega
          · exact h
        have hl : lead l = k := lead_spec l k (by omega) hall (.inr hend')
        refine IfB.intro (fun h2 => ?_) (fun h2 => ?_)
        · have hk9 : k = 9 := by have := eq_of_beq h2; omega
          subst hk9
          obtain ⟨b, hb, hbt⟩ := bt_get (s := s) (k := 9) (by omega)
          rw [hL] at hb
          have hv : val (l.take (9 + 1)) = val (l.take 9) + 128 ^ 9 * (b.toNat % 128) := by
            rw [List.take_add_one, hb, val_append]
            have : (l.take 9).length = 9 := by rw [List.length_take]; omega
            rw [this]; simp [val]
          have hlt := val_lt (l.take 9)
          have h9 : (l.take 9).length = 9 := by rw [List.length_take]; omega
          rw [h9] at hlt
          have e9 : 128 ^ 9 = 9223372036854775808 := by decide
          rw [e9] at hv hlt
          obtain ⟨b', hb', hlt'⟩ := hend'
          rw [hb] at hb'; cases hb'
          refine ⟨by omega, by omega, ?_⟩
          have hbt' : bt s 9 = (b.toNat : Int) := hbt
          have hx : ((9 : Nat) : Int) = 9 := rfl
          rw [hbt]
          by_cases hb1 : b.toNat > 1
          · rw [decide_eq_true (show ((b.toNat : Nat) : Int) > 1 by omega)]
            refine no rfl ?_
            unfold num
            simp only [hl]
            rw [if_neg]
            rintro ⟨_, h2, _⟩
            rw [hv] at h2
            omega
          · rw [decide_eq_false (show ¬ ((b.toNat : Nat) : Int) > 1 by omega)]
            exact ⟨rfl, by simp, fun _ => ⟨by omega, by omega, hl, by rw [hv]; omega⟩⟩
        · have hk9 : ¬ k = 9 := by have := ne_of_beq_false h2; omega
          refine ⟨rfl, by simp, fun _ => ⟨by omega, by omega, hl, ?_⟩⟩
          have hlt := val_lt (l.take (k + 1))
          have h9 : (l.take (k + 1)).length = k + 1 := by rw [List.length_take]; omega
          rw [h9] at hlt
          have : 128 ^ (k + 1) ≤ 128 ^ 9 := Nat.pow_le_pow_right (by omega) (by omega)
          have e9 : 128 ^ 9 = 9223372036854775808 := by decide
          omega
  · rintro u1 x37 w1 ⟨rfl, h1, h2⟩
    have none0 : num l = none → (Value.tuple #[.int .u64 0, .int .i64 0]) = .tuple #[.int .u64 ((numP l).1 : Int), .int .i64 ((numP l).2 : Int)] := by
      intro h; unfold numP; rw [h]; rfl
    refine IfB.intro (fun h0 => ⟨none0 (h1 h0), rfl⟩) (fun h0 => ?_)
    obtain ⟨hks', hk10', hlead, hval⟩ := h2 h0
    refine ⟨fun n x5 x6 w1 => w = w1 ∧ ∃ m : Nat, x6 = (m : Int) - 1 ∧ n = m ∧ m ≤ k + 1 ∧ x5 = (val ((l.take (k + 1)).drop m) : Int), k + 1, ⟨rfl, k + 1, by omega, rfl, by omega, ?_⟩, ?_⟩
    · rw [List.drop_eq_nil_of_le (by rw [List.length_take]; omega)]; rfl
    rintro n u2 x5 x6 w1 ⟨rfl, m, rfl, hnm, hm, rfl⟩
    have htl : (l.take (k + 1)).length = k + 1 := by rw [List.length_take]; omega
    refine IfB.intro (fun h3 => ?_) (fun h3 => ?_)
    · have h3' := of_decide_eq_true h3
      obtain ⟨j, rfl⟩ : ∃ j, m = j + 1 := ⟨m - 1, by omega⟩
      have hj : ((j + 1 : Nat) : Int) - 1 = (j : Int) := by omega
      rw [hj]
      obtain ⟨b, hb, hbt⟩ := bt_get (s := s) (k := j) (by omega)
      rw [hL] at hb
      have hlt := b.toNat_lt
      have hdrop : (l.take (k + 1)).drop j = b :: (l.take (k + 1)).drop (j + 1) := by
        have hj2 : j < (l.take (k + 1)).length := by omega
        rw [List.drop_eq_getElem_cons hj2]
        congr 1
        rw [List.getElem_take]
        have := List.getElem?_eq_some_iff.1 hb
        exact this.2
      have hv : val ((l.take (k + 1)).drop j) = b.toNat % 128 + 128 * val ((l.take (k + 1)).drop (j + 1)) := by rw [hdrop]; rfl
      have hvle : val ((l.take (k + 1)).drop j) ≤ val (l.take (k + 1)) := by
        have := val_append ((l.take (k + 1)).take j) ((l.take (k + 1)).drop j)
        rw [List.take_append_drop] at this
        have h128 : 0 < 128 ^ ((l.take (k + 1)).take j).length := Nat.pow_pos (by omega)
        have := Nat.le_mul_of_pos_left (val ((l.take (k + 1)).drop j)) h128
        omega
      refine ⟨by omega, by omega, by omega, j, by omega, rfl, j, by rw [wi _ (by omega)], rfl, by omega, ?_⟩
      rw [hbt, andNot128 _ (by omega)]
      have hp : (2 : Int) ^ (min 7 64) = 128 := by decide
      rw [hp]
      have e1 : IntKind.wrap .u64 ((val ((l.take (k + 1)).drop (j + 1)) : Int) * 128) = ((128 * val ((l.take (k + 1)).drop (j + 1)) : Nat) : Int) := by rw [wu64 _ (by omega)]; omega
      have e2 : IntKind.wrap .u64 ((b.toNat : Int) % 128) = ((b.toNat % 128 : Nat) : Int) := by rw [wu64 _ (by omega)]; omega
      rw [e1, e2, or64 _ _ (by omega) (by omega), hv]
      omega
    · have h3' := of_decide_eq_false h3
      have hm0 : m = 0 := by omega
      subst hm0
      rw [List.drop_zero]
      refine (groups_calls _ w (by omega) (by omega)).mono ?_
      rintro _ _ ⟨rfl, rfl⟩
      rw [Int.toNat_natCast, wi (((k : Nat) : Int) + 1) (by omega)]
      refine ⟨_, rfl, IfB.intro (fun h4 => ⟨none0 ?_, rfl⟩) (fun h4 => ⟨?_, rfl⟩)⟩
      · unfold num
        simp only [hlead]
        rw [if_neg]
        rintro ⟨_, _, h⟩
        rw [h] at h4
        simp at h4
      · have he : (((gb (val (l.take (k + 1)))).length : Nat) : Int) = (k : Int) + 1 := by simpa using h4
        have hn : num l = some (val (l.take (k + 1)), k + 1) := by
          unfold num
          simp only [hlead]
          rw [if_pos ⟨by omega, hval, by omega⟩]
        unfold numP
        rw [hn]
        rfl

def cntP (l : List UInt8) (m : Int) : Nat × Nat := (cnt l m).getD (0, 0)
theorem within_calls (w : World) (s : ByteArray) (m : Int) : Calls prog 84 #[.string s, .int .i64 m] w fun e w' => e = .returned (.tuple #[.int .i64 ((cntP s.data.toList m).1 : Int), .int .i64 ((cntP s.data.toList m).2 : Int)]) ∧ w = w' := by
  refine calls_ret (W84 (Q := fun v w' => v = .tuple #[.int .i64 ((cntP s.data.toList m).1 : Int), .int .i64 ((cntP s.data.toList m).2 : Int)] ∧ w = w') ?_) (fun v w' ⟨h, h'⟩ => ⟨by rw [h], h'⟩)
  unfold F84
  refine (number_calls w s).mono ?_
  rintro _ _ ⟨rfl, rfl⟩
  refine ⟨_, _, rfl, ?_⟩
  generalize s.data.toList = l
  cases hn : num l with
  | none =>
    have e : numP l = (0, 0) := by unfold numP; rw [hn]; rfl
    have e2 : cntP l m = (0, 0) := by unfold cntP cnt; rw [hn]; rfl
    rw [e, e2]
    refine IfB.intro (fun h => ⟨rfl, rfl⟩) (fun h => IfB.intro (fun h => ⟨rfl, rfl⟩) (fun h => ⟨?_, rfl⟩))
    rw [wi _ (by decide)]
  | some p =>
    obtain ⟨u, n⟩ := p
    have e : numP l = (u, n) := by unfold numP; rw [hn]; rfl
    rw [e]
    have e2 : cntP l m = if u > 2147483647 ∨ (u : Int) > m then (0, 0) else (u, n) := by
      unfold cntP cnt; rw [hn]; simp only; split <;> rfl
    rw [e2]
    refine IfB.intro (fun h => ?_) (fun h => ?_)
    · have := of_decide_eq_true h
      rw [if_pos (.inl (by simp only at this; omega))]; exact ⟨rfl, rfl⟩
    · have h' := of_decide_eq_false h
      simp only at h'
      rw [wi _ (by simp only; omega)]
      refine IfB.intro (fun h => ?_) (fun h => ?_)
      · have := of_decide_eq_true h
        rw [if_pos (.inr (by simpa using this))]; exact ⟨rfl, rfl⟩
      · have := of_decide_eq_false h
        rw [if_neg (by simp only at this; omega)]; exact ⟨rfl, rfl⟩
end Go.Proofs.Ythgeacnemojjgaa
