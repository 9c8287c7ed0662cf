/- The law CodeSizes walked: it returns true, and turns nothing that was there. -/
import Derived.Test.YtmkennapbebbmaaX
set_option linter.unusedVariables false
set_option linter.unusedSimpArgs false
namespace Go.Proofs.Ytmkennapbebbmaa
open Go Go.Proofs.YtmkennapbebbmaaV
theorem trN {a b c : World} (h : Frm none_ a b) (k : Frm none_ b c) : Frm none_ a c := h.trans k (fun _ _ h => h) (fun _ _ h => h)
theorem andMax (n : Int) : 0 ≤ bitsI .and .i64 n 2147483647 ∧ bitsI .and .i64 n 2147483647 ≤ 2147483647 := by
  have e3 : bitsI .and .i64 n 2147483647 = IntKind.wrap .i64 (((BitVec.ofInt 64 n &&& BitVec.ofInt 64 2147483647 : BitVec 64).toNat : Nat) : Int) := rfl
  have e2 : (BitVec.ofInt 64 2147483647).toNat = 2147483647 := rfl
  have : (BitVec.ofInt 64 n &&& BitVec.ofInt 64 2147483647 : BitVec 64).toNat ≤ 2147483647 := by
    rw [BitVec.toNat_and, e2]; exact Nat.and_le_right
  rw [e3, wi _ (by omega)]
  omega
theorem nilHas (w : World) : Has w ⟨none, 0, 0⟩ 1 (bv []) := Has.nil _ _ _ rfl
theorem rowLen {w : World} {r : Sl} {bs : List UInt8} (h : Row w r 5 1 (bv bs)) : r.l = bs.length := by have := h.len; rw [bv_length] at this; omega

theorem sizes_calls (w : World) (n m : Int) (s : ByteArray) (n0 : -9223372036854775808 ≤ n) (n1 : n ≤ 9223372036854775807) (m0 : -9223372036854775808 ≤ m) (m1 : m ≤ 9223372036854775807) :
    Calls prog 7 #[.int .i64 n, .int .i64 m, .string s] w fun e w' => e = .returned (.bool true) ∧ Frm none_ w w' := by
  refine calls_ret (W7 (Q := fun v w' => v = .bool true ∧ Frm none_ w w') ?_) (fun v w' ⟨h, h'⟩ => ⟨by rw [h], h'⟩)
  unfold F7
  refine ⟨fun v w' => Frm none_ w w' ∧ (v = false → s.size ≤ 100000), ?_, ?_⟩
  · refine (works_calls w).mono ?_
    rintro _ w1 ⟨rfl, hm⟩
    exact ⟨true, rfl, IfB.f rfl ⟨hm, fun h => by have := of_decide_eq_false h; omega⟩⟩
  rintro u x17 w1 ⟨hm1, hv⟩
  refine IfB.intro (fun h => ?_) (fun h => ?_)
  · refine (works_calls w1).mono ?_
    rintro _ w2 ⟨rfl, hm⟩
    exact ⟨true, rfl, rfl, trN hm1 hm⟩
  have hs := hv h
  refine (num_calls w1 ⟨none, 0, 0⟩ [] n (nilHas _) n0 n1 (by simp)).mono ?_
  rintro _ w2 ⟨ra, rfl, hra, _, hm2⟩
  have hla := rowLen hra
  refine ⟨ra, rfl, (num_calls w2 ⟨none, 0, 0⟩ [] m (nilHas _) m0 m1 (by simp)).mono ?_⟩
  rintro _ w3 ⟨rb, rfl, hrb, _, hm3⟩
  have hlb := rowLen hrb
  rw [List.nil_append] at hla hlb
  have f3 := trN (trN hm1 hm2) hm3
  refine ⟨rb, rfl, fun v w' => Frm none_ w w' ∧ v = false, ?_, ?_⟩
  · refine ⟨_, bool_eql _ _ _ _, IfB.intro (fun h1 => ?_) (fun h1 => ⟨f3, rfl⟩)⟩
    have h1 : (n < 0 ↔ m < 0) := by simpa using h1
    have second : ∃ b53 : Bool, BinIs prog .eql 4 (.tmp 49) (.tmp 52) (.bool (decide (n < (0 : Int)))) (.bool (decide (m > n))) b53 ∧
        IfB b53 (IfB (n != m) (Frm none_ w w3 ∧ decide (((rb.l : Nat) : Int) > ((ra.l : Nat) : Int)) = false) (Frm none_ w w3 ∧ false = false)) (Frm none_ w w3 ∧ false = false) := by
      refine ⟨_, bool_eql _ _ _ _, IfB.intro (fun h2 => ?_) (fun h2 => ⟨f3, rfl⟩)⟩
      refine IfB.intro (fun h3 => ⟨f3, ?_⟩) (fun h3 => ⟨f3, rfl⟩)
      have h2 : (n < 0 ↔ m > n) := by simpa using h2
      have h3 : n ≠ m := by simpa using h3
      apply decide_eq_false
      have := gb_mono (zz n) (zz m) (by unfold zz; split <;> split <;> omega)
      omega
    refine ⟨_, bool_eql _ _ _ _, IfB.intro (fun h2 => ?_) (fun h2 => second)⟩
    refine IfB.intro (fun h3 => ?_) (fun h3 => second)
    have h2 : (n < 0 ↔ n > m) := by simpa using h2
    have h3 : n ≠ m := by simpa using h3
    refine IfB.intro (fun h4 => ?_) (fun h4 => second)
    have h4 := of_decide_eq_true h4
    exfalso
    have := gb_mono (zz m) (zz n) (by unfold zz; split <;> split <;> omega)
    omega
  rintro u1 x65 w4 ⟨hm4, rfl⟩
  refine IfB.f rfl ?_
  obtain ⟨hc0, hc1⟩ := andMax n
  generalize bitsI .and .i64 n 2147483647 = c at hc0 hc1
  have hcb : cb c = gb c.toNat := by rw [cb, if_neg (by omega)]
  refine (count_calls w4 ⟨none, 0, 0⟩ [] c (nilHas _) (by simp)).mono ?_
  rintro _ w5 ⟨rk, rfl, hrk, _, hm5⟩
  have hlk := rowLen hrk
  rw [List.nil_append, hcb] at hlk
  have p1 := gb_pos (zz n)
  have p2 := gb_le (zz n) (zz_lt n0 n1)
  have p3 := gb_pos c.toNat
  have p4 := gb_len5 (u := c.toNat) (by omega)
  refine ⟨rk, rfl, IfB.t (decide_eq_true (by omega)) (IfB.t (decide_eq_true (by omega)) (IfB.t (decide_eq_true (by omega)) (IfB.t (decide_eq_true (by omega)) ?_)))⟩
  refine (num_calls w5 ⟨none, 0, 0⟩ [] c (nilHas _) (by omega) (by omega) (by simp)).mono ?_
  rintro _ w6 ⟨rl, rfl, hrl, _, hm6⟩
  have hll := rowLen hrl
  rw [List.nil_append] at hll
  have p5 := gb_mono (zz c) c.toNat (by unfold zz; split <;> omega)
  refine ⟨rl, rfl, IfB.t (decide_eq_true (by omega)) ?_⟩
  refine (str_calls w6 ⟨none, 0, 0⟩ [] s (nilHas _) (by simp)).mono ?_
  rintro _ w7 ⟨rs, rfl, hrs, _, hm7⟩
  have hls := rowLen hrs
  refine ⟨rs, rfl, (count_calls w7 ⟨none, 0, 0⟩ [] (s.size : Int) (nilHas _) (by simp)).mono ?_⟩
  rintro _ w8 ⟨rt, rfl, hrt, _, hm8⟩
  have hlt := rowLen hrt
  have hsl : s.data.toList.length = s.size := Array.length_toList
  rw [List.nil_append, sb, if_neg (by omega), List.length_append] at hls
  rw [List.nil_append, cb, if_neg (by omega), Int.toNat_natCast] at hlt
  have p6 := gb_len5 (u := s.size) (by omega)
  refine ⟨rt, rfl, IfB.t (by rw [wi _ (by omega), beq_iff_eq]; omega) ?_⟩
  refine (flag_calls w8 ⟨none, 0, 0⟩ [] _ (nilHas _) (by simp)).mono ?_
  rintro _ w9 ⟨rf, rfl, hrf, _, hm9⟩
  have hlf := rowLen hrf
  have hfb : ∀ v, (fb v).length = 1 := by intro v; cases v <;> rfl
  rw [List.nil_append, hfb] at hlf
  refine ⟨rf, rfl, ?_, trN (trN (trN (trN (trN hm4 hm5) hm6) hm7) hm8) hm9⟩
  rw [hlf]; rfl
theorem sizes_law (W : World) (n : Int) (hn : -9223372036854775808 ≤ n ∧ n ≤ 9223372036854775807) (m : Int) (hm : -9223372036854775808 ≤ m ∧ m ≤ 9223372036854775807) (s : ByteArray) (hs : s.size ≤ 140737488351232) :
    Calls prog 7 #[.int .i64 n, .int .i64 m, .string s] W fun e w' => e = .returned (.bool true) ∧ Frm none_ W w' := sizes_calls W n m s hn.1 hn.2 hm.1 hm.2
end Go.Proofs.Ytmkennapbebbmaa
