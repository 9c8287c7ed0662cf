/- What the calls of package code that lay things do. -/
import Derived.Test.YthgeacnemojjgaaL
import Derived.Test.YthgeacnemojjgaaF
import Derived.Test.YthgeacnemojjgaaShelf
set_option linter.unusedVariables false
set_option maxRecDepth 20000
set_option linter.unusedSimpArgs false
namespace Go.Proofs.Ythgeacnemojjgaa
open Go Go.Proofs.YthgeacnemojjgaaV

theorem st22 : SlT prog 31 5 1 1 (.int .u8 0) := ⟨by kernel_rfl, by kernel_rfl, rfl, by decide⟩
theorem un9 : prog.underlying 9 = some .string := by kernel_rfl
theorem un5 : prog.underlying 5 = some (.int .u8) := by kernel_rfl
theorem un22 : prog.underlying 31 = some (.slice 5) := by kernel_rfl

/-- From a proved weakest precondition to the contract's own form. -/
theorem calls_ret {P : Program} {f : FuncId} {args : Array Value} {w : World} {R : Value → World → Prop} {R' : Ending → World → Prop} (h : Calls P f args w fun en w' => ∃ v, en = .returned v ∧ R v w')
    (hr : ∀ v w', R v w' → R' (.returned v) w') : Calls P f args w R' := h.mono fun en w' ⟨v, he, hR⟩ => by subst he; exact hr v w' hR

theorem groups_calls (u : Int) (w : World) (h0 : 0 ≤ u) (h1 : u ≤ 18446744073709551615) :
    Calls prog 95 #[.int .u64 u] w fun e w' => e = .returned (.int .i64 ((gb u.toNat).length : Int)) ∧ w = w' := by
  refine calls_ret (W95 (Q := fun v w' => v = .int .i64 ((gb u.toNat).length : Int) ∧ w = w') ?_) (fun v w' ⟨h, h'⟩ => ⟨by rw [h], h'⟩)
  unfold F95
  refine (Try.bits_Len64 u w h0 h1).mono ?_
  rintro _ _ ⟨rfl, rfl⟩
  have hl := gb_length u.toNat (by omega)
  have hle := gb_le u.toNat (by omega)
  refine ⟨_, rfl, by decide, ?_, rfl⟩
  have hb : Lib.bitLen u.toNat ≤ 70 := by omega
  rw [wi (_ + 7) (by omega), wi (_ - 1) (by omega)]
  have hd : Int.tdiv (((Lib.bitLen u.toNat : Nat) : Int) + 7 - 1) 7 = (((Lib.bitLen u.toNat + 6) / 7 : Nat) : Int) := by
    rw [Int.tdiv_eq_ediv_of_nonneg (by omega)]; omega
  rw [hd, wi _ (by omega), hl]
  congr 1
  split <;> omega

/-- lay: the bytes that were there, a number's groups, a text's bytes, in room of their own. -/
theorem lay_calls (w : World) (b : Sl) (lb : List UInt8) (u : Int) (s : ByteArray) (hb : Has w b 1 (bv lb)) (h0 : 0 ≤ u) (h1 : u ≤ 18446744073709551615) (hsz : b.l + s.size ≤ 100000000000000) :
    Calls prog 81 #[.slice b.a b.l b.c, .int .u64 u, .string s] w fun e w' => ∃ r : Sl, e = .returned (.slice r.a r.l r.c) ∧ Row w' r 5 1 (bv (lb ++ gb u.toNat ++ s.data.toList)) ∧
      (∃ k, r.blk = some k ∧ w.heap.size ≤ k) ∧ Frm none_ w w' := by
  refine calls_ret (W81 (Q := fun v w' => ∃ r : Sl, v = .slice r.a r.l r.c ∧ Row w' r 5 1 (bv (lb ++ gb u.toNat ++ s.data.toList)) ∧ (∃ k, r.blk = some k ∧ w.heap.size ≤ k) ∧ Frm none_ w w') ?_)
    (fun v w' ⟨r, hv, h⟩ => ⟨r, by rw [hv], h⟩)
  have hgl := gb_le u.toNat (by omega)
  have hg1 := gb_pos u.toNat
  have hbl : lb.length = b.l := by have := hb.len; rw [bv_length] at this; omega
  unfold F81
  refine (groups_calls u w h0 h1).mono ?_
  rintro _ _ ⟨rfl, rfl⟩
  refine ⟨_, rfl, ?_⟩
  rw [wi (_ + ((gb u.toNat).length : Int)) (by omega), wi _ (by omega)]
  refine runT_make0 st22 (by omega) (by omega) (by omega) ?_
  intro t20 w1 hr1 hl1 hk1 hm1 hs1
  refine runT_append st22 hr1 (hb.mod hm1 (fun _ _ h => h)) (bv_one lb) (by omega) (by simp only [maxLen]; omega) ?_
  intro t23 w2 hr2 hl2 hn2 hm2
  rw [List.nil_append] at hr2
  have hk2 : ∃ k, t23.blk = some k ∧ w.heap.size ≤ k := by
    rcases hn2 with h | h
    · exact ⟨_, h.trans hk1, Nat.le_refl _⟩
    · exact ⟨_, h, hm1.size⟩
  have hM2 : Frm none_ w w2 := hm1.trans hm2 (fun _ _ h => h) (fun x hx hf => by rw [hk1] at hf; simp at hf; omega)
  refine ⟨fun n x8 x25 w3 => ∃ k : Nat, x25 = (k : Int) ∧ k ≤ (gb u.toNat).length ∧ n = (gb u.toNat).length - k ∧ Row w3 x8 5 1 (bv (lb ++ (gb u.toNat).take k)) ∧ x8.l = b.l + k ∧ (∃ k, x8.blk = some k ∧ w.heap.size ≤ k) ∧ Frm none_ w w3, (gb u.toNat).length,
    ⟨0, rfl, by omega, by omega, by simpa using hr2, by omega, hk2, hM2⟩, ?_⟩
  rintro n - x8 x25 w3 ⟨k, rfl, hk, rfl, hr3, hl3, ⟨g3, hk3, hg3⟩, hM3⟩
  refine IfB.dec (fun hlt => ?_) (fun hge => ?_)
  · have hkl : k < (gb u.toNat).length := by omega
    have hget := gb_get u.toNat k hkl
    have hlast := gb_last u.toNat
    rw [wi (7 * (k : Int)) (by omega)]
    refine ⟨by omega, ?_⟩
    have hmin : min (7 * (k : Int)).toNat 64 = 7 * k := by omega
    rw [hmin, fdiv_pow u h0, pow7]
    generalize hq : u.toNat / 128 ^ k = q at hget ⊢
    have hby : 0 ≤ IntKind.wrap .u8 (q : Int) ∧ IntKind.wrap .u8 (q : Int) < 256 := by rw [wu8m]; omega
    have fin : ∀ c : Int, (gb u.toNat)[k]? = some (UInt8.ofNat c.toNat) → 0 ≤ c → c < 256 →
        RunT prog .slice (Instr.buildSlice 31 1 #[(0, .int .u8 c)]) w3 fun (t42 : Sl) w1_4 =>
        RunT prog .slice (Builtin.append_ #[31, 31] 31 #[.slice x8.a x8.l x8.c, .slice t42.a t42.l t42.c]) w1_4 fun (t43 : Sl) w1_5 =>
        ∃ n', n' < (gb u.toNat).length - k ∧ ∃ k_1 : Nat, IntKind.wrap .i64 ((k : Int) + 1) = (k_1 : Int) ∧ k_1 ≤ (gb u.toNat).length ∧ n' = (gb u.toNat).length - k_1 ∧ Row w1_5 t43 5 1 (bv (lb ++ (gb u.toNat).take k_1)) ∧ t43.l = b.l + k_1 ∧ (∃ k, t43.blk = some k ∧ w.heap.size ≤ k) ∧ Frm none_ w w1_5 := by
      intro c hc hc0 hc1
      refine runT_lit1 st22 (by decide) rfl ?_
      intro w4 hr4 hm4 hs4
      have hv : (Value.int IntKind.u8 c).cells.toList = bv [UInt8.ofNat c.toNat] := by
        show [Value.int IntKind.u8 c] = [Value.int .u8 ((UInt8.ofNat c.toNat).toNat : Int)]
        rw [u8_ofNat _ (by omega), Int.toNat_of_nonneg hc0]
      rw [hv] at hr4
      refine runT_append st22 (hr3.mod hm4 (fun _ _ h => h)) hr4.has (bv_one _) (by simp; omega) (by simp only [maxLen]; omega) ?_
      intro t43 w5 hr5 hl5 hn5 hm5
      have hl5 : t43.l = x8.l + 1 := hl5
      refine ⟨(gb u.toNat).length - (k + 1), by omega, k + 1, by rw [wi _ (by omega)]; omega, by omega, rfl, ?_, by rw [hl5, hl3]; omega, ?_, ?_⟩
      · rw [← bv_append, List.append_assoc] at hr5
        rw [List.take_add_one, hc]
        exact hr5
      · rcases hn5 with h | h
        · exact ⟨g3, h.trans hk3, hg3⟩
        · exact ⟨_, h, Nat.le_trans hM3.size hm4.size⟩
      · exact (hM3.trans hm4 (fun _ _ h => h) (fun _ _ h => h)).trans hm5 (fun _ _ h => h) (fun x hx hf => by rw [hk3] at hf; simp at hf; omega)
    refine IfB.intro (fun he => ?_) (fun he => ?_)
    · have hke : (k : Int) = ((gb u.toNat).length : Int) - 1 := by
        have := eq_of_beq he
        rwa [wi _ (by omega)] at this
      have hk1 : k + 1 = (gb u.toNat).length := by omega
      rw [if_pos hk1] at hget
      have hq' : q < 128 := by rw [← hk1] at hlast; simp only [Nat.add_sub_cancel] at hlast; omega
      have hc : bitsI .andNot .u8 (bitsI .or .u8 (IntKind.wrap .u8 (q : Int)) 128) 128 = (q : Int) := by
        rw [or128 _ hby, wu8m, andNot128 _ (by omega)]; omega
      rw [hc]
      exact fin _ (by rw [hget, Int.toNat_natCast]) (by omega) (by omega)
    · have hk1 : ¬ k + 1 = (gb u.toNat).length := by
        intro h
        have := ne_of_beq_false he
        rw [wi _ (by omega)] at this
        omega
      rw [if_neg hk1] at hget
      rw [or128 _ hby, wu8m]
      have hm : (128 : Int) + (q : Int) % 256 % 128 = ((128 + q % 128 : Nat) : Int) := by omega
      rw [hm]
      exact fin _ (by rw [hget, Int.toNat_natCast]) (by omega) (by omega)
  · have hkl : k = (gb u.toNat).length := by omega
    subst hkl
    rw [List.take_length] at hr3
    refine runT_appendStr st22 un9 hr3 ⟨g3, hk3⟩ s (by omega) ?_
    intro t47 w4 hr4 hl4 hn4 hm4
    refine ⟨t47, rfl, ?_, ?_, ?_⟩
    · rw [← bv_append] at hr4; exact hr4
    · rcases hn4 with h | h
      · exact ⟨g3, h.trans hk3, hg3⟩
      · exact ⟨_, h, hM3.size⟩
    · exact hM3.trans hm4 (fun _ _ h => h) (fun x hx hf => by rw [hk3] at hf; simp at hf; omega)

/-- none: nothing behind the bytes, in new memory. -/
theorem none_calls (w : World) (b : Sl) (lb : List UInt8) (hb : Has w b 1 (bv lb)) (hsz : b.l ≤ 100000000000000) :
    Calls prog 80 #[.slice b.a b.l b.c] w fun e w' => ∃ r : Sl, e = .returned (.slice r.a r.l r.c) ∧ Row w' r 5 1 (bv lb) ∧ (∃ k, r.blk = some k ∧ w.heap.size ≤ k) ∧ Frm none_ w w' := by
  refine calls_ret (W80 (Q := fun v w' => ∃ r : Sl, v = .slice r.a r.l r.c ∧ Row w' r 5 1 (bv lb) ∧ (∃ k, r.blk = some k ∧ w.heap.size ≤ k) ∧ Frm none_ w w') ?_) (fun v w' ⟨r, hv, h⟩ => ⟨r, by rw [hv], h⟩)
  unfold F80
  refine runT_lit0 st22 ?_
  intro w1 hr1 hm1 hs1
  refine runT_append st22 hr1 (hb.mod hm1 (fun _ _ h => h)) (bv_one lb) (by simp; omega) (by simp [maxLen]; omega) ?_
  intro t5 w2 hr2 hl2 hn2 hm2
  refine ⟨t5, rfl, by simpa using hr2, ?_, ?_⟩
  · rcases hn2 with h | h
    · exact ⟨_, h, Nat.le_refl _⟩
    · exact ⟨_, h, hm1.size⟩
  · exact hm1.trans hm2 (fun _ _ h => h) (fun x hx hf => by simp [Sl.blk] at hf; omega)

/-- What is laid for a number. -/
def zz (n : Int) : Nat := if n < 0 then (-2 * n - 1).toNat else (2 * n).toNat
/-- What is laid for a count. -/
def cb (n : Int) : List UInt8 := if n < 0 ∨ n > 2147483647 then [] else gb n.toNat
/-- What is laid for a text. -/
def sb (s : ByteArray) : List UInt8 := if s.size > 2147483647 then [] else gb s.size ++ s.data.toList
/-- What is laid for a truth value. -/
def fb (v : Bool) : List UInt8 := if v then [1] else [0]
theorem not64 (x : Int) (h : 0 ≤ x ∧ x ≤ 18446744073709551615) : bitsI .xor .u64 (IntKind.max .u64) x = 18446744073709551615 - x := by
  have hm : IntKind.max .u64 = 18446744073709551615 := by decide
  obtain ⟨n, rfl⟩ := Int.eq_ofNat_of_zero_le h.1
  rw [hm]
  have e1 : BitVec.ofInt 64 18446744073709551615 = BitVec.allOnes 64 := by decide
  have e2 : BitVec.ofInt 64 (n : Int) = BitVec.ofNat 64 n := by simp
  have e3 : bitsI .xor .u64 18446744073709551615 (n : Int) = IntKind.wrap .u64 (((BitVec.ofInt 64 18446744073709551615 ^^^ BitVec.ofInt 64 (n : Int) : BitVec 64).toNat : Nat) : Int) := rfl
  rw [e3, e1, e2, BitVec.allOnes_xor, BitVec.toNat_not, BitVec.toNat_ofNat, wu64]
  · omega
  · omega
abbrev Laid (w : World) (bs : List UInt8) : Ending → World → Prop := fun e w' => ∃ r : Sl, e = .returned (.slice r.a r.l r.c) ∧ Row w' r 5 1 (bv bs) ∧ (∃ k, r.blk = some k ∧ w.heap.size ≤ k) ∧ Frm none_ w w'
abbrev LaidV (w : World) (bs : List UInt8) : Value → World → Prop := fun v w' => ∃ r : Sl, v = .slice r.a r.l r.c ∧ Row w' r 5 1 (bv bs) ∧ (∃ k, r.blk = some k ∧ w.heap.size ≤ k) ∧ Frm none_ w w'
theorem laidV {w : World} {bs : List UInt8} {v : Value} {w' : World} (h : LaidV w bs v w') : Laid w bs (.returned v) w' := by
  obtain ⟨r, hv, h⟩ := h
  exact ⟨r, by rw [hv], h⟩

theorem count_calls (w : World) (b : Sl) (lb : List UInt8) (n : Int) (hb : Has w b 1 (bv lb)) (hsz : b.l ≤ 10000000000000) :
    Calls prog 48 #[.slice b.a b.l b.c, .int .i64 n] w (Laid w (lb ++ cb n)) := by
  refine calls_ret (W48 (Q := LaidV w (lb ++ cb n)) ?_) (fun v w' h => laidV h)
  unfold F48
  have no : (n < 0 ∨ n > 2147483647) → Calls prog 80 #[.slice b.a b.l b.c] w fun en w1 => ∃ t12 : Sl, en = .returned (.slice t12.a t12.l t12.c) ∧ LaidV w (lb ++ cb n) (.slice t12.a t12.l t12.c) w1 := by
    intro h
    refine (none_calls w b lb hb (by omega)).mono ?_
    rintro _ w1 ⟨r, rfl, hr, hk, hm⟩
    refine ⟨r, rfl, r, rfl, ?_, hk, hm⟩
    rw [cb, if_pos h, List.append_nil]
    exact hr
  refine IfB.dec (fun h => no (.inl h)) (fun h => IfB.dec (fun h' => no (.inr h')) (fun h' => ?_))
  rw [wu64 _ (by omega)]
  refine (lay_calls w b lb n _ hb (by omega) (by omega) (by simp [ByteArray.size]; omega)).mono ?_
  rintro _ w1 ⟨r, rfl, hr, hk, hm⟩
  refine ⟨r, rfl, r, rfl, ?_, hk, hm⟩
  rw [cb, if_neg (by omega)]
  simpa using hr
theorem str_calls (w : World) (b : Sl) (lb : List UInt8) (s : ByteArray) (hb : Has w b 1 (bv lb)) (hsz : b.l ≤ 10000000000000) :
    Calls prog 50 #[.slice b.a b.l b.c, .string s] w (Laid w (lb ++ sb s)) := by
  refine calls_ret (W50 (Q := LaidV w (lb ++ sb s)) ?_) (fun v w' h => laidV h)
  unfold F50
  refine IfB.dec (fun h => ?_) (fun h => ?_)
  · refine (none_calls w b lb hb (by omega)).mono ?_
    rintro _ w1 ⟨r, rfl, hr, hk, hm⟩
    refine ⟨r, rfl, r, rfl, ?_, hk, hm⟩
    rw [sb, if_pos (by omega), List.append_nil]
    exact hr
  · rw [wu64 _ (by omega)]
    refine (lay_calls w b lb (s.size : Int) s hb (by omega) (by omega) (by omega)).mono ?_
    rintro _ w1 ⟨r, rfl, hr, hk, hm⟩
    refine ⟨r, rfl, r, rfl, ?_, hk, hm⟩
    rw [sb, if_neg (by omega), ← List.append_assoc]
    simpa using hr
theorem flag_calls (w : World) (b : Sl) (lb : List UInt8) (v : Bool) (hb : Has w b 1 (bv lb)) (hsz : b.l ≤ 10000000000000) :
    Calls prog 49 #[.slice b.a b.l b.c, .bool v] w (Laid w (lb ++ fb v)) := by
  refine calls_ret (W49 (Q := LaidV w (lb ++ fb v)) ?_) (fun v w' h => laidV h)
  unfold F49
  refine IfB.intro (fun h => ?_) (fun h => ?_)
  · refine (lay_calls w b lb 1 _ hb (by omega) (by omega) (by simp [ByteArray.size]; omega)).mono ?_
    rintro _ w1 ⟨r, rfl, hr, hk, hm⟩
    refine ⟨r, rfl, r, rfl, ?_, hk, hm⟩
    rw [h]
    simpa [gb_small, fb] using hr
  · refine (lay_calls w b lb 0 _ hb (by omega) (by omega) (by simp [ByteArray.size]; omega)).mono ?_
    rintro _ w1 ⟨r, rfl, hr, hk, hm⟩
    refine ⟨r, rfl, r, rfl, ?_, hk, hm⟩
    rw [h]
    simpa [gb_small, fb] using hr
end Go.Proofs.Ythgeacnemojjgaa
