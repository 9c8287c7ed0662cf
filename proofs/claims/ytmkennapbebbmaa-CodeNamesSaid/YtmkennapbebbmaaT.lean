/- What laying a thing does, in the program and in the document; the law CodeLays walked. -/
import Derived.Test.YtmkennapbebbmaaR
import Derived.Test.YtmkennapbebbmaaD
set_option linter.unusedVariables false
set_option linter.unusedSimpArgs false
namespace Go.Proofs.Ytmkennapbebbmaa
open Go Go.Proofs.YtmkennapbebbmaaV

structure Th where
  k : Int
  n : Int
  s : ByteArray
def tc (t : Th) : List Value := [.int .u8 t.k, .int .i64 t.n, .string t.s]
structure OkT (t : Th) : Prop where
  n0 : -9223372036854775808 ≤ t.n
  n1 : t.n ≤ 9223372036854775807
  s0 : t.s.size ≤ 140737488351232
  k0 : 0 ≤ t.k
/-- What is laid for a thing. -/
def tb (t : Th) : List UInt8 := if t.k = 0 then gb (zz t.n) else if t.k = 1 then cb t.n else if t.k = 2 then sb t.s else fb (t.n.tmod 2 != 0)

theorem made_laid {w : World} {bs : List UInt8} {v : Value} {w' : World} (h : MadeV w bs v w') : MadeV w bs v w' := h

theorem rnum_calls (w : World) (b : Sl) (lb : List UInt8) (n : Int) (hb : Has w b 1 (bv lb)) (h0 : -9223372036854775808 ≤ n) (h1 : n ≤ 9223372036854775807) (hsz : b.l ≤ 10000000000000) :
    Calls prog 37 #[.slice b.a b.l b.c, .int .i64 n] w (Made w (lb ++ gb (zz n))) := by
  refine calls_ret (W37 (Q := MadeV w (lb ++ gb (zz n))) ?_) (fun v w' h => madeV h)
  unfold F37
  have hz : zz n ≤ 18446744073709551615 := by unfold zz; split <;> omega
  have hg := gb_le (zz n) (by omega)
  refine (twice_calls n w h0 h1).mono ?_
  rintro _ _ ⟨rfl, rfl⟩
  refine ⟨_, rfl, (groupsR_calls (zz n) w hz).mono ?_⟩
  rintro _ w1 ⟨rfl, hm⟩
  refine ⟨_, rfl, (behind_calls w1 b lb _ (hb.mod hm (fun _ _ h => h)) (by rw [str_size]; omega)).mono ?_⟩
  rintro _ w2 ⟨r, rfl, hr, hn, hm2⟩
  exact ⟨r, rfl, r, rfl, hr, fun k hk => Nat.le_trans hm.size (hn k hk), hm.trans hm2 (fun _ _ h => h) (fun _ _ h => h)⟩
theorem rcount_calls (w : World) (b : Sl) (lb : List UInt8) (n : Int) (hb : Has w b 1 (bv lb)) (hsz : b.l ≤ 10000000000000) :
    Calls prog 38 #[.slice b.a b.l b.c, .int .i64 n] w (Made w (lb ++ cb n)) := by
  refine calls_ret (W38 (Q := MadeV w (lb ++ cb n)) ?_) (fun v w' h => madeV h)
  unfold F38
  have no : (n < 0 ∨ n > 2147483647) → Calls prog 41 #[.slice b.a b.l b.c, .string (⟨#[]⟩ : ByteArray)] w fun en w1 => ∃ t12 : Sl, en = .returned (.slice t12.a t12.l t12.c) ∧ MadeV w (lb ++ cb n) (.slice t12.a t12.l t12.c) w1 := by
    intro h
    refine (behind_calls w b lb _ hb (by simp [ByteArray.size]; omega)).mono ?_
    rintro _ w1 ⟨r, rfl, hr, hk, hm⟩
    refine ⟨r, rfl, r, rfl, ?_, hk, hm⟩
    rw [cb, if_pos h]
    simpa using hr
  refine IfB.dec (fun h => no (.inl h)) (fun h => IfB.dec (fun h' => no (.inr h')) (fun h' => ?_))
  obtain ⟨m, rfl⟩ := Int.eq_ofNat_of_zero_le (show 0 ≤ n by omega)
  rw [wu64 _ (by omega)]
  have hg := gb_le m (by omega)
  refine (groupsR_calls m w (by omega)).mono ?_
  rintro _ w1 ⟨rfl, hm⟩
  refine ⟨_, rfl, (behind_calls w1 b lb _ (hb.mod hm (fun _ _ h => h)) (by rw [str_size]; omega)).mono ?_⟩
  rintro _ w2 ⟨r, rfl, hr, hn, hm2⟩
  refine ⟨r, rfl, r, rfl, ?_, fun k hk => Nat.le_trans hm.size (hn k hk), hm.trans hm2 (fun _ _ h => h) (fun _ _ h => h)⟩
  rw [cb, if_neg (by omega)]
  exact hr
theorem rstr_calls (w : World) (b : Sl) (lb : List UInt8) (s : ByteArray) (hb : Has w b 1 (bv lb)) (hsz : b.l ≤ 10000000000000) (hs : s.size ≤ 2147483647) :
    Calls prog 39 #[.slice b.a b.l b.c, .string s] w (Made w (lb ++ sb s)) := by
  refine calls_ret (W39 (Q := MadeV w (lb ++ sb s)) ?_) (fun v w' h => madeV h)
  unfold F39
  refine (rcount_calls w b lb _ hb hsz).mono ?_
  rintro _ w1 ⟨r, rfl, hr, hn, hm⟩
  have hcb : cb (s.size : Int) = gb s.size := by rw [cb, if_neg (by omega), Int.toNat_natCast]
  rw [hcb] at hr
  have hg := gb_le s.size (by omega)
  have hl := hr.len
  have hbl : lb.length = b.l := by have := hb.len; rw [bv_length] at this; omega
  rw [bv_length, List.length_append] at hl
  refine ⟨r, rfl, (behind_calls w1 r _ s hr.has (by omega)).mono ?_⟩
  rintro _ w2 ⟨q, rfl, hq, hn2, hm2⟩
  refine ⟨q, rfl, q, rfl, ?_, fun k hk => Nat.le_trans hm.size (hn2 k hk), hm.trans hm2 (fun _ _ h => h) (fun _ _ h => h)⟩
  rw [sb, if_neg (by omega), ← List.append_assoc]
  exact hq
theorem rflag_calls (w : World) (b : Sl) (lb : List UInt8) (v : Bool) (hb : Has w b 1 (bv lb)) (hsz : b.l ≤ 10000000000000) :
    Calls prog 40 #[.slice b.a b.l b.c, .bool v] w (Made w (lb ++ fb v)) := by
  refine calls_ret (W40 (Q := MadeV w (lb ++ fb v)) ?_) (fun v w' h => madeV h)
  unfold F40
  refine IfB.intro (fun h => ?_) (fun h => ?_)
  · refine (behind_calls w b lb _ hb (by simp [ByteArray.size]; omega)).mono ?_
    rintro _ w1 ⟨r, rfl, hr, hk, hm⟩
    refine ⟨r, rfl, r, rfl, ?_, hk, hm⟩
    rw [h]
    simpa [fb] using hr
  · refine (behind_calls w b lb _ hb (by simp [ByteArray.size]; omega)).mono ?_
    rintro _ w1 ⟨r, rfl, hr, hk, hm⟩
    refine ⟨r, rfl, r, rfl, ?_, hk, hm⟩
    rw [h]
    simpa [fb] using hr

theorem addr0 (b : Nat) : (⟨b, 0, none⟩ : Addr).add 0 = ⟨b, 0, none⟩ := by rw [addr_add]
theorem thing_lay (w : World) (t : Th) (ht : OkT t) (b : Sl) (lb : List UInt8) (hb : Has w b 1 (bv lb)) (hsz : b.l ≤ 10000000000000) :
    Calls prog 12 #[.agg (tc t).toArray, .slice b.a b.l b.c] w (Laid w (lb ++ tb t)) := by
  refine calls_ret (W12 (Q := LaidV w (lb ++ tb t)) ?_) (fun v w' h => laidV h)
  unfold F12
  intro b2 w1 hnb
  have hB := hnb.blk
  have hm := hnb.mod none_
  have hb1 := hb.mod hm (fun _ _ h => h)
  have l0 : Ld w1 ((⟨b2, 0, none⟩ : Addr).add 0) (.int .u8 t.k) := by rw [addr_add]; exact hB.ld rfl
  have l1 : Ld w1 ((⟨b2, 0, none⟩ : Addr).add 1) (.int .i64 t.n) := by rw [addr_add]; exact hB.ld rfl
  have l2 : Ld w1 ((⟨b2, 0, none⟩ : Addr).add 2) (.string t.s) := by rw [addr_add]; exact hB.ld rfl
  have fin : ∀ e w2, Laid w1 (lb ++ tb t) e w2 → ∃ r : Sl, e = .returned (.slice r.a r.l r.c) ∧ LaidV w (lb ++ tb t) (.slice r.a r.l r.c) w2 := by
    rintro _ w2 ⟨r, rfl, hr, ⟨k, hk, hks⟩, hm2⟩
    exact ⟨r, rfl, r, rfl, hr, ⟨k, hk, Nat.le_trans hm.size hks⟩, hm.trans hm2 (fun _ _ h => h) (fun _ _ h => h)⟩
  refine ⟨t.k, l0, IfB.intro (fun h => ?_) (fun h => ?_)⟩
  · have hk := eq_of_beq h
    refine ⟨t.n, l1, (num_calls w1 b lb t.n hb1 ht.n0 ht.n1 hsz).mono fun e w2 h2 => fin e w2 ?_⟩
    rw [tb, if_pos hk]; exact h2
  · have hk := ne_of_beq_false h
    refine IfB.intro (fun h => ?_) (fun h => ?_)
    · have hk1 := eq_of_beq h
      refine ⟨t.n, l1, (count_calls w1 b lb t.n hb1 hsz).mono fun e w2 h2 => fin e w2 ?_⟩
      rw [tb, if_neg hk, if_pos hk1]; exact h2
    · have hk1 := ne_of_beq_false h
      refine IfB.intro (fun h => ?_) (fun h => ?_)
      · have hk2 := eq_of_beq h
        refine ⟨t.s, l2, (str_calls w1 b lb t.s hb1 hsz).mono fun e w2 h2 => fin e w2 ?_⟩
        rw [tb, if_neg hk, if_neg hk1, if_pos hk2]; exact h2
      · have hk2 := ne_of_beq_false h
        refine ⟨t.n, l1, by decide, (flag_calls w1 b lb _ hb1 hsz).mono fun e w2 h2 => fin e w2 ?_⟩
        rw [tb, if_neg hk, if_neg hk1, if_neg hk2]; exact h2
theorem thing_ref (w : World) (t : Th) (ht : OkT t) (hs : t.s.size ≤ 2147483647) (b : Sl) (lb : List UInt8) (hb : Has w b 1 (bv lb)) (hsz : b.l ≤ 10000000000000) :
    Calls prog 13 #[.agg (tc t).toArray, .slice b.a b.l b.c] w (Made w (lb ++ tb t)) := by
  refine calls_ret (W13 (Q := MadeV w (lb ++ tb t)) ?_) (fun v w' h => madeV h)
  unfold F13
  intro b2 w1 hnb
  have hB := hnb.blk
  have hm := hnb.mod none_
  have hb1 := hb.mod hm (fun _ _ h => h)
  have l0 : Ld w1 ((⟨b2, 0, none⟩ : Addr).add 0) (.int .u8 t.k) := by rw [addr_add]; exact hB.ld rfl
  have l1 : Ld w1 ((⟨b2, 0, none⟩ : Addr).add 1) (.int .i64 t.n) := by rw [addr_add]; exact hB.ld rfl
  have l2 : Ld w1 ((⟨b2, 0, none⟩ : Addr).add 2) (.string t.s) := by rw [addr_add]; exact hB.ld rfl
  have fin : ∀ e w2, Made w1 (lb ++ tb t) e w2 → ∃ r : Sl, e = .returned (.slice r.a r.l r.c) ∧ MadeV w (lb ++ tb t) (.slice r.a r.l r.c) w2 := by
    rintro _ w2 ⟨r, rfl, hr, hn, hm2⟩
    exact ⟨r, rfl, r, rfl, hr, fun k hk => Nat.le_trans hm.size (hn k hk), hm.trans hm2 (fun _ _ h => h) (fun _ _ h => h)⟩
  refine ⟨t.k, l0, IfB.intro (fun h => ?_) (fun h => ?_)⟩
  · have hk := eq_of_beq h
    refine ⟨t.n, l1, (rnum_calls w1 b lb t.n hb1 ht.n0 ht.n1 hsz).mono fun e w2 h2 => fin e w2 ?_⟩
    rw [tb, if_pos hk]; exact h2
  · have hk := ne_of_beq_false h
    refine IfB.intro (fun h => ?_) (fun h => ?_)
    · have hk1 := eq_of_beq h
      refine ⟨t.n, l1, (rcount_calls w1 b lb t.n hb1 hsz).mono fun e w2 h2 => fin e w2 ?_⟩
      rw [tb, if_neg hk, if_pos hk1]; exact h2
    · have hk1 := ne_of_beq_false h
      refine IfB.intro (fun h => ?_) (fun h => ?_)
      · have hk2 := eq_of_beq h
        refine ⟨t.s, l2, (rstr_calls w1 b lb t.s hb1 hsz hs).mono fun e w2 h2 => fin e w2 ?_⟩
        rw [tb, if_neg hk, if_neg hk1, if_pos hk2]; exact h2
      · have hk2 := ne_of_beq_false h
        refine ⟨t.n, l1, by decide, (rflag_calls w1 b lb _ hb1 hsz).mono fun e w2 h2 => fin e w2 ?_⟩
        rw [tb, if_neg hk, if_neg hk1, if_neg hk2]; exact h2

/-- How long a list of things is, as long counts it. -/
def wt : List Th → Nat
  | [] => 0
  | t :: r => 20 + t.s.size + wt r
theorem wt_append (l m : List Th) : wt (l ++ m) = wt l + wt m := by
  induction l with
  | nil => simp [wt]
  | cons t r ih => simp [wt, ih]; omega
theorem wt_take (l : List Th) (i : Nat) : wt (l.take i) ≤ wt l := by
  have := wt_append (l.take i) (l.drop i)
  rw [List.take_append_drop] at this
  omega
theorem wt_mem {l : List Th} {t : Th} (h : t ∈ l) : 20 + t.s.size ≤ wt l := by
  induction l with
  | nil => simp at h
  | cons a r ih =>
    rcases List.mem_cons.1 h with rfl | h
    · simp only [wt]; omega
    · have := ih h; simp only [wt]; omega
theorem wt_len (l : List Th) : 20 * l.length ≤ wt l := by
  induction l with
  | nil => simp [wt]
  | cons a r ih => simp [wt]; omega
set_option maxRecDepth 20000 in
theorem long_calls (w : World) (s : Sl) (l : List Th) (hl : HasL w s 3 tc l) (hok : ∀ t ∈ l, OkT t) (hs : s.l ≤ 140737488351232) :
    Calls prog 11 #[.slice s.a s.l s.c] w fun e w' => ∃ v : Bool, e = .returned (.bool v) ∧ w = w' ∧ (v = false → wt l < 20000) := by
  refine calls_ret (W11 (Q := fun v w' => ∃ b : Bool, v = .bool b ∧ w = w' ∧ (b = false → wt l < 20000)) ?_) (fun v w' ⟨b, h, h'⟩ => ⟨b, by rw [h], h'⟩)
  unfold F11
  have hll := hl.len
  refine ⟨fun n x3 x4 w1 => ∃ i : Nat, x4 = (i : Int) ∧ i ≤ s.l ∧ n = s.l - i ∧ w = w1 ∧ x3 = (wt (l.take i) : Int) ∧ wt (l.take i) < 140737488351232 + 40000, s.l, ⟨0, rfl, by omega, by omega, rfl, by simp [wt], by simp [wt]⟩, ?_⟩
  rintro n - x3 x4 w1 ⟨i, rfl, hi, rfl, rfl, rfl, hw⟩
  refine IfB.intro (fun hlt0 => ?_) (fun hge0 => ?_)
  · have hlt := of_decide_eq_true hlt0
    apply IfB.intro
    all_goals intro hn0
    · have hn := of_decide_eq_true hn0
      obtain ⟨p, t, hp, ht, htm, hld, _⟩ := hl.at (by omega) (i := (i : Int)) (by omega) hlt
      have hto := hok t htm
      have := hto.s0
      rw [Int.toNat_natCast] at ht hld
      refine ⟨p, hp, by omega, hlt, t.s, ?_, s.l - (i + 1), by omega, i + 1, by rw [wi _ (by omega)]; omega, by omega, rfl, rfl, ?_, ?_⟩
      · exact hld 2 _ rfl
      · have e : wt (l.take (i + 1)) = wt (l.take i) + (20 + t.s.size) := by
          rw [List.take_add_one, ht, wt_append]; simp [wt]
        rw [wi (_ + 20) (by omega), wi _ (by omega), e]
        omega
      · have e : wt (l.take (i + 1)) = wt (l.take i) + (20 + t.s.size) := by
          rw [List.take_add_one, ht, wt_append]; simp [wt]
        omega
    · refine ⟨_, rfl, rfl, ?_⟩
      intro h
      have := of_decide_eq_false h
      have := of_decide_eq_false hn0
      omega
  · have hge := of_decide_eq_false hge0
    refine ⟨_, rfl, rfl, ?_⟩
    intro h
    have := of_decide_eq_false h
    rw [List.take_of_length_le (by omega)] at this
    omega
end Go.Proofs.Ytmkennapbebbmaa
