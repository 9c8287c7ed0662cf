/- What laying a thing does, in the program and in the document; the law CodeLays walked. -/
import Derived.Test.YthgeacnemojjgaaR
import Derived.Test.YthgeacnemojjgaaD
set_option linter.unusedVariables false
set_option maxRecDepth 20000
set_option linter.unusedSimpArgs false
namespace Go.Proofs.Ythgeacnemojjgaa
open Go Go.Proofs.YthgeacnemojjgaaV

structure Th where
  k : Int
  n : Int
  s : ByteArray
def tc (t : Th) : List Value := [.int .u8 t.k, .int .i64 t.n, .string t.s]
structure OkT (t : Th) : Prop where
  n0 : -9223372036854775808 ≤ t.n
  n1 : t.n ≤ 9223372036854775807
  s0 : t.s.size ≤ 140737488351232
  k0 : 0 ≤ t.k
/-- What is laid for a thing. -/
def tb (t : Th) : List UInt8 := if t.k = 0 then gb (zz t.n) else if t.k = 1 then cb t.n else if t.k = 2 then sb t.s else fb (t.n.tmod 2 != 0)

theorem made_laid {w : World} {bs : List UInt8} {v : Value} {w' : World} (h : MadeV w bs v w') : MadeV w bs v w' := h

theorem rcount_calls (w : World) (b : Sl) (lb : List UInt8) (n : Int) (hb : Has w b 1 (bv lb)) (hsz : b.l ≤ 10000000000000) :
    Calls prog 60 #[.slice b.a b.l b.c, .int .i64 n] w (Made w (lb ++ cb n)) := by
  refine calls_ret (W60 (Q := MadeV w (lb ++ cb n)) ?_) (fun v w' h => madeV h)
  unfold F60
  have no : (n < 0 ∨ n > 2147483647) → Calls prog 88 #[.slice b.a b.l b.c, .string (⟨#[]⟩ : ByteArray)] w fun en w1 => ∃ t12 : Sl, en = .returned (.slice t12.a t12.l t12.c) ∧ MadeV w (lb ++ cb n) (.slice t12.a t12.l t12.c) w1 := by
    intro h
    refine (behind_calls w b lb _ hb (by simp [ByteArray.size]; omega)).mono ?_
    rintro _ w1 ⟨r, rfl, hr, hk, hm⟩
    refine ⟨r, rfl, r, rfl, ?_, hk, hm⟩
    rw [cb, if_pos h]
    simpa using hr
  refine IfB.dec (fun h => no (.inl h)) (fun h => IfB.dec (fun h' => no (.inr h')) (fun h' => ?_))
  obtain ⟨m, rfl⟩ := Int.eq_ofNat_of_zero_le (show 0 ≤ n by omega)
  rw [wu64 _ (by omega)]
  have hg := gb_le m (by omega)
  refine (groupsR_calls m w (by omega)).mono ?_
  rintro _ w1 ⟨rfl, hm⟩
  refine ⟨_, rfl, (behind_calls w1 b lb _ (hb.mod hm (fun _ _ h => h)) (by rw [str_size]; omega)).mono ?_⟩
  rintro _ w2 ⟨r, rfl, hr, hn, hm2⟩
  refine ⟨r, rfl, r, rfl, ?_, fun k hk => Nat.le_trans hm.size (hn k hk), hm.trans hm2 (fun _ _ h => h) (fun _ _ h => h)⟩
  rw [cb, if_neg (by omega)]
  exact hr
theorem rstr_calls (w : World) (b : Sl) (lb : List UInt8) (s : ByteArray) (hb : Has w b 1 (bv lb)) (hsz : b.l ≤ 10000000000000) (hs : s.size ≤ 2147483647) :
    Calls prog 61 #[.slice b.a b.l b.c, .string s] w (Made w (lb ++ sb s)) := by
  refine calls_ret (W61 (Q := MadeV w (lb ++ sb s)) ?_) (fun v w' h => madeV h)
  unfold F61
  refine (rcount_calls w b lb _ hb hsz).mono ?_
  rintro _ w1 ⟨r, rfl, hr, hn, hm⟩
  have hcb : cb (s.size : Int) = gb s.size := by rw [cb, if_neg (by omega), Int.toNat_natCast]
  rw [hcb] at hr
  have hg := gb_le s.size (by omega)
  have hl := hr.len
  have hbl : lb.length = b.l := by have := hb.len; rw [bv_length] at this; omega
  rw [bv_length, List.length_append] at hl
  refine ⟨r, rfl, (behind_calls w1 r _ s hr.has (by omega)).mono ?_⟩
  rintro _ w2 ⟨q, rfl, hq, hn2, hm2⟩
  refine ⟨q, rfl, q, rfl, ?_, fun k hk => Nat.le_trans hm.size (hn2 k hk), hm.trans hm2 (fun _ _ h => h) (fun _ _ h => h)⟩
  rw [sb, if_neg (by omega), ← List.append_assoc]
  exact hq
theorem rflag_calls (w : World) (b : Sl) (lb : List UInt8) (v : Bool) (hb : Has w b 1 (bv lb)) (hsz : b.l ≤ 10000000000000) :
    Calls prog 62 #[.slice b.a b.l b.c, .bool v] w (Made w (lb ++ fb v)) := by
  refine calls_ret (W62 (Q := MadeV w (lb ++ fb v)) ?_) (fun v w' h => madeV h)
  unfold F62
  refine IfB.intro (fun h => ?_) (fun h => ?_)
  · refine (behind_calls w b lb _ hb (by simp [ByteArray.size]; omega)).mono ?_
    rintro _ w1 ⟨r, rfl, hr, hk, hm⟩
    refine ⟨r, rfl, r, rfl, ?_, hk, hm⟩
    rw [h]
    simpa [fb] using hr
  · refine (behind_calls w b lb _ hb (by simp [ByteArray.size]; omega)).mono ?_
    rintro _ w1 ⟨r, rfl, hr, hk, hm⟩
    refine ⟨r, rfl, r, rfl, ?_, hk, hm⟩
    rw [h]
    simpa [fb] using hr

theorem addr0 (b : Nat) : (⟨b, 0, none⟩ : Addr).add 0 = ⟨b, 0, none⟩ := by rw [addr_add]
/-- How long a list of things is, as long counts it. -/
def wt : List Th → Nat
  | [] => 0
  | t :: r => 20 + t.s.size + wt r
theorem wt_append (l m : List Th) : wt (l ++ m) = wt l + wt m := by
  induction l with
  | nil => simp [wt]
  | cons t r ih => simp [wt, ih]; omega
theorem wt_take (l : List Th) (i : Nat) : wt (l.take i) ≤ wt l := by
  have := wt_append (l.take i) (l.drop i)
  rw [List.take_append_drop] at this
  omega
theorem wt_mem {l : List Th} {t : Th} (h : t ∈ l) : 20 + t.s.size ≤ wt l := by
  induction l with
  | nil => simp at h
  | cons a r ih =>
    rcases List.mem_cons.1 h with rfl | h
    · simp only [wt]; omega
    · have := ih h; simp only [wt]; omega
theorem wt_len (l : List Th) : 20 * l.length ≤ wt l := by
  induction l with
  | nil => simp [wt]
  | cons a r ih => simp [wt]; omega
end Go.Proofs.Ythgeacnemojjgaa
