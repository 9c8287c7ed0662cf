/- The law CodeNames walked: it returns true, and turns nothing that was there. -/
import Derived.Test.YtmkennapbebbmaaCutw
import Derived.Test.YtmkennapbebbmaaE
set_option linter.unusedVariables false
set_option linter.unusedSimpArgs false
namespace Go.Proofs.YtmkennapbebbmaaV
open Go
theorem Blk.ldPart {w : World} {b : Nat} {cs sub : Array Value} {T : TypeId} (h : Blk w b cs T) {o n : Nat} (hn : sub.size = n) (hs : ∀ j, j < n → cs[o + j]? = sub[j]?) : LdA w ((⟨b, 0, Option.none⟩ : Addr).add o) n sub := by
  refine ⟨hn, fun j u hu => ?_⟩
  rw [addr_add, addr_add]
  have hj : j < n := by have := (Array.getElem?_eq_some_iff.1 hu).1; omega
  exact h.ld (by rw [Nat.zero_add, hs j hj]; exact hu)
end Go.Proofs.YtmkennapbebbmaaV
namespace Go.Proofs.Ytmkennapbebbmaa
open Go Go.Proofs.YtmkennapbebbmaaV
/-! ### Numbers computed -/
def gbF : Nat → Nat → List UInt8
  | 0, _ => []
  | n + 1, u => if u < 128 then [UInt8.ofNat u] else UInt8.ofNat (128 + u % 128) :: gbF n (u / 128)
theorem gb_F (n : Nat) : ∀ u, u < 128 ^ (n + 1) → gb u = gbF (n + 1) u := by
  induction n with
  | zero => intro u h; rw [gb_small (by omega)]; unfold gbF; rw [if_pos (by omega)]
  | succ n ih =>
    intro u h
    unfold gbF
    by_cases hu : u < 128
    · rw [if_pos hu, gb_small hu]
    · rw [if_neg hu, gb_big (by omega), ih (u / 128) (by rw [Nat.pow_succ] at h; omega)]
theorem gb10 (u : Nat) (h : u < 2 ^ 64) : gb u = gbF 10 u := gb_F 9 u (Nat.lt_of_lt_of_le h (by decide))
def numF (l : List UInt8) : Option (Nat × Nat) :=
  let u := val (l.take (lead l + 1))
  if lead l < l.length ∧ u < 2 ^ 64 ∧ (gbF 10 u).length = lead l + 1 then some (u, lead l + 1) else none
theorem num_F (l : List UInt8) : num l = numF l := by
  unfold num numF
  simp only
  by_cases h : val (l.take (lead l + 1)) < 2 ^ 64
  · rw [gb10 _ h]
  · rw [if_neg (fun hh => h hh.2.1), if_neg (fun hh => h hh.2.1)]
def cntF (l : List UInt8) (m : Int) : Option (Nat × Nat) := match numF l with
  | some (u, n) => if u > 2147483647 ∨ (u : Int) > m then none else some (u, n)
  | none => none
theorem cnt_F (l : List UInt8) (m : Int) : cnt l m = cntF l m := by unfold cnt cntF; rw [num_F]; cases numF l <;> rfl
def askF (t : Th) (l : List UInt8) : Told × Rd :=
  if t.k = 0 then (match numF l with | some (u, n) => ((uz u, []), some (l.drop n)) | none => ((0, []), none))
  else if t.k = 1 then (match cntF l t.n with | some (u, n) => (((u : Int), []), some (l.drop n)) | none => ((0, []), none))
  else if t.k = 2 then (match cntF l t.n with | some (u, n) => (if n + u ≤ l.length then ((0, (l.drop n).take u), some (l.drop (n + u))) else ((0, []), none)) | none => ((0, []), none))
  else (match cntF l 1 with | some (u, n) => ((one ((u : Int) == 1), []), some (l.drop n)) | none => ((0, []), none))
theorem ask_F (t : Th) (l : List UInt8) : askR t (some l) = askF t l := by
  unfold askR askF
  split
  · unfold numR; simp only [num_F]; cases numF l <;> rfl
  split
  · unfold countR; simp only [cnt_F]; cases cntF l t.n <;> rfl
  split
  · unfold strR; simp only [cnt_F]
    cases cntF l t.n with
    | none => rfl
    | some p => simp only; split <;> rfl
  · unfold flagR countR; simp only [cnt_F]; cases cntF l 1 <;> rfl
def tbF (t : Th) : List UInt8 := if t.k = 0 then gbF 10 (zz t.n) else if t.k = 1 then (if t.n < 0 ∨ t.n > 2147483647 then [] else gbF 10 t.n.toNat)
  else if t.k = 2 then (if t.s.size > 2147483647 then [] else gbF 10 t.s.size ++ t.s.data.toList) else fb (t.n.tmod 2 != 0)
theorem tb_F {t : Th} (h : OkT t) : tb t = tbF t := by
  unfold tb tbF
  split
  · rw [gb10 _ (zz_lt h.n0 h.n1)]
  split
  · unfold cb; split
    · rfl
    · rw [gb10 _ (by omega)]
  split
  · unfold sb; split
    · rfl
    · rw [gb10 _ (by omega)]
  · rfl

/-! ### The tables -/
def T1 : List (Th × List UInt8) := [(⟨1, (-5), ⟨#[]⟩⟩, []), (⟨1, 2147483648, ⟨#[]⟩⟩, []), (⟨1, 2147483647, ⟨#[]⟩⟩, [255, 255, 255, 255, 7]), (⟨1, 0, ⟨#[]⟩⟩, [0]), (⟨0, 64, ⟨#[]⟩⟩, [128, 1]), (⟨0, (-64), ⟨#[]⟩⟩, [127]), (⟨0, 9223372036854775807, ⟨#[]⟩⟩, [254, 255, 255, 255, 255, 255, 255, 255, 255, 1]), (⟨0, (-9223372036854775808), ⟨#[]⟩⟩, [255, 255, 255, 255, 255, 255, 255, 255, 255, 1]), (⟨2, 0, ⟨#[]⟩⟩, [0]), (⟨3, 1, ⟨#[]⟩⟩, [1])]
def T2 : List (List UInt8 × Th) := [([172, 2, 2, 110, 111, 5, 0], ⟨1, 299, ⟨#[]⟩⟩), ([129, 0], ⟨0, 0, ⟨#[]⟩⟩), ([2], ⟨3, 0, ⟨#[]⟩⟩), ([131], ⟨1, 9, ⟨#[]⟩⟩), ([3, 110, 111], ⟨2, 9, ⟨#[]⟩⟩), ([], ⟨0, 0, ⟨#[]⟩⟩), ([], ⟨2, 0, ⟨#[]⟩⟩), ([0], ⟨1, (-1), ⟨#[]⟩⟩), ([0], ⟨2, (-1), ⟨#[]⟩⟩), ([2, 110, 111], ⟨2, 1, ⟨#[]⟩⟩), ([255, 255, 255, 255, 255, 255, 255, 255, 255, 3], ⟨0, 0, ⟨#[]⟩⟩), ([128, 128, 128, 128, 128, 128, 128, 128, 128, 128, 1], ⟨0, 0, ⟨#[]⟩⟩), ([128, 128, 128, 128, 8], ⟨1, 4611686018427387904, ⟨#[]⟩⟩), ([128, 128, 128, 128, 128, 128, 128, 128, 128, 1], ⟨1, 4611686018427387904, ⟨#[]⟩⟩)]
def c1 (p : Th × List UInt8) : List Value := tc p.1 ++ [.string (str p.2)]
def c2 (p : List UInt8 × Th) : List Value := .string (str p.1) :: tc p.2
theorem T1_ok : ∀ p ∈ T1, (-9223372036854775808 ≤ p.1.n ∧ p.1.n ≤ 9223372036854775807 ∧ p.1.s.size ≤ 140737488351232 ∧ 0 ≤ p.1.k) ∧ tbF p.1 = p.2 := by decide +kernel
theorem T1_tb {p : Th × List UInt8} (h : p ∈ T1) : OkT p.1 ∧ tb p.1 = p.2 := by
  obtain ⟨⟨h1, h2, h3, h4⟩, h5⟩ := T1_ok p h
  have ho : OkT p.1 := ⟨h1, h2, h3, h4⟩
  exact ⟨ho, by rw [tb_F ho]; exact h5⟩
theorem T2_ok : ∀ p ∈ T2, askF p.2 p.1 = ((0, []), none) ∧ p.1.length ≤ 20 := by decide +kernel
theorem st46 : SlT prog 46 45 4 48 (.agg #[.int .u8 0, .int .i64 0, .string (⟨#[]⟩ : ByteArray), .string (⟨#[]⟩ : ByteArray)]) := ⟨by kernel_rfl, by kernel_rfl, rfl, by decide⟩
theorem st48 : SlT prog 48 47 4 48 (.agg #[.string (⟨#[]⟩ : ByteArray), .int .u8 0, .int .i64 0, .string (⟨#[]⟩ : ByteArray)]) := ⟨by kernel_rfl, by kernel_rfl, rfl, by decide⟩
theorem oneC1 (p : Th × List UInt8) : ∀ y, y ∈ (c1 p).toArray.toList → y.oneCell' = true := by
  intro y hy
  simp only [c1, tc, List.cons_append, List.nil_append, List.mem_cons, List.not_mem_nil, or_false] at hy
  rcases hy with rfl | rfl | rfl | rfl <;> rfl
theorem oneC2 (p : List UInt8 × Th) : ∀ y, y ∈ (c2 p).toArray.toList → y.oneCell' = true := by
  intro y hy
  simp only [c2, tc, List.mem_cons, List.not_mem_nil, or_false] at hy
  rcases hy with rfl | rfl | rfl | rfl <;> rfl
theorem ofNone {w w' : World} (h : Frm (Of none) w w') : Frm none_ w w' := h.mono (fun x _ hx => by simp at hx)

theorem failsL_calls (w : World) (s : List UInt8) (t : Th) (hs : s.length ≤ 20) (h : askR t (some s) = ((0, []), none)) : Calls prog 29 #[.string (str s), .agg (tc t).toArray] w fun e w' => e = .returned (.bool true) ∧ Frm none_ w w' := by
  refine calls_ret (W29 (Q := fun v w' => v = .bool true ∧ Frm none_ w w') ?_) (fun v w' ⟨h, h'⟩ => ⟨by rw [h], h'⟩)
  unfold F29
  intro b3 w1 hn1
  have hm1 := hn1.mod none_
  refine runT_bytes un9 un22 un5 ?_
  intro w2 c hb hc hm2 hs2
  rw [str_data] at hb
  refine (newReader_calls w2 _ _ hb (by rw [str_size]; simp only; omega)).mono ?_
  rintro _ w3 ⟨k, rfl, hk, hR, hm3⟩
  have hB := ((hn1.blk.mod hm2 (fun h => h)).mod hm3 (fun h => h))
  have f3 := trN (trN hm1 hm2) hm3
  have hkw : w.heap.size ≤ k := by have := (trN hm1 hm2).size; omega
  refine ⟨_, rfl, _, hB.ldA rfl, (ask_calls w3 t _ _ (.inr ⟨k, rfl, hR⟩)).mono ?_⟩
  rw [h]
  rintro _ w4 ⟨rfl, h4, hm4⟩
  have f4 := frmOf f3 hkw hm4
  refine ⟨_, rfl, ?_⟩
  intro b6 w5 hn5
  have hm5 := hn5.mod none_
  have hb6 : w4.heap.size = b6 := by obtain ⟨h, _⟩ := hn5; omega
  obtain ⟨hwr, hB6, hm6⟩ := hn5.blk.whole (vs := toldV (0, [])) rfl
  refine ⟨rfl, toldOne _, hwr, ?_⟩
  rintro w6 rfl
  generalize setAt w5 (⟨b6, 0, none⟩ : Addr) (toldV (0, [])).toList 0 = w6 at hB6 hm6
  have g6 : Frm none_ w4 w6 := hm5.trans hm6 (fun _ _ h => h) (fun x hx he => by omega)
  have h6 := h4.mod g6 (fun _ _ h => h)
  have f6 := trN f4 g6
  refine ⟨_, hB6.ldA rfl, toldV (0, []), b36, _, toldV_eql _ _ _ _, IfB.t (by simp) ?_⟩
  refine (ok_calls w6 _ _ h6).mono ?_
  rintro _ w7 ⟨rfl, hm7⟩
  have h7 := h6.mod hm7 (fun _ _ h => h)
  have f7 := trN f6 hm7
  refine ⟨_, rfl, IfB.t rfl ((left_calls w7 _ _ h7).mono ?_)⟩
  rintro _ w8 ⟨rfl, hm8⟩
  have h8 := h7.mod hm8 (fun _ _ h => h)
  have f8 := trN f7 hm8
  refine ⟨_, rfl, IfB.t rfl ((done_calls w8 _ _ h8).mono ?_)⟩
  rintro _ w9 ⟨rfl, hm9⟩
  have h9 := h8.mod hm9 (fun _ _ h => h)
  have f9 := trN f8 hm9
  refine ⟨_, rfl, IfB.t rfl ((rnum_read w9 _ _ h9).mono ?_)⟩
  rintro _ w10 ⟨rfl, h10, hm10⟩
  have f10 := frmOf f9 hkw hm10
  refine ⟨_, rfl, IfB.t rfl ((count_read w10 _ _ 9 h10).mono ?_)⟩
  rintro _ w11 ⟨rfl, h11, hm11⟩
  have f11 := frmOf f10 hkw hm11
  refine ⟨_, rfl, IfB.t rfl ((str_read w11 _ _ 9 h11).mono ?_)⟩
  rintro _ w12 ⟨rfl, h12, hm12⟩
  have f12 := frmOf f11 hkw hm12
  refine ⟨_, rfl, IfB.t (by rw [str_beq]; exact decide_eq_true rfl) ((flag_read w12 _ _ h12).mono ?_)⟩
  rintro _ w13 ⟨rfl, h13, hm13⟩
  have f13 := frmOf f12 hkw hm13
  refine ⟨_, rfl, IfB.t rfl ((ok_calls w13 _ _ h13).mono ?_)⟩
  rintro _ w14 ⟨rfl, hm14⟩
  exact ⟨_, rfl, rfl, trN f13 hm14⟩

set_option maxRecDepth 20000 in
theorem names_calls (w : World) : Calls prog 5 #[] w fun e w' => e = .returned (.bool true) ∧ Frm none_ w w' := by
  refine calls_ret (W5 (Q := fun v w' => v = .bool true ∧ Frm none_ w w') ?_) (fun v w' ⟨h, h'⟩ => ⟨by rw [h], h'⟩)
  unfold F5
  refine ⟨fun v w' => v = false ∧ Frm none_ w w', ?_, ?_⟩
  · have hn : ∀ w, RdQ w none none := fun w => .inl ⟨rfl, rfl⟩
    refine (works_calls w).mono ?_
    rintro _ w1 ⟨rfl, f1⟩
    refine ⟨_, rfl, IfB.f rfl ((ok_calls w1 _ _ (hn _)).mono ?_)⟩
    rintro _ w2 ⟨rfl, hm2⟩
    refine ⟨_, rfl, IfB.f rfl ((done_calls w2 _ _ (hn _)).mono ?_)⟩
    rintro _ w3 ⟨rfl, hm3⟩
    refine ⟨_, rfl, IfB.f rfl ((left_calls w3 _ _ (hn _)).mono ?_)⟩
    rintro _ w4 ⟨rfl, hm4⟩
    refine ⟨_, rfl, IfB.f rfl ((rnum_read w4 _ _ (hn _)).mono ?_)⟩
    rintro _ w5 ⟨rfl, _, hm5⟩
    refine ⟨_, rfl, IfB.f rfl ((count_read w5 _ _ 1 (hn _)).mono ?_)⟩
    rintro _ w6 ⟨rfl, _, hm6⟩
    refine ⟨_, rfl, IfB.f rfl ((str_read w6 _ _ 1 (hn _)).mono ?_)⟩
    rintro _ w7 ⟨rfl, _, hm7⟩
    refine ⟨_, rfl, IfB.f (by rw [str_beq]; rfl) ((flag_read w7 _ _ (hn _)).mono ?_)⟩
    rintro _ w8 ⟨rfl, _, hm8⟩
    exact ⟨_, rfl, rfl, trN (trN (trN (trN (trN (trN (trN f1 hm2) hm3) hm4) (ofNone hm5)) (ofNone hm6)) (ofNone hm7)) (ofNone hm8)⟩
  rintro u _ w1 ⟨rfl, f1⟩
  refine IfB.f rfl ?_
  refine ⟨(tc ⟨1, (-5), ⟨#[]⟩⟩).toArray, fun w => by kernel_rfl, (c1 (⟨1, (-5), ⟨#[]⟩⟩, [])).toArray, fun w => by kernel_rfl, ?_⟩
  refine ⟨(tc ⟨1, 2147483648, ⟨#[]⟩⟩).toArray, fun w => by kernel_rfl, (c1 (⟨1, 2147483648, ⟨#[]⟩⟩, [])).toArray, fun w => by kernel_rfl, ?_⟩
  refine ⟨(tc ⟨1, 2147483647, ⟨#[]⟩⟩).toArray, fun w => by kernel_rfl, (c1 (⟨1, 2147483647, ⟨#[]⟩⟩, [255, 255, 255, 255, 7])).toArray, fun w => by kernel_rfl, ?_⟩
  refine ⟨(tc ⟨1, 0, ⟨#[]⟩⟩).toArray, fun w => by kernel_rfl, (c1 (⟨1, 0, ⟨#[]⟩⟩, [0])).toArray, fun w => by kernel_rfl, ?_⟩
  refine ⟨(tc ⟨0, 64, ⟨#[]⟩⟩).toArray, fun w => by kernel_rfl, (c1 (⟨0, 64, ⟨#[]⟩⟩, [128, 1])).toArray, fun w => by kernel_rfl, ?_⟩
  refine ⟨(tc ⟨0, (-64), ⟨#[]⟩⟩).toArray, fun w => by kernel_rfl, (c1 (⟨0, (-64), ⟨#[]⟩⟩, [127])).toArray, fun w => by kernel_rfl, ?_⟩
  refine ⟨(tc ⟨0, 9223372036854775807, ⟨#[]⟩⟩).toArray, fun w => by kernel_rfl, (c1 (⟨0, 9223372036854775807, ⟨#[]⟩⟩, [254, 255, 255, 255, 255, 255, 255, 255, 255, 1])).toArray, fun w => by kernel_rfl, ?_⟩
  refine ⟨(tc ⟨0, (-9223372036854775808), ⟨#[]⟩⟩).toArray, fun w => by kernel_rfl, (c1 (⟨0, (-9223372036854775808), ⟨#[]⟩⟩, [255, 255, 255, 255, 255, 255, 255, 255, 255, 1])).toArray, fun w => by kernel_rfl, ?_⟩
  refine ⟨(tc ⟨2, 0, ⟨#[]⟩⟩).toArray, fun w => by kernel_rfl, (c1 (⟨2, 0, ⟨#[]⟩⟩, [0])).toArray, fun w => by kernel_rfl, ?_⟩
  refine ⟨(tc ⟨3, 1, ⟨#[]⟩⟩).toArray, fun w => by kernel_rfl, (c1 (⟨3, 1, ⟨#[]⟩⟩, [1])).toArray, fun w => by kernel_rfl, ?_⟩
  refine runT_lit st46 (by decide) (by decide) (cells := (T1.flatMap c1).toArray) (by kernel_rfl) (by kernel_rfl) ?_
  intro w2 hr2 hm2 hs2
  have f2 := trN f1 hm2
  have hL1 : HasL w2 ⟨some ⟨w1.heap.size, 0, none⟩, 10, 10⟩ 4 c1 T1 := ⟨by simpa using hr2.has, rfl, fun _ _ => rfl⟩
  generalize hsl : (⟨some ⟨w1.heap.size, 0, none⟩, 10, 10⟩ : Sl) = sl at hL1
  have hl10 : sl.l = 10 := by rw [← hsl]
  refine ⟨fun n x65 w' => ∃ i : Nat, x65 = (i : Int) ∧ i ≤ 10 ∧ n = 10 - i ∧ Frm none_ w2 w', 10, ⟨0, rfl, by omega, by omega, Frm.refl _ _⟩, ?_⟩
  rintro n u1 x65 w3 ⟨i, rfl, hi, rfl, hm3⟩
  refine IfB.intro (fun h => ?_) (fun h => ?_)
  · have hlt := of_decide_eq_true h
    obtain ⟨p, t, hp, ht, htm, _, hla⟩ := (hL1.mod hm3 (fun _ _ h => h)).at (by omega) (i := (i : Int)) (by omega) hlt
    obtain ⟨hto, htb⟩ := T1_tb htm
    refine ⟨p, hp, by omega, hlt, _, hla, ?_⟩
    intro b3 w4 hnb
    have hm4 := hnb.mod none_
    have hb3 : w3.heap.size = b3 := by obtain ⟨h, _⟩ := hnb; omega
    obtain ⟨hwr, hB, hm5⟩ := hnb.blk.whole (vs := (c1 t).toArray) rfl
    refine ⟨rfl, oneC1 t, hwr, ?_⟩
    rintro w5 rfl
    generalize setAt w4 (⟨b3, 0, none⟩ : Addr) (c1 t).toArray.toList 0 = w5 at hB hm5
    have g5 : Frm none_ w3 w5 := hm4.trans hm5 (fun _ _ h => h) (fun x hx he => by omega)
    refine ⟨fun w' => Frm none_ w5 w', frm_drew w5, (tc t.1).toArray, fun w' hw' => (hB.mod hw' (fun h => h)).ldPart rfl (fun j hj => ?_), str t.2, fun w' hw' => by rw [addr_add]; exact (hB.mod hw' (fun h => h)).ld rfl, ?_, ?_⟩
    · match j, hj with
      | 0, _ => rfl
      | 1, _ => rfl
      | 2, _ => rfl
    · have : t.2.length ≤ 30 := by
        have h1 := tb_len hto
        have h2 : t.1.s.size ≤ 10 := (show ∀ p ∈ T1, p.1.s.size ≤ 10 by decide +kernel) t htm
        rw [htb] at h1; omega
      rw [str_size]
      have e : (⟨#[98]⟩ : ByteArray).size = 1 := rfl
      omega
    refine runT_lit1 st22 (by decide) rfl ?_
    intro w6 hr6 hm6 hs6
    have hm6 : Frm none_ w5 w6 := hm6.ofDrew
    refine ⟨hm6, runT_markRow un22 un5 hr6 rfl ?_⟩
    intro w6' hh6 hm6' _
    have hm6' : Frm none_ w5 w6' := hm6.trans hm6' (fun _ _ h => h) (fun x hx he => by have e0 : w5.drew.heap.size = w5.heap.size := rfl; omega)
    refine ⟨hm6', ?_⟩
    have e98 : (Value.int IntKind.u8 98).cells.toList = bv [98] := rfl
    rw [e98] at hh6
    refine (thing_lay w6' t.1 hto _ [98] hh6 (by simp)).mono ?_
    rintro _ w7 ⟨r, rfl, hr7, _, hm7⟩
    have hm57 := trN hm6' hm7
    refine ⟨r, rfl, hm57, runT_str un22 un5 un9 hr7.has ⟨hm57, IfB.f ?_ ?_⟩⟩
    · have e : (⟨#[98]⟩ : ByteArray) ++ str t.2 = str ([98] ++ t.2) := by apply ByteArray.ext; simp [str]
      rw [htb, e]; simp
    · exact ⟨10 - (i + 1), by omega, i + 1, by rw [wi _ (by omega)]; omega, by omega, rfl, trN (trN hm3 g5) hm57⟩
  have f3 := trN f2 hm3
  refine ⟨(tc ⟨1, 299, ⟨#[]⟩⟩).toArray, fun w => by kernel_rfl, (c2 ([172, 2, 2, 110, 111, 5, 0], ⟨1, 299, ⟨#[]⟩⟩)).toArray, fun w => by kernel_rfl, ?_⟩
  refine ⟨(tc ⟨0, 0, ⟨#[]⟩⟩).toArray, fun w => by kernel_rfl, (c2 ([129, 0], ⟨0, 0, ⟨#[]⟩⟩)).toArray, fun w => by kernel_rfl, ?_⟩
  refine ⟨(tc ⟨3, 0, ⟨#[]⟩⟩).toArray, fun w => by kernel_rfl, (c2 ([2], ⟨3, 0, ⟨#[]⟩⟩)).toArray, fun w => by kernel_rfl, ?_⟩
  refine ⟨(tc ⟨1, 9, ⟨#[]⟩⟩).toArray, fun w => by kernel_rfl, (c2 ([131], ⟨1, 9, ⟨#[]⟩⟩)).toArray, fun w => by kernel_rfl, ?_⟩
  refine ⟨(tc ⟨2, 9, ⟨#[]⟩⟩).toArray, fun w => by kernel_rfl, (c2 ([3, 110, 111], ⟨2, 9, ⟨#[]⟩⟩)).toArray, fun w => by kernel_rfl, ?_⟩
  refine ⟨(tc ⟨0, 0, ⟨#[]⟩⟩).toArray, fun w => by kernel_rfl, (c2 ([], ⟨0, 0, ⟨#[]⟩⟩)).toArray, fun w => by kernel_rfl, ?_⟩
  refine ⟨(tc ⟨2, 0, ⟨#[]⟩⟩).toArray, fun w => by kernel_rfl, (c2 ([], ⟨2, 0, ⟨#[]⟩⟩)).toArray, fun w => by kernel_rfl, ?_⟩
  refine ⟨(tc ⟨1, (-1), ⟨#[]⟩⟩).toArray, fun w => by kernel_rfl, (c2 ([0], ⟨1, (-1), ⟨#[]⟩⟩)).toArray, fun w => by kernel_rfl, ?_⟩
  refine ⟨(tc ⟨2, (-1), ⟨#[]⟩⟩).toArray, fun w => by kernel_rfl, (c2 ([0], ⟨2, (-1), ⟨#[]⟩⟩)).toArray, fun w => by kernel_rfl, ?_⟩
  refine ⟨(tc ⟨2, 1, ⟨#[]⟩⟩).toArray, fun w => by kernel_rfl, (c2 ([2, 110, 111], ⟨2, 1, ⟨#[]⟩⟩)).toArray, fun w => by kernel_rfl, ?_⟩
  refine ⟨(tc ⟨0, 0, ⟨#[]⟩⟩).toArray, fun w => by kernel_rfl, (c2 ([255, 255, 255, 255, 255, 255, 255, 255, 255, 3], ⟨0, 0, ⟨#[]⟩⟩)).toArray, fun w => by kernel_rfl, ?_⟩
  refine ⟨(tc ⟨0, 0, ⟨#[]⟩⟩).toArray, fun w => by kernel_rfl, (c2 ([128, 128, 128, 128, 128, 128, 128, 128, 128, 128, 1], ⟨0, 0, ⟨#[]⟩⟩)).toArray, fun w => by kernel_rfl, ?_⟩
  refine ⟨(tc ⟨1, 4611686018427387904, ⟨#[]⟩⟩).toArray, fun w => by kernel_rfl, (c2 ([128, 128, 128, 128, 8], ⟨1, 4611686018427387904, ⟨#[]⟩⟩)).toArray, fun w => by kernel_rfl, ?_⟩
  refine ⟨(tc ⟨1, 4611686018427387904, ⟨#[]⟩⟩).toArray, fun w => by kernel_rfl, (c2 ([128, 128, 128, 128, 128, 128, 128, 128, 128, 1], ⟨1, 4611686018427387904, ⟨#[]⟩⟩)).toArray, fun w => by kernel_rfl, ?_⟩
  refine runT_lit st48 (by decide) (by decide) (cells := (T2.flatMap c2).toArray) (by kernel_rfl) (by kernel_rfl) ?_
  intro w4 hr4 hm4 hs4
  have f4 := trN f3 hm4
  have hL2 : HasL w4 ⟨some ⟨w3.heap.size, 0, none⟩, 14, 14⟩ 4 c2 T2 := ⟨by simpa using hr4.has, rfl, fun _ _ => rfl⟩
  generalize hsl2 : (⟨some ⟨w3.heap.size, 0, none⟩, 14, 14⟩ : Sl) = sl2 at hL2
  have hl14 : sl2.l = 14 := by rw [← hsl2]
  refine ⟨fun n x65 w' => ∃ i : Nat, x65 = (i : Int) ∧ i ≤ 14 ∧ n = 14 - i ∧ Frm none_ w4 w', 14, ⟨0, rfl, by omega, by omega, Frm.refl _ _⟩, ?_⟩
  rintro n u2 x65 w5 ⟨i, rfl, hi, rfl, hm5⟩
  have f5 := trN f4 hm5
  refine IfB.intro (fun h => ?_) (fun h => ?_)
  · have hlt := of_decide_eq_true h
    obtain ⟨p, t, hp, ht, htm, _, hla⟩ := (hL2.mod hm5 (fun _ _ h => h)).at (by omega) (i := (i : Int)) (by omega) hlt
    obtain ⟨hta, htl⟩ := T2_ok t htm
    refine ⟨p, hp, by omega, hlt, _, hla, ?_⟩
    intro b3 w6 hnb
    have hm6 := hnb.mod none_
    have hb3 : w5.heap.size = b3 := by obtain ⟨h, _⟩ := hnb; omega
    obtain ⟨hwr, hB, hm7⟩ := hnb.blk.whole (vs := (c2 t).toArray) rfl
    refine ⟨rfl, oneC2 t, hwr, ?_⟩
    rintro w7 rfl
    generalize setAt w6 (⟨b3, 0, none⟩ : Addr) (c2 t).toArray.toList 0 = w7 at hB hm7
    have g7 : Frm none_ w5 w7 := hm6.trans hm7 (fun _ _ h => h) (fun x hx he => by omega)
    refine ⟨str t.1, by rw [addr_add]; exact hB.ld rfl, (tc t.2).toArray, hB.ldPart rfl (fun j hj => ?_), ?_⟩
    · match j, hj with
      | 0, _ => rfl
      | 1, _ => rfl
      | 2, _ => rfl
    refine (failsL_calls w7 t.1 t.2 htl (by rw [ask_F]; exact hta)).mono ?_
    rintro _ w8 ⟨rfl, hm8⟩
    refine ⟨_, rfl, IfB.f rfl ⟨14 - (i + 1), by omega, i + 1, by rw [wi _ (by omega)]; omega, by omega, rfl, trN (trN hm5 g7) hm8⟩⟩
  refine runT_lit st22 (by decide) (by decide) (cells := (bv [255, 255, 255, 255, 255, 255, 255, 255, 255, 1, 33]).toArray) (by kernel_rfl) (by kernel_rfl) ?_
  intro w6 hr6 hm6 hs6
  refine runT_markRow un22 un5 hr6 rfl ?_
  intro w6' hh6 hm6' _
  have hm6 : Frm none_ w5 w6' := hm6.trans hm6' (fun _ _ h => h) (fun x hx he => by omega)
  refine (newReader_calls w6' _ [255, 255, 255, 255, 255, 255, 255, 255, 255, 1, 33] hh6 (by simp)).mono ?_
  rintro _ w7 ⟨k, rfl, hk, hR, hm7⟩
  have f7 := trN (trN f5 hm6) hm7
  have hkw : w.heap.size ≤ k := by have := (trN f5 hm6).size; omega
  refine ⟨_, rfl, (rnum_read w7 _ _ (.inr ⟨k, rfl, hR⟩)).mono ?_⟩
  have en : numR (some [255, 255, 255, 255, 255, 255, 255, 255, 255, 1, 33]) = (-9223372036854775808, some [33]) := by
    have : num [255, 255, 255, 255, 255, 255, 255, 255, 255, 1, 33] = some (18446744073709551615, 10) := by rw [num_F]; decide +kernel
    unfold numR; simp only [this]; rfl
  rw [en]
  rintro _ w8 ⟨rfl, h8, hm8⟩
  have f8 := frmOf f7 hkw hm8
  refine ⟨_, rfl, IfB.t rfl ((left_calls w8 _ _ h8).mono ?_)⟩
  rintro _ w9 ⟨rfl, hm9⟩
  have h9 := h8.mod hm9 (fun _ _ h => h)
  refine ⟨_, rfl, IfB.t rfl ((ok_calls w9 _ _ h9).mono ?_)⟩
  rintro _ w10 ⟨rfl, hm10⟩
  have h10 := h9.mod hm10 (fun _ _ h => h)
  refine ⟨_, rfl, IfB.t rfl ((done_calls w10 _ _ h10).mono ?_)⟩
  rintro _ w11 ⟨rfl, hm11⟩
  exact ⟨_, rfl, rfl, trN (trN (trN f8 hm9) hm10) hm11⟩
theorem names_law (W : World) : Calls prog 5 #[] W fun e w' => e = .returned (.bool true) ∧ Frm none_ W w' := names_calls W
end Go.Proofs.Ytmkennapbebbmaa
