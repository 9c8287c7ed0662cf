/- The law CodeApart walked: it returns true, and turns nothing that was there. -/
import Derived.Test.YtmkennapbebbmaaSizes
set_option linter.unusedVariables false
set_option linter.unusedSimpArgs false
namespace Go.Proofs.Ytmkennapbebbmaa
open Go Go.Proofs.YtmkennapbebbmaaV
theorem begins_calls (w : World) (s t : ByteArray) : Calls prog 31 #[.string s, .string t] w fun e w' => e = .returned (.bool (decide (t.data.toList <+: s.data.toList))) ∧ w = w' := by
  refine calls_ret (W31 (Q := fun v w' => v = .bool (decide (t.data.toList <+: s.data.toList)) ∧ w = w') ?_) (fun v w' ⟨h, h'⟩ => ⟨by rw [h], h'⟩)
  unfold F31
  have hs : s.data.toList.length = s.size := Array.length_toList
  have ht : t.data.toList.length = t.size := Array.length_toList
  refine IfB.intro (fun h => ?_) (fun h => ?_)
  · have h := of_decide_eq_true h
    refine ⟨by omega, ?_, rfl⟩
    rw [str_beq, ext_list]
    congr 2
    rw [Int.toNat_natCast, List.drop_zero, Nat.sub_zero, ← ht]
    exact propext ⟨fun e => e ▸ List.take_prefix _ _, fun e => (List.prefix_iff_eq_take.1 e).symm⟩
  · have h := of_decide_eq_false h
    refine ⟨?_, rfl⟩
    rw [decide_eq_false]
    intro e
    have := e.length_le
    omega
/-- Whether a thing may be laid. -/
def mayB (t : Th) : Bool := (t.k != 1) || (decide (t.n ≥ 0) && decide (t.n ≤ 2147483647))
theorem may_calls (w : World) (t : Th) : Calls prog 30 #[.agg (tc t).toArray] w fun e w' => e = .returned (.bool (mayB t)) ∧ Frm none_ w w' := by
  refine calls_ret (W30 (Q := fun v w' => v = .bool (mayB t) ∧ Frm none_ w w') ?_) (fun v w' ⟨h, h'⟩ => ⟨by rw [h], h'⟩)
  unfold F30
  intro b w1 hnb
  have hB := hnb.blk
  have hm := hnb.mod none_
  refine ⟨t.k, by rw [addr_add]; exact hB.ld rfl, IfB.intro (fun h => ⟨?_, hm⟩) (fun h => ?_)⟩
  · unfold mayB; rw [h]; rfl
  · have e : mayB t = (decide (t.n ≥ 0) && decide (t.n ≤ 2147483647)) := by unfold mayB; rw [h]; rfl
    rw [e]
    refine ⟨t.n, by rw [addr_add]; exact hB.ld rfl, IfB.intro (fun h => ?_) (fun h => ?_)⟩
    · refine ⟨t.n, by rw [addr_add]; exact hB.ld rfl, ?_, hm⟩
      rw [h]; rfl
    · rw [h]; exact ⟨rfl, hm⟩

/-- Whether two things of one kind are the same. -/
def sameB (a b : Th) : Bool := if a.k = 2 then a.s.toList == b.s.toList else if a.k > 2 then ((Int.tmod a.n 2 != 0) == (Int.tmod b.n 2 != 0)) else a.n == b.n
theorem tb_nil {t : Th} (h : mayB t = false) : tb t = [] := by
  unfold mayB at h
  simp only [Bool.or_eq_false_iff, bne_eq_false_iff_eq, Bool.and_eq_false_iff, decide_eq_false_iff_not] at h
  obtain ⟨h1, h2⟩ := h
  unfold tb
  rw [if_neg (by omega), if_pos h1, cb, if_pos (by omega)]
theorem tb_pos {t : Th} (h : mayB t = true) (hs : t.s.size ≤ 100000) : 0 < (tb t).length := by
  unfold tb
  split
  · exact gb_pos _
  split
  · rename_i hk
    unfold mayB at h
    simp only [Bool.or_eq_true, bne_iff_ne, Bool.and_eq_true, decide_eq_true_eq] at h
    rw [cb, if_neg (by omega)]
    exact gb_pos _
  split
  · rw [sb, if_neg (by omega), List.length_append]; have := gb_pos t.s.size; omega
  · cases (t.n.tmod 2 != 0) <;> decide
/-- No thing's bytes begin those of another one of its kind. -/
theorem tb_pre {a b : Th} (ha : OkT a) (hb : OkT b) (hk0 : 0 ≤ a.k) (hk : b.k = a.k) (ma : mayB a = true) (mb : mayB b = true) (sa : a.s.size ≤ 100000) (sb' : b.s.size ≤ 100000) : (tb b <+: tb a) ↔ sameB a b = true := by
  unfold mayB at ma mb
  simp only [Bool.or_eq_true, bne_iff_ne, Bool.and_eq_true, decide_eq_true_eq] at ma mb
  unfold tb sameB
  rw [hk]
  by_cases h0 : a.k = 0
  · rw [if_pos h0, if_pos h0, if_neg (by omega), if_neg (by omega), beq_iff_eq]
    constructor
    · intro h
      exact (zz_inj (gb_pre (zz_lt hb.n0 hb.n1) (zz_lt ha.n0 ha.n1) h)).symm
    · intro h; rw [h]; exact List.prefix_rfl
  rw [if_neg h0, if_neg h0]
  by_cases h1 : a.k = 1
  · rw [if_pos h1, if_pos h1, if_neg (by omega), if_neg (by omega), beq_iff_eq, cb, cb, if_neg (by omega), if_neg (by omega)]
    constructor
    · intro h
      have := gb_pre (u := b.n.toNat) (v := a.n.toNat) (by omega) (by omega) h
      omega
    · intro h; rw [h]; exact List.prefix_rfl
  rw [if_neg h1, if_neg h1]
  by_cases h2 : a.k = 2
  · rw [if_pos h2, if_pos h2, if_pos h2, str_beq, decide_eq_true_iff, sb, sb, if_neg (by omega), if_neg (by omega)]
    have hal : a.s.data.toList.length = a.s.size := Array.length_toList
    have hbl : b.s.data.toList.length = b.s.size := Array.length_toList
    constructor
    · rintro ⟨t, ht⟩
      rw [List.append_assoc] at ht
      obtain ⟨h3, h4⟩ := gb_inj (by omega) (by omega) ht
      have h5 := congrArg List.length h4
      rw [List.length_append] at h5
      have ht0 : t = [] := List.eq_nil_of_length_eq_zero (by omega)
      rw [ht0, List.append_nil] at h4
      exact h4.symm
    · intro h
      have : a.s.size = b.s.size := by rw [← hal, ← hbl, h]
      rw [this, h]
      exact List.prefix_rfl
  · rw [if_neg h2, if_neg h2, if_neg h2, if_pos (by omega)]
    cases (a.n.tmod 2 != 0) <;> cases (b.n.tmod 2 != 0) <;> decide
theorem sameB_symm {a b : Th} (hk : b.k = a.k) : sameB b a = sameB a b := by
  unfold sameB
  rw [hk]
  split
  · rw [str_beq, str_beq]; congr 1; exact propext eq_comm
  split
  · cases (a.n.tmod 2 != 0) <;> cases (b.n.tmod 2 != 0) <;> rfl
  · by_cases h : a.n = b.n
    · rw [h]
    · rw [beq_eq_false_iff_ne.2 h, beq_eq_false_iff_ne.2 (fun e => h e.symm)]

theorem apart_calls (w : World) (a b0 : Th) (ha : OkT a) (hb0 : OkT b0) (hk0 : 0 ≤ a.k) : Calls prog 6 #[.agg (tc a).toArray, .agg (tc b0).toArray] w fun e w' => e = .returned (.bool true) ∧ Frm none_ w w' := by
  refine calls_ret (W6 (Q := fun v w' => v = .bool true ∧ Frm none_ w w') ?_) (fun v w' ⟨h, h'⟩ => ⟨by rw [h], h'⟩)
  unfold F6
  intro b2 w1 hn1 b3 w2 hn2
  have hm1 := hn1.mod none_
  have hm2 := hn2.mod none_
  have hm12 := trN hm1 hm2
  have hA := hn1.blk.mod hm2 (fun h => h)
  have hB := hn2.blk
  have hne : b3 ≠ b2 := by
    have := hn1.size
    obtain ⟨h1, _⟩ := hn1
    obtain ⟨h2, _⟩ := hn2
    omega
  have hb3 : w.heap.size ≤ b3 := by
    have := hm1.size
    obtain ⟨h2, _⟩ := hn2
    omega
  refine ⟨fun v w' => Frm none_ w2 w' ∧ (v = false → a.s.size ≤ 100000 ∧ b0.s.size ≤ 100000), ?_, ?_⟩
  · refine (works_calls w2).mono ?_
    rintro _ w3 ⟨rfl, hm⟩
    refine ⟨true, rfl, IfB.f rfl ⟨a.s, by rw [addr_add]; exact (hA.mod hm (fun h => h)).ld rfl, b0.s, by rw [addr_add]; exact (hB.mod hm (fun h => h)).ld rfl, hm, fun h => ?_⟩⟩
    have h := of_decide_eq_false h
    have := ha.s0
    have := hb0.s0
    rw [wi _ (by omega)] at h
    omega
  rintro u x19 w3 ⟨hm3, hv⟩
  refine IfB.intro (fun h => ?_) (fun h => ?_)
  · refine (works_calls w3).mono ?_
    rintro _ w4 ⟨rfl, hm⟩
    exact ⟨true, rfl, rfl, trN (trN hm12 hm3) hm⟩
  obtain ⟨sa, sb0⟩ := hv h
  have hA3 := hA.mod hm3 (fun h => h)
  have hB3 := hB.mod hm3 (fun h => h)
  refine ⟨a.k, by rw [addr_add]; exact hA3.ld rfl, by rw [addr_add]; exact hB3.wr (show 0 < 3 by decide), ?_⟩
  rintro w4 rfl
  rw [addr_add]
  generalize hb : (⟨a.k, b0.n, b0.s⟩ : Th) = b
  have hk : b.k = a.k := by rw [← hb]
  have hbo : OkT b := by rw [← hb]; exact ⟨hb0.n0, hb0.n1, hb0.s0, ha.k0⟩
  have sb' : b.s.size ≤ 100000 := by rw [← hb]; exact sb0
  have hB4 : Blk (w3.setCell ⟨b3, 0, none⟩ (.int .u8 a.k)) b3 (tc b).toArray 28 := by rw [← hb]; exact hB3.set 0 _
  have hm4 : Frm none_ w (w3.setCell ⟨b3, 0, none⟩ (.int .u8 a.k)) := (trN hm12 hm3).trans mod_setCell (fun _ _ h => h) (fun x hx he => by simp only at he; omega)
  have hA4 : Blk (w3.setCell ⟨b3, 0, none⟩ (.int .u8 a.k)) b2 (tc a).toArray 28 := hA3.mod mod_setCell (fun h => hne h.symm)
  show ∃ J_1 : Bool → World → Prop, _
  generalize hw4 : w3.setCell ⟨b3, 0, none⟩ (.int .u8 a.k) = w4 at hB4 hm4 hA4 ⊢
  have w4e : w3.setCell ⟨b3, 0 + 0, none⟩ (.int .u8 a.k) = w4 := hw4
  refine ⟨fun v w' => Frm none_ w4 w' ∧ (v = false → mayB a = true ∧ mayB b = true) ∧ (v = true → mayB a = false ∨ mayB b = false), ?_, ?_⟩
  · refine ⟨_, by first | exact hA4.ldA rfl | (rw [w4e]; exact hA4.ldA rfl), ?_⟩
    refine (may_calls w4 a).mono ?_
    rintro _ w5 ⟨rfl, hm5⟩
    refine ⟨_, rfl, IfB.intro (fun h => ⟨hm5, by simp, fun _ => .inl (by simpa using h)⟩) (fun h => ?_)⟩
    refine ⟨_, (hB4.mod hm5 (fun h => h)).ldA rfl, (may_calls w5 b).mono ?_⟩
    rintro _ w6 ⟨rfl, hm6⟩
    refine ⟨_, rfl, trN hm5 hm6, fun h' => ⟨by simpa using h, by simpa using h'⟩, fun h' => .inr (by simpa using h')⟩
  rintro u1 x31 w5 ⟨hm5, hf, ht⟩
  have hA5 := hA4.mod hm5 (fun h => h)
  have hB5 := hB4.mod hm5 (fun h => h)
  have f5 := trN hm4 hm5
  refine IfB.intro (fun h => ?_) (fun h => ?_)
  · have hmay := ht h
    refine ⟨_, hA5.ldA rfl, (thing_lay w5 a ha ⟨none, 0, 0⟩ [] (nilHas _) (by simp)).mono ?_⟩
    rintro _ w6 ⟨r, rfl, hr, _, hm6⟩
    have hlr := rowLen hr
    rw [List.nil_append] at hlr
    refine ⟨r, rfl, IfB.intro (fun h => ⟨rfl, trN f5 hm6⟩) (fun h => ?_)⟩
    refine ⟨_, (hB5.mod hm6 (fun h => h)).ldA rfl, (thing_lay w6 b hbo ⟨none, 0, 0⟩ [] (nilHas _) (by simp)).mono ?_⟩
    rintro _ w7 ⟨q, rfl, hq, _, hm7⟩
    have hlq := rowLen hq
    rw [List.nil_append] at hlq
    refine ⟨q, rfl, ?_, trN (trN f5 hm6) hm7⟩
    have h := ne_of_beq_false h
    rcases hmay with hh | hh
    · rw [tb_nil hh] at hlr; simp at hlr; omega
    · rw [tb_nil hh] at hlq; rw [hlq]; rfl
  · obtain ⟨ma, mb⟩ := hf h
    have bn : b.n = b0.n := by rw [← hb]
    have bs : b.s = b0.s := by rw [← hb]
    refine ⟨a.n, by rw [addr_add]; exact hA5.ld rfl, b.n, by rw [addr_add]; exact hB5.ld rfl, ?_⟩
    refine ⟨fun v w' => w5 = w' ∧ v = sameB a b, ?_, ?_⟩
    · refine ⟨a.k, by rw [addr_add]; exact hA5.ld rfl, IfB.intro (fun h => ?_) (fun h => ?_)⟩
      · have hk2 := eq_of_beq h
        exact ⟨a.s, by rw [addr_add]; exact hA5.ld rfl, b.s, by rw [addr_add]; exact hB5.ld rfl, rfl, by unfold sameB; rw [if_pos hk2]⟩
      · have hk2 := ne_of_beq_false h
        refine ⟨a.k, by rw [addr_add]; exact hA5.ld rfl, IfB.intro (fun h => ?_) (fun h => ?_)⟩
        · have hk3 := of_decide_eq_true h
          refine ⟨a.n, by rw [addr_add]; exact hA5.ld rfl, by decide, b.n, by rw [addr_add]; exact hB5.ld rfl, by decide, _, bool_eql _ _ _ _, rfl, ?_⟩
          unfold sameB; rw [if_neg hk2, if_pos hk3]
        · have hk3 := of_decide_eq_false h
          exact ⟨rfl, by unfold sameB; rw [if_neg hk2, if_neg hk3]⟩
    rintro u2 x5 _ ⟨rfl, rfl⟩
    have key1 := tb_pre ha hbo hk0 hk ma mb sa sb'
    have key2 := tb_pre hbo ha (by omega) hk.symm mb ma sb' sa
    rw [sameB_symm hk] at key2
    have hpos := tb_pos ma sa
    -- what is left once both are laid and are texts
    have fin : ∀ (w8 : World), Frm none_ w w8 → Calls prog 31 #[.string (str (tb a)), .string (str (tb b))] w8 fun en w1_10 =>
        ∃ t77 : Bool, en = .returned (.bool t77) ∧ ∃ b79 : Bool, BinIs prog .eql 4 (.tmp 77) (.tmp 78) (.bool t77) (.bool (sameB a b)) b79 ∧
        IfB b79 (Calls prog 31 #[.string (str (tb b)), .string (str (tb a))] w1_10 fun en w1_11 =>
          ∃ t83 : Bool, en = .returned (.bool t83) ∧ ∃ b85 : Bool, BinIs prog .eql 4 (.tmp 83) (.tmp 84) (.bool t83) (.bool (sameB a b)) b85 ∧
          IfB b85 (Value.bool (decide ((((str (tb a)).size : Nat) : Int) > (0 : Int))) = .bool true ∧ Frm none_ w w1_11) (Value.bool false = .bool true ∧ Frm none_ w w1_11))
          (Value.bool false = .bool true ∧ Frm none_ w w1_10) := by
      intro w8 hm8
      refine (begins_calls w8 _ _).mono ?_
      rintro _ _ ⟨rfl, rfl⟩
      rw [str_data, str_data]
      refine ⟨_, rfl, _, bool_eql _ _ _ _, IfB.t ?_ ?_⟩
      · by_cases hs : sameB a b = true
        · rw [hs, decide_eq_true (key1.2 hs)]; rfl
        · rw [decide_eq_false (fun h => hs (key1.1 h)), show sameB a b = false by simpa using hs]; rfl
      refine (begins_calls w8 _ _).mono ?_
      rintro _ _ ⟨rfl, rfl⟩
      rw [str_data, str_data]
      refine ⟨_, rfl, _, bool_eql _ _ _ _, IfB.t ?_ ⟨?_, hm8⟩⟩
      · by_cases hs : sameB a b = true
        · rw [hs, decide_eq_true (key2.2 hs)]; rfl
        · rw [decide_eq_false (fun h => hs (key2.1 h)), show sameB a b = false by simpa using hs]; rfl
      · rw [str_size, decide_eq_true (by omega)]
    refine ⟨fun w' => Frm none_ w5 w', (Frm.refl _ _).drew, _, fun w' hw' => (hA5.mod hw' (fun h => h)).ldA rfl, _, fun w' hw' => (hB5.mod hw' (fun h => h)).ldA rfl, ?_⟩
    refine (thing_lay w5.drew a ha ⟨none, 0, 0⟩ [] (nilHas _) (by simp)).mono ?_
    rintro _ w6 ⟨r, rfl, hr, _, hm6⟩
    rw [List.nil_append] at hr
    have hm6' : Frm none_ w5 w6 := hm6.ofDrew
    refine ⟨r, rfl, hm6', ?_, ?_⟩
    · refine runT_str un22 un5 un9 hr.has ?_
      refine ⟨hm6', (thing_lay w6 b hbo ⟨none, 0, 0⟩ [] (nilHas _) (by simp)).mono ?_⟩
      rintro _ w7 ⟨q, rfl, hq, _, hm7⟩
      rw [List.nil_append] at hq
      refine ⟨q, rfl, runT_str un22 un5 un9 hq.has ?_⟩
      exact fin w7 (trN (trN f5 hm6') hm7)
    · refine (thing_lay w6 b hbo ⟨none, 0, 0⟩ [] (nilHas _) (by simp)).mono ?_
      rintro _ w7 ⟨q, rfl, hq, _, hm7⟩
      rw [List.nil_append] at hq
      have f7 := trN (trN f5 hm6') hm7
      refine ⟨q, rfl, ?_, ?_⟩
      · refine runT_str un22 un5 un9 (hr.mod hm7 (fun _ _ h => h)).has ?_
        refine ⟨trivial, runT_str un22 un5 un9 hq.has ?_⟩
        exact fin w7 f7
      · refine runT_str un22 un5 un9 hq.has ?_
        refine runT_str un22 un5 un9 (hr.mod hm7 (fun _ _ h => h)).has ?_
        exact ⟨trivial, fin w7 f7⟩
theorem apart_law (W : World) (a : Th) (ha : OkT a) (b : Th) (hb : OkT b) : Calls prog 6 #[.agg (tc a).toArray, .agg (tc b).toArray] W fun e w' => e = .returned (.bool true) ∧ Frm none_ W w' := apart_calls W a b ha hb ha.k0
end Go.Proofs.Ytmkennapbebbmaa
