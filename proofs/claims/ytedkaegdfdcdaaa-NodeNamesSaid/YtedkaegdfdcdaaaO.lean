/- The document's Encode; sizes; what fits; whether two nodes are the same; copies of nodes; where a key stands. -/
import Derived.Test.YtedkaegdfdcdaaaB
set_option linter.unusedVariables false
set_option linter.unusedSimpArgs false
namespace Go.Proofs.Ytedkaegdfdcdaaa
open Go Go.Proofs.YtedkaegdfdcdaaaV
theorem Encode_calls (w : World) (k v d : Sl) (n : Nd) (h : NdS w k v d n) (hsm : SmN n) : Calls prog 13 #[.agg (ndc n.leaf k v d)] w fun e w' => ∃ r : Sl, e = .returned (.tuple #[.slice r.a r.l r.c, .int .i64 (encC n)]) ∧ Has w' r 1 (bv (encL n)) ∧ New w r ∧ Frm none_ w w' := by
  refine callsRet (W13 (Q := fun v w' => ∃ r : Sl, v = .tuple #[.slice r.a r.l r.c, .int .i64 (encC n)] ∧ Has w' r 1 (bv (encL n)) ∧ New w r ∧ Frm none_ w w') ?_) (fun v w' ⟨r, h, h'⟩ => ⟨r, by rw [h], h'⟩)
  unfold F13
  intro b1 w1 hN
  have hB := Bk.new hN h
  have f1 : Frm none_ w w1 := hN.mod _
  refine ⟨_, hB.la, (May_calls w1 k v d n hB.nd hsm).mono ?_⟩
  rintro _ w2 ⟨b, rfl, hb, f2⟩
  have f12 := f1.n f2
  have z2 := f12.size
  have hnil : New w ⟨none, 0, 0⟩ := fun k hk => by simp [Sl.blk] at hk
  refine ⟨_, rfl, IfB.intro (fun hc => ?_) (fun hc => ?_)⟩
  · have hc : b = false := by simpa using hc
    have hn : ¬ MayN n := fun hm => by have := hb.2 hm; rw [hc] at this; cases this
    rcases encC_cases n with ⟨_, e1, e2⟩ | ⟨hm, _⟩ | ⟨hm, _⟩
    · refine ⟨⟨none, 0, 0⟩, by rw [e1], by rw [e2]; exact nilHas _, hnil, f12⟩
    · exact absurd hm hn
    · exact absurd hm hn
  have hc : b = true := by simpa using hc
  have hm := hb.1 hc
  have hB2 := hB.mod f2
  refine ⟨_, hB2.la, (Bytes_calls w2 k v d n hB2.nd hsm hm).mono ?_⟩
  rintro _ w3 ⟨r, rfl, hr, hn, f3⟩
  have f13 := f12.n f3
  have hrl := rowLen hr
  refine ⟨r, rfl, IfB.intro (fun hd => ?_) (fun hd => ?_)⟩
  · have hd := of_decide_eq_true hd
    rcases encC_cases n with ⟨hn, _⟩ | ⟨_, _, e1, e2⟩ | ⟨_, hl, _⟩
    · exact absurd hm hn
    · refine ⟨⟨none, 0, 0⟩, by rw [e1], by rw [e2]; exact nilHas _, hnil, f13⟩
    · omega
  have hd := of_decide_eq_false hd
  rcases encC_cases n with ⟨hn, _⟩ | ⟨_, hl, _⟩ | ⟨_, hl, e1, e2⟩
  · exact absurd hm hn
  · omega
  have hpos : 1 ≤ (nb n).length := by
    have := fb_len n.leaf
    unfold nb nbT nb0
    simp only [List.length_append]; omega
  have hrb : ∃ g, r.blk = some g := by
    rcases hr.cases with ⟨rfl, _⟩ | ⟨g, cur, ha, _⟩
    · simp at hrl; omega
    · exact ⟨g, by simp [Sl.blk, ha]⟩
  have e3 : IntKind.wrap .i64 ((256 : Int) - (r.l : Int)) = ((256 - (nb n).length : Nat) : Int) := by rw [wrap64 _ (by omega)]; omega
  rw [e3]
  refine runT_appendZ hr hrb _ (by omega) ?_
  intro s' w4 hr4 hl4 hn4 f4
  have e4 : bv (nb n) ++ List.replicate (256 - (nb n).length) (Value.int .u8 0) = bv (encL n) := by rw [e2, enc, bv_append, bv_zero]
  rw [e4] at hr4
  have z3 := f3.size
  refine ⟨s', by rw [e1], hr4.has, fun j hj => ?_, f13.trans f4 (fun _ _ h => h) (fun j _ hj => by have := hn j hj; omega)⟩
  rcases hn4.cases hj with hj | hj
  · have := hn j hj; omega
  · omega
theorem size_calls (w : World) (k v d : Sl) (n : Nd) (h : NdS w k v d n) (hsm : SmN n) : Calls prog 16 #[.agg (ndc n.leaf k v d)] w fun e w' => e = .returned (.int .i64 (sizN n)) ∧ Frm none_ w w' := by
  refine callsRet (W16 (Q := fun v w' => v = .int .i64 (sizN n) ∧ Frm none_ w w') ?_) (fun v w' ⟨h, h'⟩ => ⟨by rw [h], h'⟩)
  unfold F16
  intro b1 w1 hN
  have hB := Bk.new hN h
  have f1 : Frm none_ w w1 := hN.mod _
  refine ⟨_, hB.la, (may_calls w1 k v d n hB.nd hsm).mono ?_⟩
  rintro _ w2 ⟨b, rfl, hb, f2⟩
  have hB2 := hB.mod f2
  refine ⟨_, rfl, IfB.intro (fun hc => ?_) (fun hc => ?_)⟩
  · have hc : b = false := by simpa using hc
    have hn : ¬ MayN n := fun hm => by have := hb.2 hm; rw [hc] at this; cases this
    exact ⟨by rw [sizN, if_neg hn], f1.n f2⟩
  · have hm := hb.1 (by simpa using hc)
    refine ⟨_, hB2.la, (bytes_calls w2 k v d n hB2.nd hsm hm).mono ?_⟩
    rintro _ w3 ⟨r, rfl, hr, hn, f3⟩
    exact ⟨r, rfl, by rw [sizN, if_pos hm, rowLen hr], f1.n (f2.n f3)⟩
theorem Size_calls (w : World) (k v d : Sl) (n : Nd) (h : NdS w k v d n) (hsm : SmN n) : Calls prog 17 #[.agg (ndc n.leaf k v d)] w fun e w' => e = .returned (.int .i64 (sizN n)) ∧ Frm none_ w w' := by
  refine callsRet (W17 (Q := fun v w' => v = .int .i64 (sizN n) ∧ Frm none_ w w') ?_) (fun v w' ⟨h, h'⟩ => ⟨by rw [h], h'⟩)
  unfold F17
  intro b1 w1 hN
  have hB := Bk.new hN h
  have f1 : Frm none_ w w1 := hN.mod _
  refine ⟨_, hB.la, (May_calls w1 k v d n hB.nd hsm).mono ?_⟩
  rintro _ w2 ⟨b, rfl, hb, f2⟩
  have hB2 := hB.mod f2
  refine ⟨_, rfl, IfB.intro (fun hc => ?_) (fun hc => ?_)⟩
  · have hc : b = false := by simpa using hc
    have hn : ¬ MayN n := fun hm => by have := hb.2 hm; rw [hc] at this; cases this
    exact ⟨by rw [sizN, if_neg hn], f1.n f2⟩
  · have hm := hb.1 (by simpa using hc)
    refine ⟨_, hB2.la, (Bytes_calls w2 k v d n hB2.nd hsm hm).mono ?_⟩
    rintro _ w3 ⟨r, rfl, hr, hn, f3⟩
    exact ⟨r, rfl, by rw [sizN, if_pos hm, rowLen hr], f1.n (f2.n f3)⟩
def FitsN (n : Nd) : Prop := MayN n ∧ (nb n).length ≤ 256
theorem fits_calls (w : World) (k v d : Sl) (n : Nd) (h : NdS w k v d n) (hsm : SmN n) : Calls prog 18 #[.agg (ndc n.leaf k v d)] w fun e w' => ∃ b : Bool, e = .returned (.bool b) ∧ (b = true ↔ FitsN n) ∧ Frm none_ w w' := by
  refine callsRet (W18 (Q := fun v w' => ∃ b : Bool, v = .bool b ∧ (b = true ↔ FitsN n) ∧ Frm none_ w w') ?_) (fun v w' ⟨b, h, h'⟩ => ⟨b, by rw [h], h'⟩)
  unfold F18
  intro b1 w1 hN
  have hB := Bk.new hN h
  have f1 : Frm none_ w w1 := hN.mod _
  refine ⟨_, hB.la, (may_calls w1 k v d n hB.nd hsm).mono ?_⟩
  rintro _ w2 ⟨b, rfl, hb, f2⟩
  have hB2 := hB.mod f2
  refine ⟨_, rfl, IfB.intro (fun hc => ?_) (fun hc => ?_)⟩
  · have hm := hb.1 hc
    refine ⟨_, hB2.la, (size_calls w2 k v d n hB2.nd hsm).mono ?_⟩
    rintro _ w3 ⟨rfl, f3⟩
    refine ⟨_, rfl, _, rfl, ?_, f1.n (f2.n f3)⟩
    rw [sizN, if_pos hm, decide_eq_true_iff]
    exact ⟨fun h => ⟨hm, by omega⟩, fun h => by have := h.2; omega⟩
  · have hn : ¬ MayN n := fun hm => by have := hb.2 hm; rw [hc] at this; cases this
    exact ⟨false, rfl, by simp only [Bool.false_eq_true, false_iff]; exact fun h => hn h.1, f1.n f2⟩
theorem bool_neq (i j : Nat) (a b : Bool) : BinIs prog .neq 4 (.tmp i) (.tmp j) (.bool a) (.bool b) (a != b) := fun w => by
  cases a <;> cases b <;> kernel_rfl
theorem ext_of {α : Type} {l m : List α} (hl : l.length = m.length) (h : ∀ j, j < l.length → l[j]? = m[j]?) : l = m := by
  apply List.ext_getElem?
  intro i
  by_cases hi : i < l.length
  · exact h i hi
  · rw [List.getElem?_eq_none (by omega), List.getElem?_eq_none (by omega)]
set_option maxRecDepth 20000 in
theorem same_calls (w : World) (k v d k' v' d' : Sl) (n m : Nd) (h : NdS w k v d n) (h' : NdS w k' v' d' m) (hb : n.keys.length ≤ 1000000000 ∧ n.vals.length ≤ 1000000000 ∧ n.kids.length ≤ 1000000000) :
    Calls prog 19 #[.agg (ndc n.leaf k v d), .agg (ndc m.leaf k' v' d')] w fun e w' => ∃ b : Bool, e = .returned (.bool b) ∧ (b = true ↔ n = m) ∧ Frm none_ w w' := by
  refine callsRet (W19 (Q := fun v w' => ∃ b : Bool, v = .bool b ∧ (b = true ↔ n = m) ∧ Frm none_ w w') ?_) (fun v w' ⟨b, h, h'⟩ => ⟨b, by rw [h], h'⟩)
  unfold F19
  intro b1 w1 hN b2 w2 hN2
  have f1 : Frm none_ w w1 := hN.mod _
  have f2 : Frm none_ w1 w2 := hN2.mod _
  have hB := (Bk.new hN h).mod f2
  have hC := Bk.new hN2 (h'.mod f1)
  have f12 := f1.n f2
  obtain ⟨hb1, hb2, hb3⟩ := hb
  have hkl := has_sv h.hk
  have hvl := has_sv h.hv
  have hdl := has_iv h.hd
  have hkl' := has_sv h'.hk
  have hvl' := has_sv h'.hv
  have hdl' := has_iv h'.hd
  refine ⟨fun c w' => w' = w2 ∧ (c = true → n ≠ m) ∧ (c = false → n.leaf = m.leaf ∧ k.l = k'.l ∧ v.l = v'.l ∧ d.l = d'.l), ⟨n.leaf, hB.l0, m.leaf, hC.l0, _, bool_neq _ _ _ _, IfB.intro (fun hc => ⟨rfl, fun _ e => ?_, by simp⟩) (fun hc => ?_)⟩, ?_⟩
  · rw [e] at hc; simp at hc
  · have hc : n.leaf = m.leaf := by simpa using hc
    refine ⟨k, hB.l1, k', hC.l1, IfB.intro (fun hd => ⟨rfl, fun _ e => ?_, by simp⟩) (fun hd => ⟨v, hB.l2, v', hC.l2, IfB.intro (fun he => ⟨rfl, fun _ e => ?_, by simp⟩) (fun he => ⟨d, hB.l3, d', hC.l3, rfl, fun hf e => ?_, fun hf => ?_⟩)⟩)⟩
    · have hd := iNe hd
      rw [e] at hkl; omega
    · have he := iNe he
      rw [e] at hvl; omega
    · have hf := iNe hf
      rw [e] at hdl; omega
    · have hf := iEq hf
      have he := iEq he
      have hd := iEq hd
      exact ⟨hc, by omega, by omega, by omega⟩
  rintro u c w2' ⟨rfl, hct, hcf⟩
  refine IfB.intro (fun hc => ⟨false, rfl, by simpa using hct hc, f12⟩) (fun hc => ?_)
  obtain ⟨e0, e1, e2, e3⟩ := hcf hc
  clear hct hcf hc
  refine ⟨fun q x w' => ∃ i : Nat, x = (i : Int) ∧ i ≤ k.l ∧ q = k.l - i ∧ (∀ j, j < i → n.keys[j]? = m.keys[j]?) ∧ Bk w' b1 25 k v d n ∧ Bk w' b2 25 k' v' d' m ∧ Frm none_ w w', k.l, ⟨0, rfl, Nat.zero_le _, by omega, by omega, hB, hC, f12⟩, ?_⟩
  clear hB hC f12 f1 f2 hN hN2
  rintro q u x w3 ⟨i, rfl, hi, rfl, hk, hB, hC, f3⟩
  refine ⟨k, hB.l1, IfB.intro (fun hc => ?_) (fun hc => ?_)⟩
  · have hlt := of_decide_eq_true hc
    obtain ⟨q, x, hq, hx, hld⟩ := sv_at hB.drew.nd.hk (i := i) (by omega)
    obtain ⟨q', x', hq', hx', hld'⟩ := sv_at hC.drew.nd.hk (i := i) (by omega)
    refine ⟨k, hB.drew.l1, q, hq, by omega, by omega, x, hld, k', hC.drew.l1, q', hq', by omega, by omega, x', hld', IfB.intro (fun hd => ⟨false, rfl, ?_, f3.drew⟩) (fun hd => ⟨k.l - (i + 1), by omega, i + 1, by rw [wrap64 _ (by omega)]; omega, by omega, rfl, ?_, hB.drew, hC.drew, f3.drew⟩)⟩
    · simp only [Bool.false_eq_true, false_iff]
      intro e
      rw [e, hx'] at hx
      cases hx
      rw [(str_eqIff _ _).2 rfl] at hd; cases hd
    · intro j hj
      rcases Nat.lt_succ_iff_lt_or_eq.1 hj with hh | rfl
      · exact hk j hh
      · have hd : (x.toList == x'.toList) = true := by simpa using hd
        rw [hx, hx', (str_eqIff _ _).1 hd]
  have hge := of_decide_eq_false hc
  have hK := ext_of (l := n.keys) (m := m.keys) (by omega) (fun j hj => hk j (by omega))
  clear hk hi hc hge
  refine ⟨fun q x w' => ∃ i : Nat, x = (i : Int) ∧ i ≤ v.l ∧ q = v.l - i ∧ (∀ j, j < i → n.vals[j]? = m.vals[j]?) ∧ Bk w' b1 25 k v d n ∧ Bk w' b2 25 k' v' d' m ∧ Frm none_ w w', v.l, ⟨0, rfl, Nat.zero_le _, by omega, by omega, hB, hC, f3⟩, ?_⟩
  clear hB hC f3
  rintro q u1 x w4 ⟨i, rfl, hi, rfl, hk, hB, hC, f3⟩
  refine ⟨v, hB.l2, IfB.intro (fun hc => ?_) (fun hc => ?_)⟩
  · have hlt := of_decide_eq_true hc
    obtain ⟨q, x, hq, hx, hld⟩ := sv_at hB.drew.nd.hv (i := i) (by omega)
    obtain ⟨q', x', hq', hx', hld'⟩ := sv_at hC.drew.nd.hv (i := i) (by omega)
    refine ⟨v, hB.drew.l2, q, hq, by omega, by omega, x, hld, v', hC.drew.l2, q', hq', by omega, by omega, x', hld', IfB.intro (fun hd => ⟨false, rfl, ?_, f3.drew⟩) (fun hd => ⟨v.l - (i + 1), by omega, i + 1, by rw [wrap64 _ (by omega)]; omega, by omega, rfl, ?_, hB.drew, hC.drew, f3.drew⟩)⟩
    · simp only [Bool.false_eq_true, false_iff]
      intro e
      rw [e, hx'] at hx
      cases hx
      rw [(str_eqIff _ _).2 rfl] at hd; cases hd
    · intro j hj
      rcases Nat.lt_succ_iff_lt_or_eq.1 hj with hh | rfl
      · exact hk j hh
      · have hd : (x.toList == x'.toList) = true := by simpa using hd
        rw [hx, hx', (str_eqIff _ _).1 hd]
  have hge := of_decide_eq_false hc
  have hV := ext_of (l := n.vals) (m := m.vals) (by omega) (fun j hj => hk j (by omega))
  clear hk hi hc hge
  refine ⟨fun q x w' => ∃ i : Nat, x = (i : Int) ∧ i ≤ d.l ∧ q = d.l - i ∧ (∀ j, j < i → n.kids[j]? = m.kids[j]?) ∧ Bk w' b1 25 k v d n ∧ Bk w' b2 25 k' v' d' m ∧ Frm none_ w w', d.l, ⟨0, rfl, Nat.zero_le _, by omega, by omega, hB, hC, f3⟩, ?_⟩
  clear hB hC f3
  rintro q u2 x w5 ⟨i, rfl, hi, rfl, hk, hB, hC, f3⟩
  refine ⟨d, hB.l3, IfB.intro (fun hc => ?_) (fun hc => ?_)⟩
  · have hlt := of_decide_eq_true hc
    obtain ⟨q, x, hq, hx, hld⟩ := iv_at hB.drew.nd.hd (i := i) (by omega)
    obtain ⟨q', x', hq', hx', hld'⟩ := iv_at hC.drew.nd.hd (i := i) (by omega)
    refine ⟨d, hB.drew.l3, q, hq, by omega, by omega, x, hld, d', hC.drew.l3, q', hq', by omega, by omega, x', hld', IfB.intro (fun hd => ⟨false, rfl, ?_, f3.drew⟩) (fun hd => ⟨d.l - (i + 1), by omega, i + 1, by rw [wrap64 _ (by omega)]; omega, by omega, rfl, ?_, hB.drew, hC.drew, f3.drew⟩)⟩
    · have hd := iNe hd
      simp only [Bool.false_eq_true, false_iff]
      intro e
      rw [e, hx'] at hx
      cases hx
      exact hd rfl
    · have hd := iEq hd
      intro j hj
      rcases Nat.lt_succ_iff_lt_or_eq.1 hj with hh | rfl
      · exact hk j hh
      · rw [hx, hx', hd]
  have hge := of_decide_eq_false hc
  have hD := ext_of (l := n.kids) (m := m.kids) (by omega) (fun j hj => hk j (by omega))
  refine ⟨true, rfl, ?_, f3⟩
  simp only [true_iff]
  cases n; cases m
  simp only at e0 hK hV hD
  rw [e0, hK, hV, hD]
theorem b25 (b : Bool) (k v d : Sl) : BuildIs prog 25 #[(0, .bool b), (1, .slice k.a k.l k.c), (2, .slice v.a v.l v.c), (3, .slice d.a d.l d.c)] (ndc b k v d) := fun w => by kernel_rfl
theorem b28 (b : Bool) (k v d : Sl) : BuildIs prog 28 #[(0, .bool b), (1, .slice k.a k.l k.c), (2, .slice v.a v.l v.c), (3, .slice d.a d.l d.c)] (ndc b k v d) := fun w => by kernel_rfl
theorem ndc_one (b : Bool) (k v d : Sl) : ∀ u, u ∈ (ndc b k v d).toList → u.oneCell' = true := by
  intro u hu
  simp only [ndc, List.mem_cons, List.not_mem_nil, or_false] at hu
  rcases hu with rfl | rfl | rfl | rfl <;> rfl
theorem back_calls (w : World) (k v d : Sl) (n : Nd) (h : NdS w k v d n) : Calls prog 20 #[.agg (ndc n.leaf k v d)] w fun e w' => e = .returned (.agg (ndc n.leaf k v d)) ∧ Frm none_ w w' := by
  refine callsRet (W20 (Q := fun x w' => x = .agg (ndc n.leaf k v d) ∧ Frm none_ w w') ?_) (fun v w' ⟨h, h'⟩ => ⟨by rw [h], h'⟩)
  unfold F20
  intro b1 w1 hN b2 w2 hN2
  have f1 : Frm none_ w w1 := hN.mod _
  have f2 : Frm none_ w1 w2 := hN2.mod _
  have hB := (Bk.new hN h).mod f2
  refine ⟨n.leaf, hB.l0, k, hB.l1, v, hB.l2, d, hB.l3, _, b25 _ _ _ _, hN2.blk.setW rfl rfl (ndc_one _ _ _ _) ?_⟩
  intro w3 hC f3
  exact ⟨_, hC.ldA rfl, rfl, (f1.n f2).b f3 (by rw [hN2.b]; exact f1.size)⟩
/-- What a copy is made of, step by step: two rows of texts, one of numbers. -/
def okS (wb w : World) (E : TypeId) : Option (Sl × List Value) → Prop
  | none => True
  | some p => Row w p.1 E 1 p.2 ∧ New wb p.1
structure Gv (wb w : World) (a b c : Option (Sl × List Value)) : Prop where
  fr : Frm none_ wb w
  oa : okS wb w 9 a
  ob : okS wb w 9 b
  oc : okS wb w 3 c
  ab : ∀ p q, a = some p → b = some q → ∀ j, p.1.blk = some j → q.1.blk ≠ some j
section
variable {wb w : World} {a b c : Option (Sl × List Value)}
theorem okS.mod {E : TypeId} {o : Option (Sl × List Value)} {F : Nat → Prop} {w' : World} (h : okS wb w E o) (f : Frm F w w') (hn : ∀ p, o = some p → ∀ j, p.1.blk = some j → ¬ F j) : okS wb w' E o := by
  cases o with
  | none => trivial
  | some p => exact ⟨h.1.mod f (hn p rfl), h.2⟩
theorem okS.lt {E : TypeId} {o : Option (Sl × List Value)} (h : okS wb w E o) : ∀ p, o = some p → ∀ j, p.1.blk = some j → j < w.heap.size := by
  rintro p rfl j hj
  exact h.1.lt j hj
theorem Gv.swap (h : Gv wb w a b c) : Gv wb w b a c := ⟨h.fr, h.ob, h.oa, h.oc, fun p q hp hq j hj hj' => h.ab q p hq hp j hj' hj⟩
theorem Gv.litA (h : Gv wb w none b c) {K : Sl → World → Prop} (hk : ∀ t w', Gv wb w' (some (t, [])) b c → K t w') : RunT prog .slice (Instr.buildSlice 22 0 #[]) w K := by
  refine runT_lit0 st22s fun w' hr f z => hk _ w' ?_
  have hz := h.fr.size
  exact ⟨h.fr.n f, ⟨hr, fun j hj => by simp [Sl.blk] at hj; omega⟩, h.ob.mod f (fun _ _ _ _ h => h), h.oc.mod f (fun _ _ _ _ h => h), fun p q hp hq j hj hj' => by
    cases hp
    simp [Sl.blk] at hj
    have := h.ob.lt q hq j hj'
    omega⟩
theorem Gv.litB {p : Sl × List Value} (h : Gv wb w (some p) none c) {K : Sl → World → Prop} (hk : ∀ t' w', Gv wb w' (some p) (some (t', [])) c → K t' w') : RunT prog .slice (Instr.buildSlice 22 0 #[]) w K :=
  Gv.litA h.swap fun t' w' h' => hk t' w' h'.swap
theorem Gv.litC (h : Gv wb w a b none) {K : Sl → World → Prop} (hk : ∀ t w', Gv wb w' a b (some (t, [])) → K t w') : RunT prog .slice (Instr.buildSlice 23 0 #[]) w K := by
  refine runT_lit0 st23 fun w' hr f z => hk _ w' ?_
  have hz := h.fr.size
  exact ⟨h.fr.n f, h.oa.mod f (fun _ _ _ _ h => h), h.ob.mod f (fun _ _ _ _ h => h), ⟨hr, fun j hj => by simp [Sl.blk] at hj; omega⟩, h.ab⟩
theorem Gv.appA {t x : Sl} {l : List ByteArray} (h : Gv wb w (some (t, [])) b c) (hx : Has wb x 1 (sv l)) (hb : l.length ≤ 1000000000) {K : Sl → World → Prop} (hk : ∀ t' w', Gv wb w' (some (t', sv l)) b c → K t' w') :
    RunT prog .slice (Builtin.append_ #[22, 22] 22 #[.slice t.a t.l t.c, .slice x.a x.l x.c]) w K := by
  have hr : Row w t 9 1 [] := h.oa.1
  have hn : New wb t := h.oa.2
  have htl : t.l = 0 := by have := hr.len; simp at this; omega
  have hxl := has_sv hx
  have hz := h.fr.size
  refine runT_append st22s hr (hx.mod h.fr (fun _ _ h => h)) (sv_one _) (by omega) (by simp only [maxLen]; omega) fun t' w' hr' hl' hn' f => hk t' w' ?_
  rw [List.nil_append] at hr'
  refine ⟨h.fr.trans f (fun _ _ h => h) (fun j hj e => by have := hn j e; omega), ⟨hr', ?_⟩, h.ob.mod f (fun p hp j hj e => h.ab _ p rfl hp j e hj), h.oc.mod f (fun p hp j hj e => ?_), ?_⟩
  · intro j hj
    rcases hn'.cases hj with e | e
    · exact hn j e
    · omega
  · subst hp
    exact h.oc.1.g.blkNe hr.g (by decide) j hj e
  · rintro p q hp hq j hj hj'
    cases hp
    rcases hn'.cases hj with e | e
    · exact h.ab _ q rfl hq j e hj'
    · have := h.ob.lt q hq j hj'; omega
theorem Gv.appB {t x : Sl} {l : List ByteArray} (h : Gv wb w a (some (t, [])) c) (hx : Has wb x 1 (sv l)) (hb : l.length ≤ 1000000000) {K : Sl → World → Prop} (hk : ∀ t' w', Gv wb w' a (some (t', sv l)) c → K t' w') :
    RunT prog .slice (Builtin.append_ #[22, 22] 22 #[.slice t.a t.l t.c, .slice x.a x.l x.c]) w K := Gv.appA h.swap hx hb fun t' w' h' => hk t' w' h'.swap
theorem Gv.appC {t x : Sl} {l : List Int} (h : Gv wb w a b (some (t, []))) (hx : Has wb x 1 (iv l)) (hb : l.length ≤ 1000000000) {K : Sl → World → Prop} (hk : ∀ t' w', Gv wb w' a b (some (t', iv l)) → K t' w') :
    RunT prog .slice (Builtin.append_ #[23, 23] 23 #[.slice t.a t.l t.c, .slice x.a x.l x.c]) w K := by
  have hr : Row w t 3 1 [] := h.oc.1
  have hn : New wb t := h.oc.2
  have htl : t.l = 0 := by have := hr.len; simp at this; omega
  have hxl := has_iv hx
  have hz := h.fr.size
  refine runT_append st23 hr (hx.mod h.fr (fun _ _ h => h)) (iv_one _) (by omega) (by simp only [maxLen]; omega) fun t' w' hr' hl' hn' f => hk t' w' ?_
  rw [List.nil_append] at hr'
  refine ⟨h.fr.trans f (fun _ _ h => h) (fun j hj e => by have := hn j e; omega), h.oa.mod f (fun p hp j hj e => ?_), h.ob.mod f (fun p hp j hj e => ?_), ⟨hr', ?_⟩, h.ab⟩
  · subst hp
    exact h.oa.1.g.blkNe hr.g (by decide) j hj e
  · subst hp
    exact h.ob.1.g.blkNe hr.g (by decide) j hj e
  · intro j hj
    rcases hn'.cases hj with e | e
    · exact hn j e
    · omega
end
/-- A node of one's own: its rows may be written. -/
structure Own (w0 w : World) (k v d : Sl) (n : Nd) : Prop where
  rk : Row w k 9 1 (sv n.keys)
  rv : Row w v 9 1 (sv n.vals)
  rd : Row w d 3 1 (iv n.kids)
  nk : New w0 k
  nv : New w0 v
  nd : New w0 d
  kv : ∀ j, k.blk = some j → v.blk ≠ some j
theorem Own.s {w0 w : World} {k v d : Sl} {n : Nd} (h : Own w0 w k v d n) : NdS w k v d n := ⟨h.rk.has, h.rv.has, h.rd.has⟩
set_option maxRecDepth 40000 in
set_option maxHeartbeats 2000000 in
theorem given_calls (w : World) (k v d : Sl) (n : Nd) (h : NdS w k v d n) (hb : n.keys.length ≤ 1000000000 ∧ n.vals.length ≤ 1000000000 ∧ n.kids.length ≤ 1000000000) : Calls prog 11 #[.agg (ndc n.leaf k v d)] w fun e w' =>
    ∃ k' v' d', e = .returned (.agg (ndc n.leaf k' v' d')) ∧ Own w w' k' v' d' n ∧ Frm none_ w w' := by
  refine callsRet (W11 (Q := fun x w' => ∃ k' v' d', x = .agg (ndc n.leaf k' v' d') ∧ Own w w' k' v' d' n ∧ Frm none_ w w') ?_) (fun x w' ⟨k', v', d', h, h'⟩ => ⟨k', v', d', by rw [h], h'⟩)
  unfold F11
  intro b1 w1 hN b2 w2 hN2
  obtain ⟨hb1, hb2, hb3⟩ := hb
  have f1 : Frm none_ w w1 := hN.mod _
  have f2 : Frm none_ w1 w2 := hN2.mod _
  have f12 := f1.n f2
  have z12 := f12.size
  have hB := ((Bk.new hN h).mod f2).drew
  have hC := hN2.blk.drew
  have hG : Gv w2.drew w2.drew none none none := ⟨Frm.refl _ _, trivial, trivial, trivial, fun p q hp => by cases hp⟩
  have hb2w : w.heap.size ≤ b2 := by rw [hN2.b]; exact f1.size
  have leaf : ∀ {w' : World} {k' v' d' : Sl}, Gv w2.drew w' (some (k', sv n.keys)) (some (v', sv n.vals)) (some (d', iv n.kids)) →
      (∃ t17 : Array Value, BuildIs prog 28 #[(0, .bool n.leaf), (1, .slice k'.a k'.l k'.c), (2, .slice v'.a v'.l v'.c), (3, .slice d'.a d'.l d'.c)] t17 ∧
       t17.size = 4 ∧ (∀ u, u ∈ t17.toList → u.oneCell' = true) ∧ WrA w' (⟨b2, 0, none⟩ : Addr) 4 ∧ ∀ w1_8, w1_8 = setAt w' (⟨b2, 0, none⟩ : Addr) t17.toList 0 →
       ∃ t2r : Array Value, LdA w1_8 (⟨b2, 0, none⟩ : Addr) 4 t2r ∧
       (fun x w' => ∃ k' v' d', x = Value.agg (ndc n.leaf k' v' d') ∧ Own w w' k' v' d' n ∧ Frm none_ w w') (.agg t2r) w1_8) := by
    intro w' k' v' d' hG
    have f3 := hG.fr
    have hC' := hC.mod f3 (fun h => h)
    have rk : Row w' k' 9 1 (sv n.keys) := hG.oa.1
    have rv : Row w' v' 9 1 (sv n.vals) := hG.ob.1
    have rd : Row w' d' 3 1 (iv n.kids) := hG.oc.1
    have nk : New w2.drew k' := hG.oa.2
    have nv : New w2.drew v' := hG.ob.2
    have nd : New w2.drew d' := hG.oc.2
    have zd : w2.drew.heap.size = w2.heap.size := rfl
    have hb2l := hC.lt
    refine ⟨_, b28 _ _ _ _, hC'.setW rfl rfl (ndc_one _ _ _ _) ?_⟩
    intro w4 hC4 f4
    refine ⟨_, hC4.ldA rfl, k', v', d', rfl, ⟨rk.mod f4 (fun j hj e => by have e : j = b2 := e; have := nk j hj; omega), rv.mod f4 (fun j hj e => by have e : j = b2 := e; have := nv j hj; omega), rd.mod f4 (fun j hj e => by have e : j = b2 := e; have := nd j hj; omega), fun j hj => by have := nk j hj; omega, fun j hj => by have := nv j hj; omega, fun j hj => by have := nd j hj; omega, fun j hj => hG.ab _ _ rfl rfl j hj⟩, ?_⟩
    exact (f12.drew.n f3).b f4 hb2w
  refine ⟨fun w' => Frm none_ w2.drew w', Frm.refl _ _, n.leaf, fun w' f => (hB.mod f).l0, k, fun w' f => (hB.mod f).l1, v, fun w' f => (hB.mod f).l2, d, fun w' f => (hB.mod f).l3, ?_⟩
  have hk := hB.nd.hk
  have hv := hB.nd.hv
  have hd := hB.nd.hd
  repeat' first
    | with_reducible refine And.intro ?_ ?_
    | with_reducible refine Gv.litA (by assumption) (fun t w' hG => ⟨hG.fr, ?_⟩)
    | with_reducible refine Gv.litB (by assumption) (fun t w' hG => ⟨hG.fr, ?_⟩)
    | with_reducible refine Gv.litC (by assumption) (fun t w' hG => ⟨hG.fr, ?_⟩)
    | with_reducible refine Gv.appA (by assumption) hk hb1 (fun t w' hG => ⟨hG.fr, ?_⟩)
    | with_reducible refine Gv.appA (by assumption) hv hb2 (fun t w' hG => ⟨hG.fr, ?_⟩)
    | with_reducible refine Gv.appB (by assumption) hk hb1 (fun t w' hG => ⟨hG.fr, ?_⟩)
    | with_reducible refine Gv.appB (by assumption) hv hb2 (fun t w' hG => ⟨hG.fr, ?_⟩)
    | with_reducible refine Gv.appC (by assumption) hd hb3 (fun t w' hG => ⟨hG.fr, ?_⟩)
    | with_reducible exact leaf (by assumption)
    | with_reducible exact leaf (Gv.swap (by assumption))
end Go.Proofs.Ytedkaegdfdcdaaa
