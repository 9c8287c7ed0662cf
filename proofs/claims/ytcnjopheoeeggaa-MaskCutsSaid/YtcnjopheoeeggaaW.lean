/- The document's masked text, and the examples that each statement asks first. -/
import Derived.Test.YtcnjopheoeeggaaL
set_option linter.unusedVariables false
set_option linter.unusedSimpArgs false
namespace Go.Proofs.Ytcnjopheoeeggaa
open Go Go.Proofs.YtcnjopheoeeggaaV
theorem any_take {ss : List (List UInt8)} {h : List UInt8} {j : Nat} (hj : ss.length ≤ j) : openB (ss.take j) h = openB ss h := by rw [List.take_of_length_le hj]
theorem open_snoc (l : List (List UInt8)) (s h : List UInt8) : openB (l ++ [s]) h = (openB l h || (decide (h.length < s.length) && h.isPrefixOf s)) := by unfold openB; rw [List.any_append]; simp
theorem ext_rest (x : ByteArray) (k : Nat) : (x.extract k x.size).data.toList = x.data.toList.drop k := by
  rw [ext_list]
  exact List.take_of_length_le (by rw [List.length_drop, Array.length_toList]; exact Nat.le_refl _)
set_option maxRecDepth 20000 in
theorem masked_calls (w : World) (s : Sl) (sb : List ByteArray) (x : ByteArray) (e : Bool) (hs : Has w s 1 (sv sb)) (hsb : sb.length ≤ 1000) (hss : ∀ t ∈ sb, t.size ≤ 1000000000) (hx : x.size ≤ 1000000000) : Calls prog 16 #[.slice s.a s.l s.c, .string x, .bool e] w fun en w' =>
    en = .returned (.tuple #[.string (str (run (ssOf sb) e x.data.toList).1), .int .i64 ((run (ssOf sb) e x.data.toList).2.length : Int)]) ∧ Frm none_ w w' := by
  refine callsRet (W16 (Q := fun v w' => v = .tuple #[.string (str (run (ssOf sb) e x.data.toList).1), .int .i64 ((run (ssOf sb) e x.data.toList).2.length : Int)] ∧ Frm none_ w w') ?_) (fun v w' ⟨h, h'⟩ => ⟨by rw [h], h'⟩)
  unfold F16
  have hl := has_sv hs
  have hxl : x.data.toList.length = x.size := Array.length_toList
  refine ⟨fun n x8 x9 w' => ∃ (k : Nat) (out : List UInt8), x9 = (k : Int) ∧ k ≤ x.size ∧ n = x.size - k ∧ Row w' x8 5 1 (bv out) ∧ (x8 = ⟨none, 0, 0⟩ ∨ out ≠ []) ∧ (∀ b, x8.blk = some b → w.heap.size ≤ b) ∧ run (ssOf sb) e x.data.toList = (out ++ (run (ssOf sb) e (x.data.toList.drop k)).1, (run (ssOf sb) e (x.data.toList.drop k)).2) ∧ out.length ≤ 3 * k ∧ Frm none_ w w', x.size, ⟨0, [], rfl, Nat.zero_le _, by omega, Row.nil _ _ _, .inl rfl, by simp [Sl.blk], by simp, by simp, Frm.refl _ _⟩, ?_⟩
  rintro n u x8 x9 w1 ⟨k, out, rfl, hk, rfl, hr, hrn, hr8, hrun, hol, f1⟩
  have hrl : x8.l = out.length := by have := hr.len; rw [bv_length] at this; omega
  refine IfB.intro (fun hc => ?_) (fun hc => ?_)
  · have hlt := of_decide_eq_true hc
    have hrest : (x.extract k x.size).data.toList = x.data.toList.drop k := ext_rest x k
    have hrs : (x.extract k x.size).size = x.size - k := by rw [ByteArray.size_extract]; omega
    have h0 : x.data.toList.drop k ≠ [] := fun e0 => by have := congrArg List.length e0; rw [List.length_drop] at this; simp at this; omega
    have hrdl : (x.data.toList.drop k).length = x.size - k := by rw [List.length_drop, hxl]
    rw [show ((k : Int)).toNat = k from Int.toNat_natCast k]
    refine ⟨⟨by omega, by omega⟩, fun n x11 x12 w' => ∃ j : Nat, x12 = (j : Int) ∧ j ≤ s.l ∧ n = s.l - j ∧ x11 = (lfold ((ssOf sb).take j) (x.data.toList.drop k) 0 : Int) ∧ (e = true ∨ openB ((ssOf sb).take j) (x.data.toList.drop k) = false) ∧ w' = w1, s.l, ⟨0, rfl, Nat.zero_le _, by omega, rfl, .inr rfl, rfl⟩, ?_⟩
    rintro n u1 x11 x12 w2 ⟨j, rfl, hj, rfl, rfl, hopen, rfl⟩
    refine IfB.intro (fun hd => ?_) (fun hd => ?_)
    · have hdl := of_decide_eq_true hd
      obtain ⟨q, t, hq, ht, htm, hld⟩ := sv_at (hs.mod f1 (fun _ _ h => h)) (i := j) (by omega)
      have htl : t.data.toList.length = t.size := Array.length_toList
      have hts := hss t htm
      have et := ss_take ht
      have hpre : (x.data.toList.drop k).isPrefixOf t.data.toList = (x.extract k x.size).data.toList.isPrefixOf t.data.toList := by rw [hrest]
      refine ⟨q, hq, by omega, by omega, t, by rw [Int.toNat_natCast]; exact hld, fun b w' => w' = w2 ∧ (b = true ↔ (e = false ∧ (decide ((x.data.toList.drop k).length < t.data.toList.length) && (x.data.toList.drop k).isPrefixOf t.data.toList) = true)), ?_, ?_⟩
      · refine IfB.intro (fun he => IfB.intro (fun hg => ?_) (fun hg => ?_)) (fun he => ?_)
        · have he : e = false := by simpa using he
          have hg := of_decide_eq_true hg
          refine (begins_calls w2 t (x.extract k x.size)).mono ?_
          rintro _ _ ⟨rfl, rfl⟩
          refine ⟨_, rfl, rfl, ?_⟩
          rw [hpre, decide_eq_true (show (x.data.toList.drop k).length < t.data.toList.length by omega), Bool.true_and]
          simp [he]
        · have hg := of_decide_eq_false hg
          refine ⟨rfl, ?_⟩
          rw [decide_eq_false (show ¬ (x.data.toList.drop k).length < t.data.toList.length by omega)]
          simp
        · have he : e = true := by simpa using he
          exact ⟨rfl, by simp [he]⟩
      rintro u2 b w3 ⟨rfl, hb⟩
      refine IfB.intro (fun hbt => ?_) (fun hbf => ?_)
      · obtain ⟨he, ho⟩ := hb.1 hbt
        have hopenA : openB (ssOf sb) (x.data.toList.drop k) = true := by
          unfold openB
          exact List.any_eq_true.2 ⟨t.data.toList, by simp only [ssOf, List.mem_map]; exact ⟨t, htm, rfl⟩, ho⟩
        subst he
        have hro := run_open hopenA
        refine runT_str un30 un5 un9 hr.has ⟨?_, f1⟩
        rw [hrun, hro, List.append_nil]
        simp only
        rw [hrdl, hrs]
      · have hno : ¬ (e = false ∧ (decide ((x.data.toList.drop k).length < t.data.toList.length) && (x.data.toList.drop k).isPrefixOf t.data.toList) = true) := fun hh => by rw [hb.2 hh] at hbf; cases hbf
        have hopen' : e = true ∨ openB ((ssOf sb).take (j + 1)) (x.data.toList.drop k) = false := by
          rcases hopen with h | h
          · exact .inl h
          · cases he : e with
            | true => exact .inl rfl
            | false =>
              right
              rw [et, open_snoc, h, Bool.false_or]
              cases hq : (decide ((x.data.toList.drop k).length < t.data.toList.length) && (x.data.toList.drop k).isPrefixOf t.data.toList)
              · rfl
              · exact absurd ⟨he, hq⟩ hno
        have next : ∀ m : Int, m = (lfold ((ssOf sb).take (j + 1)) (x.data.toList.drop k) 0 : Int) → ∃ n', n' < s.l - j ∧ ∃ j' : Nat, IntKind.wrap .i64 ((j : Int) + 1) = (j' : Int) ∧ j' ≤ s.l ∧ n' = s.l - j' ∧ m = (lfold ((ssOf sb).take j') (x.data.toList.drop k) 0 : Int) ∧ (e = true ∨ openB ((ssOf sb).take j') (x.data.toList.drop k) = false) ∧ w3 = w3 := fun m hm =>
          ⟨s.l - (j + 1), by omega, j + 1, by rw [wrap64 _ (by omega)]; omega, by omega, rfl, hm, hopen', rfl⟩
        refine (begins_calls w3 (x.extract k x.size) t).mono ?_
        rintro _ _ ⟨rfl, rfl⟩
        rw [hrest]
        refine ⟨_, rfl, IfB.intro (fun hp => IfB.intro (fun hg => next _ ?_) (fun hg => next _ ?_)) (fun hp => next _ ?_)⟩
        · have hg := of_decide_eq_true hg
          rw [et, lfold_snoc, if_pos ⟨by omega, hp⟩, htl]
        · have hg := of_decide_eq_false hg
          rw [et, lfold_snoc, if_neg (fun hh => by omega)]
        · rw [et, lfold_snoc, if_neg (fun hh => by rw [hh.2] at hp; cases hp)]
    · have hge := of_decide_eq_false hd
      have ej : lfold ((ssOf sb).take j) (x.data.toList.drop k) 0 = longest (ssOf sb) (x.data.toList.drop k) := by
        rw [List.take_of_length_le (by simp [ssOf]; omega)]; rfl
      have ho : e = true ∨ openB (ssOf sb) (x.data.toList.drop k) = false := by
        rcases hopen with h | h
        · exact .inl h
        · right; rwa [any_take (by simp [ssOf]; omega)] at h
      rw [ej]
      have hle := longest_le (ssOf sb) (x.data.toList.drop k)
      refine IfB.intro (fun hg => ?_) (fun hg => ?_)
      · have hg := of_decide_eq_true hg
        have hhit := run_hit h0 ho (by omega : longest (ssOf sb) (x.data.toList.drop k) > 0)
        have go : ∀ (t : Sl) (w3 : World), Row w3 t 5 1 (bv (out ++ stars)) → (∀ b, t.blk = some b → x8.blk = some b ∨ b = w2.heap.size) → Frm (fun b => x8.blk = some b) w2 w3 →
            ∃ n', n' < x.size - k ∧ ∃ (k' : Nat) (out' : List UInt8), IntKind.wrap .i64 ((k : Int) + (longest (ssOf sb) (x.data.toList.drop k) : Int)) = (k' : Int) ∧ k' ≤ x.size ∧ n' = x.size - k' ∧ Row w3 t 5 1 (bv out') ∧ (t = ⟨none, 0, 0⟩ ∨ out' ≠ []) ∧ (∀ b, t.blk = some b → w.heap.size ≤ b) ∧ run (ssOf sb) e x.data.toList = (out' ++ (run (ssOf sb) e (x.data.toList.drop k')).1, (run (ssOf sb) e (x.data.toList.drop k')).2) ∧ out'.length ≤ 3 * k' ∧ Frm none_ w w3 := by
          intro t w3 hr3 ht f3
          have z1 := f1.size
          refine ⟨x.size - (k + longest (ssOf sb) (x.data.toList.drop k)), by omega, k + longest (ssOf sb) (x.data.toList.drop k), out ++ stars, by rw [wrap64 _ (by omega)]; omega, by omega, rfl, hr3, .inr (by simp [stars]), ?_, ?_, ?_, f1.trans f3 (fun _ _ h => h) (fun b hb h => by have := hr8 b h; omega)⟩
          · intro b hb
            rcases ht b hb with h | h
            · exact hr8 b h
            · omega
          · rw [hrun, hhit, List.drop_drop]; simp [List.append_assoc]
          · rw [List.length_append]; simp only [stars, List.length_cons, List.length_nil]; omega
        rcases hrn with hnil | hnl
        · subst hnil
          have ho0 : out = [] := List.eq_nil_of_length_eq_zero (by have : (⟨none, 0, 0⟩ : Sl).l = 0 := rfl; omega)
          subst ho0
          refine runT_appendStrN st30 un9 ⟨#[42, 42, 42]⟩ (by decide) (by decide) ?_
          intro t w3 hr3 hl3 hb3 f3
          exact go t w3 hr3 (fun b hb => by rw [hb3] at hb; simp at hb; exact .inr hb.symm) f3.none
        · have hsb' : ∃ g, x8.blk = some g := by
            rcases hr.cases with ⟨rfl, e0⟩ | ⟨g, _, ha, _⟩
            · have := congrArg List.length e0; rw [bv_length] at this
              exact absurd (List.eq_nil_of_length_eq_zero (by simpa using this)) hnl
            · exact ⟨g, by simp [Sl.blk, ha]⟩
          refine runT_appendStr st30 un9 hr hsb' ⟨#[42, 42, 42]⟩ (by have : (⟨#[42, 42, 42]⟩ : ByteArray).size = 3 := rfl; omega) ?_
          intro t w3 hr3 hl3 hn3 f3
          rw [← bv_append] at hr3
          exact go t w3 hr3 (fun b hb => hn3.cases hb) f3
      · have hg := of_decide_eq_false hg
        have hlit := run_lit h0 ho (by omega : ¬ longest (ssOf sb) (x.data.toList.drop k) > 0)
        obtain ⟨c, hcx⟩ : ∃ c, x.data.toList[k]? = some c := ⟨x.data.toList[k]'(by omega), by simp [show k < x.data.toList.length by omega]⟩
        have ebt : bt x (k : Int) = (c.toNat : Int) := by
          unfold bt
          rw [dif_pos (by omega)]
          have hk' : k < x.data.size := by have : x.data.size = x.size := rfl; omega
          have : x.data.toList[k]? = some (x.data[k]'hk') := by simp [hk']
          rw [this] at hcx
          have hcx : x.data[k]'hk' = c := by simpa using hcx
          rw [← hcx]; rfl
        rw [ebt]
        refine ⟨by omega, by omega, runT_lit1 st30 (by decide) rfl ?_⟩
        intro w3 hr3 f3 z3
        have hrr3 := hr.mod f3 (fun _ _ h => h)
        refine runT_append st30 hrr3 hr3.has (by intro u hu; simp [Value.cells] at hu; subst hu; rfl) (by simp only; omega) (by simp only [maxLen]; omega) ?_
        intro t w4 hr4 hl4 hn4 f4
        have e4 : bv out ++ (Value.int .u8 (c.toNat : Int)).cells.toList = bv (out ++ [c]) := by rw [bv_append]; rfl
        rw [e4] at hr4
        have z1 := f1.size
        have htk : (x.data.toList.drop k).take 1 = [c] := by
          have hkl : k < x.data.toList.length := by omega
          rw [List.drop_eq_getElem_cons hkl, List.take_succ_cons, List.take_zero]
          have := (List.getElem?_eq_some_iff.1 hcx).2
          rw [this]
        refine ⟨x.size - (k + 1), by omega, k + 1, out ++ [c], by rw [wrap64 _ (by omega)]; omega, by omega, rfl, hr4, .inr (by simp), ?_, ?_, by rw [List.length_append]; simp; omega, (f1.n f3).trans f4 (fun _ _ h => h) (fun b hb h => by have := hr8 b h; omega)⟩
        · intro b hb
          rcases hn4.cases hb with h | h
          · exact hr8 b h
          · omega
        · rw [hrun, hlit, htk, List.drop_drop]; simp [List.append_assoc]
  · have hge := of_decide_eq_false hc
    have h0 : x.data.toList.drop k = [] := List.drop_of_length_le (by omega)
    refine runT_str un30 un5 un9 hr.has ⟨?_, f1⟩
    rw [hrun, h0, run_nil, List.append_nil]; rfl
def sb3 : List ByteArray := [⟨#[97, 98]⟩, ⟨#[97, 98, 99]⟩, ⟨#[98]⟩]
theorem fill3 : Instr.fill (fun i => some (i * 1, 1)) ((Array.range (3 * 1)).map fun j => (Value.string ⟨#[]⟩).cells[j % (Value.string ⟨#[]⟩).cells.size]!) (#[(0, .string (⟨#[97, 98]⟩ : ByteArray)), (1, .string (⟨#[97, 98, 99]⟩ : ByteArray)), (2, .string (⟨#[98]⟩ : ByteArray))] : Array (Nat × Value)).toList = some (sv sb3).toArray := by kernel_rfl
theorem sb3_sm (h : List UInt8) (c : Bool) (hh : h.length ≤ 1000) : Sm ⟨sb3, h, c⟩ := ⟨by simp only; omega, by show 3 ≤ 1000; decide, fun s hs => by
  simp only [sb3, List.mem_cons, List.not_mem_nil, or_false] at hs
  rcases hs with rfl | rfl | rfl <;> decide⟩
theorem upN {W w0 w w' : World} (h : Frm none_ W w) (k : Frm (Up w0) w w') (hW : W.heap.size ≤ w0.heap.size) : Frm none_ W w' := h.trans k (fun _ _ h => h) (fun k hk h => by have h : w0.heap.size ≤ k := h; omega)
theorem seq (l m : List UInt8) (h : l = m) : ((str l).toList == (str m).toList) = true := by rw [h]; exact (str_eqIff _ _).2 rfl
set_option maxRecDepth 20000 in
theorem works_calls (w : World) : Calls prog 7 #[] w fun e w' => e = .returned (.bool true) ∧ Frm none_ w w' := by
  refine callsRet (W7 (Q := fun v w' => v = .bool true ∧ Frm none_ w w') ?_) (fun v w' ⟨h, h'⟩ => ⟨by rw [h], h'⟩)
  unfold F7
  refine runT_lit st22 (by decide) (by decide) fill3 rfl ?_
  intro w1 hr1 f1 z1
  refine (new_calls w1 _ sb3 hr1.has (by decide)).mono ?_
  rintro _ w2 ⟨x, rfl, _, h2, f2⟩
  obtain ⟨⟨b, rfl⟩, h2⟩ := h2 (by decide)
  have z2 := f2.size
  refine ⟨_, _, rfl, IfB.f (by decide) ((write_calls w1 w2 _ _ ⟨#[120, 97, 98]⟩ h2 (by omega) rfl (sb3_sm _ _ (by decide)) (by decide)).mono ?_)⟩
  rintro _ w3 ⟨rfl, h3, f3⟩
  have e3 : run (ssOf sb3) false ([] ++ (⟨#[120, 97, 98]⟩ : ByteArray).data.toList) = ([120], [97, 98]) := by rfl
  rw [e3] at h3 ⊢
  have z3 := f3.size
  refine ⟨_, _, rfl, (write_calls w1 w3 _ _ ⟨#[100]⟩ h3 (by omega) rfl (sb3_sm _ _ (by decide)) (by decide)).mono ?_⟩
  rintro _ w4 ⟨rfl, h4, f4⟩
  have e4 : run (ssOf sb3) false ([97, 98] ++ (⟨#[100]⟩ : ByteArray).data.toList) = ([42, 42, 42, 100], []) := by rfl
  rw [e4] at h4 ⊢
  have z4 := f4.size
  refine ⟨_, _, rfl, (write_calls w1 w4 _ _ ⟨#[97, 98]⟩ h4 (by omega) rfl (sb3_sm _ _ (by decide)) (by decide)).mono ?_⟩
  rintro _ w5 ⟨rfl, h5, f5⟩
  have e5 : run (ssOf sb3) false ([] ++ (⟨#[97, 98]⟩ : ByteArray).data.toList) = ([], [97, 98]) := by rfl
  rw [e5] at h5 ⊢
  have z5 := f5.size
  refine ⟨_, _, rfl, (close_calls w1 w5 _ _ h5 (by omega) rfl (sb3_sm _ _ (by decide))).mono ?_⟩
  rintro _ w6 ⟨rfl, h6, f6⟩
  have e6 : run (ssOf sb3) true [97, 98] = ([42, 42, 42], []) := by rfl
  rw [e6]
  have z6 := f6.size
  have f26 : Frm none_ w w6 := upN (upN (upN (upN (f1.n f2) f3 (by omega)) f4 (by omega)) f5 (by omega)) f6 (by omega)
  refine ⟨_, _, rfl, runT_lit st22 (by decide) (by decide) fill3 rfl ?_⟩
  intro w7 hr7 f7 z7
  refine (whole_calls w7 _ sb3 ⟨#[97, 97, 98]⟩ hr7.has (by decide) (by decide)).mono ?_
  rintro _ w8 ⟨t, rfl, _, ht, f8⟩
  have ht := ht (by decide)
  have e8 : run (ssOf sb3) true (⟨#[97, 97, 98]⟩ : ByteArray).data.toList = ([97, 42, 42, 42], []) := by rfl
  rw [e8] at ht
  subst ht
  exact ⟨_, _, rfl, IfB.t (seq _ [120] rfl) (IfB.t (seq _ [42, 42, 42, 100] rfl) (IfB.t (seq _ [] rfl) (IfB.t (seq _ [42, 42, 42] rfl) (IfB.t (by decide) ⟨by rw [show (⟨#[97, 42, 42, 42]⟩ : ByteArray) = str [97, 42, 42, 42] from rfl, seq _ _ rfl], f26.n (f7.n f8)⟩))))⟩
end Go.Proofs.Ytcnjopheoeeggaa
