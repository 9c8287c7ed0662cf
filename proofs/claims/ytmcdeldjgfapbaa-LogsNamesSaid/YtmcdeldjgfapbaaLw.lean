/- What each statement on logs asks first; pieces, beginnings, filled logs. -/
import Derived.Test.YtmcdeldjgfapbaaLt
set_option linter.unusedVariables false
set_option linter.unusedSimpArgs false
set_option maxRecDepth 20000
namespace Go.Proofs.Ytmcdeldjgfapbaa
open Go Go.Proofs.YtmcdeldjgfapbaaV
theorem bneq (i j : Nat) (a b : Bool) : BinIs prog .neq 4 (.tmp i) (.tmp j) (.bool a) (.bool b) (a != b) := fun w => by cases a <;> cases b <;> kernel_rfl
/-- What may be turned of a log: it, and its row. -/
theorem frm_lg {w0 w w' : World} {b : Nat} {s : Sl} (h : Frm none_ w0 w) (hf : Frm (fun k => k = b ∨ s.blk = some k) w w') (hb : w0.heap.size ≤ b) (hs : New w0 s) : Frm none_ w0 w' :=
  h.trans hf (fun _ _ h => h) (fun k hk hh => by
    rcases hh with rfl | hh
    · omega
    · have := hs k hh; omega)
def ex1 : ByteArray := ⟨#[97, 98]⟩
def ex2 : ByteArray := ⟨#[99, 10, 100]⟩
theorem ok_ex : OkL [ex1, ex2] := ⟨by simp, by simp [ex1, ex2]; decide⟩
theorem save_ex : saveL [ex1, ex2] = [2, 2, 97, 98, 3, 99, 10, 100] := by
  have e1 : ex1.size = 2 := rfl
  have e2 : ex2.size = 3 := rfl
  unfold saveL
  rw [cb_gb (by simp), List.flatMap_cons, List.flatMap_cons, List.flatMap_nil, sb_gb (by rw [e1]; omega), sb_gb (by rw [e2]; omega), e1, e2, gb_small (by simp), gb_small (by omega), gb_small (by omega)]
  rfl
theorem works_calls (w : World) : Calls prog 19 #[] w fun e w' => e = .returned (.bool true) ∧ Frm none_ w w' := by
  refine calls_ret (W19 (Q := fun v w' => v = .bool true ∧ Frm none_ w w') ?_) (fun v w' ⟨h, h'⟩ => ⟨by rw [h], h'⟩)
  unfold F19
  refine (new_calls w).mono ?_
  rintro _ w1 ⟨b, rfl, hb, hL, f1⟩
  have hs0 : New w ⟨none, 0, 0⟩ := fun k hk => by simp [Sl.blk] at hk
  have ok0 : OkL [] := ⟨by simp, by simp⟩
  refine ⟨_, rfl, (add_calls w1 b _ [] 0 ex1 hL ok0).mono ?_⟩
  have a1 : addA [] 0 ex1 = (true, 0, [ex1]) := by kernel_rfl
  rw [a1]
  rintro _ w2 ⟨rfl, s2, hL2, hn2, f2⟩
  have F2 := frm_lg f1 f2 (by omega) hs0
  have hs2 := hn2.new hs0 f1.size
  have ok1 : OkL [ex1] := ⟨by simp, by simp [ex1]; decide⟩
  refine ⟨_, _, rfl, (add_calls w2 b _ _ 2 (⟨#[120]⟩ : ByteArray) hL2 ok1).mono ?_⟩
  have a2 : addA [ex1] 2 (⟨#[120]⟩ : ByteArray) = (false, 50, [ex1]) := by kernel_rfl
  simp only [a2]
  rintro _ w3 ⟨rfl, s3, hL3, hn3, f3⟩
  have F3 := frm_lg F2 f3 (by omega) hs2
  have hs3 := hn3.new hs2 F2.size
  refine ⟨_, _, rfl, (add_calls w3 b _ _ 1 ex2 hL3 ok1).mono ?_⟩
  have a3 : addA [ex1] 1 ex2 = (true, 0, [ex1, ex2]) := by kernel_rfl
  simp only [a3]
  rintro _ w4 ⟨rfl, s4, hL4, hn4, f4⟩
  have F4 := frm_lg F3 f4 (by omega) hs3
  have hs4 := hn4.new hs3 F3.size
  have ok2 := ok_ex
  refine ⟨_, _, rfl, (add_calls w4 b _ _ 0 ex1 hL4 ok2).mono ?_⟩
  have a4 : addA [ex1, ex2] 0 ex1 = (false, 0, [ex1, ex2]) := by kernel_rfl
  simp only [a4]
  rintro _ w5 ⟨rfl, s5, hL5, hn5, f5⟩
  have F5 := frm_lg F4 f5 (by omega) hs4
  have hs5 := hn5.new hs4 F4.size
  refine ⟨_, _, rfl, (add_calls w5 b _ _ 0 (⟨#[97, 98, 99]⟩ : ByteArray) hL5 ok2).mono ?_⟩
  have a5 : addA [ex1, ex2] 0 (⟨#[97, 98, 99]⟩ : ByteArray) = (false, 6, [ex1, ex2]) := by kernel_rfl
  simp only [a5]
  rintro _ w6 ⟨rfl, s6, hL6, hn6, f6⟩
  have F6 := frm_lg F5 f6 (by omega) hs5
  have hs6 := hn6.new hs5 F5.size
  refine ⟨_, _, rfl, (add_calls w6 b _ _ 1 (⟨#[]⟩ : ByteArray) hL6 ok2).mono ?_⟩
  have a6 : addA [ex1, ex2] 1 (⟨#[]⟩ : ByteArray) = (false, 1, [ex1, ex2]) := by kernel_rfl
  simp only [a6]
  rintro _ w7 ⟨rfl, s7, hL7, hn7, f7⟩
  have F7 := frm_lg F6 f7 (by omega) hs6
  have hs7 := hn7.new hs6 F6.size
  refine ⟨_, _, rfl, (add_calls w7 b _ _ 64 (⟨#[120]⟩ : ByteArray) hL7 ok2).mono ?_⟩
  have a7 : addA [ex1, ex2] 64 (⟨#[120]⟩ : ByteArray) = (false, 3, [ex1, ex2]) := by kernel_rfl
  simp only [a7]
  rintro _ w8 ⟨rfl, s8, hL8, hn8, f8⟩
  have F8 := frm_lg F7 f8 (by omega) hs7
  have hz : szs [ex1, ex2] = 5 := rfl
  refine ⟨_, _, rfl, (lines_calls w8 _ s8 _ 0 9 hL8.lp (by rw [hz]; omega) (by simp)).mono ?_⟩
  have l9 : selL (lns [] (txt [ex1, ex2])) 0 9 = [⟨#[97, 98, 99, 10]⟩, ⟨#[100]⟩] := by kernel_rfl
  rw [l9]
  rintro _ w9 ⟨r9, rfl, hr9, hn9, f9⟩
  have F9 := F8.n f9
  have hL9 := hL8.n f9
  refine ⟨_, rfl, (from_calls 0 w9 _ _ hL9.q (by simp) 1).mono ?_⟩
  have l10 : List.drop (1 : Int).toNat [ex1, ex2] = [ex2] := rfl
  rw [l10]
  rintro _ w10 ⟨r10, rfl, hr10, hn10, f10⟩
  have F10 := F9.n f10
  have hL10 := hL9.n f10
  have hrl9 := has_sv hr9.has
  have hrl10 := has_sv hr10.has
  simp only [List.length_cons, List.length_nil] at hrl9 hrl10
  refine ⟨_, rfl, fun c w' => c = false ∧ Frm none_ w10 w', ?_, ?_⟩
  · refine IfB.f rfl (IfB.f rfl (IfB.f rfl (IfB.f rfl (IfB.f rfl (IfB.f rfl (IfB.f rfl (IfB.f rfl (IfB.f rfl (IfB.f rfl (IfB.f rfl ((len_calls w10 _ _ _ hL10.lp).mono ?_)))))))))))
    rintro _ _ ⟨rfl, rfl⟩
    rename_i w10
    refine ⟨_, rfl, IfB.f rfl ((size15_calls 0 w10 _ _ hL10.q).mono ?_)⟩
    rintro _ w11 ⟨rfl, f11⟩
    refine ⟨_, rfl, IfB.f rfl ((tail_calls w11 b s8 _ (hL10.n f11) (by simp) (by rw [hz]; omega) 3 (by omega)).mono ?_)⟩
    rintro _ w12 ⟨rfl, f12⟩
    have l12 : str (tailL (txt [ex1, ex2]) 3) = ⟨#[99, 10, 100]⟩ := by kernel_rfl
    refine ⟨_, rfl, IfB.f ?_ (IfB.f ?_ ⟨?_, f11.n f12⟩)⟩
    · rw [l12, (str_eqIff _ _).2 rfl]; rfl
    · rw [hrl9]; rfl
    · rw [hrl10]; rfl
  rintro u c w11 ⟨rfl, f11⟩
  have F11 := F10.n f11
  have hr9' := ((hr9.mod f10 (fun _ _ h => h)).mod f11 (fun _ _ h => h)).has
  have hr10' := (hr10.mod f11 (fun _ _ h => h)).has
  obtain ⟨q0, x0, hq0, hx0, hld0⟩ := sv_at hr9' (i := 0) (by omega)
  obtain ⟨q1, x1, hq1, hx1, hld1⟩ := sv_at hr9' (i := 1) (by omega)
  obtain ⟨q2, x2, hq2, hx2, hld2⟩ := sv_at hr10' (i := 0) (by omega)
  simp only [List.getElem?_cons_zero, List.getElem?_cons_succ, Option.some.injEq] at hx0 hx1 hx2
  subst hx0 hx1 hx2
  refine IfB.f rfl ⟨q0, hq0, by omega, by omega, _, hld0, IfB.t ((str_eqIff _ _).2 rfl) ⟨q1, hq1, by omega, by omega, _, hld1, IfB.t ((str_eqIff _ _).2 rfl) ⟨q2, hq2, by omega, by omega, _, hld2, IfB.t ((str_eqIff _ _).2 rfl) ?_⟩⟩⟩
  refine (save_calls 0 w11 _ _ (hL10.n f11).q (by simp) (by rw [hz]; omega)).mono ?_
  rw [if_neg (by simp), save_ex]
  rintro _ w12 ⟨r12, rfl, hr12, hn12, f12⟩
  refine ⟨_, rfl, runT_str un22 un5 un9 hr12.has ⟨?_, F11.n f12⟩⟩
  have e12 : str [2, 2, 97, 98, 3, 99, 10, 100] = (⟨#[2, 2, 97, 98, 3, 99, 10, 100]⟩ : ByteArray) := rfl
  rw [e12, (str_eqIff _ _).2 rfl]
/-! ### Pieces -/
def pcs : List ByteArray → List ByteArray → List ByteArray
  | acc, [] => acc
  | acc, p :: r => if 64 ≤ acc.length then acc else if 1 ≤ p.size ∧ p.size ≤ 256 then pcs (acc ++ [p]) r else pcs acc r
theorem pcs_ok : ∀ (l acc : List ByteArray), OkL acc → OkL (pcs acc l)
  | [], acc, h => h
  | p :: r, acc, h => by
    unfold pcs
    split
    · exact h
    · split
      · refine pcs_ok r _ ⟨by simp; omega, fun q hq => ?_⟩
        rcases List.mem_append.1 hq with hq | hq
        · exact h.each q hq
        · simp at hq; subst hq; assumption
      · exact pcs_ok r _ h
theorem pcs_full {acc : List ByteArray} (h : 64 ≤ acc.length) : ∀ l, pcs acc l = acc
  | [] => rfl
  | p :: r => by unfold pcs; rw [if_pos h]
theorem ok_nil : OkL [] := ⟨by simp, by simp⟩
theorem pieces_calls (w : World) (s : Sl) (l : List ByteArray) (hs : Has w s 1 (sv l)) (hc : s.l ≤ 1000000000000000) : Calls prog 18 #[.slice s.a s.l s.c] w (MadeT w (pcs [] l)) := by
  refine calls_ret (W18 (x0 := s) (Q := fun v w' => ∃ r : Sl, v = .slice r.a r.l r.c ∧ Row w' r 9 1 (sv (pcs [] l)) ∧ New w r ∧ Frm none_ w w') ?_) (fun v w' ⟨r, h, h'⟩ => ⟨r, by rw [h], h'⟩)
  have hl := has_sv hs
  unfold F18
  refine ⟨fun n x i w' => ∃ (j : Nat) (acc : List ByteArray), i = (j : Int) ∧ j ≤ l.length ∧ n = l.length - j ∧ OkL acc ∧ Row w' x 9 1 (sv acc) ∧ New w x ∧ Frm none_ w w' ∧ pcs [] l = pcs acc (l.drop j), l.length,
    ⟨0, [], rfl, by omega, rfl, ok_nil, Row.nil _ _ _, fun k hk => by simp [Sl.blk] at hk, Frm.refl _ _, by simp⟩, ?_⟩
  rintro n u x i w1 ⟨j, acc, rfl, hj, rfl, ok, hr, hn, f1, he⟩
  have hrl := has_sv hr.has
  refine ⟨fun w' => w' = w1 ∧ j < l.length ∧ acc.length < 64, IfB.intro (fun hlt => ?_) (fun hge => ?_), ?_⟩
  · have hlt := of_decide_eq_true hlt
    refine IfB.intro (fun h6 => ⟨rfl, by omega, ?_⟩) (fun h6 => ?_)
    · have h6 := of_decide_eq_true h6; omega
    · have h6 := of_decide_eq_false h6
      refine ⟨x, rfl, ?_, hn, f1⟩
      rw [he, pcs_full (by omega)]
      exact hr
  · have hge := of_decide_eq_false hge
    refine ⟨x, rfl, ?_, hn, f1⟩
    rw [he, List.drop_of_length_le (by omega)]
    exact hr
  rintro u1 w1' ⟨rfl, hjl, h64⟩
  obtain ⟨q, p, hq, hp, hld⟩ := sv_at (hs.mod f1 (fun _ _ h => h)) (i := j) (by omega)
  have hd : l.drop j = p :: l.drop (j + 1) := by
    obtain ⟨h1, h2⟩ := List.getElem?_eq_some_iff.1 hp
    rw [List.drop_eq_getElem_cons h1, h2]
  have ew : IntKind.wrap .i64 ((j : Int) + 1) = ((j + 1 : Nat) : Int) := by rw [wi _ (by omega)]; omega
  rw [hd] at he
  have no : ¬ (1 ≤ p.size ∧ p.size ≤ 256) → ∃ n', n' < l.length - j ∧ ∃ (j_1 : Nat) (acc : List ByteArray), IntKind.wrap .i64 ((j : Int) + 1) = (j_1 : Int) ∧ j_1 ≤ l.length ∧ n' = l.length - j_1 ∧ OkL acc ∧ Row w1' x 9 1 (sv acc) ∧ New w x ∧ Frm none_ w w1' ∧ pcs [] l = pcs acc (l.drop j_1) := fun hno =>
    ⟨l.length - (j + 1), by omega, j + 1, acc, ew, by omega, rfl, ok, hr, hn, f1, by rw [he, pcs, if_neg (by omega), if_neg hno]⟩
  refine ⟨q, hq, by omega, by omega, p, hld, IfB.dec (fun h0 => ?_) (fun h0 => no (by omega))⟩
  refine ⟨q, hq, by omega, by omega, p, hld, IfB.dec (fun h1 => ?_) (fun h1 => no (by omega))⟩
  refine ⟨q, hq, by omega, by omega, p, hld, app1 hr (by have := ok.n; omega) ?_⟩
  intro q2 w2 hr2 hn2 f2
  refine ⟨l.length - (j + 1), by omega, j + 1, acc ++ [p], ew, by omega, rfl, ⟨by simp; omega, fun q hq => ?_⟩, hr2, hn2.new hn f1.size, f1.trans f2 (fun _ _ h => h) (fun k hk h => by have := hn k h; omega), ?_⟩
  · rcases List.mem_append.1 hq with hq | hq
    · exact ok.each q hq
    · simp at hq; subst hq; omega
  · rw [he, pcs, if_neg (by omega), if_pos (by omega)]
theorem begins_calls (w : World) (s t : Sl) (l m : List ByteArray) (hs : Has w s 1 (sv l)) (ht : Has w t 1 (sv m)) (hl : l.length ≤ 1000000000000) : Calls prog 22 #[.slice s.a s.l s.c, .slice t.a t.l t.c] w fun e w' => e = .returned (.bool (decide (l <+: m))) ∧ Frm none_ w w' := by
  refine calls_ret (W22 (x0 := s) (x1 := t) (Q := fun v w' => v = .bool (decide (l <+: m)) ∧ Frm none_ w w') ?_) (fun v w' ⟨h, h'⟩ => ⟨by rw [h], h'⟩)
  have h1 := has_sv hs
  have h2 := has_sv ht
  unfold F22
  refine IfB.dec (fun hgt => ⟨?_, Frm.refl _ _⟩) (fun hle => ?_)
  · rw [decide_eq_false]
    intro h
    have := h.length_le
    omega
  refine ⟨fun n i w' => ∃ j : Nat, j ≤ l.length ∧ i = (j : Int) ∧ n = l.length - j ∧ l.take j = m.take j ∧ Frm none_ w w', l.length, ⟨0, by omega, rfl, rfl, rfl, Frm.refl _ _⟩, ?_⟩
  rintro n u i w1 ⟨j, hj, rfl, rfl, he, f1⟩
  refine IfB.dec (fun hlt => ?_) (fun hge => ⟨?_, f1⟩)
  · obtain ⟨q, a, hq, ha, hld⟩ := sv_at ((hs.mod f1 (fun _ _ h => h)).drew) (i := j) (by omega)
    obtain ⟨q', a', hq', ha', hld'⟩ := sv_at ((ht.mod f1 (fun _ _ h => h)).drew) (i := j) (by omega)
    refine ⟨q, hq, by omega, by omega, a, hld, q', hq', by omega, by omega, a', hld', ?_⟩
    by_cases hab : a = a'
    · subst hab
      refine IfB.f (by rw [(str_eqIff _ _).2 rfl]; rfl) ⟨l.length - (j + 1), by omega, j + 1, by omega, by rw [wi _ (by omega)]; omega, rfl, ?_, f1.drew⟩
      rw [take_snoc ha, take_snoc ha', he]
    · refine IfB.t (by rw [str_neq hab]; rfl) ⟨?_, f1.drew⟩
      rw [decide_eq_false]
      rintro ⟨r, rfl⟩
      rw [List.getElem?_append_left (by omega), ha] at ha'
      exact hab (by cases ha'; rfl)
  · rw [List.take_of_length_le (by omega)] at he
    rw [decide_eq_true]
    rw [he]
    exact List.take_prefix _ _
theorem addA_next {l : List ByteArray} (ok : OkL l) {j : Nat} {p : ByteArray} (h : l[j]? = some p) : addA (l.take j) (j : Int) p = (true, 0, l.take (j + 1)) := by
  obtain ⟨h1, h2⟩ := List.getElem?_eq_some_iff.1 h
  have h3 := ok.each p (List.mem_of_getElem? h)
  have h4 := ok.n
  have hl : (l.take j).length = j := by rw [List.length_take]; omega
  unfold addA
  rw [if_neg (by omega), if_neg (by omega), if_neg (by omega), if_neg (by omega), if_neg (by omega), take_snoc h]
theorem OkL.take {l : List ByteArray} (h : OkL l) (j : Nat) : OkL (l.take j) := ⟨by rw [List.length_take]; have := h.n; omega, fun p hp => h.each p (List.mem_of_mem_take hp)⟩
theorem filled_calls (w : World) (s : Sl) (l : List ByteArray) (hs : Has w s 1 (sv l)) (ok : OkL l) : Calls prog 24 #[.slice s.a s.l s.c] w fun e w' => ∃ b t, e = .returned (.tuple #[.pointer (some ⟨b, 0, none⟩), .bool true]) ∧ w.heap.size ≤ b ∧ New w t ∧ LgS w' b t l ∧ Frm none_ w w' := by
  refine calls_ret (W24 (x0 := s) (Q := fun v w' => ∃ b t, v = .tuple #[.pointer (some ⟨b, 0, none⟩), .bool true] ∧ w.heap.size ≤ b ∧ New w t ∧ LgS w' b t l ∧ Frm none_ w w') ?_) (fun v w' ⟨b, t, h, h'⟩ => ⟨b, t, by rw [h], h'⟩)
  have hl := has_sv hs
  have hn := ok.n
  unfold F24
  refine (new_calls w).mono ?_
  rintro _ w1 ⟨b, rfl, hb, hL, f1⟩
  refine ⟨_, rfl, fun n i w' => ∃ (j : Nat) (t : Sl), i = (j : Int) ∧ j ≤ l.length ∧ n = l.length - j ∧ LgS w' b t (l.take j) ∧ New w t ∧ Frm none_ w w', l.length, ⟨0, _, rfl, by omega, rfl, hL, fun k hk => by simp [Sl.blk] at hk, f1⟩, ?_⟩
  rintro n u i w2 ⟨j, t, rfl, hj, rfl, hL2, hn2, f2⟩
  refine IfB.dec (fun hlt => ?_) (fun hge => ?_)
  · obtain ⟨q, p, hq, hp, hld⟩ := sv_at (hs.mod f2 (fun _ _ h => h)) (i := j) (by omega)
    refine ⟨q, hq, by omega, by omega, p, hld, (add_calls w2 b t _ (j : Int) p hL2 (ok.take j)).mono ?_⟩
    rw [addA_next ok hp]
    rintro _ w3 ⟨rfl, t3, hL3, hn3, f3⟩
    refine ⟨_, _, rfl, IfB.f rfl (IfB.f rfl ⟨l.length - (j + 1), by omega, j + 1, t3, by rw [wi _ (by omega)]; omega, by omega, rfl, hL3, hn3.new hn2 f2.size, frm_lg f2 f3 (by omega) hn2⟩)⟩
  · rw [List.take_of_length_le (by omega)] at hL2
    exact ⟨b, t, rfl, by omega, hn2, hL2, f2⟩
end Go.Proofs.Ytmcdeldjgfapbaa
