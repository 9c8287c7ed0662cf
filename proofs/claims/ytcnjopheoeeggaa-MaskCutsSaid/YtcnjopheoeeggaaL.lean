/- A mask's calls, the document's answer, and the laws' small words. -/
import Derived.Test.YtcnjopheoeeggaaK
set_option linter.unusedVariables false
set_option linter.unusedSimpArgs false
namespace Go.Proofs.Ytcnjopheoeeggaa
open Go Go.Proofs.YtcnjopheoeeggaaV
theorem str_app (l : List UInt8) (x : ByteArray) : str l ++ x = str (l ++ x.data.toList) := by
  have e : (str l ++ x).data.toList = l ++ x.data.toList := by rw [ByteArray.data_append, Array.toList_append]; rfl
  have := congrArg str e
  rwa [str_list] at this
theorem may_calls (w0 w : World) (x : Option Addr) (M : Mk) (h : St w0 w x M) : Calls prog 21 #[.pointer x] w fun e w' => e = .returned (.int .i64 (if M.closed then 50 else 0)) ∧ w = w' := by
  refine callsRet (W21 (Q := fun v w' => v = .int .i64 (if M.closed then 50 else 0) ∧ w = w') ?_) (fun v w' ⟨h, h'⟩ => ⟨by rw [h], h'⟩)
  unfold F21
  obtain ⟨b, o, sl, rfl, h⟩ := h
  refine ⟨_, some_eql31 _ b, IfB.f rfl ⟨_, rfl, M.closed, by rw [addr_add]; exact h.blk.ld rfl, IfB.intro (fun hc => ?_) (fun hc => ?_)⟩⟩
  · rw [hc]; exact ⟨rfl, rfl⟩
  · rw [hc]; exact ⟨rfl, rfl⟩
theorem may_nil (w : World) : Calls prog 21 #[.pointer none] w fun e w' => e = .returned (.int .i64 2) ∧ w = w' := by
  refine callsRet (W21 (Q := fun v w' => v = .int .i64 2 ∧ w = w') ?_) (fun v w' ⟨h, h'⟩ => ⟨by rw [h], h'⟩)
  unfold F21
  exact ⟨_, nil_eql31 _, IfB.t rfl ⟨rfl, rfl⟩⟩
/-- Small enough. -/
structure Sm (M : Mk) : Prop where
  held : M.held.length ≤ 1000000
  sb : M.sb.length ≤ 1000
  each : ∀ s ∈ M.sb, s.size ≤ 1000000
theorem write_calls (w0 w : World) (x : Option Addr) (M : Mk) (s : ByteArray) (h : St w0 w x M) (hw : w0.heap.size ≤ w.heap.size) (hc : M.closed = false) (hsm : Sm M) (hs : s.size ≤ 1000000) : Calls prog 12 #[.pointer x, .string s] w fun e w' =>
    e = .returned (.tuple #[.string (str (run (ssOf M.sb) false (M.held ++ s.data.toList)).1), .int .i64 0]) ∧ St w0 w' x { M with held := (run (ssOf M.sb) false (M.held ++ s.data.toList)).2 } ∧ Frm (Up w0) w w' := by
  refine callsRet (W12 (Q := fun v w' => v = .tuple #[.string (str (run (ssOf M.sb) false (M.held ++ s.data.toList)).1), .int .i64 0] ∧ St w0 w' x { M with held := (run (ssOf M.sb) false (M.held ++ s.data.toList)).2 } ∧ Frm (Up w0) w w') ?_) (fun v w' ⟨h, h'⟩ => ⟨by rw [h], h'⟩)
  unfold F12
  refine (may_calls w0 w x M h).mono ?_
  rintro _ _ ⟨rfl, rfl⟩
  rw [hc]
  obtain ⟨b, o, sl, rfl, h⟩ := h
  have hsl : s.data.toList.length = s.size := Array.length_toList
  have h1 := hsm.held; have h2 := hsm.sb
  refine ⟨_, rfl, IfB.f rfl ⟨_, rfl, str M.held, by rw [addr_add]; exact h.blk.ld rfl, by rw [str_len]; omega, _, rfl, by rw [addr_add]; exact h.blk.wr (show 1 < 4 by decide), ?_⟩⟩
  rintro w1 rfl
  rw [addr_add, str_app]
  have f1 : Frm (fun k => k = b) w (w.setCell ⟨b, 0 + 1, none⟩ (.string (str (M.held ++ s.data.toList)))) := mod_setCell (a := ⟨b, 0 + 1, none⟩)
  have z1 := f1.size
  have hS1 : StP w0 (w.setCell ⟨b, 0 + 1, none⟩ (.string (str (M.held ++ s.data.toList)))) b o sl { M with held := M.held ++ s.data.toList } :=
    ⟨h.blk.set 1 _, h.sec.mod f1 (fun k hk e => h.sec.g.blkNeB h.blk.g (by decide) (by rw [hk, e])), h.out.mod f1 (blk_ne h.out h.blk (by decide)), h.hb, h.ho, h.hs⟩
  refine (run_calls w0 _ b o sl _ false hS1 (by omega) (by simp only [List.length_append]; omega) (by simp only; omega) (fun s hs => by have := hsm.each s hs; omega)).mono ?_
  rintro _ w2 ⟨rfl, hS2, f2⟩
  exact ⟨_, rfl, rfl, ⟨b, o, sl, rfl, by have h3 := hS2; simp only [hc] at h3; exact h3⟩, f1.trans f2 (fun k _ hk => by have hk : k = b := hk; subst hk; exact h.hb) (fun _ _ h => h)⟩
theorem write_closed (w0 w : World) (x : Option Addr) (M : Mk) (s : ByteArray) (h : St w0 w x M) (hc : M.closed = true) : Calls prog 12 #[.pointer x, .string s] w fun e w' => e = .returned (.tuple #[.string ⟨#[]⟩, .int .i64 50]) ∧ w = w' := by
  refine callsRet (W12 (Q := fun v w' => v = .tuple #[.string ⟨#[]⟩, .int .i64 50] ∧ w = w') ?_) (fun v w' ⟨h, h'⟩ => ⟨by rw [h], h'⟩)
  unfold F12
  refine (may_calls w0 w x M h).mono ?_
  rintro _ _ ⟨rfl, rfl⟩
  rw [hc]
  exact ⟨_, rfl, IfB.t rfl ⟨rfl, rfl⟩⟩
theorem write_nil (w : World) (s : ByteArray) : Calls prog 12 #[.pointer none, .string s] w fun e w' => e = .returned (.tuple #[.string ⟨#[]⟩, .int .i64 2]) ∧ w = w' := by
  refine callsRet (W12 (Q := fun v w' => v = .tuple #[.string ⟨#[]⟩, .int .i64 2] ∧ w = w') ?_) (fun v w' ⟨h, h'⟩ => ⟨by rw [h], h'⟩)
  unfold F12
  refine (may_nil w).mono ?_
  rintro _ _ ⟨rfl, rfl⟩
  exact ⟨_, rfl, IfB.t rfl ⟨rfl, rfl⟩⟩
theorem close_calls (w0 w : World) (x : Option Addr) (M : Mk) (h : St w0 w x M) (hw : w0.heap.size ≤ w.heap.size) (hc : M.closed = false) (hsm : Sm M) : Calls prog 14 #[.pointer x] w fun e w' =>
    e = .returned (.tuple #[.string (str (run (ssOf M.sb) true M.held).1), .int .i64 0]) ∧ St w0 w' x { M with held := [], closed := true } ∧ Frm (Up w0) w w' := by
  refine callsRet (W14 (Q := fun v w' => v = .tuple #[.string (str (run (ssOf M.sb) true M.held).1), .int .i64 0] ∧ St w0 w' x { M with held := [], closed := true } ∧ Frm (Up w0) w w') ?_) (fun v w' ⟨h, h'⟩ => ⟨by rw [h], h'⟩)
  unfold F14
  refine (may_calls w0 w x M h).mono ?_
  rintro _ _ ⟨rfl, rfl⟩
  rw [hc]
  obtain ⟨b, o, sl, rfl, h⟩ := h
  have h1 := hsm.held; have h2 := hsm.sb
  refine ⟨_, rfl, IfB.f rfl ⟨_, rfl, by rw [addr_add]; exact h.blk.wr (show 2 < 4 by decide), ?_⟩⟩
  rintro w1 rfl
  rw [addr_add]
  have f1 : Frm (fun k => k = b) w (w.setCell ⟨b, 0 + 2, none⟩ (.bool true)) := mod_setCell (a := ⟨b, 0 + 2, none⟩)
  have z1 := f1.size
  have hS1 : StP w0 (w.setCell ⟨b, 0 + 2, none⟩ (.bool true)) b o sl { M with closed := true } :=
    ⟨h.blk.set 2 _, h.sec.mod f1 (fun k hk e => h.sec.g.blkNeB h.blk.g (by decide) (by rw [hk, e])), h.out.mod f1 (blk_ne h.out h.blk (by decide)), h.hb, h.ho, h.hs⟩
  refine (run_calls w0 _ b o sl _ true hS1 (by omega) (by simp only; omega) (by simp only; omega) (fun s hs => by have := hsm.each s hs; omega)).mono ?_
  rintro _ w2 ⟨rfl, hS2, f2⟩
  have e2 : (run (ssOf M.sb) true M.held).2 = [] := by
    rcases (run_size (ssOf M.sb) true _ M.held (Nat.le_refl _)).2 with h | ⟨h, _⟩
    · exact h
    · cases h
  simp only [e2] at hS2
  exact ⟨_, rfl, rfl, ⟨b, o, sl, rfl, hS2⟩, f1.trans f2 (fun k _ hk => by have hk : k = b := hk; subst hk; exact h.hb) (fun _ _ h => h)⟩
theorem close_closed (w0 w : World) (x : Option Addr) (M : Mk) (h : St w0 w x M) (hc : M.closed = true) : Calls prog 14 #[.pointer x] w fun e w' => e = .returned (.tuple #[.string ⟨#[]⟩, .int .i64 50]) ∧ w = w' := by
  refine callsRet (W14 (Q := fun v w' => v = .tuple #[.string ⟨#[]⟩, .int .i64 50] ∧ w = w') ?_) (fun v w' ⟨h, h'⟩ => ⟨by rw [h], h'⟩)
  unfold F14
  refine (may_calls w0 w x M h).mono ?_
  rintro _ _ ⟨rfl, rfl⟩
  rw [hc]
  exact ⟨_, rfl, IfB.t rfl ⟨rfl, rfl⟩⟩
theorem close_nil (w : World) : Calls prog 14 #[.pointer none] w fun e w' => e = .returned (.tuple #[.string ⟨#[]⟩, .int .i64 2]) ∧ w = w' := by
  refine callsRet (W14 (Q := fun v w' => v = .tuple #[.string ⟨#[]⟩, .int .i64 2] ∧ w = w') ?_) (fun v w' ⟨h, h'⟩ => ⟨by rw [h], h'⟩)
  unfold F14
  refine (may_nil w).mono ?_
  rintro _ _ ⟨rfl, rfl⟩
  exact ⟨_, rfl, IfB.t rfl ⟨rfl, rfl⟩⟩
theorem held_calls (w0 w : World) (x : Option Addr) (M : Mk) (h : St w0 w x M) : Calls prog 13 #[.pointer x] w fun e w' => e = .returned (.int .i64 (M.held.length : Int)) ∧ w = w' := by
  refine callsRet (W13 (Q := fun v w' => v = .int .i64 (M.held.length : Int) ∧ w = w') ?_) (fun v w' ⟨h, h'⟩ => ⟨by rw [h], h'⟩)
  unfold F13
  obtain ⟨b, o, sl, rfl, h⟩ := h
  exact ⟨_, some_eql31 _ b, IfB.f rfl ⟨_, rfl, str M.held, by rw [addr_add]; exact h.blk.ld rfl, rfl, rfl⟩⟩
theorem held_nil (w : World) : Calls prog 13 #[.pointer none] w fun e w' => e = .returned (.int .i64 0) ∧ w = w' := by
  refine callsRet (W13 (Q := fun v w' => v = .int .i64 0 ∧ w = w') ?_) (fun v w' ⟨h, h'⟩ => ⟨by rw [h], h'⟩)
  unfold F13
  exact ⟨_, nil_eql31 _, IfB.t rfl ⟨rfl, rfl⟩⟩
def badS (s : ByteArray) : Bool := decide (s.size < 1 ∨ s.size > 64)
def checkS (sb : List ByteArray) : Int := if sb.length > 6 then 3 else if sb.any badS then 1 else 0
theorem checkS_ok {sb : List ByteArray} (h : checkS sb = 0) : sb.length ≤ 6 ∧ ∀ s ∈ sb, 1 ≤ s.size ∧ s.size ≤ 64 := by
  unfold checkS at h
  split at h
  · cases h
  · split at h
    · cases h
    · rename_i h1 h2
      refine ⟨by omega, fun s hs => ?_⟩
      have : badS s = false := by
        cases hb : badS s
        · rfl
        · exact absurd (List.any_eq_true.2 ⟨s, hs, hb⟩) h2
      have := of_decide_eq_false this
      omega
theorem clone_calls (w : World) (s : Sl) (l : List ByteArray) (hs : Has w s 1 (sv l)) (hb : l.length * 16 ≤ 140737488351232) : Calls prog 20 #[.slice s.a s.l s.c] w fun e w' =>
    ∃ t : Sl, e = .returned (.slice t.a t.l t.c) ∧ Row w' t 9 1 (sv l) ∧ (∀ k, t.blk = some k → w.heap.size ≤ k) ∧ Frm none_ w w' := by
  refine callsRet (W20 (Q := fun v w' => ∃ t : Sl, v = .slice t.a t.l t.c ∧ Row w' t 9 1 (sv l) ∧ (∀ k, t.blk = some k → w.heap.size ≤ k) ∧ Frm none_ w w') ?_) (fun v w' ⟨t, h, h'⟩ => ⟨t, by rw [h], h'⟩)
  unfold F20
  have hl := has_sv hs
  cases ha : s.a with
  | none =>
    have hn : l = [] := by
      cases l with
      | nil => rfl
      | cons b r =>
        obtain ⟨a, ha', _⟩ := hs.get 0 _ rfl
        rw [ha] at ha'; cases ha'
    subst hn
    exact ⟨_, none_sl22 _ _ _, IfB.t rfl ⟨⟨none, 0, 0⟩, rfl, Row.nil _ _ _, by simp [Sl.blk], Frm.refl _ _⟩⟩
  | some a =>
    refine ⟨_, some_sl22 _ _ _ _, IfB.f rfl (runT_lit0 st22 ?_)⟩
    intro w1 hr1 hm1 hs1
    have h2 := hs.mod hm1 (fun _ _ h => h)
    rw [← ha]
    refine runT_append st22 hr1 h2 (sv_one l) (by simp only; omega) (by simp only [maxLen]; omega) ?_
    intro t w2 hr2 hl2 hn2 hm2
    rw [List.nil_append] at hr2
    refine ⟨t, rfl, hr2, ?_, hm1.trans hm2 (fun _ _ h => h) (fun x hx hf => by simp [Sl.blk] at hf; omega)⟩
    intro k hk
    rcases hn2.cases hk with h | h
    · simp [Sl.blk] at h; omega
    · omega
theorem b55 : BuildIs prog 55 #[] #[.pointer none, .slice none 0 0] := fun w => by kernel_rfl
theorem b46 (t : Sl) (o : Nat) : BuildIs prog 46 #[(0, .slice t.a t.l t.c), (3, .pointer (some ⟨o, 0, none⟩))] #[.slice t.a t.l t.c, .string ⟨#[]⟩, .bool false, .pointer (some ⟨o, 0, none⟩)] := fun w => by kernel_rfl
theorem new_calls (w : World) (s : Sl) (sb : List ByteArray) (hs : Has w s 1 (sv sb)) (hb : sb.length * 16 ≤ 140737488351232) : Calls prog 11 #[.slice s.a s.l s.c] w fun e w' =>
    ∃ x, e = .returned (.tuple #[.pointer x, .int .i64 (checkS sb)]) ∧ (checkS sb ≠ 0 → x = none) ∧ (checkS sb = 0 → (∃ b, x = some ⟨b, 0, none⟩) ∧ St w w' x ⟨sb, [], false⟩) ∧ Frm none_ w w' := by
  refine callsRet (W11 (Q := fun v w' => ∃ x, v = .tuple #[.pointer x, .int .i64 (checkS sb)] ∧ (checkS sb ≠ 0 → x = none) ∧ (checkS sb = 0 → (∃ b, x = some ⟨b, 0, none⟩) ∧ St w w' x ⟨sb, [], false⟩) ∧ Frm none_ w w') ?_) (fun v w' ⟨x, h, h'⟩ => ⟨x, by rw [h], h'⟩)
  unfold F11
  have hl := has_sv hs
  refine IfB.intro (fun hc => ?_) (fun hc => ?_)
  · have hc := of_decide_eq_true hc
    have e : checkS sb = 3 := by unfold checkS; rw [if_pos (by omega)]
    rw [e]
    exact ⟨none, rfl, fun _ => rfl, fun h => absurd h (by decide), Frm.refl _ _⟩
  have hc := of_decide_eq_false hc
  refine (any_calls (f := 19) (cap := #[]) w s sb badS hs (by omega) body19 (fun x => ?_)).mono ?_
  · refine callsRet (W19 (x0 := x) (Q := fun v w' => v = .bool (badS x) ∧ w = w') ?_) (fun v w' ⟨h, h'⟩ => ⟨by rw [h], h'⟩)
    unfold F19
    refine IfB.intro (fun hd => ?_) (fun hd => ?_)
    · have := (str_eqIff _ _).1 hd
      subst this
      exact ⟨rfl, rfl⟩
    · have hne : ¬ x.size < 1 := by
        intro h0
        have hx : x.data.toList = [] := List.eq_nil_of_length_eq_zero (by rw [Array.length_toList]; show x.size = 0; omega)
        have : x = ⟨#[]⟩ := by have := congrArg str hx; rwa [str_list] at this
        subst this
        rw [(str_eqIff _ _).2 rfl] at hd; cases hd
      refine ⟨?_, rfl⟩
      congr 1
      unfold badS
      rw [Bool.eq_iff_iff, decide_eq_true_iff, decide_eq_true_iff]
      omega
  rintro _ _ ⟨rfl, rfl⟩
  refine ⟨_, rfl, IfB.intro (fun hd => ?_) (fun hd => ?_)⟩
  · have e : checkS sb = 1 := by unfold checkS; rw [if_neg (by omega), if_pos hd]
    rw [e]
    exact ⟨none, rfl, fun _ => rfl, fun h => absurd h (by decide), Frm.refl _ _⟩
  have e : checkS sb = 0 := by unfold checkS; rw [if_neg (by omega), if_neg (by rw [hd]; simp)]
  rw [e]
  refine (clone_calls w s sb hs hb).mono ?_
  rintro _ w1 ⟨t, rfl, ht, hbt, f1⟩
  refine ⟨t, rfl, _, b55, ?_⟩
  intro b14 w2 hn2
  have e2 := hn2.b; have z2 := hn2.size; have z1 := f1.size
  refine ⟨_, b46 t b14, ?_⟩
  intro b16 w3 hn3
  have e3 := hn3.b
  have f2 := hn2.mod none_; have f3 := hn3.mod none_
  exact ⟨_, rfl, fun h => absurd rfl h, fun _ => ⟨⟨b16, rfl⟩, b16, b14, t, rfl, hn3.blk, (ht.mod f2 (fun _ _ h => h)).mod f3 (fun _ _ h => h), hn2.blk.mod f3 (fun h => h), by omega, by omega, hbt⟩, f1.n (f2.n f3)⟩
theorem whole_calls (w : World) (s : Sl) (sb : List ByteArray) (x : ByteArray) (hs : Has w s 1 (sv sb)) (hb : sb.length * 16 ≤ 140737488351232) (hx : x.size ≤ 1000000) : Calls prog 9 #[.slice s.a s.l s.c, .string x] w fun e w' =>
    ∃ t : ByteArray, e = .returned (.tuple #[.string t, .int .i64 (checkS sb)]) ∧ (checkS sb ≠ 0 → t = ⟨#[]⟩) ∧ (checkS sb = 0 → t = str (run (ssOf sb) true x.data.toList).1) ∧ Frm none_ w w' := by
  refine callsRet (W9 (Q := fun v w' => ∃ t : ByteArray, v = .tuple #[.string t, .int .i64 (checkS sb)] ∧ (checkS sb ≠ 0 → t = ⟨#[]⟩) ∧ (checkS sb = 0 → t = str (run (ssOf sb) true x.data.toList).1) ∧ Frm none_ w w') ?_) (fun v w' ⟨t, h, h'⟩ => ⟨t, by rw [h], h'⟩)
  unfold F9
  refine (new_calls w s sb hs hb).mono ?_
  rintro _ w1 ⟨p, rfl, h1, h2, f1⟩
  refine ⟨p, _, rfl, IfB.intro (fun hc => ?_) (fun hc => ?_)⟩
  · have hc := iNe hc
    exact ⟨_, rfl, fun _ => rfl, fun h => absurd h hc, f1⟩
  have hc := iEq hc
  obtain ⟨_, b, o, sl, rfl, hS⟩ := h2 hc
  obtain ⟨hl6, hsz⟩ := checkS_ok hc
  have hxl : x.data.toList.length = x.size := Array.length_toList
  refine ⟨_, rfl, by rw [addr_add]; exact hS.blk.wr (show 1 < 4 by decide), ?_⟩
  rintro w2 rfl
  rw [addr_add]
  have f2 : Frm (fun k => k = b) w1 (w1.setCell ⟨b, 0 + 1, none⟩ (.string x)) := mod_setCell (a := ⟨b, 0 + 1, none⟩)
  have z1 := f1.size; have z2 := f2.size
  have hS2 : StP w (w1.setCell ⟨b, 0 + 1, none⟩ (.string x)) b o sl ⟨sb, x.data.toList, false⟩ := by
    refine ⟨?_, hS.sec.mod f2 (fun k hk e => hS.sec.g.blkNeB hS.blk.g (by decide) (by rw [hk, e])), hS.out.mod f2 (blk_ne hS.out hS.blk (by decide)), hS.hb, hS.ho, hS.hs⟩
    have := hS.blk.set 1 (.string x)
    rw [str_list]; exact this
  refine (run_calls w _ b o sl _ true hS2 (by omega) (by simp only; omega) (by simp only; omega) (fun s hs => by have := (hsz s hs).2; omega)).mono ?_
  rintro _ w3 ⟨rfl, _, f3⟩
  refine ⟨_, rfl, _, by rw [hc], fun h => absurd hc h, fun _ => rfl, (f1.b f2 hS.hb).trans f3 (fun _ _ h => h) (fun k hk h => by have h : w.heap.size ≤ k := h; omega)⟩
theorem check_doc (w : World) (s : Sl) (sb : List ByteArray) (hs : Has w s 1 (sv sb)) (hb : sb.length ≤ 140737488351232) : Calls prog 15 #[.slice s.a s.l s.c] w fun e w' => e = .returned (.int .i64 (checkS sb)) ∧ w = w' := by
  refine callsRet (W15 (Q := fun v w' => v = .int .i64 (checkS sb) ∧ w = w') ?_) (fun v w' ⟨h, h'⟩ => ⟨by rw [h], h'⟩)
  unfold F15
  have hl := has_sv hs
  refine IfB.intro (fun hc => ?_) (fun hc => ?_)
  · have hc := of_decide_eq_true hc
    have e : checkS sb = 3 := by unfold checkS; rw [if_pos (by omega)]
    rw [e]; exact ⟨rfl, rfl⟩
  have hc := of_decide_eq_false hc
  refine ⟨fun n x w' => ∃ j : Nat, x = (j : Int) ∧ j ≤ s.l ∧ n = s.l - j ∧ (∀ i x, i < j → sb[i]? = some x → badS x = false) ∧ w = w', s.l, ⟨0, rfl, Nat.zero_le _, by omega, by simp, rfl⟩, ?_⟩
  rintro n u x w1 ⟨j, rfl, hj, rfl, hno, rfl⟩
  refine IfB.intro (fun hd => ?_) (fun hd => ?_)
  · have hlt := of_decide_eq_true hd
    obtain ⟨q, x, hq, hx, hxm, hld⟩ := sv_at hs (i := j) (by omega)
    have hld : Ld w (q.add ((j : Int).toNat * 1)) (.string x) := by rw [Int.toNat_natCast]; exact hld
    have bad : badS x = true → checkS sb = 1 := fun h => by unfold checkS; rw [if_neg (by omega), if_pos (List.any_eq_true.2 ⟨x, hxm, h⟩)]
    refine ⟨q, hq, by omega, by omega, x, hld, IfB.intro (fun h0 => ?_) (fun h0 => ⟨q, hq, by omega, by omega, x, hld, IfB.intro (fun h1 => ?_) (fun h1 => ?_)⟩)⟩
    · have h0 := of_decide_eq_true h0
      rw [bad (decide_eq_true (.inl (by omega)))]; exact ⟨rfl, rfl⟩
    · have h1 := of_decide_eq_true h1
      rw [bad (decide_eq_true (.inr (by omega)))]; exact ⟨rfl, rfl⟩
    · have h0 := of_decide_eq_false h0
      have h1 := of_decide_eq_false h1
      refine ⟨s.l - (j + 1), by omega, j + 1, by rw [wrap64 _ (by omega)]; omega, by omega, rfl, ?_, rfl⟩
      intro i y hi hy
      rcases Nat.lt_succ_iff_lt_or_eq.1 hi with hh | hh
      · exact hno i y hh hy
      · subst hh; rw [hx] at hy; cases hy
        exact decide_eq_false (by omega)
  · have hge := of_decide_eq_false hd
    have e : checkS sb = 0 := by
      unfold checkS
      rw [if_neg (by omega), if_neg]
      intro ha
      obtain ⟨x, hx, hb⟩ := List.any_eq_true.1 ha
      obtain ⟨i, hi⟩ := List.mem_iff_getElem?.1 hx
      have := (List.getElem?_eq_some_iff.1 hi).1
      rw [hno i x (by omega) hi] at hb; cases hb
    rw [e]; exact ⟨rfl, rfl⟩
/-- How large texts are. -/
def tot (l : List ByteArray) : Nat := (l.map fun s => s.size + 1).sum
theorem tot_take {l : List ByteArray} {i : Nat} {s : ByteArray} (h : l[i]? = some s) : tot (l.take (i + 1)) = tot (l.take i) + (s.size + 1) := by
  unfold tot
  rw [List.take_add_one, h]
  simp
theorem tot_mem {l : List ByteArray} {s : ByteArray} (h : s ∈ l) : s.size + 1 ≤ tot l := by
  unfold tot
  induction l with
  | nil => simp at h
  | cons a r ih =>
    simp only [List.map_cons, List.sum_cons]
    rcases List.mem_cons.1 h with rfl | h
    · omega
    · have := ih h; omega
theorem tot_len (l : List ByteArray) : l.length ≤ tot l := by
  unfold tot
  induction l with
  | nil => simp
  | cons a r ih => simp only [List.map_cons, List.sum_cons, List.length_cons]; omega
theorem large_calls (w : World) (s : Sl) (sb : List ByteArray) (m : Nat) (hm : m ≤ 10000) (hs : Has w s 1 (sv sb)) (hb : s.l ≤ 140737488351232) (hbs : ∀ x ∈ sb, x.size ≤ 140737488351232) : Calls prog 8 #[.slice s.a s.l s.c, .int .i64 (m : Int)] w fun e w' =>
    ∃ b : Bool, e = .returned (.bool b) ∧ (b = false → tot sb ≤ m) ∧ w = w' := by
  refine callsRet (W8 (Q := fun v w' => ∃ b : Bool, v = .bool b ∧ (b = false → tot sb ≤ m) ∧ w = w') ?_) (fun v w' ⟨t, h, h'⟩ => ⟨t, by rw [h], h'⟩)
  unfold F8
  have hl := has_sv hs
  refine ⟨fun n x5 x6 w' => ∃ i : Nat, x6 = (i : Int) ∧ i ≤ s.l ∧ n = s.l - i ∧ x5 = (tot (sb.take i) : Int) ∧ tot (sb.take i) ≤ m + 1 + 140737488351232 ∧ w = w', s.l, ⟨0, rfl, Nat.zero_le _, by omega, by simp [tot], by simp only [tot, List.take_zero, List.map_nil, List.sum_nil]; omega, rfl⟩, ?_⟩
  rintro n u x5 x6 w1 ⟨i, rfl, hi, rfl, rfl, hx, rfl⟩
  refine IfB.intro (fun hc => ?_) (fun hc => ?_)
  · have hlt := of_decide_eq_true hc
    refine IfB.intro (fun hd => ?_) (fun hd => ?_)
    · have hle := of_decide_eq_true hd
      obtain ⟨q, x, hq, hx2, hxm, hld⟩ := sv_at hs (i := i) (by omega)
      have hpb := hbs x hxm
      refine ⟨q, hq, by omega, by omega, x, by rw [Int.toNat_natCast]; exact hld, s.l - (i + 1), by omega, i + 1, by rw [wrap64 _ (by omega)]; omega, by omega, rfl, ?_, ?_, rfl⟩
      · rw [tot_take hx2, wrap64 ((tot (sb.take i) : Int) + 1) (by omega), wrap64 _ (by omega)]; omega
      · rw [tot_take hx2]; omega
    · have hgt := of_decide_eq_false hd
      refine ⟨true, ?_, by simp, rfl⟩
      rw [decide_eq_true (by omega)]
  · have hge := of_decide_eq_false hc
    have et : sb.take i = sb := List.take_of_length_le (by omega)
    rw [et]
    refine ⟨_, rfl, ?_, rfl⟩
    intro hf
    have hf := of_decide_eq_false hf
    omega
theorem has_calls (w : World) (x y : ByteArray) (hx : x.size ≤ 1000000000) (hy : y.size ≤ 140737488351232) : Calls prog 10 #[.string x, .string y] w fun e w' => ∃ b : Bool, e = .returned (.bool b) ∧ (b = true ↔ y.data.toList <:+: x.data.toList) ∧ w = w' := by
  refine callsRet (W10 (Q := fun v w' => ∃ b : Bool, v = .bool b ∧ (b = true ↔ y.data.toList <:+: x.data.toList) ∧ w = w') ?_) (fun v w' ⟨t, h, h'⟩ => ⟨t, by rw [h], h'⟩)
  unfold F10
  have hxl : x.data.toList.length = x.size := Array.length_toList
  have hyl : y.data.toList.length = y.size := Array.length_toList
  refine ⟨fun n x5 w' => ∃ j : Nat, x5 = (j : Int) ∧ j ≤ x.size + 1 ∧ n = x.size + 1 - j ∧ (∀ i, i < j → ¬ y.data.toList <+: x.data.toList.drop i) ∧ w = w', _, ⟨0, rfl, Nat.zero_le _, rfl, by simp, rfl⟩, ?_⟩
  rintro n u x5 w1 ⟨j, rfl, hj, rfl, hno, rfl⟩
  rw [wrap64 _ (by omega)]
  refine IfB.intro (fun hc => ?_) (fun hc => ?_)
  · have hle := of_decide_eq_true hc
    have e1 : ((j : Int) + (y.size : Int)).toNat = j + y.size := by omega
    rw [Int.toNat_natCast, e1]
    have e2 := ext_list x j (j + y.size)
    rw [Nat.add_sub_cancel_left] at e2
    have hiff : ((x.extract j (j + y.size)).toList == y.toList) = true ↔ y.data.toList <+: x.data.toList.drop j := by
      rw [str_eqIff, List.prefix_iff_eq_take, hyl, ← e2]
      constructor
      · intro h; rw [h]
      · intro h
        have h1 := congrArg str h.symm
        rwa [str_list, str_list] at h1
    refine ⟨⟨by omega, by omega⟩, ⟨by omega, by omega⟩, IfB.intro (fun h => ?_) (fun h => ?_)⟩
    · refine ⟨true, rfl, ?_, rfl⟩
      simp only [true_iff]
      exact ((hiff.1 h).isInfix).trans (List.drop_suffix _ _).isInfix
    · refine ⟨x.size + 1 - (j + 1), by omega, j + 1, by rw [wrap64 _ (by omega)]; omega, by omega, rfl, ?_, rfl⟩
      intro i hi
      rcases Nat.lt_succ_iff_lt_or_eq.1 hi with hh | hh
      · exact hno i hh
      · subst hh; intro hp; rw [hiff.2 hp] at h; cases h
  · have hgt := of_decide_eq_false hc
    refine ⟨false, rfl, ?_, rfl⟩
    simp only [Bool.false_eq_true, false_iff]
    rintro ⟨s, t, e⟩
    have h1 : y.data.toList <+: x.data.toList.drop s.length := ⟨t, by rw [← e, List.append_assoc, List.drop_left]⟩
    have h2 := h1.length_le
    rw [List.length_drop] at h2
    have h3 := congrArg List.length e
    simp only [List.length_append] at h3
    exact hno s.length (by omega) h1
end Go.Proofs.Ytcnjopheoeeggaa
