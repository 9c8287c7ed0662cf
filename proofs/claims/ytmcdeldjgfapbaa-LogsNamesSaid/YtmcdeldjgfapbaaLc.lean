/- What is done to a log, call by call. -/
import Derived.Test.YtmcdeldjgfapbaaLk
set_option linter.unusedVariables false
set_option linter.unusedSimpArgs false
set_option maxRecDepth 20000
namespace Go.Proofs.Ytmcdeldjgfapbaa
open Go Go.Proofs.YtmcdeldjgfapbaaV
/-- Where a row lies now: where it lay, or in what is new. -/
def NearG (w : World) (s s' : Sl) : Prop := ∀ k, s'.blk = some k → s.blk = some k ∨ w.heap.size ≤ k
theorem NearG.new {w0 w : World} {s s' : Sl} (h : NearG w s s') (hn : New w0 s) (hs : w0.heap.size ≤ w.heap.size) : New w0 s' := fun k hk => by
  rcases h k hk with h | h
  · exact hn k h
  · omega
theorem app1 {w : World} {t : Sl} {l : List ByteArray} {y : ByteArray} {K : Sl → World → Prop} (hr : Row w t 9 1 (sv l)) (hl : l.length ≤ 1000000000000)
    (hk : ∀ q w', Row w' q 9 1 (sv (l ++ [y])) → NearG w t q → Frm (fun b => t.blk = some b) w w' → K q w') :
    RunT prog .slice (Instr.buildSlice 31 1 #[(0, .string y)]) w fun (t49 : Sl) w1 => RunT prog .slice (Builtin.append_ #[31, 31] 31 #[.slice t.a t.l t.c, .slice t49.a t49.l t49.c]) w1 fun t50 w2 => K t50 w2 := by
  have htl := has_sv hr.has
  refine runT_lit1 st31 (by decide) rfl ?_
  intro w1 hr1 f1 z1
  have hx1 : Has w1 ⟨some ⟨w.heap.size, 0, none⟩, 1, 1⟩ 1 (sv [y]) := hr1.has
  refine runT_append st31 (hr.mod f1 (fun _ _ h => h)) hx1 (sv_one _) (by simp only; omega) (by simp only [maxLen]; omega) ?_
  intro q w2 hr2 hl2 hn2 f2
  refine hk q w2 ?_ (fun k hk => ?_) (f1.trans f2 (fun _ _ h => h.elim) (fun _ _ h => h))
  · have e : sv (l ++ [y]) = sv l ++ sv [y] := by simp [sv]
    rw [e]; exact hr2
  · rcases hn2.cases hk with h | h
    · exact .inl h
    · right; omega
/-- A log of the program's. -/
structure LgS (w : World) (b : Nat) (s : Sl) (ps : List ByteArray) : Prop where
  blk : Blk w b #[.slice s.a s.l s.c, .int .i64 (szs ps : Int)] 63
  row : Row w s 9 1 (sv ps)
theorem LgS.mod {F : Nat → Prop} {w w' : World} {b : Nat} {s : Sl} {ps : List ByteArray} (h : LgS w b s ps) (hm : Frm F w w') (h1 : ¬ F b) (h2 : ∀ k, s.blk = some k → ¬ F k) : LgS w' b s ps := ⟨h.blk.mod hm h1, h.row.mod hm h2⟩
theorem LgS.n {w w' : World} {b : Nat} {s : Sl} {ps : List ByteArray} (h : LgS w b s ps) (hm : Frm none_ w w') : LgS w' b s ps := h.mod hm (fun h => h) (fun _ _ h => h)
theorem LgS.lp {w : World} {b : Nat} {s : Sl} {ps : List ByteArray} (h : LgS w b s ps) : LpS w (some ⟨b, 0, none⟩) s ps := .inr ⟨b, rfl, h.blk, h.row⟩
theorem LgS.q {w : World} {b : Nat} {s : Sl} {ps : List ByteArray} (h : LgS w b s ps) : LpQ 0 w (some ⟨b, 0, none⟩) ps := .inr ⟨b, rfl, s, Nat.zero_le _, fun _ _ => Nat.zero_le _, h.blk, h.row⟩
theorem LgS.len {w : World} {b : Nat} {s : Sl} {ps : List ByteArray} (h : LgS w b s ps) : s.l = ps.length := has_sv h.row.has
theorem new_calls (w : World) : Calls prog 20 #[] w fun e w' => ∃ b, e = .returned (.pointer (some ⟨b, 0, none⟩)) ∧ b = w.heap.size ∧ LgS w' b ⟨none, 0, 0⟩ [] ∧ Frm none_ w w' := by
  refine calls_ret (W20 (Q := fun v w' => ∃ b, v = .pointer (some ⟨b, 0, none⟩) ∧ b = w.heap.size ∧ LgS w' b ⟨none, 0, 0⟩ [] ∧ Frm none_ w w') ?_) (fun v w' ⟨b, h, h'⟩ => ⟨b, by rw [h], h'⟩)
  unfold F20
  refine ⟨_, b63L, ?_⟩
  intro b w1 hN
  exact ⟨b, rfl, hN.2, ⟨hN.blk, Row.nil _ _ _⟩, hN.mod _⟩
theorem keep_S (w : World) (b : Nat) (s : Sl) (ps : List ByteArray) (x : ByteArray) (h : LgS w b s ps) (hps : ps.length ≤ 100000) (hx : x.size ≤ 1000000000000) (hsz : szs ps ≤ 1000000000000) :
    Calls prog 40 #[.pointer (some ⟨b, 0, none⟩), .string x] w fun e w' => e = .returned (.tuple #[]) ∧ ∃ s', LgS w' b s' (ps ++ [x]) ∧ NearG w s s' ∧ Frm (fun k => k = b ∨ s.blk = some k) w w' := by
  refine calls_ret (W40 (x0 := some ⟨b, 0, none⟩) (Q := fun v w' => v = .tuple #[] ∧ ∃ s', LgS w' b s' (ps ++ [x]) ∧ NearG w s s' ∧ Frm (fun k => k = b ∨ s.blk = some k) w w') ?_) (fun v w' ⟨h, h'⟩ => ⟨by rw [h], h'⟩)
  obtain ⟨hK, hR⟩ := h
  have hl := has_sv hR.has
  unfold F40
  refine ⟨fun w' => Frm none_ w w', frm_drew w, ⟨b, 0, none⟩, rfl, s, fun w' hf => (hK.mod hf (fun h => h)).ld rfl, (clone_str w.drew x (by omega)).mono ?_⟩
  rintro _ w1 ⟨rfl, f1⟩
  have f1 := f1.ofDrew
  refine ⟨x, rfl, f1, runT_lit1 st31 (by decide) rfl ?_⟩
  intro w2 hr2 f2 z2
  have f12 := f1.n f2
  refine ⟨f12, ?_⟩
  have hx2 : Has w2 ⟨some ⟨w1.heap.size, 0, none⟩, 1, 1⟩ 1 (sv [x]) := hr2.has
  refine runT_append st31 (hR.mod f12 (fun _ _ h => h)) hx2 (sv_one _) (by simp only; omega) (by simp only [maxLen]; omega) ?_
  intro t w3 hr3 hl3 hn3 f3
  have hne : s.blk ≠ some b := hR.g.blkNeB hK.g (by decide)
  have hK3 := (hK.mod f12 (fun h => h)).mod f3 hne
  refine ⟨⟨b, 0, none⟩, rfl, hK3.wr (by show 0 < 2; omega), ?_⟩
  rintro w4 rfl
  have hK4 := hK3.set 0 (.slice t.a t.l t.c)
  refine ⟨⟨b, 0, none⟩, rfl, (szs ps : Int), hK4.ld rfl, ⟨b, 0, none⟩, rfl, hK4.wr (by show 1 < 2; omega), ?_⟩
  rintro w5 rfl
  have hK5 := hK4.set 1 (.int .i64 (IntKind.wrap .i64 ((szs ps : Int) + (x.size : Int))))
  have hne3 : t.blk ≠ some b := hr3.g.blkNeB hK3.g (by decide)
  have f123 : Frm (fun k => k = b ∨ s.blk = some k) w w3 := f12.trans f3 (fun _ _ h => h.elim) (fun k _ h => .inr h)
  have f5 : Frm (fun k => k = b) w3 ((w3.setCell ⟨b, 0, none⟩ (.slice t.a t.l t.c)).setCell ⟨b, 1, none⟩ (.int .i64 (IntKind.wrap .i64 ((szs ps : Int) + (x.size : Int))))) := mod_setCell.trans mod_setCell (fun _ _ h => h) (fun _ _ h => h)
  refine ⟨rfl, t, ⟨?_, ?_⟩, ?_, f123.trans f5 (fun _ _ h => h) (fun k _ h => .inl h)⟩
  · have hw : IntKind.wrap .i64 ((szs ps : Int) + (x.size : Int)) = ((szs ps + x.size : Nat) : Int) := by rw [wi _ (by omega)]; omega
    rw [szs_snoc, ← hw]
    exact hK5
  · have e : sv (ps ++ [x]) = sv ps ++ sv [x] := by simp [sv]
    rw [e]
    exact hr3.mod f5 (fun k hk hkb => hne3 (by have hkb : k = b := hkb; subst hkb; exact hk))
  · intro k hk
    rcases hn3.cases hk with h | h
    · exact .inl h
    · right; have := f12.size; omega
/-- What Add tells, and what is kept then. -/
def addA (ps : List ByteArray) (no : Int) (x : ByteArray) : Bool × Int × List ByteArray :=
  if no < 0 ∨ x.size = 0 then (false, 1, ps) else if 256 < x.size then (false, 40, ps)
  else if no < ps.length then (if ps[no.toNat]? = some x then (false, 0, ps) else (false, 6, ps))
  else if 64 ≤ no then (false, 3, ps) else if (ps.length : Int) < no then (false, 50, ps) else (true, 0, ps ++ [x])
theorem addA_ok {ps : List ByteArray} (h : OkL ps) (no : Int) (x : ByteArray) : OkL (addA ps no x).2.2 := by
  unfold addA
  split
  · exact h
  · split
    · exact h
    · split
      · split <;> exact h
      · split
        · exact h
        · split
          · exact h
          · refine ⟨by simp; omega, fun p hp => ?_⟩
            rcases List.mem_append.1 hp with hp | hp
            · exact h.each p hp
            · simp at hp; subst hp; omega
theorem size0 {x : ByteArray} : (x.toList == (⟨#[]⟩ : ByteArray).toList) = decide (x.size = 0) := by
  by_cases h : x = ⟨#[]⟩
  · subst h; rw [(str_eqIff _ _).2 rfl]; rfl
  · have h1 : (x.toList == (⟨#[]⟩ : ByteArray).toList) = false := by
      cases hb : x.toList == (⟨#[]⟩ : ByteArray).toList with
      | false => rfl
      | true => exact absurd ((str_eqIff _ _).1 hb) h
    rw [h1, decide_eq_false]
    intro hs
    apply h
    obtain ⟨⟨l⟩⟩ := x
    have : l.length = 0 := hs
    rw [List.eq_nil_of_length_eq_zero this]
theorem str_neq {a b : ByteArray} (h : a ≠ b) : (a.toList == b.toList) = false := by
  cases hb : a.toList == b.toList with
  | false => rfl
  | true => exact absurd ((str_eqIff _ _).1 hb) h
theorem add_calls (w : World) (b : Nat) (s : Sl) (ps : List ByteArray) (no : Int) (x : ByteArray) (h : LgS w b s ps) (ok : OkL ps) :
    Calls prog 21 #[.pointer (some ⟨b, 0, none⟩), .int .i64 no, .string x] w fun e w' => e = .returned (.tuple #[.bool (addA ps no x).1, .int .i64 (addA ps no x).2.1]) ∧ ∃ s', LgS w' b s' (addA ps no x).2.2 ∧ NearG w s s' ∧ Frm (fun k => k = b ∨ s.blk = some k) w w' := by
  refine calls_ret (W21 (x0 := some ⟨b, 0, none⟩) (x1 := no) (x2 := x) (Q := fun v w' => v = .tuple #[.bool (addA ps no x).1, .int .i64 (addA ps no x).2.1] ∧ ∃ s', LgS w' b s' (addA ps no x).2.2 ∧ NearG w s s' ∧ Frm (fun k => k = b ∨ s.blk = some k) w w') ?_) (fun v w' ⟨h, h'⟩ => ⟨by rw [h], h'⟩)
  have hn := ok.n
  have hz := szs_le (fun p hp => (ok.each p hp).2)
  have hl := h.len
  have same : ∀ {e : Int}, addA ps no x = (false, e, ps) → Value.tuple #[.bool false, .int .i64 e] = .tuple #[.bool (addA ps no x).1, .int .i64 (addA ps no x).2.1] ∧ ∃ s', LgS w b s' (addA ps no x).2.2 ∧ NearG w s s' ∧ Frm (fun k => k = b ∨ s.blk = some k) w w := by
    intro e he
    rw [he]
    exact ⟨rfl, s, h, fun k hk => .inl hk, Frm.refl _ _⟩
  unfold F21
  refine ⟨false, some23 b, IfB.f rfl ⟨fun c w' => w' = w ∧ c = decide (no < 0 ∨ x.size = 0), ?_, ?_⟩⟩
  · refine IfB.intro (fun h0 => ?_) (fun h0 => ?_)
    · have h0 := of_decide_eq_true h0
      exact ⟨rfl, (decide_eq_true (.inl h0)).symm⟩
    · have h0 := of_decide_eq_false h0
      refine ⟨rfl, ?_⟩
      rw [size0]
      simp [h0]
  rintro u c w1 ⟨rfl, rfl⟩
  refine IfB.dec (fun h0 => same (by unfold addA; rw [if_pos h0])) (fun h0 => ?_)
  refine IfB.dec (fun h1 => same (by unfold addA; rw [if_neg h0, if_pos (by omega)])) (fun h1 => ?_)
  have hK := h.blk
  have hR := h.row
  refine ⟨_, rfl, s, hK.ld rfl, ?_⟩
  have tail : ¬ no < (ps.length : Int) → IfB (decide (no ≥ (64 : Int)))
      (Value.tuple #[.bool false, .int .i64 3] = .tuple #[.bool (addA ps no x).1, .int .i64 (addA ps no x).2.1] ∧ ∃ s', LgS w1 b s' (addA ps no x).2.2 ∧ NearG w1 s s' ∧ Frm (fun k => k = b ∨ s.blk = some k) w1 w1)
      (∃ p55, (some (⟨b, 0, none⟩ : Addr)) = some p55 ∧ ∃ t57 : Sl, Ld w1 (p55.add 0) (.slice t57.a t57.l t57.c) ∧ IfB (decide (no > ((t57.l : Nat) : Int)))
        (Value.tuple #[.bool false, .int .i64 50] = .tuple #[.bool (addA ps no x).1, .int .i64 (addA ps no x).2.1] ∧ ∃ s', LgS w1 b s' (addA ps no x).2.2 ∧ NearG w1 s s' ∧ Frm (fun k => k = b ∨ s.blk = some k) w1 w1)
        (Calls prog 40 #[.pointer (some ⟨b, 0, none⟩), .string x] w1 fun en w1_1 => en = .returned (.tuple #[]) ∧ (Value.tuple #[.bool true, .int .i64 0] = .tuple #[.bool (addA ps no x).1, .int .i64 (addA ps no x).2.1] ∧ ∃ s', LgS w1_1 b s' (addA ps no x).2.2 ∧ NearG w1 s s' ∧ Frm (fun k => k = b ∨ s.blk = some k) w1 w1_1))) := by
    intro h2
    refine IfB.dec (fun h3 => same (by unfold addA; rw [if_neg h0, if_neg (by omega), if_neg h2, if_pos (by omega)])) (fun h3 => ?_)
    refine ⟨_, rfl, s, hK.ld rfl, ?_⟩
    refine IfB.dec (fun h4 => same (by unfold addA; rw [if_neg h0, if_neg (by omega), if_neg h2, if_neg (by omega), if_pos (by omega)])) (fun h4 => ?_)
    have he : addA ps no x = (true, 0, ps ++ [x]) := by unfold addA; rw [if_neg h0, if_neg (by omega), if_neg h2, if_neg (by omega), if_neg (by omega)]
    rw [he]
    refine (keep_S w1 b s ps x h (by omega) (by omega) (by omega)).mono ?_
    rintro _ w2 ⟨rfl, h5⟩
    exact ⟨rfl, rfl, h5⟩
  refine IfB.dec (fun h2 => ?_) (fun h2 => ⟨_, rfl, s, hK.ld rfl, IfB.df (by omega) (tail (by omega))⟩)
  obtain ⟨i, rfl⟩ := Int.eq_ofNat_of_zero_le (show 0 ≤ no by omega)
  obtain ⟨q, p, hq, hp, hld⟩ := sv_at hR.has (i := i) (by omega)
  refine ⟨_, rfl, s, hK.ld rfl, q, hq, by omega, by omega, p, hld, ?_⟩
  by_cases hpx : p = x
  · subst hpx
    refine IfB.f (by rw [(str_eqIff _ _).2 rfl]; rfl) ⟨_, rfl, s, hK.ld rfl, IfB.dt (by omega) (same ?_)⟩
    unfold addA
    rw [if_neg h0, if_neg (by omega), if_pos (by omega), Int.toNat_natCast, if_pos hp]
  · refine IfB.t (by rw [str_neq hpx]; rfl) (same ?_)
    unfold addA
    rw [if_neg h0, if_neg (by omega), if_pos (by omega), Int.toNat_natCast, if_neg]
    rw [hp]
    intro e
    exact hpx (by cases e; rfl)
theorem add_nil (w : World) (no : Int) (x : ByteArray) : Calls prog 21 #[.pointer none, .int .i64 no, .string x] w fun e w' => e = .returned (.tuple #[.bool false, .int .i64 2]) ∧ w' = w := by
  refine calls_ret (W21 (x0 := none) (x1 := no) (x2 := x) (Q := fun v w' => v = .tuple #[.bool false, .int .i64 2] ∧ w' = w) ?_) (fun v w' ⟨h, h'⟩ => ⟨by rw [h], h'⟩)
  unfold F21
  exact ⟨true, none23, IfB.t rfl ⟨rfl, rfl⟩⟩
theorem len_calls (w : World) (x : Option Addr) (s : Sl) (ps : List ByteArray) (h : LpS w x s ps) : Calls prog 27 #[.pointer x] w fun e w' => e = .returned (.int .i64 (ps.length : Int)) ∧ w' = w := by
  refine calls_ret (W27 (x0 := x) (Q := fun v w' => v = .int .i64 (ps.length : Int) ∧ w' = w) ?_) (fun v w' ⟨h, h'⟩ => ⟨by rw [h], h'⟩)
  unfold F27
  rcases h with ⟨rfl, rfl⟩ | ⟨b, rfl, hK, hR⟩
  · exact ⟨true, none23, IfB.t rfl ⟨rfl, rfl⟩⟩
  · refine ⟨false, some23 b, IfB.f rfl ⟨_, rfl, s, hK.ld rfl, ?_, rfl⟩⟩
    rw [has_sv hR.has]
theorem piece_calls (w : World) (b : Nat) (s : Sl) (ps : List ByteArray) (h : LgS w b s ps) (i : Int) : Calls prog 30 #[.pointer (some ⟨b, 0, none⟩), .int .i64 i] w fun e w' => ((∃ p, 0 ≤ i ∧ ps[i.toNat]? = some p ∧ e = .returned (.tuple #[.string p, .int .i64 0])) ∨ ((i < 0 ∨ (ps.length : Int) ≤ i) ∧ e = .returned (.tuple #[.string (⟨#[]⟩ : ByteArray), .int .i64 1]))) ∧ w' = w := by
  refine calls_ret (W30 (x0 := some ⟨b, 0, none⟩) (x1 := i) (Q := fun v w' => ((∃ p, 0 ≤ i ∧ ps[i.toNat]? = some p ∧ v = .tuple #[.string p, .int .i64 0]) ∨ ((i < 0 ∨ (ps.length : Int) ≤ i) ∧ v = .tuple #[.string (⟨#[]⟩ : ByteArray), .int .i64 1])) ∧ w' = w) ?_) (fun v w' ⟨h, h'⟩ => ⟨by
    rcases h with ⟨p, h1, h2, rfl⟩ | ⟨h1, rfl⟩
    · exact .inl ⟨p, h1, h2, rfl⟩
    · exact .inr ⟨h1, rfl⟩, h'⟩)
  have hl := h.len
  unfold F30
  refine ⟨false, some23 b, IfB.f rfl (IfB.dec (fun h0 => ⟨.inr ⟨.inl h0, rfl⟩, rfl⟩) (fun h0 => ⟨_, rfl, s, h.blk.ld rfl, IfB.dec (fun h1 => ⟨.inr ⟨.inr (by omega), rfl⟩, rfl⟩) (fun h1 => ?_)⟩))⟩
  obtain ⟨j, rfl⟩ := Int.eq_ofNat_of_zero_le (show 0 ≤ i by omega)
  obtain ⟨q, p, hq, hp, hld⟩ := sv_at h.row.has (i := j) (by omega)
  exact ⟨_, rfl, s, h.blk.ld rfl, q, hq, by omega, by omega, p, hld, .inl ⟨p, by omega, by rw [Int.toNat_natCast]; exact hp, rfl⟩, rfl⟩
theorem piece_nil (w : World) (i : Int) : Calls prog 30 #[.pointer none, .int .i64 i] w fun e w' => e = .returned (.tuple #[.string (⟨#[]⟩ : ByteArray), .int .i64 2]) ∧ w' = w := by
  refine calls_ret (W30 (x0 := none) (x1 := i) (Q := fun v w' => v = .tuple #[.string (⟨#[]⟩ : ByteArray), .int .i64 2] ∧ w' = w) ?_) (fun v w' ⟨h, h'⟩ => ⟨by rw [h], h'⟩)
  unfold F30
  exact ⟨true, none23, IfB.t rfl ⟨rfl, rfl⟩⟩
theorem b63C (s : Sl) (n : Int) : BuildIs prog 63 #[(0, .slice s.a s.l s.c), (1, .int .i64 n)] #[.slice s.a s.l s.c, .int .i64 n] := fun w => by kernel_rfl
theorem copy_calls (w : World) (b : Nat) (s : Sl) (ps : List ByteArray) (h : LgS w b s ps) (hn : ps.length ≤ 100000) : Calls prog 28 #[.pointer (some ⟨b, 0, none⟩)] w fun e w' => ∃ b' s', e = .returned (.pointer (some ⟨b', 0, none⟩)) ∧ w.heap.size ≤ b' ∧ New w s' ∧ LgS w' b' s' ps ∧ Frm none_ w w' := by
  refine calls_ret (W28 (x0 := some ⟨b, 0, none⟩) (Q := fun v w' => ∃ b' s', v = .pointer (some ⟨b', 0, none⟩) ∧ w.heap.size ≤ b' ∧ New w s' ∧ LgS w' b' s' ps ∧ Frm none_ w w') ?_) (fun v w' ⟨b', s', h, h'⟩ => ⟨b', s', by rw [h], h'⟩)
  unfold F28
  refine ⟨false, some23 b, IfB.f rfl ⟨fun w' => Frm none_ w w', frm_drew w, _, rfl, s, fun w' hf => (h.blk.mod hf (fun h => h)).ld rfl, _, rfl, _, fun w' hf => (h.blk.mod hf (fun h => h)).ld rfl, (cloneT_calls w.drew s ps h.row.drew.has hn).mono ?_⟩⟩
  rintro _ w1 ⟨r, rfl, hr, hn1, f1⟩
  have f1 := f1.ofDrew
  refine ⟨r, rfl, f1, _, b63C r _, ?_⟩
  intro b' w2 hN
  exact ⟨b', r, rfl, by have := hN.2; have := f1.size; omega, hn1, ⟨hN.blk, hr.mod (hN.mod none_) (fun _ _ h => h)⟩, f1.n (hN.mod none_)⟩
theorem copy_nil (w : World) : Calls prog 28 #[.pointer none] w fun e w' => e = .returned (.pointer none) ∧ w' = w := by
  refine calls_ret (W28 (x0 := none) (Q := fun v w' => v = .pointer none ∧ w' = w) ?_) (fun v w' ⟨h, h'⟩ => ⟨by rw [h], h'⟩)
  unfold F28
  exact ⟨true, none23, IfB.t rfl ⟨rfl, rfl⟩⟩
/-! ### Tail -/
def tailL (t : List UInt8) (n : Int) : List UInt8 := t.drop (t.length - n.toNat)
theorem inter_nil : ∀ l : List (List UInt8), List.intercalate [] l = l.flatten
  | [] => rfl
  | [a] => by simp [List.intercalate, List.intersperse]
  | a :: b :: r => by
    have := inter_nil (b :: r)
    simp only [List.intercalate, List.intersperse, List.flatten_cons, List.nil_append] at this ⊢
    rw [this]
theorem join_flat (l : List ByteArray) : Lib.join (l.map (·.data.toList)) [] = txt l := by
  unfold Lib.join
  rw [inter_nil, txt, List.flatMap_def]
theorem join_calls (w : World) (r : Sl) (l : List ByteArray) (hr : Has w r 1 (sv l)) (hlc : r.l ≤ r.c) (hn : l.length ≤ 1000000) (hz : szs l ≤ 1000000000000) (hb : ∀ k, r.blk = some k → k < w.heap.size) (hsp : ∀ a, r.a = some a → a.spot = none) :
    Calls prog 48 #[.slice r.a r.l r.c, .string (⟨#[]⟩ : ByteArray)] w fun e w' => e = .returned (.string (str (txt l))) ∧ Frm none_ w w' := by
  have hl := has_sv hr
  obtain ⟨a, n, c⟩ := r
  simp only at hl hlc
  subst hl
  cases l with
  | nil =>
    refine (Try.strings_Join_none a c _ w).mono ?_
    rintro _ w' ⟨rfl, rfl⟩
    exact ⟨rfl, Frm.refl _ _⟩
  | cons y r =>
    obtain ⟨p, hp, _⟩ := hr.ex (j := 0) (by simp [sv])
    simp only at hp
    subst hp
    obtain ⟨bk, o, sp⟩ := p
    have hsp : sp = none := hsp _ rfl
    subst hsp
    have hlen : (Lib.join ((y :: r).map (·.data.toList)) (⟨#[]⟩ : ByteArray).data.toList).length ≤ 140737488355328 := by
      have : (⟨#[]⟩ : ByteArray).data.toList = [] := rfl
      rw [this, join_flat, txt_len]; omega
    refine (Try.strings_Join bk o c (y :: r) ⟨#[]⟩ w (fun j x hx => ?_) (hb bk rfl) (by omega) hlc hlen).mono ?_
    · obtain ⟨a', ha', hc⟩ := hr.get j (.string x) (by simp only [sv, List.getElem?_map, hx]; rfl)
      cases ha'
      rw [addr_add] at hc
      exact hc
    · rintro _ w' ⟨rfl, hbel⟩
      refine ⟨?_, Frm.of_below hbel⟩
      have : (⟨#[]⟩ : ByteArray).data.toList = [] := rfl
      rw [this, join_flat]
      rfl
end Go.Proofs.Ytmcdeldjgfapbaa
