/- What the calls of projects do: New, Had, Charge, Set, Drop, Names, Save. -/
import Derived.Test.YthgeacnemojjgaaSh
import Derived.Test.YthgeacnemojjgaaS
set_option linter.unusedVariables false
set_option linter.unusedSimpArgs false
set_option maxRecDepth 20000
namespace Go.Proofs.Ythgeacnemojjgaa
open Go Go.Proofs.YthgeacnemojjgaaV
def sv (l : List ByteArray) : List Value := l.map Value.string
theorem sv_len (l : List ByteArray) : (sv l).length = l.length := by simp [sv]
theorem has_sv {w : World} {s : Sl} {l : List ByteArray} (h : Has w s 1 (sv l)) : s.l = l.length := by have := h.len; rw [sv_len] at this; omega
theorem sv_at {w : World} {s : Sl} {l : List ByteArray} (h : Has w s 1 (sv l)) {i : Nat} (hi : i < s.l) : ∃ q x, s.a = some q ∧ l[i]? = some x ∧ Ld w (q.add ((i : Int).toNat * 1)) (.string x) := by
  obtain ⟨q, v, hq, hv, hl⟩ := h.at1 (i := (i : Int)) (by omega) (by omega)
  rw [Int.toNat_natCast] at hv
  simp only [sv, List.getElem?_map, Option.map_eq_some_iff] at hv
  obtain ⟨x, hx, rfl⟩ := hv
  exact ⟨q, x, hq, hx, hl⟩
theorem sv_one (l : List ByteArray) : ∀ u ∈ sv l, u.oneCell' = true := by
  intro u hu
  obtain ⟨b, _, rfl⟩ := List.mem_map.1 hu
  rfl
theorem sv_snoc (l : List ByteArray) (x : ByteArray) : sv l ++ (Value.string x).cells.toList = sv (l ++ [x]) := by simp [sv, Value.cells]
theorem st28 : SlT prog 28 9 1 16 (.string (⟨#[]⟩ : ByteArray)) := ⟨by kernel_rfl, by kernel_rfl, rfl, by decide⟩
abbrev MadeT (w : World) (l : List ByteArray) : Ending → World → Prop := fun e w' => ∃ r : Sl, e = .returned (.slice r.a r.l r.c) ∧ Row w' r 9 1 (sv l) ∧ New w r ∧ Frm none_ w w'
theorem some23 {t : Nat} (b : Nat) : BinIs prog .eql 23 (.tmp t) (.const (.pointer none)) (.pointer (some ⟨b, 0, none⟩)) (.pointer none) false := fun w => by kernel_rfl
theorem none23 {t : Nat} : BinIs prog .eql 23 (.tmp t) (.const (.pointer none)) (.pointer none) (.pointer none) true := fun w => by kernel_rfl
theorem b73 : BuildIs prog 73 #[] #[.slice none 0 0] := fun w => by kernel_rfl
theorem ft_new {b : Nat} {k : Nat} (h : ft b ⟨none, 0, 0⟩ [] k) : k = b := by
  rcases h with h | h | h
  · exact h
  · simp [Sl.blk] at h
  · cases h
theorem shr_new {w w' : World} {b : Nat} (hN : NewB w (.cells #[.slice none 0 0] 73) b w') (nw : Nat → Bool) : Shr w' b ⟨none, 0, 0⟩ [] nw [] :=
  ⟨hN.blk, Row.nil _ _ _, rfl, List.nodup_nil, fun i k p hk => by cases hk⟩
theorem new_calls (w : World) : Calls prog 12 #[] w fun e w' => ∃ b, e = .returned (.pointer (some ⟨b, 0, none⟩)) ∧ Frm none_ w w' ∧ ∃ D, Shw w' D b [] ∧ ∀ k, D k → w.heap.size ≤ k := by
  refine calls_ret (W12 (Q := fun v w' => ∃ b, v = .pointer (some ⟨b, 0, none⟩) ∧ Frm none_ w w' ∧ ∃ D, Shw w' D b [] ∧ ∀ k, D k → w.heap.size ≤ k) ?_) (fun v w' ⟨r, h, h'⟩ => ⟨r, by rw [h], h'⟩)
  unfold F12
  refine ⟨_, b73, ?_⟩
  intro b w1 hN
  refine ⟨b, rfl, hN.mod _, ft b ⟨none, 0, 0⟩ [], ⟨_, _, fun _ => false, shr_new hN _, fun _ h => h, (shr_new hN (fun _ => false)).lt⟩, fun k hk => ?_⟩
  have := ft_new hk
  have := hN.2
  omega
theorem had_calls (w : World) (D : Nat → Prop) (b : Nat) (M : List Pj) (h : Shw w D b M) (ok : OkM M) (nm : ByteArray) : Calls prog 19 #[.pointer (some ⟨b, 0, none⟩), .string nm] w fun e w' => e = .returned (.tuple #[.int .i64 (hadP nm M).1, .int .i64 (hadP nm M).2.1, .bool (hadP nm M).2.2]) ∧ Frm none_ w w' := by
  refine calls_ret (W19 (x0 := some ⟨b, 0, none⟩) (x1 := nm) (Q := fun v w' => v = .tuple #[.int .i64 (hadP nm M).1, .int .i64 (hadP nm M).2.1, .bool (hadP nm M).2.2] ∧ Frm none_ w w') ?_) (fun v w' ⟨h, h'⟩ => ⟨by rw [h], h'⟩)
  obtain ⟨s, ps, nw, hS, hD, _⟩ := h
  have hn := ok.n
  unfold F19
  refine ⟨false, some23 b, IfB.f rfl ((find_calls w b s ps nw M hS ok.srt (by omega) nm).mono ?_)⟩
  rintro _ w' ⟨rfl, e⟩
  subst e
  refine ⟨_, _, rfl, ?_⟩
  unfold hadP
  cases hi : ix nm M with
  | none => exact IfB.t rfl ⟨rfl, Frm.refl _ _⟩
  | some i =>
    obtain ⟨rfl, p, hp, rfl⟩ := ix_some hi
    obtain ⟨q, k, hq, hil, hk, hkm, hld, hB⟩ := hS.at hp
    have hb : Ld w'.drew ((⟨b, 0, none⟩ : Addr).add 0) (.slice s.a s.l s.c) := by rw [addr_add]; exact hS.blk.drew.ld rfl
    simp only [hp]
    exact IfB.f rfl ⟨_, rfl, s, hb, q, hq, by omega, by omega, _, hld, _, rfl, _, by rw [addr_add]; exact hB.drew.ld rfl, _, rfl, s, hb, q, hq, by omega, by omega, _, hld, _, rfl, _, by rw [addr_add]; exact hB.drew.ld rfl, rfl, frm_drew _⟩
theorem chg_calls (w : World) (D : Nat → Prop) (b : Nat) (M : List Pj) (h : Shw w D b M) (ok : OkM M) (nm : ByteArray) (a : Int) : Calls prog 18 #[.pointer (some ⟨b, 0, none⟩), .string nm, .int .i64 a] w fun e w' => e = .returned (.int .i64 (chgP nm a M).1) ∧ Went w D b (chgP nm a M).2 w' := by
  refine calls_ret (W18 (x0 := some ⟨b, 0, none⟩) (x1 := nm) (x2 := a) (Q := fun v w' => v = .int .i64 (chgP nm a M).1 ∧ Went w D b (chgP nm a M).2 w') ?_) (fun v w' ⟨h, h'⟩ => ⟨by rw [h], h'⟩)
  have h0 := h
  obtain ⟨s, ps, nw, hS, hD, _⟩ := h
  have hn := ok.n
  unfold F18
  refine ⟨false, some23 b, IfB.f rfl ((find_calls w b s ps nw M hS ok.srt (by omega) nm).mono ?_)⟩
  rintro _ w' ⟨rfl, e⟩
  subst e
  refine ⟨_, _, rfl, ?_⟩
  unfold chgP
  cases hi : ix nm M with
  | none => exact IfB.t rfl ⟨rfl, Went.same h0 (Frm.refl _ _)⟩
  | some i =>
    obtain ⟨rfl, p, hp, rfl⟩ := ix_some hi
    obtain ⟨q, k, hq, hil, hk, hkm, hld, hB⟩ := hS.at hp
    have okp := ok.at hp
    have o1 := okp.h1
    have o2 := okp.h2
    have hb : Ld w' ((⟨b, 0, none⟩ : Addr).add 0) (.slice s.a s.l s.c) := by rw [addr_add]; exact hS.blk.ld rfl
    refine IfB.f rfl (IfB.dec (fun hneg => ?_) (fun hpos => ?_))
    · simp only [if_pos hneg]
      exact ⟨trivial, Went.same h0 (Frm.refl _ _)⟩
    · simp only [if_neg hpos, hp]
      refine ⟨_, rfl, s, hb, q, hq, by omega, by omega, _, hld, _, rfl, p.had, by rw [addr_add]; exact hB.ld rfl, ?_⟩
      rw [wi _ (by omega)]
      refine IfB.dec (fun hgt => ?_) (fun hle => ?_)
      · rw [if_pos hgt]
        exact ⟨rfl, Went.same h0 (Frm.refl _ _)⟩
      · rw [if_neg hle]
        refine ⟨_, rfl, s, hb, q, hq, by omega, by omega, _, hld, _, rfl, p.had, by rw [addr_add]; exact hB.ld rfl, _, rfl, by rw [addr_add]; exact hB.wr (by show 2 < 5; omega), ?_⟩
        rintro w1 rfl
        rw [addr_add, wi _ (by omega)]
        refine ⟨rfl, ?_⟩
        have hm : Frm (fun g => g = k) w' (w'.setCell ⟨k, 0 + 2, none⟩ (.int .i64 (p.had + a))) := mod_setCell (a := ⟨k, 0 + 2, none⟩)
        have hk2 : Blk (w'.setCell ⟨k, 0 + 2, none⟩ (.int .i64 (p.had + a))) k (pc { p with had := p.had + a } (nw (lo p.n M))) 77 := hB.set (0 + 2) (.int .i64 (p.had + a))
        exact went (hm.mono fun g _ hg => hD g (by rw [show g = k from hg]; exact .inr (.inr hkm))) (hS.upd hk hp hm hk2) (fun g hg => .inl (hD g hg))
theorem frm_below {w w' : World} (h : RowKit.Below w.heap.size w w') : Frm none_ w w' := ⟨h.os, h.tape, h.output, h.size, fun b hb _ => h.block b hb⟩
theorem clone_calls (w : World) (s : ByteArray) (hs : s.size ≤ 281474976710656) : Calls prog 47 #[.string s] w fun e w' => e = .returned (.string s) ∧ Frm none_ w w' := by
  refine calls_ret (W47 (Q := fun v w' => v = .string s ∧ Frm none_ w w') ?_) (fun v w' ⟨h, h'⟩ => ⟨by rw [h], h'⟩)
  unfold F47
  refine (Try.stringslite_Clone s w hs).mono ?_
  rintro _ w1 ⟨rfl, hb⟩
  exact ⟨_, rfl, rfl, frm_below hb⟩
theorem ins_get {α : Type} {l : List α} {k : Nat} (hk : k ≤ l.length) (x : α) (i : Nat) : (l.take k ++ x :: l.drop k)[i]? = if i < k then l[i]? else if i = k then some x else l[i - 1]? := by
  have hl : (l.take k).length = k := by rw [List.length_take]; omega
  by_cases h1 : i < k
  · rw [if_pos h1, List.getElem?_append_left (by omega), List.getElem?_take, if_pos h1]
  · rw [if_neg h1, List.getElem?_append_right (by omega), hl]
    by_cases h2 : i = k
    · subst h2; rw [if_pos rfl, Nat.sub_self]; rfl
    · rw [if_neg h2, show i - k = (i - k - 1) + 1 by omega, List.getElem?_cons_succ, List.getElem?_drop]
      congr 1; omega
theorem b77 (nm : ByteArray) (k : Int) : BuildIs prog 77 #[(0, .string nm), (1, .int .i64 k)] (pc ⟨nm, k, 0, false⟩ false) := fun w => by kernel_rfl
theorem set_calls (w : World) (D : Nat → Prop) (b : Nat) (M : List Pj) (h : Shw w D b M) (ok : OkM M) (nm : ByteArray) (a : Int) : Calls prog 15 #[.pointer (some ⟨b, 0, none⟩), .string nm, .int .i64 a] w fun e w' => e = .returned (.int .i64 (setP nm a M).1) ∧ Went w D b (setP nm a M).2 w' := by
  refine calls_ret (W15 (x0 := some ⟨b, 0, none⟩) (x1 := nm) (x2 := a) (Q := fun v w' => v = .int .i64 (setP nm a M).1 ∧ Went w D b (setP nm a M).2 w') ?_) (fun v w' ⟨h, h'⟩ => ⟨by rw [h], h'⟩)
  have h0 := h
  obtain ⟨s, ps, nw, hS, hD, hDl⟩ := h
  have hn := ok.n
  have hsl := hS.sl
  unfold F15
  refine ⟨false, some23 b, IfB.f rfl ((good_calls w nm).mono ?_)⟩
  rintro _ w' ⟨rfl, e⟩
  subst e
  refine ⟨_, rfl, ?_⟩
  unfold setP
  by_cases hg : goodP nm
  rotate_left 1
  · rw [if_pos hg]
    exact IfB.t (by rw [decide_eq_false hg]; rfl) ⟨rfl, Went.same h0 (Frm.refl _ _)⟩
  rw [if_neg (by simpa using hg)]
  refine IfB.f (by rw [decide_eq_true hg]; rfl) ⟨fun c u => c = decide (a < 1 ∨ 1000 < a) ∧ u = w', ?_, ?_⟩
  · refine IfB.dec (fun h => ⟨(decide_eq_true (.inl h)).symm, rfl⟩) (fun h => ⟨?_, rfl⟩)
    by_cases h2 : a > 1000
    · rw [decide_eq_true h2, decide_eq_true (.inr h2)]
    · rw [decide_eq_false h2, decide_eq_false (by omega)]
  rintro u c w1 ⟨rfl, rfl⟩
  refine IfB.dec (fun hbad => ?_) (fun hok => ?_)
  · rw [if_pos hbad]
    exact ⟨rfl, Went.same h0 (Frm.refl _ _)⟩
  rw [if_neg hok]
  refine (find_calls w1 b s ps nw M hS ok.srt (by omega) nm).mono ?_
  rintro _ w2 ⟨rfl, e⟩
  subst e
  refine ⟨_, _, rfl, ?_⟩
  cases hi : ix nm M with
  | none =>
    refine IfB.t rfl ⟨_, rfl, s, by rw [addr_add]; exact hS.blk.ld rfl, IfB.dec (fun h4 => ?_) (fun h4 => ?_)⟩
    · simp only
      rw [if_pos (by omega)]
      exact ⟨rfl, Went.same h0 (Frm.refl _ _)⟩
    · simp only
      rw [if_neg (by omega)]
      have hlo := lo_le nm M
      have hsz : nm.size ≤ 24 := hg.2.1
      refine ⟨fun w' => Frm none_ w2 w', frm_drew _, _, rfl, s, fun w' hf => by rw [addr_add]; exact (hS.blk.mod hf (fun h => h)).ld rfl, (clone_calls w2.drew nm (by omega)).mono ?_⟩
      rintro _ w3 ⟨rfl, f3'⟩
      have f3 : Frm none_ w2 w3 := f3'.ofDrew
      refine ⟨nm, rfl, f3, _, b77 nm a, ?_⟩
      intro p w4 hN
      have f4 : Frm none_ w2 w4 := f3.n (hN.mod none_)
      have hp : p = w3.heap.size := hN.2
      have z3 := f3.size
      refine ⟨f4, runT_lit1 st71 (by decide) rfl ?_⟩
      intro w5 hr5 f5' z5
      have f5 : Frm none_ w2 w5 := f4.n f5'
      refine ⟨f5, ?_⟩
      have hS5 := hS.n f5
      have hsb : ∀ g, s.blk = some g → g < w2.heap.size := hS.row.lt
      have z4 := f4.size
      refine (insert_calls w5 s _ (pv ps) (.pointer (some ⟨p, 0, none⟩)) (lo nm M) hS5.row (by rw [pv_len, hS.len]; exact hlo) (by simpa [Value.cells] using hr5) (pv_one _) rfl (fun g hg e => by have := hsb g e; simp [Sl.blk] at hg; omega) (by rw [pv_len, hS.len]; omega)).mono ?_
      rintro _ w6 ⟨r, rfl, hr6, hnear, f6⟩
      have hb6 : Blk w6 b #[.slice s.a s.l s.c] 73 := hS5.blk.mod f6 (fun e => hS5.row.g.blkNeB hS5.blk.g (by decide) e)
      refine ⟨r, rfl, _, rfl, by rw [addr_add]; exact hb6.wr (by show 0 < 1; omega), ?_⟩
      rintro w7 rfl
      rw [addr_add]
      refine ⟨rfl, ?_⟩
      have f7 : Frm (fun g => g = b) w6 (w6.setCell ⟨b, 0 + 0, none⟩ (.slice r.a r.l r.c)) := mod_setCell (a := ⟨b, 0 + 0, none⟩)
      have hb7 : Blk (w6.setCell ⟨b, 0 + 0, none⟩ (.slice r.a r.l r.c)) b #[.slice r.a r.l r.c] 73 := hb6.set (0 + 0) (.slice r.a r.l r.c)
      have hp4 : Blk w4 p (pc ⟨nm, a, 0, false⟩ false) 77 := hN.blk
      have hp5 : Blk w5 p (pc ⟨nm, a, 0, false⟩ false) 77 := hp4.mod f5' (fun h => h)
      have hbl := hS.blk.lt
      have hp7 : Blk (w6.setCell ⟨b, 0 + 0, none⟩ (.slice r.a r.l r.c)) p (pc ⟨nm, a, 0, false⟩ false) 77 := (hp5.mod f6 (fun e => by have := hsb p e; omega)).mod f7 (by omega)
      have hrb : r.blk ≠ some b := by
        intro e
        rcases hnear.cases e with h | h
        · exact hS5.row.g.blkNeB hS5.blk.g (by decide) h
        · have := f5.size; omega
      refine went (f5.trans (f6.trans f7 (H := fun g => s.blk = some g ∨ g = b) (fun _ _ h => .inl h) (fun _ _ h => .inr h)) (H := D) (fun _ _ h => h.elim) (fun g hg hh => hh.elim (fun h => hD g (.inr (.inl h))) (fun h => hD g (.inl h)))) (s := r) (ps := ps.take (lo nm M) ++ p :: ps.drop (lo nm M)) (nw := fun j => if j < lo nm M then nw j else if j = lo nm M then false else nw (j - 1)) ⟨hb7, ?_, ?_, ?_, ?_⟩ ?_
      · have e : pv (ps.take (lo nm M) ++ p :: ps.drop (lo nm M)) = (pv ps).take (lo nm M) ++ Value.pointer (some ⟨p, 0, none⟩) :: (pv ps).drop (lo nm M) := by
          simp [pv, List.map_take, List.map_drop]
        rw [e]
        exact hr6.mod f7 (fun g hg e => hrb (by rw [← show g = b from e]; exact hg))
      · simp only [List.length_append, List.length_cons, List.length_take, List.length_drop, hS.len]
      · have hpn : p ∉ ps := fun hpm => by
          have := hS.lt p (.inr (.inr hpm))
          omega
        have hnd := hS.nd
        rw [← List.take_append_drop (lo nm M) ps] at hnd hpn
        rw [List.nodup_append] at hnd ⊢
        refine ⟨hnd.1, List.nodup_cons.2 ⟨fun h => hpn (List.mem_append.2 (.inr h)), hnd.2.1⟩, fun x hx y hy => ?_⟩
        rcases List.mem_cons.1 hy with rfl | hy
        · rintro rfl; exact hpn (List.mem_append.2 (.inl hx))
        · exact hnd.2.2 x hx y hy
      · intro i g q hgi hqi
        rw [ins_get (by rw [hS.len]; exact hlo)] at hgi
        rw [ins_get hlo] at hqi
        have old : ∀ j, ps[j]? = some g → M[j]? = some q → Blk (w6.setCell ⟨b, 0 + 0, none⟩ (.slice r.a r.l r.c)) g (pc q (nw j)) 77 := by
          intro j hj hq
          have hB := hS5.each j g q hj hq
          exact (hB.mod f6 (fun e => hS5.row.g.blkNeB hB.g (by decide) e)).mod f7 (fun e => blk_ne hS5.blk hB (by decide) (show g = b from e).symm)
        by_cases h1 : i < lo nm M
        · rw [if_pos h1] at hgi hqi
          simp only [if_pos h1]
          exact old i hgi hqi
        · rw [if_neg h1] at hgi hqi
          simp only [if_neg h1]
          by_cases h2 : i = lo nm M
          · rw [if_pos h2] at hgi hqi
            simp only [if_pos h2]
            cases hgi; cases hqi
            exact hp7
          · rw [if_neg h2] at hgi hqi
            simp only [if_neg h2]
            exact old _ hgi hqi
      · rintro g (rfl | hg | hg)
        · exact .inl (hD _ (.inl rfl))
        · rcases hnear.cases hg with h | h
          · exact .inl (hD _ (.inr (.inl h)))
          · right; have := f5.size; omega
        · rcases List.mem_append.1 hg with hg | hg
          · exact .inl (hD _ (.inr (.inr (List.mem_of_mem_take hg))))
          · rcases List.mem_cons.1 hg with rfl | hg
            · right; omega
            · exact .inl (hD _ (.inr (.inr (List.mem_of_mem_drop hg))))
  | some i =>
    obtain ⟨rfl, p, hp, rfl⟩ := ix_some hi
    obtain ⟨q, k, hq, hil, hk, hkm, hld, hB⟩ := hS.at hp
    have okp := ok.at hp
    have o1 := okp.h1
    have o2 := okp.h2
    simp only [hp]
    refine IfB.f rfl ⟨_, rfl, s, by rw [addr_add]; exact hS.blk.ld rfl, q, hq, by omega, by omega, _, hld, fun w' => w' = w2.drew, rfl, _, rfl, p.had, fun w' e => by subst e; rw [addr_add]; exact hB.drew.ld rfl, _, rfl, p.sh, fun w' e => by subst e; rw [addr_add]; exact hB.drew.ld rfl, (scaled_calls w2.drew p.had p.sh a ⟨o1, o2⟩ ⟨okp.s1, okp.s2⟩ (by omega)).mono ?_⟩
    rintro _ w3 ⟨rfl, e⟩
    subst e
    refine ⟨_, rfl, IfB.dec (fun hgt => ?_) (fun hle => ?_)⟩
    · rw [if_pos hgt]
      exact ⟨rfl, Went.same h0 (frm_drew _)⟩
    · rw [if_neg hle]
      have hBd : Blk w2.drew k (pc p (nw (lo p.n M))) 77 := hB
      refine ⟨_, rfl, by rw [addr_add]; exact hBd.wr (by show 1 < 5; omega), ?_⟩
      rintro w3 rfl
      rw [addr_add]
      have hB3 : Blk (w2.drew.setCell ⟨k, 0 + 1, none⟩ (.int .i64 a)) k (pc { p with sh := a } (nw (lo p.n M))) 77 := hBd.set (0 + 1) (.int .i64 a)
      refine ⟨_, rfl, by rw [addr_add]; exact hB3.wr (by show 2 < 5; omega), ?_⟩
      rintro w4 rfl
      rw [addr_add]
      have hB4 : Blk ((w2.drew.setCell ⟨k, 0 + 1, none⟩ (.int .i64 a)).setCell ⟨k, 0 + 2, none⟩ (.int .i64 (scl p.had p.sh a))) k (pc { p with sh := a, had := scl p.had p.sh a } (nw (lo p.n M))) 77 := hB3.set (0 + 2) (.int .i64 (scl p.had p.sh a))
      have hm : Frm (fun g => g = k) w2 ((w2.drew.setCell ⟨k, 0 + 1, none⟩ (.int .i64 a)).setCell ⟨k, 0 + 2, none⟩ (.int .i64 (scl p.had p.sh a))) :=
        ((mod_setCell (w := w2.drew) (a := ⟨k, 0 + 1, none⟩)).trans mod_setCell (fun _ _ h => h) (fun _ _ h => h) : Frm (fun g => g = k) w2.drew _).ofDrew
      exact ⟨rfl, went (hm.mono fun g _ hg => hD g (by rw [show g = k from hg]; exact .inr (.inr hkm))) (hS.upd hk hp hm hB4) (fun g hg => .inl (hD g hg))⟩
theorem drop_calls (w : World) (D : Nat → Prop) (b : Nat) (M : List Pj) (h : Shw w D b M) (ok : OkM M) (nm : ByteArray) : Calls prog 17 #[.pointer (some ⟨b, 0, none⟩), .string nm] w fun e w' => e = .returned (.int .i64 (dropP nm M).1) ∧ Went w D b (dropP nm M).2 w' := by
  refine calls_ret (W17 (x0 := some ⟨b, 0, none⟩) (x1 := nm) (Q := fun v w' => v = .int .i64 (dropP nm M).1 ∧ Went w D b (dropP nm M).2 w') ?_) (fun v w' ⟨h, h'⟩ => ⟨by rw [h], h'⟩)
  have h0 := h
  obtain ⟨s, ps, nw, hS, hD, hDl⟩ := h
  have hn := ok.n
  have hsl := hS.sl
  unfold F17
  refine ⟨false, some23 b, IfB.f rfl ((find_calls w b s ps nw M hS ok.srt (by omega) nm).mono ?_)⟩
  rintro _ w2 ⟨rfl, e⟩
  subst e
  refine ⟨_, _, rfl, ?_⟩
  unfold dropP
  cases hi : ix nm M with
  | none => exact IfB.t rfl ⟨rfl, Went.same h0 (Frm.refl _ _)⟩
  | some i =>
    obtain ⟨rfl, p, hp, rfl⟩ := ix_some hi
    have hil := (List.getElem?_eq_some_iff.1 hp).1
    refine IfB.f rfl ⟨_, rfl, s, by rw [addr_add]; exact hS.blk.ld rfl, ?_⟩
    have e1 : IntKind.wrap .i64 ((lo p.n M : Int) + (1 : Int)) = ((lo p.n M + 1 : Nat) : Int) := by rw [wi _ (by omega)]; omega
    rw [e1]
    refine (delete_calls w2 s (pv ps) (lo p.n M) hS.row (by rw [pv_len, hS.len]; exact hil) (pv_one _) (by rw [pv_len, hS.len]; omega)).mono ?_
    rintro _ w6 ⟨r, rfl, hr6, hnear, f6⟩
    have hb6 : Blk w6 b #[.slice s.a s.l s.c] 73 := hS.blk.mod f6 (fun e => hS.row.g.blkNeB hS.blk.g (by decide) e)
    refine ⟨r, rfl, _, rfl, by rw [addr_add]; exact hb6.wr (by show 0 < 1; omega), ?_⟩
    rintro w7 rfl
    rw [addr_add]
    refine ⟨rfl, ?_⟩
    have f7 : Frm (fun g => g = b) w6 (w6.setCell ⟨b, 0 + 0, none⟩ (.slice r.a r.l r.c)) := mod_setCell (a := ⟨b, 0 + 0, none⟩)
    have hb7 : Blk (w6.setCell ⟨b, 0 + 0, none⟩ (.slice r.a r.l r.c)) b #[.slice r.a r.l r.c] 73 := hb6.set (0 + 0) (.slice r.a r.l r.c)
    have hbl := hS.blk.lt
    have hrb : r.blk ≠ some b := by
      intro e
      rcases hnear.cases e with h | h
      · exact hS.row.g.blkNeB hS.blk.g (by decide) h
      · omega
    refine went (f6.trans f7 (H := D) (fun g _ h => hD g (.inr (.inl h))) (fun g _ h => hD g (.inl h))) (s := r) (ps := ps.eraseIdx (lo p.n M)) (nw := fun j => if j < lo p.n M then nw j else nw (j + 1)) ⟨hb7, ?_, ?_, ?_, ?_⟩ ?_
    · have e : pv (ps.eraseIdx (lo p.n M)) = (pv ps).eraseIdx (lo p.n M) := by
        simp [pv, List.eraseIdx_eq_take_drop_succ, List.map_take, List.map_drop]
      rw [e]
      exact hr6.mod f7 (fun g hg e => hrb (by rw [← show g = b from e]; exact hg))
    · rw [List.length_eraseIdx_of_lt (by rw [hS.len]; exact hil), List.length_eraseIdx_of_lt hil, hS.len]
    · exact List.Nodup.sublist (List.eraseIdx_sublist ..) hS.nd
    · intro i g q hgi hqi
      rw [List.getElem?_eraseIdx] at hgi hqi
      have old : ∀ j, ps[j]? = some g → M[j]? = some q → Blk (w6.setCell ⟨b, 0 + 0, none⟩ (.slice r.a r.l r.c)) g (pc q (nw j)) 77 := by
        intro j hj hq
        have hB := hS.each j g q hj hq
        exact (hB.mod f6 (fun e => hS.row.g.blkNeB hB.g (by decide) e)).mod f7 (fun e => blk_ne hS.blk hB (by decide) (show g = b from e).symm)
      by_cases h1 : i < lo p.n M
      · rw [if_pos h1] at hgi hqi
        simp only [if_pos h1]
        exact old i hgi hqi
      · rw [if_neg h1] at hgi hqi
        simp only [if_neg h1]
        exact old _ hgi hqi
    · rintro g (rfl | hg | hg)
      · exact .inl (hD _ (.inl rfl))
      · rcases hnear.cases hg with h | h
        · exact .inl (hD _ (.inr (.inl h)))
        · right; omega
      · exact .inl (hD _ (.inr (.inr (List.mem_of_mem_eraseIdx hg))))
end Go.Proofs.Ythgeacnemojjgaa
