/- Names and Save; what is nobody's; that what is left is in order. -/
import Derived.Test.YthgeacnemojjgaaOp
set_option linter.unusedVariables false
set_option linter.unusedSimpArgs false
set_option maxRecDepth 20000
namespace Go.Proofs.Ythgeacnemojjgaa
open Go Go.Proofs.YthgeacnemojjgaaV
theorem take_snoc {α : Type} {l : List α} {i : Nat} {x : α} (h : l[i]? = some x) : l.take (i + 1) = l.take i ++ [x] := by
  rw [List.take_add_one, h]; rfl
theorem names_calls (w : World) (D : Nat → Prop) (b : Nat) (M : List Pj) (h : Shw w D b M) (ok : OkM M) : Calls prog 21 #[.pointer (some ⟨b, 0, none⟩)] w (MadeT w (M.map (·.n))) := by
  refine calls_ret (W21 (x0 := some ⟨b, 0, none⟩) (Q := fun v w' => ∃ r : Sl, v = .slice r.a r.l r.c ∧ Row w' r 9 1 (sv (M.map (·.n))) ∧ New w r ∧ Frm none_ w w') ?_) (fun v w' ⟨r, h, h'⟩ => ⟨r, by rw [h], h'⟩)
  obtain ⟨s, ps, nw, hS, hD, hDl⟩ := h
  have hn := ok.n
  have hsl := hS.sl
  unfold F21
  refine ⟨false, some23 b, IfB.f rfl ⟨_, rfl, s, by rw [addr_add]; exact hS.blk.ld rfl, fun n x i w' => ∃ j : Nat, j ≤ M.length ∧ i = (j : Int) ∧ n = M.length - j ∧ Row w' x 9 1 (sv ((M.take j).map (·.n))) ∧ New w x ∧ Frm none_ w w', M.length, ⟨0, by omega, rfl, rfl, Row.nil _ _ _, fun k hk => by simp [Sl.blk] at hk, Frm.refl _ _⟩, ?_⟩⟩
  rintro n u x i w1 ⟨j, hj, rfl, rfl, hx, hxn, f1⟩
  refine IfB.dec (fun hlt => ?_) (fun hge => ?_)
  · obtain ⟨p, hp⟩ : ∃ p, M[j]? = some p := ⟨_, List.getElem?_eq_getElem (by omega)⟩
    obtain ⟨q, k, hq, hil, hk, hkm, hld, hB⟩ := (hS.n f1).at hp
    refine ⟨q, hq, by omega, by omega, _, hld, _, rfl, p.n, by rw [addr_add]; exact hB.ld rfl, runT_lit1 st28 (by decide) rfl ?_⟩
    intro w2 hr2 f2 z2
    have hxl := has_sv hx.has
    simp only [List.length_map, List.length_take] at hxl
    refine runT_append st28 (hx.mod f2 (fun _ _ h => h)) hr2.has (by intro u hu; simp [Value.cells] at hu; rw [hu]; rfl) (by simp only; omega) (by simp only [maxLen]; omega) ?_
    intro t w3 hr3 hl3 hn3 f3
    refine ⟨M.length - (j + 1), by omega, j + 1, by omega, by rw [wi _ (by omega)]; omega, rfl, ?_, hxn.near (w2 := w3) hn3 (f1.n f2).size, hxn.frm (f1.n f2) f3⟩
    rw [take_snoc hp, List.map_append]
    rw [sv_snoc] at hr3
    exact hr3
  · refine ⟨x, rfl, ?_, hxn, f1⟩
    rw [List.take_of_length_le (by omega)] at hx
    exact hx
theorem sb_len (p : ByteArray) : (sb p).length ≤ p.size + 5 := by
  have hl : p.data.toList.length = p.size := Array.length_toList
  by_cases h : p.size ≤ 2147483647
  · unfold sb
    rw [if_neg (by omega), List.length_append]
    have := gb_len5 h
    omega
  · unfold sb; rw [if_pos (by omega)]; simp
theorem cb_len (n : Int) : (cb n).length ≤ 5 := by
  unfold cb
  split
  · simp
  · have := gb_len5 (u := n.toNat) (by omega)
    exact this
theorem pb_len {p : Pj} (h : OkP p) : (pb p).length ≤ 40 := by
  have h1 := sb_len p.n
  have h2 := cb_len p.sh
  have h3 := cb_len p.had
  have h4 := h.name.2.1
  have h5 : (fb p.wt).length = 1 := by unfold fb; split <;> rfl
  unfold pb
  simp only [List.length_append]
  omega
theorem pbs_len {M : List Pj} (h : ∀ p ∈ M, OkP p) : (M.flatMap pb).length ≤ 40 * M.length := by
  induction M with
  | nil => simp
  | cons p r ih =>
    have := pb_len (h p (by simp))
    have := ih (fun q hq => h q (by simp [hq]))
    rw [List.flatMap_cons, List.length_append, List.length_cons]
    omega
theorem save_len {M : List Pj} (h : OkM M) : (saveP M).length ≤ 200 := by
  have h1 := pbs_len h.each
  have h2 := cb_len (M.length : Int)
  have h3 := h.n
  unfold saveP
  rw [List.length_append]
  omega
theorem save_calls (w : World) (D : Nat → Prop) (b : Nat) (M : List Pj) (h : Shw w D b M) (ok : OkM M) : Calls prog 16 #[.pointer (some ⟨b, 0, none⟩)] w (Made w (saveP M)) := by
  refine calls_ret (W16 (x0 := some ⟨b, 0, none⟩) (Q := fun v w' => MadeV w (saveP M) v w') ?_) (fun v w' h => madeV h)
  obtain ⟨s, ps, nw, hS, hD, hDl⟩ := h
  have hn := ok.n
  have hsl := hS.sl
  unfold F16
  refine ⟨false, some23 b, IfB.f rfl ⟨_, rfl, s, by rw [addr_add]; exact hS.blk.ld rfl, (count_calls w ⟨none, 0, 0⟩ [] ((s.l : Nat) : Int) (nilHas w) (by simp only; omega)).mono ?_⟩⟩
  rintro _ w1 ⟨r, rfl, hr, ⟨rb, hrb, hrn⟩, f1⟩
  rw [List.nil_append, hsl] at hr
  refine ⟨r, rfl, _, rfl, s, by rw [addr_add]; exact (hS.blk.mod f1 (fun h => h)).ld rfl, fun n x i w' => ∃ j : Nat, j ≤ M.length ∧ i = (j : Int) ∧ n = M.length - j ∧ Row w' x 5 1 (bv (cb (M.length : Int) ++ (M.take j).flatMap pb)) ∧ New w x ∧ Frm none_ w w', M.length, ⟨0, by omega, rfl, rfl, by simpa using hr, fun k hk => by rw [hrb] at hk; cases hk; exact hrn, f1⟩, ?_⟩
  rintro n u x i w2 ⟨j, hj, rfl, rfl, hx, hxn, f2⟩
  refine IfB.dec (fun hlt => ?_) (fun hge => ?_)
  · obtain ⟨p, hp⟩ : ∃ p, M[j]? = some p := ⟨_, List.getElem?_eq_getElem (by omega)⟩
    obtain ⟨q, k, hq, hil, hk, hkm, hld, hB⟩ := (hS.n f2).at hp
    have hxl := rowLen hx
    have h1 := pbs_len (M := M.take j) (fun p hp => ok.each p (List.mem_of_mem_take hp))
    have h2 := cb_len (M.length : Int)
    have h3 := sb_len p.n
    have h4 := (ok.at hp).name.2.1
    have h5 := cb_len p.sh
    have h6 := cb_len p.had
    rw [List.length_append] at hxl
    rw [List.length_take] at h1
    have hrd : ∀ (c : Nat) (v : Value), (pc p (nw j))[c]? = some v → ∀ w', Frm none_ w2 w' → Ld w' ((⟨k, 0, none⟩ : Addr).add c) v := fun c v hv w' hf => by
      rw [addr_add, Nat.zero_add]; exact (hB.mod hf (fun h => h)).ld hv
    refine ⟨q, hq, by omega, by omega, _, hld, fun w' => Frm none_ w2 w', frm_drew _, _, rfl, p.n, hrd 0 _ rfl, _, rfl, p.sh, hrd 1 _ rfl, _, rfl, p.had, hrd 2 _ rfl, _, rfl, p.wt, hrd 3 _ rfl, (str_calls w2.drew x _ p.n hx.has.drew (by omega)).mono ?_⟩
    rintro _ w3 ⟨t3, rfl, ht3, ⟨g3, hg3, hn3⟩, f3'⟩
    have f3 := f3'.ofDrew
    refine ⟨t3, rfl, f3, (count_calls w3 t3 _ p.sh ht3.has (by rw [rowLen ht3]; simp only [List.length_append]; omega)).mono ?_⟩
    rintro _ w4 ⟨t4, rfl, ht4, ⟨g4, hg4, hn4⟩, f4'⟩
    have f4 := f3.n f4'
    refine ⟨t4, rfl, f4, (count_calls w4 t4 _ p.had ht4.has (by rw [rowLen ht4]; simp only [List.length_append]; omega)).mono ?_⟩
    rintro _ w5 ⟨t5, rfl, ht5, ⟨g5, hg5, hn5⟩, f5'⟩
    have f5 := f4.n f5'
    refine ⟨t5, rfl, f5, (flag_calls w5 t5 _ p.wt ht5.has (by rw [rowLen ht5]; simp only [List.length_append]; omega)).mono ?_⟩
    rintro _ w6 ⟨t6, rfl, ht6, ⟨g6, hg6, hn6⟩, f6'⟩
    have f6 := f5.n f6'
    refine ⟨t6, rfl, M.length - (j + 1), by omega, j + 1, by omega, by rw [wi _ (by omega)]; omega, rfl, ?_, fun g hg => by rw [hg6] at hg; cases hg; have := (f2.n f5).size; omega, f2.n f6⟩
    rw [take_snoc hp, List.flatMap_append]
    simpa [pb] using ht6
  · refine ⟨x, rfl, ?_, hxn, f2⟩
    rw [List.take_of_length_le (by omega)] at hx
    exact hx
/-! ### Nobody's -/
theorem had_nil (w : World) (nm : ByteArray) : Calls prog 19 #[.pointer none, .string nm] w fun e w' => e = .returned (.tuple #[.int .i64 0, .int .i64 0, .bool false]) ∧ w' = w := by
  refine calls_ret (W19 (x0 := none) (x1 := nm) (Q := fun v w' => v = .tuple #[.int .i64 0, .int .i64 0, .bool false] ∧ w' = w) ?_) (fun v w' ⟨h, h'⟩ => ⟨by rw [h], h'⟩)
  unfold F19
  exact ⟨true, none23, IfB.t rfl ⟨rfl, rfl⟩⟩
theorem set_nil (w : World) (nm : ByteArray) (a : Int) : Calls prog 15 #[.pointer none, .string nm, .int .i64 a] w fun e w' => e = .returned (.int .i64 2) ∧ w' = w := by
  refine calls_ret (W15 (x0 := none) (x1 := nm) (x2 := a) (Q := fun v w' => v = .int .i64 2 ∧ w' = w) ?_) (fun v w' ⟨h, h'⟩ => ⟨by rw [h], h'⟩)
  unfold F15
  exact ⟨true, none23, IfB.t rfl ⟨rfl, rfl⟩⟩
theorem drop_nil (w : World) (nm : ByteArray) : Calls prog 17 #[.pointer none, .string nm] w fun e w' => e = .returned (.int .i64 2) ∧ w' = w := by
  refine calls_ret (W17 (x0 := none) (x1 := nm) (Q := fun v w' => v = .int .i64 2 ∧ w' = w) ?_) (fun v w' ⟨h, h'⟩ => ⟨by rw [h], h'⟩)
  unfold F17
  exact ⟨true, none23, IfB.t rfl ⟨rfl, rfl⟩⟩
theorem chg_nil (w : World) (nm : ByteArray) (a : Int) : Calls prog 18 #[.pointer none, .string nm, .int .i64 a] w fun e w' => e = .returned (.int .i64 2) ∧ w' = w := by
  refine calls_ret (W18 (x0 := none) (x1 := nm) (x2 := a) (Q := fun v w' => v = .int .i64 2 ∧ w' = w) ?_) (fun v w' ⟨h, h'⟩ => ⟨by rw [h], h'⟩)
  unfold F18
  exact ⟨true, none23, IfB.t rfl ⟨rfl, rfl⟩⟩
theorem names_nil (w : World) : Calls prog 21 #[.pointer none] w fun e w' => e = .returned (.slice none 0 0) ∧ w' = w := by
  refine calls_ret (W21 (x0 := none) (Q := fun v w' => v = .slice none 0 0 ∧ w' = w) ?_) (fun v w' ⟨h, h'⟩ => ⟨by rw [h], h'⟩)
  unfold F21
  exact ⟨true, none23, IfB.t rfl ⟨rfl, rfl⟩⟩
theorem save_nil (w : World) : Calls prog 16 #[.pointer none] w fun e w' => e = .returned (.slice none 0 0) ∧ w' = w := by
  refine calls_ret (W16 (x0 := none) (Q := fun v w' => v = .slice none 0 0 ∧ w' = w) ?_) (fun v w' ⟨h, h'⟩ => ⟨by rw [h], h'⟩)
  unfold F16
  exact ⟨true, none23, IfB.t rfl ⟨rfl, rfl⟩⟩
theorem next_nil (w : World) (x : Sl) : Calls prog 13 #[.pointer none, .slice x.a x.l x.c] w fun e w' => e = .returned (.tuple #[.string (⟨#[]⟩ : ByteArray), .int .i64 2]) ∧ w' = w := by
  refine calls_ret (W13 (x0 := none) (x1 := x) (Q := fun v w' => v = .tuple #[.string (⟨#[]⟩ : ByteArray), .int .i64 2] ∧ w' = w) ?_) (fun v w' ⟨h, h'⟩ => ⟨by rw [h], h'⟩)
  unfold F13
  exact ⟨true, none23, IfB.t rfl ⟨rfl, rfl⟩⟩
/-! ### That what is left is in order -/
theorem srt_map {M : List Pj} {f : Pj → Pj} (h : Srt M) (hf : ∀ p, (f p).n = p.n) : Srt (M.map f) := by
  unfold Srt at h ⊢
  rw [List.pairwise_map]
  exact h.imp (fun hab => by rw [hf, hf]; exact hab)
theorem srt_set {M : List Pj} {i : Nat} {p p' : Pj} (h : Srt M) (hp : M[i]? = some p) (he : p'.n = p.n) : Srt (M.set i p') := by
  have hi := (List.getElem?_eq_some_iff.1 hp).1
  refine List.pairwise_iff_getElem.2 fun a b ha hb hab => ?_
  rw [List.length_set] at ha hb
  have na : (M.set i p')[a].n = M[a].n := by
    rw [List.getElem_set]
    split
    · rename_i e; subst e; rw [he]; congr 1; exact (List.getElem?_eq_some_iff.1 hp).2.symm
    · rfl
  have nb : (M.set i p')[b].n = M[b].n := by
    rw [List.getElem_set]
    split
    · rename_i e; subst e; rw [he]; congr 1; exact (List.getElem?_eq_some_iff.1 hp).2.symm
    · rfl
  rw [na, nb]
  exact List.pairwise_iff_getElem.1 h a b ha hb hab
theorem srt_ins {M : List Pj} {p : Pj} (h : Srt M) (hno : ix p.n M = none) : Srt (M.take (lo p.n M) ++ p :: M.drop (lo p.n M)) := by
  have hl := lo_le p.n M
  refine List.pairwise_append.2 ⟨h.sublist (List.take_sublist ..), List.pairwise_cons.2 ⟨fun q hq => ?_, h.sublist (List.drop_sublist ..)⟩, fun q hq r hr => ?_⟩
  · obtain ⟨j, hj⟩ := List.mem_iff_getElem?.1 hq
    rw [List.getElem?_drop] at hj
    have hlt : lo p.n M < M.length := by have := (List.getElem?_eq_some_iff.1 hj).1; omega
    obtain ⟨q0, hq0⟩ : ∃ q0, M[lo p.n M]? = some q0 := ⟨_, List.getElem?_eq_getElem hlt⟩
    have h1 := lo_at hq0
    have h2 : blt p.n q0.n = true := by
      cases hb : blt p.n q0.n with
      | true => rfl
      | false =>
        exact (ix_none h hno hq0 (blt_tri h1 hb)).elim
    by_cases hj0 : j = 0
    · subst hj0; rw [Nat.add_zero, hq0] at hj; cases hj; exact h2
    · exact blt_trans h2 (h.lt (by omega) hq0 hj)
  · obtain ⟨i, hi⟩ := List.mem_iff_getElem?.1 hq
    have hil : i < lo p.n M := by
      have := (List.getElem?_eq_some_iff.1 hi).1
      rw [List.length_take] at this
      omega
    rw [List.getElem?_take, if_pos hil] at hi
    have hqp := lo_below hil hi
    rcases List.mem_cons.1 hr with rfl | hr
    · exact hqp
    · obtain ⟨j, hj⟩ := List.mem_iff_getElem?.1 hr
      rw [List.getElem?_drop] at hj
      exact h.lt (by omega) hi hj
theorem okm_set {M : List Pj} {i : Nat} {p p' : Pj} (h : OkM M) (hp : M[i]? = some p) (he : p'.n = p.n) (ho : OkP p') : OkM (M.set i p') := by
  refine ⟨by rw [List.length_set]; exact h.n, srt_set h.srt hp he, fun q hq => ?_⟩
  rcases List.mem_or_eq_of_mem_set hq with hq | rfl
  · exact h.each q hq
  · exact ho
theorem setP_ok {M : List Pj} (h : OkM M) (nm : ByteArray) (k : Int) : OkM (setP nm k M).2 := by
  unfold setP
  split
  · exact h
  rename_i hg
  split
  · exact h
  rename_i hk
  split
  · rename_i i hi
    split
    · rename_i p hp
      split
      · exact h
      · rename_i hle
        have okp := h.at hp
        have hp0 : 0 ≤ p.had * k := Int.mul_nonneg okp.h1 (by omega)
        exact okm_set h hp rfl ⟨okp.name, by simp only; omega, by simp only; omega, scl_nonneg okp.s1 hp0, by simp only; omega⟩
    · exact h
  · rename_i hi
    split
    · exact h
    · rename_i h4
      have hl := lo_le nm M
      refine ⟨by simp only [List.length_append, List.length_cons, List.length_take, List.length_drop]; omega, srt_ins (p := ⟨nm, k, 0, false⟩) h.srt hi, fun q hq => ?_⟩
      rcases List.mem_append.1 hq with hq | hq
      · exact h.each q (List.mem_of_mem_take hq)
      · rcases List.mem_cons.1 hq with rfl | hq
        · exact ⟨by simpa using hg, by simp only; omega, by simp only; omega, by simp only; omega, by simp only; omega⟩
        · exact h.each q (List.mem_of_mem_drop hq)
theorem dropP_ok {M : List Pj} (h : OkM M) (nm : ByteArray) : OkM (dropP nm M).2 := by
  unfold dropP
  split
  · rename_i i hi
    refine ⟨Nat.le_trans (List.length_eraseIdx_le ..) h.n, h.srt.sublist (List.eraseIdx_sublist ..), fun q hq => h.each q (List.mem_of_mem_eraseIdx hq)⟩
  · exact h
theorem chgP_ok {M : List Pj} (h : OkM M) (nm : ByteArray) (k : Int) : OkM (chgP nm k M).2 := by
  unfold chgP
  split
  · rename_i i hi
    split
    · exact h
    rename_i hk
    split
    · rename_i p hp
      split
      · exact h
      · rename_i hle
        have okp := h.at hp
        have a1 := okp.h1
        exact okm_set h hp rfl ⟨okp.name, okp.s1, okp.s2, by simp only; omega, by simp only; omega⟩
    · exact h
  · exact h
theorem okm_map {M : List Pj} (h : OkM M) {f : Pj → Pj} (hn : ∀ p, (f p).n = p.n) (ho : ∀ p, OkP p → OkP (f p)) : OkM (M.map f) := by
  refine ⟨by rw [List.length_map]; exact h.n, srt_map h.srt hn, fun q hq => ?_⟩
  obtain ⟨p, hp, rfl⟩ := List.mem_map.1 hq
  exact ho p (h.each p hp)
theorem lift_n (m p : Pj) : (lift m p).n = p.n := by unfold lift; split <;> rfl
theorem lift_ok {m p : Pj} (hm : OkP m) (hp : OkP p) : OkP (lift m p) := by
  unfold lift
  split
  · have h0 : 0 ≤ m.had * p.sh := Int.mul_nonneg hm.h1 (by have := hp.s1; omega)
    have := scl_nonneg hm.s1 h0
    exact ⟨hp.name, hp.s1, hp.s2, by simp only; omega, by simp only; omega⟩
  · exact hp
theorem lifted_ok {M : List Pj} (h : OkM M) (ws : List ByteArray) : OkM (lifted ws M) := by
  unfold lifted
  split
  · exact h
  · split
    · exact h
    · rename_i m hm q hq
      refine okm_map h (fun p => ?_) (fun p hp => ?_)
      · split
        · exact lift_n _ _
        · rfl
      · split
        · exact lift_ok (h.at hq) hp
        · exact hp
theorem nextP_ok {M : List Pj} (h : OkM M) (ws : List ByteArray) : OkM (nextP ws M).2.2 := by
  unfold nextP
  split
  · exact h
  · split
    · exact h
    · exact okm_map (lifted_ok h ws) (fun p => rfl) (fun p hp => ⟨hp.name, hp.s1, hp.s2, hp.h1, hp.h2⟩)
end Go.Proofs.Ythgeacnemojjgaa
