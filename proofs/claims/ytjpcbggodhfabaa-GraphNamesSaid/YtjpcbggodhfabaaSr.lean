/- The document's Sort; the levels, the program's and the document's; the law GraphSorts. -/
import Derived.Test.YtjpcbggodhfabaaSo
import Derived.Test.YtjpcbggodhfabaaRests
set_option linter.unusedVariables false
set_option linter.unusedSimpArgs false
namespace Go.Proofs.Ytjpcbggodhfabaa
open Go Go.Proofs.YtjpcbggodhfabaaV
set_option maxRecDepth 20000 in
theorem Sort_calls (w : World) (s : Sl) (ps : List (Sl × List Int)) (h : Gw w s ps) (hsm : Small ps) (ht : tot (gOf ps) ≤ 1000000000) : Calls prog 19 #[.slice s.a s.l s.c] w fun e w' =>
    ∃ t, e = .returned (.tuple #[.slice t.a t.l t.c, .int .i64 (sortC (gOf ps))]) ∧ Has w' t 1 (iv (sortL (gOf ps))) ∧ Frm none_ w w' := by
  refine callsRet (W19 (Q := fun v w' => ∃ t, v = .tuple #[.slice t.a t.l t.c, .int .i64 (sortC (gOf ps))] ∧ Has w' t 1 (iv (sortL (gOf ps))) ∧ Frm none_ w w') ?_) (fun v w' ⟨t, h, h'⟩ => ⟨t, by rw [h], h'⟩)
  unfold F19
  have hl := h.len
  have hgl := gOf_len ps
  have hsl := hsm.len
  refine (May_calls w s ps h hsm ht).mono ?_
  rintro _ _ ⟨b0, rfl, hb, rfl⟩
  refine ⟨_, rfl, IfB.intro (fun hc => ?_) (fun hc => ?_)⟩
  · have hc : b0 = false := by simpa using hc
    have hn : ¬ May (gOf ps) := fun hm => by have := hb.2 hm; rw [hc] at this; cases this
    refine ⟨⟨none, 0, 0⟩, by rw [sortC, if_neg hn], ?_, Frm.refl _ _⟩
    rw [sortL, if_neg (fun h => hn h.1)]
    exact Has.nil _ _ _ rfl
  have hc : b0 = true := by simpa using hc
  have hmay := hb.1 hc
  have hlg : ∀ {i : Nat} {p : Sl × List Int}, ps[i]? = some p → (gOf ps).getD i [] = p.2 := fun hp => getD_of (gOf_get hp)
  refine ⟨fun n x4 w' => ∃ (out : List Int) (c : Nat), n = ps.length - c ∧ IsRow (gOf ps) out c ∧ Row w' x4 3 1 (iv out) ∧ (∀ k, x4.blk = some k → w.heap.size ≤ k) ∧ Frm none_ w w', ps.length, ⟨[], 0, by omega, IsRow.nil _, Row.nil _ _ _, by simp [Sl.blk], Frm.refl _ _⟩, ?_⟩
  rintro n u x4 w1 ⟨out, c, rfl, hrow, hr, hfr, f1⟩
  have hol := hrow.2
  have hrl := hrow.le
  have hxl := has_iv hr.has
  refine IfB.intro (fun hd => ?_) (fun hd => ?_)
  · have hlt := of_decide_eq_true hd
    rw [wrap64 _ (by omega)]
    refine ⟨fun n x5 x6 w' => ∃ d : Nat, x6 = (d : Int) - 1 ∧ n = d ∧ d ≤ ps.length ∧ ((x5 = -1 ∧ ∀ j, d ≤ j → j < ps.length → ¬ Rdy (gOf ps) out j) ∨ ∃ m : Nat, x5 = (m : Int) ∧ d ≤ m ∧ m < ps.length ∧ Rdy (gOf ps) out m ∧ ∀ j, d ≤ j → j < m → ¬ Rdy (gOf ps) out j) ∧ w' = w1, ps.length, ⟨ps.length, by omega, rfl, by omega, .inl ⟨rfl, fun j h1 h2 => by omega⟩, rfl⟩, ?_⟩
    rintro d u1 x5 x6 w2 ⟨d0, rfl, rfl, hdl, hx5, rfl⟩
    refine IfB.intro (fun he => ?_) (fun he => ?_)
    · have hge := of_decide_eq_true he
      obtain ⟨i, rfl⟩ : ∃ i, d = i + 1 := ⟨d - 1, by omega⟩
      have ei : ((i + 1 : Nat) : Int) - 1 = (i : Int) := by omega
      rw [ei]
      obtain ⟨p, r, hp, hr', hrm, hld, hh⟩ := (h.mod f1).at (i := i) (by omega)
      have hrl2 := has_iv hh
      have hgi := hlg hr'
      have hrb := hsm.each r hrm
      refine (in_calls w2 x4 out (i : Int) hr.has (by omega)).mono ?_
      rintro _ _ ⟨bi, rfl, hbi, rfl⟩
      refine ⟨_, rfl, fun n x7 x8 w' => ∃ j : Nat, x8 = (j : Int) ∧ n = r.1.l - j ∧ j ≤ r.1.l ∧ (x7 = true ↔ (i : Int) ∉ out ∧ ∀ z ∈ r.2.take j, z ∈ out) ∧ w' = w2, r.1.l, ⟨0, rfl, by omega, by omega, ?_, rfl⟩, ?_⟩
      · simp only [List.take_zero, List.not_mem_nil, false_implies, implies_true, and_true]
        rw [← hbi]; cases bi <;> simp
      rintro n u2 x7 x8 w3 ⟨j, rfl, rfl, hj, hx7, rfl⟩
      have hld' : Ld w3 (p.add ((i : Int).toNat * 1)) (.slice r.1.a r.1.l r.1.c) := by rw [Int.toNat_natCast]; exact hld
      refine ⟨p, hp, by omega, by omega, r.1, hld', IfB.intro (fun hf => ?_) (fun hf => ?_)⟩
      · have hjl := of_decide_eq_true hf
        obtain ⟨q, z, hq, hz, hldz⟩ := has_at hh (i := j) (by omega)
        have htake : r.2.take (j + 1) = r.2.take j ++ [z] := by rw [List.take_add_one, hz]; rfl
        refine IfB.intro (fun hg => ?_) (fun hg => ?_)
        · refine ⟨p, hp, by omega, by omega, r.1, hld', q, hq, by omega, by omega, z, by rw [Int.toNat_natCast]; exact hldz, (in_calls w3 x4 out z hr.has (by omega)).mono ?_⟩
          rintro _ _ ⟨bz, rfl, hbz, rfl⟩
          refine ⟨_, rfl, r.1.l - (j + 1), by omega, j + 1, by rw [wrap64 _ (by omega)]; omega, rfl, by omega, ?_, rfl⟩
          rw [htake, hbz]
          obtain ⟨h1, h2⟩ := hx7.1 hg
          constructor
          · intro hz'
            refine ⟨h1, fun z' hz2 => ?_⟩
            rcases List.mem_append.1 hz2 with hz2 | hz2
            · exact h2 z' hz2
            · simp at hz2; rw [hz2]; exact hz'
          · rintro ⟨_, h3⟩
            exact h3 z (by simp)
        · refine ⟨r.1.l - (j + 1), by omega, j + 1, by rw [wrap64 _ (by omega)]; omega, rfl, by omega, ?_, rfl⟩
          simp only [Bool.false_eq_true, false_iff]
          rintro ⟨h1, h2⟩
          have := hx7.2 ⟨h1, fun z' hz' => h2 z' (by rw [htake]; simp [hz'])⟩
          rw [hg] at this; cases this
      · have hjg := of_decide_eq_false hf
        have hj2 : r.2.take j = r.2 := List.take_of_length_le (by omega)
        rw [hj2] at hx7
        have hxr : x7 = true ↔ Rdy (gOf ps) out i := by rw [hx7]; unfold Rdy; rw [hgi]
        refine IfB.intro (fun hg => ?_) (fun hg => ?_)
        · exact ⟨i, by omega, i, by rw [wrap64 _ (by omega)], rfl, by omega, .inr ⟨i, rfl, by omega, by omega, hxr.1 hg, fun j' h1 h2 => by omega⟩, rfl⟩
        · have hnr : ¬ Rdy (gOf ps) out i := fun hr => by have := hxr.2 hr; rw [hg] at this; cases this
          refine ⟨i, by omega, i, by rw [wrap64 _ (by omega)], rfl, by omega, ?_, rfl⟩
          rcases hx5 with ⟨h1, h2⟩ | ⟨m, h1, h2, h3, h4, h5⟩
          · refine .inl ⟨h1, fun j' hj1 hj2 => ?_⟩
            by_cases e : j' = i
            · rw [e]; exact hnr
            · exact h2 j' (by omega) hj2
          · refine .inr ⟨m, h1, by omega, h3, h4, fun j' hj1 hj2 => ?_⟩
            by_cases e : j' = i
            · rw [e]; exact hnr
            · exact h5 j' (by omega) hj2
    · have hneg := of_decide_eq_false he
      have hd0 : d = 0 := by omega
      subst hd0
      refine IfB.intro (fun hf => ?_) (fun hf => ?_)
      · have hf := of_decide_eq_true hf
        rcases hx5 with ⟨h1, h2⟩ | ⟨m, h1, h2, h3, h4, h5⟩
        · have hst := hrow.stop (nxt_none.2 (fun i hi => h2 i (by omega) (by omega)))
          have hsc : scode (gOf ps) = 64 := by rw [scode, if_pos (by rw [hst]; omega)]
          refine ⟨⟨none, 0, 0⟩, by rw [sortC, if_pos hmay, hsc], ?_, f1⟩
          rw [sortL, if_neg (fun h => by rw [hsc] at h; exact absurd h.2 (by decide))]
          exact Has.nil _ _ _ rfl
        · omega
      · have hf := of_decide_eq_false hf
        rcases hx5 with ⟨h1, h2⟩ | ⟨m, rfl, h2, h3, h4, h5⟩
        · omega
        · have hrow' := hrow.next (nxt_some.2 ⟨h4, by omega, fun j hj => h5 j (by omega) hj⟩)
          have hle' := hrow'.le
          refine lit_push (m : Int) hr (by omega) ?_
          intro s' w3 hr3 hs3 f3
          have z1 := f1.size
          refine ⟨ps.length - (c + 1), by omega, _, c + 1, rfl, hrow', hr3, ?_, f1.trans f3 (fun _ _ h => h) (fun k _ e => by have := hfr k e; omega)⟩
          intro k hk
          rcases hs3 k hk with e | e
          · exact hfr k e
          · omega
  · have hge := of_decide_eq_false hd
    have hst := hrow.full (by omega)
    have hsc : scode (gOf ps) = 0 := by rw [scode, if_neg (by rw [hst]; omega)]
    refine ⟨x4, by rw [sortC, if_pos hmay, hsc], ?_, f1⟩
    rw [sortL, if_pos ⟨hmay, hsc⟩, hst]
    exact hr.has
theorem sortL_bad {g : List (List Int)} (h : sortC g ≠ 0) : sortL g = [] ∧ levL g = [] := by
  unfold sortC at h
  unfold sortL levL
  by_cases hm : May g
  · rw [if_pos hm] at h
    rw [if_neg (fun h' => h h'.2), if_neg (fun h' => h h'.2)]; exact ⟨rfl, rfl⟩
  · rw [if_neg (fun h' => hm h'.1), if_neg (fun h' => hm h'.1)]; exact ⟨rfl, rfl⟩
theorem sortL_good {g : List (List Int)} (h : sortC g = 0) : May g ∧ scode g = 0 ∧ sortL g = srow g ∧ levL g = lvF g (srow g) := by
  unfold sortC at h
  by_cases hm : May g
  · rw [if_pos hm] at h
    unfold sortL levL
    rw [if_pos ⟨hm, h⟩, if_pos ⟨hm, h⟩]
    exact ⟨hm, h, rfl, rfl⟩
  · rw [if_neg hm] at h; exact absurd h (by decide)
theorem set_self {l : List Int} {i : Nat} : l.set i (ge l i) = l := by
  by_cases h : i < l.length
  · have e : ge l i = l[i] := by simp [ge, h]
    rw [e]; exact List.set_getElem_self h
  · exact List.set_eq_of_length_le (by omega)
theorem row_at {w : World} {t : Sl} {lv : List Int} (h : Has w t 1 (iv lv)) {k : Nat} (hk : k < lv.length) : ∃ q, t.a = some q ∧ t.l = lv.length ∧ Ld w (q.add ((k : Int).toNat * 1)) (.int .i64 (ge lv k)) := by
  have hl := has_iv h
  obtain ⟨q, n, hq, hn, hld⟩ := has_at h (i := k) (by omega)
  rw [ge_get hk] at hn; cases hn
  exact ⟨q, hq, hl, by rw [Int.toNat_natCast]; exact hld⟩
theorem row_set {w : World} {t : Sl} {lv : List Int} (h : Row w t 3 1 (iv lv)) {k : Nat} (hk : k < lv.length) (v : Int) : ∃ q g, t.a = some q ∧ t.l = lv.length ∧ t.blk = some g ∧ Wr w (q.add ((k : Int).toNat * 1)) ∧ Row (w.setCell (q.add ((k : Int).toNat * 1)) (.int .i64 v)) t 3 1 (iv (lv.set k v)) ∧ Frm (fun j => j = g) w (w.setCell (q.add ((k : Int).toNat * 1)) (.int .i64 v)) := by
  have hl := has_iv h.has
  obtain ⟨g, hg, hwr, hset⟩ := h.wr (j := k) (by rw [iv_len]; exact hk)
  have e1 : (⟨g, 0, none⟩ : Addr).add ((k : Int).toNat * 1) = ⟨g, k, none⟩ := by rw [addr_add]; simp
  have htb : t.blk = some g := by simp [Sl.blk, hg]
  have hr := hset (.int .i64 v)
  rw [iv_set] at hr
  refine ⟨_, g, hg, hl, htb, by rw [e1]; exact hwr, ?_⟩
  rw [e1]
  exact ⟨hr, mod_setCell (a := ⟨g, k, none⟩)⟩
theorem bnd0 (n : Nat) : Bnd (List.replicate n 0) 0 := by
  intro k
  have : ge (List.replicate n 0) k = 0 := by
    unfold ge
    rw [List.getD_eq_getElem?_getD, List.getElem?_replicate]
    split <;> rfl
  omega
/-- The levels as they are at a step of the walk. -/
def lvA (g : List (List Int)) (row : List Int) (i x j : Nat) : List Int := ((g.getD x []).take j).foldl (stp x) (lvF g (row.take i))
theorem lvA_len (g : List (List Int)) (row : List Int) (i x j : Nat) : (lvA g row i x j).length = g.length := by unfold lvA; rw [foldl_len (stp_len x), lvF_len]
theorem lvA_next {g : List (List Int)} {row : List Int} {i x j : Nat} {k : Int} (h : (g.getD x [])[j]? = some k) : lvA g row i x (j + 1) = stp x (lvA g row i x j) k := by unfold lvA; rw [foldl_take h]
theorem lvA_end {g : List (List Int)} {row : List Int} {i x j : Nat} (h : row[i]? = some (x : Int)) (hj : (g.getD x []).length ≤ j) : lvA g row i x j = lvF g (row.take (i + 1)) := by
  unfold lvA lvF
  rw [List.take_of_length_le hj, foldl_take h]
  rfl
set_option maxRecDepth 20000 in
theorem levels_calls (w : World) (s : Sl) (ps : List (Sl × List Int)) (h : Gw w s ps) (hsm : Small ps) (ht : tot (gOf ps) ≤ 1000000000) : Calls prog 20 #[.slice s.a s.l s.c] w fun e w' =>
    ∃ t, e = .returned (.tuple #[.slice t.a t.l t.c, .int .i64 (sortC (gOf ps))]) ∧ Has w' t 1 (iv (levL (gOf ps))) ∧ Frm none_ w w' := by
  refine callsRet (W20 (Q := fun v w' => ∃ t, v = .tuple #[.slice t.a t.l t.c, .int .i64 (sortC (gOf ps))] ∧ Has w' t 1 (iv (levL (gOf ps))) ∧ Frm none_ w w') ?_) (fun v w' ⟨t, h, h'⟩ => ⟨t, by rw [h], h'⟩)
  unfold F20
  have hl := h.len
  have hgl := gOf_len ps
  have hsl := hsm.len
  refine (sort_calls w s ps h hsm ht).mono ?_
  rintro _ w1 ⟨ta, rfl, hta, f1⟩
  refine ⟨ta, _, rfl, IfB.intro (fun hc => ?_) (fun hc => ?_)⟩
  · have hc := iNe hc
    refine ⟨⟨none, 0, 0⟩, rfl, ?_, f1⟩
    rw [(sortL_bad hc).2]; exact Has.nil _ _ _ rfl
  have hc := iEq hc
  obtain ⟨hmay, hsc, e1, e2⟩ := sortL_good hc
  rw [e1] at hta
  have hv := valid_of hmay
  have hmt := hmay.2.1
  have hml := hmay.1
  rw [hgl] at hml
  have hal := has_iv hta
  have hsr : (srow (gOf ps)).length ≤ ps.length := by
    have := rowF_mis (gOf ps) (gOf ps).length
    have e : srow (gOf ps) = rowF (gOf ps) (gOf ps).length := rfl
    rw [e]; omega
  have hlg : ∀ {i : Nat} {p : Sl × List Int}, ps[i]? = some p → (gOf ps).getD i [] = p.2 := fun hp => getD_of (gOf_get hp)
  refine runT_makeN st25 (by omega) (by omega) (by omega) ?_
  intro t w2 hr2 htl htc hta2 f2 z2
  rw [made_one (.int .i64 0) rfl] at hr2
  have htb : t.blk = some w1.heap.size := by simp [Sl.blk, hta2]
  have e0 : List.replicate (((s.l : Nat) : Int).toNat * 1) (Value.int .i64 0) = iv (lvF (gOf ps) ((srow (gOf ps)).take 0)) := by simp [iv, hl, lvF, hgl]
  rw [e0] at hr2
  refine ⟨fun n x w' => ∃ i : Nat, x = (i : Int) ∧ i ≤ ta.l ∧ n = ta.l - i ∧ Row w' t 3 1 (iv (lvF (gOf ps) ((srow (gOf ps)).take i))) ∧ Bnd (lvF (gOf ps) ((srow (gOf ps)).take i)) (i * 65536) ∧ Frm none_ w1 w', ta.l, ⟨0, rfl, Nat.zero_le _, by omega, hr2, by simpa [lvF] using bnd0 _, f2⟩, ?_⟩
  rintro n u x w3 ⟨i, rfl, hi, rfl, hr3, hbd, f3⟩
  refine IfB.intro (fun hd => ?_) (fun hd => ?_)
  · have hlt := of_decide_eq_true hd
    obtain ⟨q, z, hq, hz, hld⟩ := has_at (hta.mod f3 (fun _ _ h => h)) (i := i) (by omega)
    obtain ⟨x, rfl, hx⟩ := rowF_mem (List.mem_of_getElem? hz)
    rw [hgl] at hx
    obtain ⟨p, r, hp, hr, hrm, hld2, hh⟩ := (h.mod (f1.n f3)).at (i := x) (by omega)
    have hrl := has_iv hh
    have hgi := hlg hr
    have htm := tot_mem (g := gOf ps) (l := r.2) (by simp only [gOf, List.mem_map]; exact ⟨r, hrm, rfl⟩)
    refine ⟨q, hq, by omega, by omega, _, by rw [Int.toNat_natCast]; exact hld, p, hp, by omega, by omega, r.1, by rw [Int.toNat_natCast]; exact hld2, ?_⟩
    refine ⟨fun n x33 w' => ∃ j : Nat, x33 = (j : Int) ∧ j ≤ r.1.l ∧ n = r.1.l - j ∧ Row w' t 3 1 (iv (lvA (gOf ps) (srow (gOf ps)) i x j)) ∧ Bnd (lvA (gOf ps) (srow (gOf ps)) i x j) (i * 65536 + j) ∧ Frm none_ w1 w', r.1.l, ⟨0, rfl, Nat.zero_le _, by omega, by simpa [lvA] using hr3, by simpa [lvA] using hbd, f3⟩, ?_⟩
    rintro n u2 x33 w4 ⟨j, rfl, hj, rfl, hr4, hb4, f4⟩
    have hlvl := lvA_len (gOf ps) (srow (gOf ps)) i x j
    refine IfB.intro (fun he => ?_) (fun he => ?_)
    · have hjl := of_decide_eq_true he
      obtain ⟨q5, z5, hq5, hz5, hld5⟩ := has_at ((h.mod (f1.n f4)).each r hrm) (i := j) (by omega)
      obtain ⟨h0, h1⟩ := hv r hrm z5 (List.mem_of_getElem? hz5)
      obtain ⟨y, rfl⟩ := Int.eq_ofNat_of_zero_le h0
      have hr4d := hr4.drew
      obtain ⟨q6, hq6, htl6, hld6⟩ := row_at hr4d.has (k := x) (by omega)
      obtain ⟨q7, hq7, htl7, hld7⟩ := row_at hr4d.has (k := y) (by omega)
      have hb1 := hb4 x
      have hb2 := hb4 y
      have hwr : IntKind.wrap .i64 (ge (lvA (gOf ps) (srow (gOf ps)) i x j) y + 1) = ge (lvA (gOf ps) (srow (gOf ps)) i x j) y + 1 := wrap64 _ (by omega)
      obtain ⟨q8, g8, hq8, htl8, hg8, hwr8, hr8, f8⟩ := row_set hr4d (k := x) (by omega) (if ge (lvA (gOf ps) (srow (gOf ps)) i x j) y + 1 > ge (lvA (gOf ps) (srow (gOf ps)) i x j) x then ge (lvA (gOf ps) (srow (gOf ps)) i x j) y + 1 else ge (lvA (gOf ps) (srow (gOf ps)) i x j) x)
      refine ⟨q5, hq5, by omega, by omega, _, by rw [Int.toNat_natCast]; exact hld5, fun w' => w' = w4.drew, rfl, q6, hq6, by omega, by omega, _, by rintro _ rfl; exact hld6, q7, hq7, by omega, by omega, _, by rintro _ rfl; exact hld7, q8, hq8, by omega, by omega, hwr8, ?_⟩
      rw [hwr]
      rintro w5 rfl
      have hnx := lvA_next (g := gOf ps) (row := srow (gOf ps)) (i := i) (x := x) (j := j) (k := (y : Int)) (by rw [hgi]; exact hz5)
      have est : (lvA (gOf ps) (srow (gOf ps)) i x j).set x (if ge (lvA (gOf ps) (srow (gOf ps)) i x j) y + 1 > ge (lvA (gOf ps) (srow (gOf ps)) i x j) x then ge (lvA (gOf ps) (srow (gOf ps)) i x j) y + 1 else ge (lvA (gOf ps) (srow (gOf ps)) i x j) x) = lvA (gOf ps) (srow (gOf ps)) i x (j + 1) := by
        rw [hnx]
        unfold stp
        rw [Int.toNat_natCast]
        by_cases e : ge (lvA (gOf ps) (srow (gOf ps)) i x j) y ≥ ge (lvA (gOf ps) (srow (gOf ps)) i x j) x
        · rw [if_pos e, if_pos (by omega)]
        · rw [if_neg e, if_neg (by omega), set_self]
      rw [est] at hr8
      rw [htb] at hg8
      refine ⟨r.1.l - (j + 1), by omega, j + 1, by rw [wrap64 _ (by omega)]; omega, by omega, rfl, hr8, ?_, f4.drew.b f8 (by simp at hg8; omega)⟩
      rw [hnx]
      exact hb4.stp.mono (by omega)
    · have hjg := of_decide_eq_false he
      have hend := lvA_end (g := gOf ps) (j := j) hz (by rw [hgi]; omega)
      rw [hend] at hr4 hb4
      exact ⟨ta.l - (i + 1), by omega, i + 1, by rw [wrap64 _ (by omega)]; omega, by omega, rfl, hr4, hb4.mono (by omega), f4⟩
  · have hge := of_decide_eq_false hd
    have hfull : (srow (gOf ps)).take i = srow (gOf ps) := List.take_of_length_le (by omega)
    rw [hfull] at hr3
    exact ⟨t, by rw [hc], by rw [e2]; exact hr3.has, f1.n f3⟩
set_option maxRecDepth 20000 in
theorem Levels_calls (w : World) (s : Sl) (ps : List (Sl × List Int)) (h : Gw w s ps) (hsm : Small ps) (ht : tot (gOf ps) ≤ 1000000000) : Calls prog 21 #[.slice s.a s.l s.c] w fun e w' =>
    ∃ t, e = .returned (.tuple #[.slice t.a t.l t.c, .int .i64 (sortC (gOf ps))]) ∧ Has w' t 1 (iv (levL (gOf ps))) ∧ Frm none_ w w' := by
  refine callsRet (W21 (Q := fun v w' => ∃ t, v = .tuple #[.slice t.a t.l t.c, .int .i64 (sortC (gOf ps))] ∧ Has w' t 1 (iv (levL (gOf ps))) ∧ Frm none_ w w') ?_) (fun v w' ⟨t, h, h'⟩ => ⟨t, by rw [h], h'⟩)
  unfold F21
  have hl := h.len
  have hgl := gOf_len ps
  have hsl := hsm.len
  refine (Sort_calls w s ps h hsm ht).mono ?_
  rintro _ w1 ⟨ta, rfl, hta, f1⟩
  refine ⟨ta, _, rfl, IfB.intro (fun hc => ?_) (fun hc => ?_)⟩
  · have hc := iNe hc
    refine ⟨⟨none, 0, 0⟩, rfl, ?_, f1⟩
    rw [(sortL_bad hc).2]; exact Has.nil _ _ _ rfl
  have hc := iEq hc
  obtain ⟨hmay, hsc, e1, e2⟩ := sortL_good hc
  rw [e1] at hta
  have hv := valid_of hmay
  have hmt := hmay.2.1
  have hml := hmay.1
  rw [hgl] at hml
  have hal := has_iv hta
  have hsr : (srow (gOf ps)).length ≤ ps.length := by
    have := rowF_mis (gOf ps) (gOf ps).length
    have e : srow (gOf ps) = rowF (gOf ps) (gOf ps).length := rfl
    rw [e]; omega
  have hlg : ∀ {i : Nat} {p : Sl × List Int}, ps[i]? = some p → (gOf ps).getD i [] = p.2 := fun hp => getD_of (gOf_get hp)
  refine runT_makeN st25 (by omega) (by omega) (by omega) ?_
  intro t w2 hr2 htl htc hta2 f2 z2
  rw [made_one (.int .i64 0) rfl] at hr2
  have htb : t.blk = some w1.heap.size := by simp [Sl.blk, hta2]
  have e0 : List.replicate (((s.l : Nat) : Int).toNat * 1) (Value.int .i64 0) = iv (lvF (gOf ps) ((srow (gOf ps)).take 0)) := by simp [iv, hl, lvF, hgl]
  rw [e0] at hr2
  refine ⟨fun n x w' => ∃ i : Nat, x = (i : Int) ∧ i ≤ ta.l ∧ n = ta.l - i ∧ Row w' t 3 1 (iv (lvF (gOf ps) ((srow (gOf ps)).take i))) ∧ Bnd (lvF (gOf ps) ((srow (gOf ps)).take i)) (i * 65536) ∧ Frm none_ w1 w', ta.l, ⟨0, rfl, Nat.zero_le _, by omega, hr2, by simpa [lvF] using bnd0 _, f2⟩, ?_⟩
  rintro n u x w3 ⟨i, rfl, hi, rfl, hr3, hbd, f3⟩
  refine IfB.intro (fun hd => ?_) (fun hd => ?_)
  · have hlt := of_decide_eq_true hd
    obtain ⟨q, z, hq, hz, hld⟩ := has_at (hta.mod f3 (fun _ _ h => h)) (i := i) (by omega)
    obtain ⟨x, rfl, hx⟩ := rowF_mem (List.mem_of_getElem? hz)
    rw [hgl] at hx
    obtain ⟨p, r, hp, hr, hrm, hld2, hh⟩ := (h.mod (f1.n f3)).at (i := x) (by omega)
    have hrl := has_iv hh
    have hgi := hlg hr
    have htm := tot_mem (g := gOf ps) (l := r.2) (by simp only [gOf, List.mem_map]; exact ⟨r, hrm, rfl⟩)
    have ldX : ∀ {w' : World}, Frm none_ w1 w' → Ld w' (p.add ((x : Int).toNat * 1)) (.slice r.1.a r.1.l r.1.c) := by
      intro w' f
      obtain ⟨p2, r2, hp2, hr2, _, hld2, _⟩ := (h.mod (f1.n f)).at (i := x) (by omega)
      rw [hp] at hp2; cases hp2
      rw [hr] at hr2; cases hr2
      rw [Int.toNat_natCast]; exact hld2
    refine ⟨q, hq, by omega, by omega, _, by rw [Int.toNat_natCast]; exact hld, ?_⟩
    refine ⟨fun n x33 w' => ∃ j : Nat, x33 = (j : Int) ∧ j ≤ r.1.l ∧ n = r.1.l - j ∧ Row w' t 3 1 (iv (lvA (gOf ps) (srow (gOf ps)) i x j)) ∧ Bnd (lvA (gOf ps) (srow (gOf ps)) i x j) (i * 65536 + j) ∧ Frm none_ w1 w', r.1.l, ⟨0, rfl, Nat.zero_le _, by omega, by simpa [lvA] using hr3, by simpa [lvA] using hbd, f3⟩, ?_⟩
    rintro n u2 x33 w4 ⟨j, rfl, hj, rfl, hr4, hb4, f4⟩
    have hlvl := lvA_len (gOf ps) (srow (gOf ps)) i x j
    refine ⟨p, hp, by omega, by omega, r.1, ldX f4, IfB.intro (fun he => ?_) (fun he => ?_)⟩
    · have hjl := of_decide_eq_true he
      obtain ⟨q5, z5, hq5, hz5, hld5⟩ := has_at ((h.mod (f1.n f4.drew)).each r hrm) (i := j) (by omega)
      obtain ⟨h0, h1⟩ := hv r hrm z5 (List.mem_of_getElem? hz5)
      obtain ⟨y, rfl⟩ := Int.eq_ofNat_of_zero_le h0
      have hld5 : Ld w4.drew (q5.add ((j : Int).toNat * 1)) (.int .i64 (y : Int)) := by rw [Int.toNat_natCast]; exact hld5
      have hr4d := hr4.drew
      obtain ⟨q6, hq6, htl6, hld6⟩ := row_at hr4d.has (k := x) (by omega)
      obtain ⟨q7, hq7, htl7, hld7⟩ := row_at hr4d.has (k := y) (by omega)
      have hb1 := hb4 x
      have hb2 := hb4 y
      have hnx := lvA_next (g := gOf ps) (row := srow (gOf ps)) (i := i) (x := x) (j := j) (k := (y : Int)) (by rw [hgi]; exact hz5)
      have hbn : Bnd (lvA (gOf ps) (srow (gOf ps)) i x (j + 1)) (i * 65536 + (j + 1)) := by rw [hnx]; exact hb4.stp.mono (by omega)
      refine ⟨p, hp, by omega, by omega, r.1, ldX f4.drew, q5, hq5, by omega, by omega, _, hld5, q7, hq7, by omega, by omega, _, hld7, q6, hq6, by omega, by omega, _, hld6, IfB.intro (fun hf => ?_) (fun hf => ?_)⟩
      · have hf := of_decide_eq_true hf
        obtain ⟨q8, g8, hq8, htl8, hg8, hwr8, hr8, f8⟩ := row_set hr4d (k := x) (by omega) (ge (lvA (gOf ps) (srow (gOf ps)) i x j) y + 1)
        refine ⟨p, hp, by omega, by omega, r.1, ldX f4.drew, q5, hq5, by omega, by omega, _, hld5, q7, hq7, by omega, by omega, _, hld7, q8, hq8, by omega, by omega, hwr8, ?_⟩
        rw [wrap64 (ge (lvA (gOf ps) (srow (gOf ps)) i x j) y + 1) (by omega)]
        rintro w5 rfl
        have est : (lvA (gOf ps) (srow (gOf ps)) i x j).set x (ge (lvA (gOf ps) (srow (gOf ps)) i x j) y + 1) = lvA (gOf ps) (srow (gOf ps)) i x (j + 1) := by
          rw [hnx]
          unfold stp
          rw [Int.toNat_natCast, if_pos hf]
        rw [est] at hr8
        rw [htb] at hg8
        exact ⟨r.1.l - (j + 1), by omega, j + 1, by rw [wrap64 _ (by omega)]; omega, by omega, rfl, hr8, hbn, f4.drew.b f8 (by simp at hg8; omega)⟩
      · have hf := of_decide_eq_false hf
        have est : lvA (gOf ps) (srow (gOf ps)) i x j = lvA (gOf ps) (srow (gOf ps)) i x (j + 1) := by
          rw [hnx]
          unfold stp
          rw [Int.toNat_natCast, if_neg hf]
        exact ⟨r.1.l - (j + 1), by omega, j + 1, by rw [wrap64 _ (by omega)]; omega, by omega, rfl, by rw [← est]; exact hr4d, hbn, f4.drew⟩
    · have hjg := of_decide_eq_false he
      have hend := lvA_end (g := gOf ps) (j := j) hz (by rw [hgi]; omega)
      rw [hend] at hr4 hb4
      exact ⟨ta.l - (i + 1), by omega, i + 1, by rw [wrap64 _ (by omega)]; omega, by omega, rfl, hr4, hb4.mono (by omega), f4⟩
  · have hge := of_decide_eq_false hd
    have hfull : (srow (gOf ps)).take i = srow (gOf ps) := List.take_of_length_le (by omega)
    rw [hfull] at hr3
    exact ⟨t, by rw [hc], by rw [e2]; exact hr3.has, f1.n f3⟩
theorem sorts_calls (w : World) (s : Sl) (ps : List (Sl × List Int)) (h : Gw w s ps) (hok : PsOk s ps) : Calls prog 4 #[.slice s.a s.l s.c] w fun e w' => e = .returned (.bool true) ∧ Frm none_ w w' := by
  refine callsRet (W4 (Q := fun v w' => v = .bool true ∧ Frm none_ w w') ?_) (fun v w' ⟨h, h'⟩ => ⟨by rw [h], h'⟩)
  unfold F4
  have hl := h.len
  refine (large_calls w s ps 30 (by decide) h hok.1 hok.2).mono ?_
  rintro _ _ ⟨b, rfl, hb, rfl⟩
  refine ⟨_, rfl, IfB.intro (fun _ => ⟨rfl, Frm.refl _ _⟩) (fun hbf => ?_)⟩
  obtain ⟨h20, h200⟩ := hb hbf
  have hsm := small_of (by decide) h20 h200
  refine (copied_calls w s ps h hsm).mono ?_
  rintro _ w1 ⟨t, qs, rfl, hq, hgq, f1⟩
  have hql : qs.length = ps.length := by have := congrArg List.length hgq; rwa [gOf_len, gOf_len] at this
  have hsmq : Small qs := small_of (m := 30) (by decide) (by omega) (by rw [hgq]; omega)
  refine ⟨t, rfl, (sort_calls w1 t qs hq hsmq (by rw [hgq]; omega)).mono ?_⟩
  rintro _ w2 ⟨ta, rfl, hta, f2⟩
  rw [hgq] at hta ⊢
  have f12 := f1.n f2
  refine ⟨ta, _, rfl, (Sort_calls w2 s ps (h.mod f12) hsm (by omega)).mono ?_⟩
  rintro _ w3 ⟨tb, rfl, htb, f3⟩
  have f13 := f12.n f3
  refine ⟨tb, _, rfl, (levels_calls w3 t qs (hq.mod (f2.n f3)) hsmq (by rw [hgq]; omega)).mono ?_⟩
  rintro _ w4 ⟨tc, rfl, htc, f4⟩
  rw [hgq] at htc ⊢
  have f14 := f13.n f4
  refine ⟨tc, _, rfl, (Levels_calls w4 s ps (h.mod f14) hsm (by omega)).mono ?_⟩
  rintro _ w5 ⟨td, rfl, htd, f5⟩
  have f35 := f3.n (f4.n f5)
  have hsl : (sortL (gOf ps)).length ≤ ps.length := by
    by_cases e : sortC (gOf ps) = 0
    · rw [(sortL_good e).2.2.1]
      have := rowF_mis (gOf ps) (gOf ps).length
      have e : srow (gOf ps) = rowF (gOf ps) (gOf ps).length := rfl
      rw [gOf_len] at this
      rw [e, gOf_len]; omega
    · rw [(sortL_bad e).1]; simp
  have hll : (levL (gOf ps)).length ≤ ps.length := by
    by_cases e : sortC (gOf ps) = 0
    · rw [(sortL_good e).2.2.2, lvF_len, gOf_len]; omega
    · rw [(sortL_bad e).2]; simp
  refine ⟨td, _, rfl, IfB.t (beq_self_eq_true _) (IfB.t (beq_self_eq_true _) ((ints_calls w5 ta tb _ _ (hta.mod f35 (fun _ _ h => h)) (htb.mod (f4.n f5) (fun _ _ h => h)) (by rw [has_iv hta]; omega)).mono ?_))⟩
  rintro _ w6 ⟨c6, rfl, hc6, f6⟩
  obtain rfl : c6 = true := hc6.2 rfl
  refine ⟨_, rfl, IfB.t rfl ((ints_calls w6 tc td _ _ (htc.mod (f5.n f6) (fun _ _ h => h)) (htd.mod f6 (fun _ _ h => h)) (by rw [has_iv htc]; omega)).mono ?_)⟩
  rintro _ w7 ⟨c7, rfl, hc7, f7⟩
  obtain rfl : c7 = true := hc7.2 rfl
  have f57 := f5.n (f6.n f7)
  refine ⟨_, rfl, IfB.t rfl ((same_calls w7 t s qs ps (hq.mod (f2.n (f3.n (f4.n f57)))) (h.mod (f14.n f57)) hgq (by have := hq.len; omega) (fun p hp => by have := hsmq.each p hp; omega)).mono ?_)⟩
  rintro _ w8 ⟨rfl, f8⟩
  exact ⟨_, rfl, rfl, f14.n (f57.n f8)⟩
theorem sorts_law (W : World) (s : Sl) (ps : List (Sl × List Int)) (h : Gw W s ps ∧ PsOk s ps) : Calls prog 4 #[.slice s.a s.l s.c] W fun e w' => e = .returned (.bool true) ∧ Frm none_ W w' := sorts_calls W s ps h.1 h.2
end Go.Proofs.Ytjpcbggodhfabaa
