/- Next, walked. -/
import Derived.Test.YthgeacnemojjgaaNx
set_option linter.unusedVariables false
set_option linter.unusedSimpArgs false
set_option maxRecDepth 20000
namespace Go.Proofs.Ythgeacnemojjgaa
open Go Go.Proofs.YthgeacnemojjgaaV
/-! ### The first so many turned -/
def pref (f : Pj → Pj) (i : Nat) (L : List Pj) : List Pj := (L.take i).map f ++ L.drop i
theorem pref_len (f : Pj → Pj) (i : Nat) (L : List Pj) : (pref f i L).length = L.length := by
  unfold pref; rw [List.length_append, List.length_map, List.length_take, List.length_drop]; omega
theorem pref_zero (f : Pj → Pj) (L : List Pj) : pref f 0 L = L := by simp [pref]
theorem pref_all (f : Pj → Pj) (L : List Pj) : pref f L.length L = L.map f := by simp [pref]
theorem pref_get (f : Pj → Pj) (i : Nat) (L : List Pj) (j : Nat) : (pref f i L)[j]? = if j < i then (L[j]?).map f else L[j]? := by
  unfold pref
  by_cases hil : i ≤ L.length
  · have hl : ((L.take i).map f).length = i := by rw [List.length_map, List.length_take]; omega
    by_cases h : j < i
    · rw [if_pos h, List.getElem?_append_left (by omega), List.getElem?_map, List.getElem?_take, if_pos h]
    · rw [if_neg h, List.getElem?_append_right (by omega), hl, List.getElem?_drop]
      congr 1; omega
  · rw [List.take_of_length_le (by omega), List.drop_of_length_le (by omega), List.append_nil, List.getElem?_map]
    by_cases h : j < i
    · rw [if_pos h]
    · rw [if_neg h, List.getElem?_eq_none (by omega)]; rfl
theorem pref_set {f : Pj → Pj} {i : Nat} {L : List Pj} {p : Pj} (hp : L[i]? = some p) : (pref f i L).set i (f p) = pref f (i + 1) L := by
  have hi := (List.getElem?_eq_some_iff.1 hp).1
  refine List.ext_getElem? fun j => ?_
  rw [List.getElem?_set, pref_get, pref_get, pref_len]
  by_cases h : i = j
  · subst h
    rw [if_pos rfl, if_pos hi, if_pos (by omega), hp]; rfl
  · rw [if_neg h]
    by_cases h2 : j < i
    · rw [if_pos h2, if_pos (by omega)]
    · rw [if_neg h2, if_neg (by omega)]
theorem pref_skip {f : Pj → Pj} {i : Nat} {L : List Pj} {p : Pj} (hp : L[i]? = some p) (hf : f p = p) : pref f i L = pref f (i + 1) L := by
  refine List.ext_getElem? fun j => ?_
  rw [pref_get, pref_get]
  by_cases h : i = j
  · subst h
    rw [if_neg (by omega), if_pos (by omega), hp, Option.map_some, hf]
  · by_cases h2 : j < i
    · rw [if_pos h2, if_pos (by omega)]
    · rw [if_neg h2, if_neg (by omega)]
theorem Shr.ext {w : World} {b : Nat} {s : Sl} {ps : List Nat} {nw nw' : Nat → Bool} {M : List Pj} (h : Shr w b s ps nw M) (he : ∀ j, j < M.length → nw j = nw' j) : Shr w b s ps nw' M :=
  ⟨h.blk, h.row, h.len, h.nd, fun i k p hk hp => by
    rw [← he i (List.getElem?_eq_some_iff.1 hp).1]; exact h.each i k p hk hp⟩
def wtf (ws : List ByteArray) (p : Pj) : Pj := { p with wt := isW ws p }
/-- What now holds, by places. -/
def nwf (ws : List ByteArray) (M : List Pj) (j : Nat) : Bool := match M[j]? with
  | some p => isW ws p
  | none => false
theorem nwf_at {ws : List ByteArray} {M : List Pj} {j : Nat} {p : Pj} (h : M[j]? = some p) : nwf ws M j = isW ws p := by unfold nwf; rw [h]
theorem lst_sel {ws : List ByteArray} {M M' : List Pj} (old fresh : Bool) {g : Pj → Bool} (hM : ∀ (j : Nat) (p : Pj), M'[j]? = some p → ∃ p0 : Pj, M[j]? = some p0 ∧ p0.n = p.n) (hg : ∀ p, g p = (isW ws p && (p.wt && old || !p.wt && fresh))) (n : Nat) :
    lst (fun i p => sel old fresh (nwf ws M i) p) M' n = lst (fun _ p => g p) M' n := by
  refine lst_congr (fun i p hi hp => ?_)
  obtain ⟨p0, hp0, he⟩ := hM i p hp
  have : isW ws p0 = isW ws p := by unfold isW; rw [he]
  rw [hg, nwf_at hp0, this]; rfl
theorem has_modE {F : Nat → Prop} {w w' : World} {x : Sl} {ws : List ByteArray} (h : Has w x 1 (sv ws)) (hm : Frm F w w') (hn : ws ≠ [] → ∀ k, x.blk = some k → ¬ F k) : Has w' x 1 (sv ws) := by
  by_cases he : ws = []
  · subst he
    have := has_sv h
    exact Has.nil _ _ _ (by simpa using this)
  · exact h.mod hm (hn he)
theorem arg_lt {w : World} {x : Sl} {ws : List ByteArray} (h : Has w x 1 (sv ws)) (he : ws ≠ []) : ∀ k, x.blk = some k → k < w.heap.size := by
  intro k hk
  have hl : 0 < (sv ws).length := by
    rw [sv_len]
    exact Nat.pos_of_ne_zero fun h => he (List.eq_nil_of_length_eq_zero h)
  obtain ⟨p, hp, hld⟩ := h.ex hl
  rw [add_zero] at hld
  have hb : p.block = k := by simpa [Sl.blk, hp] using hk
  rw [← hb]
  exact block_lt_of_cell hld
theorem next_calls (w : World) (D : Nat → Prop) (b : Nat) (M : List Pj) (h : Shw w D b M) (ok : OkM M) (x : Sl) (ws : List ByteArray) (hx : Has w x 1 (sv ws)) (hxD : ws ≠ [] → ∀ k, x.blk = some k → ¬ D k) (hws : ws.length ≤ 1000000000000) :
    Calls prog 13 #[.pointer (some ⟨b, 0, none⟩), .slice x.a x.l x.c] w fun e w' => e = .returned (.tuple #[.string (nextP ws M).1, .int .i64 (nextP ws M).2.1]) ∧ Went w D b (nextP ws M).2.2 w' := by
  refine calls_ret (W13 (x0 := some ⟨b, 0, none⟩) (x1 := x) (Q := fun v w' => v = .tuple #[.string (nextP ws M).1, .int .i64 (nextP ws M).2.1] ∧ Went w D b (nextP ws M).2.2 w') ?_) (fun v w' ⟨h, h'⟩ => ⟨by rw [h], h'⟩)
  obtain ⟨s, ps, nw, hS, hD, hDl⟩ := h
  have hn := ok.n
  have hsl := hS.sl
  unfold F13
  -- who waits now
  refine ⟨false, some23 b, IfB.f rfl ⟨_, rfl, s, by rw [addr_add]; exact hS.blk.ld rfl, fun n i W => ∃ (j : Nat) (nw' : Nat → Bool), i = (j : Int) ∧ j ≤ M.length ∧ n = M.length - j ∧ Shr W b s ps nw' M ∧ (∀ a p, a < j → M[a]? = some p → nw' a = isW ws p) ∧ Frm D w W, M.length, ⟨0, nw, rfl, by omega, rfl, hS, by omega, Frm.refl _ _⟩, ?_⟩⟩
  rintro n u i w1 ⟨j, nw', rfl, hj, rfl, hS1, hnw, f1⟩
  refine IfB.dec (fun hlt => ?_) (fun hge => ?_)
  · obtain ⟨p, hp⟩ : ∃ p, M[j]? = some p := ⟨_, List.getElem?_eq_getElem (by omega)⟩
    obtain ⟨q, k, hq, hil, hk, hkm, hld, hB⟩ := hS1.at hp
    refine ⟨q, hq, by omega, by omega, _, hld, _, rfl, p.n, by rw [addr_add]; exact hB.ld rfl, (contains_calls w1 x ws p.n (has_modE hx f1 hxD) hws).mono ?_⟩
    rintro _ w2 ⟨rfl, e⟩
    subst e
    refine ⟨_, rfl, _, rfl, by rw [addr_add]; exact hB.wr (by show 4 < 5; omega), ?_⟩
    rintro w3 rfl
    rw [addr_add]
    have hm : Frm (fun g => g = k) w2 (w2.setCell ⟨k, 0 + 4, none⟩ (.bool (isW ws p))) := mod_setCell (a := ⟨k, 0 + 4, none⟩)
    have hk2 : Blk (w2.setCell ⟨k, 0 + 4, none⟩ (.bool (isW ws p))) k (pc p (isW ws p)) 77 := hB.set (0 + 4) (.bool (isW ws p))
    have hup := hS1.upd hk hp hm hk2
    rw [show M.set j p = M from by
      refine List.ext_getElem? fun a => ?_
      rw [List.getElem?_set]
      split
      · rename_i e; subst e; rw [if_pos (by omega), hp]
      · rfl] at hup
    refine ⟨rfl, M.length - (j + 1), by omega, j + 1, _, by rw [wi _ (by omega)]; omega, by omega, rfl, hup, fun a pa ha hpa => ?_, f1.trans hm (fun _ _ h => h) (fun g _ hg => hD g (by rw [show g = k from hg]; exact .inr (.inr hkm)))⟩
    by_cases haj : a = j
    · subst haj; rw [hp] at hpa; cases hpa; simp
    · simp only [if_neg haj]; exact hnw a pa (by omega) hpa
  -- the first of them
  have hS1 := hS1.ext (nw' := nwf ws M) (fun a ha => by
    obtain ⟨p, hp⟩ : ∃ p, M[a]? = some p := ⟨_, List.getElem?_eq_getElem ha⟩
    rw [nwf_at hp]; exact hnw a p (by omega) hp)
  refine (those_calls w1 b true true).mono ?_
  rintro _ w2 ⟨c1, c2, c3, rfl, k1, k2, k3, f2⟩
  have hS2 := hS1.n f2
  refine ⟨_, rfl, (least_calls w2 c1 c2 c3 b s ps (nwf ws M) M true true hS2 ok k1 k2 k3).mono ?_⟩
  rintro _ w3 ⟨rfl, f3⟩
  have eAll : ∀ (M' : List Pj), (∀ (j : Nat) (p : Pj), M'[j]? = some p → ∃ p0 : Pj, M[j]? = some p0 ∧ p0.n = p.n) → ∀ n, lst (fun i p => sel true true (nwf ws M i) p) M' n = lst (fun _ p => isW ws p) M' n := fun M' hM' n =>
    lst_sel true true hM' (fun p => by cases p.wt <;> simp) n
  have self : ∀ (j : Nat) (p : Pj), M[j]? = some p → ∃ p0 : Pj, M[j]? = some p0 ∧ p0.n = p.n := fun j p hp => ⟨p, hp, rfl⟩
  rw [eAll M self]
  have hS3 := hS2.n f3
  have f13 : Frm D w w3 := f1.trans (f2.n f3) (fun _ _ h => h) (fun _ _ h => h.elim)
  have stay : ∀ {W : World}, Shr W b s ps (nwf ws M) M → Frm D w W → Went w D b M W := fun hS hf => went hf hS (fun g hg => .inl (hD g hg))
  unfold nextP
  cases hb1 : lst (fun _ p => isW ws p) M M.length with
  | none => exact ⟨_, rfl, true, eql74n, IfB.t rfl ⟨rfl, stay hS3 f13⟩⟩
  | some j1 =>
  obtain ⟨hj1, p1, hp1, hp1w⟩ := lst_lt hb1
  obtain ⟨q1, kk1, _, _, hkk1, _, _, _⟩ := hS3.at hp1
  have hpt1 : ptr ps (some j1) = some ⟨kk1, 0, none⟩ := by simp [ptr, hkk1]
  rw [hpt1]
  refine ⟨_, rfl, false, eql74s _, IfB.f rfl ?_⟩
  -- names stay
  have hlnm : ∀ (j : Nat) (p : Pj), (lifted ws M)[j]? = some p → ∃ p0 : Pj, M[j]? = some p0 ∧ p0.n = p.n := by
    intro j p hp
    unfold lifted at hp
    split at hp
    · exact ⟨p, hp, rfl⟩
    · split at hp
      · exact ⟨p, hp, rfl⟩
      · rw [List.getElem?_map, Option.map_eq_some_iff] at hp
        obtain ⟨p0, hp0, rfl⟩ := hp
        refine ⟨p0, hp0, ?_⟩
        split
        · exact (lift_n _ _).symm
        · rfl
  have hll : (lifted ws M).length = M.length := by
    unfold lifted
    split
    · rfl
    · split
      · rfl
      · rw [List.length_map]
  have okl := lifted_ok ok ws
  refine ⟨fun ds x8 W => ∃ b2, lst (fun _ p => isW ws p) (lifted ws M) (lifted ws M).length = some b2 ∧ x8 = ptr ps (some b2) ∧ Shr W b s ps (nwf ws M) (lifted ws M) ∧ Frm D w W ∧ (ds = [] ∨ ∃ g, ds = [g] ∧ MarkR W g ∧ w.heap.size ≤ g ∧ ∀ k, ft b s ps k → k ≠ g), ?_, ?_⟩
  · -- those that waited already
    refine (those_calls w3 b true false).mono ?_
    rintro _ w4 ⟨c1', c2', c3', rfl, k1', k2', k3', f4⟩
    have hS4 := hS3.n f4
    refine ⟨_, rfl, (least_calls w4 c1' c2' c3' b s ps (nwf ws M) M true false hS4 ok k1' k2' k3').mono ?_⟩
    rintro _ w5 ⟨rfl, f5⟩
    rw [lst_sel true false (g := fun p => isW ws p && p.wt) self (fun p => by cases p.wt <;> simp)]
    have hS5 := hS4.n f5
    refine ⟨_, rfl, ?_⟩
    intro b9 w6 hN9
    refine ⟨hN9.blk.wr (by show 0 < 1; omega), ?_⟩
    rintro w7 rfl
    have hS6 := hS5.n (hN9.mod none_)
    have e9 := hN9.2
    have g7 : Frm (fun g => g = b9) w6 (w6.setCell ⟨b9, 0, none⟩ (.pointer (ptr ps (lst (fun _ p => isW ws p && p.wt) M M.length)))) := mod_setCell (a := ⟨b9, 0, none⟩)
    have k9 : Blk (w6.setCell ⟨b9, 0, none⟩ (.pointer (ptr ps (lst (fun _ p => isW ws p && p.wt) M M.length)))) b9 #[.pointer (ptr ps (lst (fun _ p => isW ws p && p.wt) M M.length))] 74 := hN9.blk.set 0 _
    have z56 := hN9.size
    have hS7 := hS6.mod g7 (fun g hg e => by have := hS5.lt g hg; have e : g = b9 := e; omega)
    have f35 : Frm none_ w3 w5 := f4.n f5
    have f37 : Frm none_ w3 (w6.setCell ⟨b9, 0, none⟩ (.pointer (ptr ps (lst (fun _ p => isW ws p && p.wt) M M.length)))) := (f35.n (hN9.mod none_)).b g7 (by have := f35.size; omega)
    have f17 : Frm D w (w6.setCell ⟨b9, 0, none⟩ (.pointer (ptr ps (lst (fun _ p => isW ws p && p.wt) M M.length)))) := f13.trans f37 (fun _ _ h => h) (fun _ _ h => h.elim)
    have z67 := g7.size
    generalize hw7 : w6.setCell ⟨b9, 0, none⟩ (.pointer (ptr ps (lst (fun _ p => isW ws p && p.wt) M M.length))) = w7 at *
    refine ⟨_, k9.ld rfl, ?_⟩
    have hwb9 : w.heap.size ≤ b9 := by have := f13.size; have := f35.size; omega
    cases hm : lst (fun _ p => isW ws p && p.wt) M M.length with
    | none =>
      have hle : lifted ws M = M := by unfold lifted; rw [hm]
      refine ⟨false, neq74n, IfB.f rfl ⟨j1, by rw [hle]; exact hb1, hpt1.symm, by rw [hle]; exact hS7, f17, .inl rfl⟩⟩
    | some m =>
      obtain ⟨hml, q, hq, hqw⟩ := lst_lt hm
      have hqw1 : isW ws q = true := by simp only [Bool.and_eq_true] at hqw; exact hqw.1
      have hqw2 : q.wt = true := by simp only [Bool.and_eq_true] at hqw; exact hqw.2
      obtain ⟨_, km, _, _, hkm, hkmm, _, _⟩ := hS7.at hq
      have hptm : ptr ps (some m) = some ⟨km, 0, none⟩ := by simp [ptr, hkm]
      rw [hm, hptm] at k9
      have okq := ok.at hq
      obtain ⟨g, hg⟩ : ∃ g : Pj → Pj, g = fun p => if isW ws p && !p.wt then lift q p else p := ⟨_, rfl⟩
      have gn : ∀ p, (g p).n = p.n := fun p => by rw [hg]; simp only; split; exact lift_n _ _; rfl
      have gw : ∀ p, (g p).wt = p.wt := fun p => by rw [hg]; simp only; split; (unfold lift; split <;> rfl); rfl
      have hle : lifted ws M = M.map g := by unfold lifted; rw [hm]; simp only [hq]; rw [hg]
      rw [hptm]
      refine ⟨true, neq74s _, IfB.t rfl ((those_calls w7 b false true).mono ?_)⟩
      rintro _ w8 ⟨c1'', c2'', c3'', rfl, k1'', k2'', k3'', f8⟩
      refine ⟨_, rfl, ?_⟩
      intro DD l rec w9 hDD hl z9 f9 hmk hrc hY
      have f79 : Frm none_ w7 w9 := f8.n f9
      have z8 := f8.size
      have hwl : w.heap.size ≤ DD := by have := f17.size; omega
      -- the rounds
      have hS9 := hS7.n f79
      have hdis : ∀ k, ft b s ps k → k ≠ l ∧ k ≠ DD ∧ k ≠ b9 ∧ k ≠ c2'' ∧ k ≠ c3'' := by
        intro k hk
        have h1 := hS7.lt k hk
        have h5 := hS5.lt k hk
        have hS8 := hS7.n f8
        refine ⟨by omega, by omega, by omega, ?_, ?_⟩
        · rcases hk with rfl | hk | hk
          · exact blk_ne hS8.blk k2'' (by decide)
          · rintro rfl; exact hS8.row.g.blkNeB k2''.g (by decide) hk
          · obtain ⟨_, _, _, _, hB⟩ := hS8.mem hk
            exact blk_ne hB k2'' (by decide)
        · rcases hk with rfl | hk | hk
          · exact blk_ne hS8.blk k3'' (by decide)
          · rintro rfl; exact hS8.row.g.blkNeB k3''.g (by decide) hk
          · obtain ⟨_, _, _, _, hB⟩ := hS8.mem hk
            exact blk_ne hB k3'' (by decide)
      have hc2l := k2''.lt
      have hc3l := k3''.lt
      have hit := those_iter l w9 c1'' c2'' c3'' b s ps (nwf ws M) M false true (fun i W => Shr W b s ps (nwf ws M) (pref g i M) ∧ Blk W c2'' #[.bool false] 4 ∧ Blk W c3'' #[.bool true] 4 ∧ Blk W b9 #[.pointer (some ⟨km, 0, none⟩)] 74 ∧ RecR W l rec .ready none ∧ MarkR W DD ∧ Frm D w W) ((k1''.mod f9 (fun h => h)).ld rfl) hS9 (by omega) ?_ ⟨by rw [pref_zero]; exact hS9, k2''.mod f9 (fun h => h), k3''.mod f9 (fun h => h), k9.mod f79 (fun h => h), hrc, hmk, f17.trans f79 (fun _ _ h => h) (fun _ _ h => h.elim)⟩ ?_ ?_
      rotate_left 1
      · rintro i W ⟨hSW, j2, j3, _⟩
        refine ⟨j2.ld rfl, j3.ld rfl, hSW.row.has, fun j k p hk hp => ?_⟩
        have hp' : ∃ p', (pref g i M)[j]? = some p' ∧ p'.wt = p.wt := by
          rw [pref_get, hp]
          split
          · exact ⟨_, rfl, gw p⟩
          · exact ⟨_, rfl, rfl⟩
        obtain ⟨p', hp', hw'⟩ := hp'
        have hB := hSW.each j k p' hk hp'
        exact ⟨hB.ld (by show some (Value.bool p'.wt) = _; rw [hw']), hB.ld rfl⟩
      · rintro i W p ⟨hSW, hrest⟩ hp hsel
        rw [nwf_at hp] at hsel
        refine ⟨?_, hrest⟩
        rw [← pref_skip hp]
        · exact hSW
        · rw [hg]
          simp only
          rw [if_neg]
          intro h
          simp only [sel] at hsel
          simp at hsel h
          rw [hsel h.1] at h
          exact absurd h.2 (by decide)
      · rintro i W p k R ⟨hSW, j2, j3, j9, jr, jm, jf⟩ hp hk hsel hR
        rw [nwf_at hp] at hsel
        have hgp : g p = lift q p := by
          rw [hg]
          simp only
          rw [if_pos]
          simp only [sel] at hsel
          simpa using hsel
        have hkft : ft b s ps k := .inr (.inr (List.mem_of_getElem? hk))
        refine hY W (some ⟨k, 0, none⟩) R jr ⟨jr, ?_⟩
        intro W7 g7' zz7 rec7
        have hSl : Shr W7 b s ps (nwf ws M) (pref g i M) := hSW.mod g7' (fun k hk e => (hdis k hk).1 e)
        have n9 : b9 ≠ l := by omega
        have n2 : c2'' ≠ l := by omega
        have n3 : c3'' ≠ l := by omega
        have nD : DD ≠ l := by omega
        have hpi : (pref g i M)[i]? = some p := by rw [pref_get, if_neg (by omega)]; exact hp
        have hqm : (pref g i M)[m]? = some q := by
          rw [pref_get]
          split
          · rw [hq, Option.map_some]
            congr 1
            rw [hg]
            simp only
            rw [if_neg]
            rw [hqw2]; simp
          · exact hq
        have hBp := hSl.each i k p hk hpi
        have hBq := hSl.each m km q hkm hqm
        have okp := ok.at hp
        have j97 := j9.mod g7' n9
        refine ⟨_, j97.ld rfl, (ratio_calls W7 k km p q _ _ hBp hBq okp okq).mono ?_⟩
        rintro _ W8 ⟨rfl, g8, _⟩
        refine ⟨_, rfl, IfB.dec (fun hneg => ?_) (fun hpos => ?_)⟩
        · have hbel : bel p q = true := by
            unfold bel
            refine decide_eq_true (Classical.byContradiction fun hh => ?_)
            unfold cmpI at hneg
            rw [if_neg hh] at hneg
            split at hneg <;> omega
          have j98 := (j97.mod g8 (fun h => h)).drew
          have hBp8 : Blk W8.drew k _ 77 := hBp.mod g8.drew (fun h => h)
          have hBq8 : Blk W8.drew km _ 77 := hBq.mod g8.drew (fun h => h)
          refine ⟨fun w' => w' = W8.drew, rfl, _, fun w' e => by subst e; exact j98.ld rfl, _, rfl, q.had, fun w' e => by subst e; rw [addr_add]; exact hBq8.ld rfl, _, fun w' e => by subst e; exact j98.ld rfl, _, rfl, q.sh, fun w' e => by subst e; rw [addr_add]; exact hBq8.ld rfl, _, rfl, p.sh, fun w' e => by subst e; rw [addr_add]; exact hBp8.ld rfl, (scaled_calls W8.drew q.had q.sh p.sh ⟨okq.h1, okq.h2⟩ ⟨okq.s1, okq.s2⟩ ⟨okp.s1, okp.s2⟩).mono ?_⟩
          rintro _ W9 ⟨rfl, e⟩
          subst e
          refine ⟨_, rfl, _, rfl, by rw [addr_add]; exact hBp8.wr (by show 2 < 5; omega), ?_⟩
          rintro W10 rfl
          rw [addr_add]
          have hmin : (if (2147483647 : Int) < scl q.had q.sh p.sh then (2147483647 : Int) else scl q.had q.sh p.sh) = (g p).had := by
            rw [hgp]; unfold lift; rw [if_pos hbel]; simp only; split <;> omega
          rw [hmin]
          have hgpe : g p = { p with had := (g p).had } := by
            rw [hgp]; unfold lift; rw [if_pos hbel]
          have m10 : Frm (fun g => g = k) W8.drew (W8.drew.setCell ⟨k, 0 + 2, none⟩ (.int .i64 (g p).had)) := mod_setCell (a := ⟨k, 0 + 2, none⟩)
          have hB10 : Blk (W8.drew.setCell ⟨k, 0 + 2, none⟩ (.int .i64 (g p).had)) k (pc (g p) (nwf ws M i)) 77 := by
            have := hBp8.set (0 + 2) (.int .i64 (g p).had)
            rw [hgpe]
            exact this
          have hS8 : Shr W8.drew b s ps (nwf ws M) (pref g i M) := hSl.n (g8.drew)
          have hup := hS8.upd hk hpi m10 hB10
          rw [pref_set hp] at hup
          have hup := hup.ext (nw' := nwf ws M) (fun a _ => by split; rename_i h; rw [h]; rfl)
          obtain ⟨d1, d2, d3, d4, d5⟩ := hdis k hkft
          refine ⟨((rec7.mod g8 (fun h => h)).mod (frm_drew (F := none_) W8) (fun h => h)).mod m10 (Ne.symm d1), fun W11 g11 z11 rec11 => hR W11 ?_⟩
          have gx : Frm (fun g => g = l ∨ g = k) W W11 := ((g7'.trans g8 (H := fun g => g = l ∨ g = k) (fun _ _ h => .inl h) (fun _ _ h => h.elim)).trans (m10.ofDrew) (fun _ _ h => h) (fun _ _ h => .inr h)).trans g11 (fun _ _ h => h) (fun _ _ h => .inl h)
          refine ⟨hup.mod g11 (fun k hk e => (hdis k hk).1 e), j2.mod gx (by rintro (h | h); exact n2 h; exact d4 h.symm), j3.mod gx (by rintro (h | h); exact n3 h; exact d5 h.symm), j9.mod gx (by rintro (h | h); exact n9 h; exact d3 h.symm), rec11, jm.mod gx (by rintro (h | h); exact nD h; exact d2 h.symm), ?_⟩
          refine jf.trans gx (fun _ _ h => h) (fun g hg hh => ?_)
          rcases hh with rfl | rfl
          · omega
          · exact hD _ hkft
        · have hbel : bel p q = false := by
            unfold bel
            refine decide_eq_false fun hh => ?_
            unfold cmpI at hpos
            rw [if_pos hh] at hpos
            omega
          have hgp2 : g p = p := by rw [hgp]; unfold lift; rw [if_neg (by rw [hbel]; decide)]
          refine ⟨rec7.mod g8 (fun h => h), fun W11 g11 z11 rec11 => hR W11 ?_⟩
          have gx : Frm (fun g => g = l) W W11 := (g7'.trans g8 (H := fun g => g = l) (fun _ _ h => h) (fun _ _ h => h.elim)).trans g11 (fun _ _ h => h) (fun _ _ h => h)
          refine ⟨by rw [← pref_skip hp hgp2]; exact hSW.mod gx (fun k hk e => (hdis k hk).1 e), j2.mod gx n2, j3.mod gx n3, j9.mod gx n9, rec11, jm.mod gx nD, jf.trans gx (fun _ _ h => h) (fun g hg hh => ?_)⟩
          have hh : g = l := hh
          omega
      refine (show RangeCall prog (.func (.func 71) #[] #[.pointer (some ⟨c1'', 0, none⟩), .pointer (some ⟨c2'', 0, none⟩), .pointer (some ⟨c3'', 0, none⟩)]) l w9 _ from ?_)
      have hb71 : hasBody prog 71 = true := by kernel_rfl
      unfold RangeCall
      simp only [hb71]
      refine hit.mono ?_
      rintro _ w10 ⟨rfl, hS10, j2, j3, j9, jr, jm, jf⟩
      rw [pref_all, ← hle] at hS10
      refine ⟨_, rfl, .inl ⟨jr, fun w11 g11 z11 => ?_⟩⟩
      have hS11 : Shr w11 b s ps (nwf ws M) (lifted ws M) := hS10.mod g11 (fun k hk e => (hdis k hk).1 e)
      refine (those_calls w11 b true true).mono ?_
      rintro _ w12 ⟨c1, c2, c3, rfl, k1, k2, k3, f12⟩
      refine ⟨_, rfl, (least_calls w12 c1 c2 c3 b s ps (nwf ws M) (lifted ws M) true true (hS11.n f12) okl k1 k2 k3).mono ?_⟩
      rintro _ w13 ⟨rfl, f13'⟩
      rw [eAll (lifted ws M) hlnm]
      -- one of them is the least
      have hex : ∃ b2, lst (fun _ p => isW ws p) (lifted ws M) (lifted ws M).length = some b2 := by
        cases hb2 : lst (fun _ p => isW ws p) (lifted ws M) (lifted ws M).length with
        | some b2 => exact ⟨b2, rfl⟩
        | none =>
          exfalso
          have key : ∀ (L : List Pj) (n i : Nat) (p : Pj), lst (fun _ p => isW ws p) L n = none → i < n → L[i]? = some p → isW ws p = true → False := by
            intro L n
            induction n with
            | zero => intro i p _ hi; omega
            | succ n ih =>
              intro i p hl hi hp hw
              rw [lst] at hl
              by_cases hin : i = n
              · subst hin
                rw [hp] at hl
                simp only [hw, if_true] at hl
                split at hl
                · cases hl
                · split at hl
                  · split at hl <;> cases hl
                  · cases hl
              · refine ih i p ?_ (by omega) hp hw
                split at hl
                · exact hl
                · split at hl
                  · split at hl
                    · cases hl
                    · split at hl
                      · split at hl <;> cases hl
                      · cases hl
                  · exact hl
          obtain ⟨p', hp'⟩ : ∃ p', (lifted ws M)[j1]? = some p' := ⟨_, List.getElem?_eq_getElem (by omega)⟩
          obtain ⟨p0, hp0, hne⟩ := hlnm j1 p' hp'
          rw [hp1] at hp0; cases hp0
          refine key _ _ j1 p' hb2 (by omega) hp' ?_
          unfold isW at hp1w ⊢
          rw [← hne]; exact hp1w
      obtain ⟨b2, hb2⟩ := hex
      rw [hb2]
      have fend : Frm none_ w11 w13 := f12.n f13'
      refine ⟨_, rfl, b2, rfl, rfl, hS11.n fend, ?_, .inr ⟨DD, rfl, (jm.mod g11 (by omega)).mod fend (fun h => h), hwl, fun k hk => (hdis k hk).2.1⟩⟩
      exact (jf.trans g11 (fun _ _ h => h) (fun g hg hh => by have hh : g = l := hh; omega)).trans fend (fun _ _ h => h) (fun _ _ h => h.elim)
  · rintro u ds x8 W ⟨b2, hb2, rfl, hSW, fW, hds⟩
    obtain ⟨hb2l, p2, hp2, _⟩ := lst_lt hb2
    have hsl2 := hSW.sl
    obtain ⟨_, k2, _, _, hk2, _, _, _⟩ := hSW.at hp2
    have hpt2 : ptr ps (some b2) = some ⟨k2, 0, none⟩ := by simp [ptr, hk2]
    rw [hpt2]
    refine ⟨_, rfl, s, by rw [addr_add]; exact hSW.blk.ld rfl, fun n i W => ∃ j : Nat, i = (j : Int) ∧ j ≤ (lifted ws M).length ∧ n = (lifted ws M).length - j ∧ Shr W b s ps (nwf ws M) (pref (wtf ws) j (lifted ws M)) ∧ Frm D w W ∧ (ds = [] ∨ ∃ g, ds = [g] ∧ MarkR W g ∧ w.heap.size ≤ g ∧ ∀ k, ft b s ps k → k ≠ g), (lifted ws M).length, ⟨0, rfl, by omega, rfl, by rw [pref_zero]; exact hSW, fW, hds⟩, ?_⟩
    rintro n u i w1' ⟨j, rfl, hj, rfl, hSj, fj, hdj⟩
    refine IfB.dec (fun hlt => ?_) (fun hge => ?_)
    · obtain ⟨p, hp⟩ : ∃ p, (lifted ws M)[j]? = some p := ⟨_, List.getElem?_eq_getElem (by omega)⟩
      have hpj : (pref (wtf ws) j (lifted ws M))[j]? = some p := by rw [pref_get, if_neg (by omega)]; exact hp
      obtain ⟨q, k, hq, hil, hk, hkm, hld, hB⟩ := hSj.at hpj
      have hnj : nwf ws M j = isW ws p := by
        obtain ⟨p0, hp0, he⟩ := hlnm j p hp
        rw [nwf_at hp0]; unfold isW; rw [he]
      rw [hnj] at hB
      refine ⟨q, hq, by omega, by omega, _, hld, _, rfl, _, by rw [addr_add]; exact hB.ld rfl, _, rfl, by rw [addr_add]; exact hB.wr (by show 3 < 5; omega), ?_⟩
      rintro w3' rfl
      rw [addr_add]
      have hm : Frm (fun g => g = k) w1' (w1'.setCell ⟨k, 0 + 3, none⟩ (.bool (isW ws p))) := mod_setCell (a := ⟨k, 0 + 3, none⟩)
      have hk3 : Blk (w1'.setCell ⟨k, 0 + 3, none⟩ (.bool (isW ws p))) k (pc (wtf ws p) (isW ws p)) 77 := hB.set (0 + 3) (.bool (isW ws p))
      have hup := hSj.upd hk hpj hm hk3
      rw [pref_set hp] at hup
      have hup := hup.ext (nw' := nwf ws M) (fun a _ => by split; rename_i h; rw [h, hnj]; rfl)
      refine ⟨rfl, (lifted ws M).length - (j + 1), by omega, j + 1, by rw [wi _ (by omega)]; omega, by omega, rfl, hup, fj.trans hm (fun _ _ h => h) (fun g _ hg => hD g (by rw [show g = k from hg]; exact .inr (.inr hkm))), ?_⟩
      rcases hdj with h | ⟨g, h1, h2, h3, h4⟩
      · exact .inl h
      · exact .inr ⟨g, h1, h2.mod hm (fun e => h4 k (.inr (.inr hkm)) (show g = k from e).symm), h3, h4⟩
    · have hjl : j = (lifted ws M).length := by omega
      subst hjl
      rw [pref_all] at hSj
      have hp2' : ((lifted ws M).map (wtf ws))[b2]? = some (wtf ws p2) := by rw [List.getElem?_map, hp2]; rfl
      have hB := hSj.each b2 k2 _ hk2 hp2'
      simp only [hb2, hp2, Option.map_some, Option.getD_some]
      refine ⟨_, rfl, p2.n, by rw [addr_add]; exact hB.ld rfl, ?_⟩
      rcases hdj with rfl | ⟨g, rfl, h2, h3, h4⟩
      · exact ⟨rfl, went fj hSj (fun g hg => .inl (hD g hg))⟩
      · refine ⟨h2, fun w' g1 z1 => ⟨rfl, went (fj.trans g1 (fun _ _ h => h) (fun a ha e => by have e : a = g := e; omega)) (hSj.mod g1 (fun k hk e => h4 k hk e)) (fun g hg => .inl (hD g hg))⟩⟩
end Go.Proofs.Ythgeacnemojjgaa
