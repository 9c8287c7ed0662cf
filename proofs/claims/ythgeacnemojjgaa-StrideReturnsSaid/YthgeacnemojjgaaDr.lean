/- The document's projects: At, Name, Set, Drop, Charge, Names, Save. -/
import Derived.Test.YthgeacnemojjgaaSv
import Derived.Test.YthgeacnemojjgaaD
import Derived.Test.YthgeacnemojjgaaT
set_option linter.unusedVariables false
set_option linter.unusedSimpArgs false
set_option maxRecDepth 20000
namespace Go.Proofs.Ythgeacnemojjgaa
open Go Go.Proofs.YthgeacnemojjgaaV
def qc (p : Pj) : List Value := [.string p.n, .int .i64 p.sh, .int .i64 p.had, .bool p.wt]
def qv (M : List Pj) : List Value := M.flatMap qc
theorem qc4 (M : List Pj) : ∀ a ∈ M, (qc a).length = 4 := fun _ _ => rfl
theorem qv_len (M : List Pj) : (qv M).length = M.length * 4 := flatMap_len (qc4 M)
theorem qv_one (M : List Pj) : ∀ u ∈ qv M, u.oneCell' = true := by
  intro u hu
  obtain ⟨p, _, hu⟩ := List.mem_flatMap.1 hu
  simp [qc] at hu
  rcases hu with rfl | rfl | rfl | rfl <;> rfl
theorem qv_snoc (M : List Pj) (p : Pj) : qv M ++ qc p = qv (M ++ [p]) := by simp [qv]
theorem qv_set {c : Nat} {v : Value} {p p' : Pj} (hc : c < 4) (he : (qc p).set c v = qc p') : ∀ {M : List Pj} {i : Nat}, M[i]? = some p → (qv M).set (i * 4 + c) v = qv (M.set i p')
  | [], i, h => by cases h
  | q :: M, 0, h => by
    cases h
    unfold qv
    rw [List.flatMap_cons, List.set_append_left _ _ (by show 0 * 4 + c < 4; omega), Nat.zero_mul, Nat.zero_add, he]
    rfl
  | q :: M, i + 1, h => by
    have ih := qv_set hc he (M := M) (i := i) h
    unfold qv at ih ⊢
    rw [List.flatMap_cons, List.set_append_right _ _ (by show 4 ≤ (i + 1) * 4 + c; omega), show (i + 1) * 4 + c - (qc q).length = i * 4 + c by show (i + 1) * 4 + c - 4 = _; omega, ih]
    rfl
structure Dcr (w : World) (b : Nat) (s : Sl) (M : List Pj) : Prop where
  blk : Blk w b #[.slice s.a s.l s.c] 43
  row : Row w s 50 4 (qv M)
theorem Dcr.mod {F : Nat → Prop} {w w' : World} {b : Nat} {s : Sl} {M : List Pj} (h : Dcr w b s M) (hm : Frm F w w') (h1 : ¬ F b) (h2 : ∀ k, s.blk = some k → ¬ F k) : Dcr w' b s M := ⟨h.blk.mod hm h1, h.row.mod hm h2⟩
theorem Dcr.n {w w' : World} {b : Nat} {s : Sl} {M : List Pj} (h : Dcr w b s M) (hm : Frm none_ w w') : Dcr w' b s M := h.mod hm (fun h => h) (fun _ _ h => h)
theorem Dcr.sl {w : World} {b : Nat} {s : Sl} {M : List Pj} (h : Dcr w b s M) : s.l = M.length := by have := h.row.len; rw [qv_len] at this; omega
theorem Dcr.ld0 {w : World} {b : Nat} {s : Sl} {M : List Pj} (h : Dcr w b s M) : Ld w ((⟨b, 0, none⟩ : Addr).add 0) (.slice s.a s.l s.c) := by rw [addr_add]; exact h.blk.ld rfl
theorem Dcr.at {w : World} {b : Nat} {s : Sl} {M : List Pj} (h : Dcr w b s M) {i : Nat} {p : Pj} (hp : M[i]? = some p) : ∃ q, s.a = some q ∧ i < s.l ∧ LdA w (q.add ((i : Int).toNat * 4)) 4 (qc p).toArray ∧ ∀ c v, (qc p)[c]? = some v → Ld w ((q.add ((i : Int).toNat * 4)).add c) v := by
  have hi := (List.getElem?_eq_some_iff.1 hp).1
  have hsl := h.sl
  have hh := h.row.has
  have key : ∀ c v, (qc p)[c]? = some v → ∃ q, s.a = some q ∧ Ld w ((q.add ((i : Int).toNat * 4)).add c) v := by
    intro c v hv
    have := flatMap_at (qc4 M) hp hv
    obtain ⟨q, hq, hc⟩ := hh.get _ _ this
    exact ⟨q, hq, by rw [Int.toNat_natCast, add_add]; exact hc⟩
  obtain ⟨q, hq, _⟩ := key 0 _ rfl
  have key2 : ∀ c v, (qc p)[c]? = some v → Ld w ((q.add ((i : Int).toNat * 4)).add c) v := by
    intro c v hv
    obtain ⟨q', hq', hc⟩ := key c v hv
    rw [hq] at hq'; cases hq'; exact hc
  exact ⟨q, hq, by omega, ⟨rfl, fun j u hu => key2 j u (by simpa using hu)⟩, key2⟩
theorem Dcr.wr {w : World} {b : Nat} {s : Sl} {M : List Pj} (h : Dcr w b s M) {i c : Nat} {p p' : Pj} {v : Value} (hp : M[i]? = some p) (hc : c < 4) (he : (qc p).set c v = qc p') :
    ∃ q, s.a = some q ∧ i < s.l ∧ Wr w ((q.add ((i : Int).toNat * 4)).add c) ∧ Dcr (w.setCell ((q.add ((i : Int).toNat * 4)).add c) v) b s (M.set i p') ∧ Frm (fun k => s.blk = some k) w (w.setCell ((q.add ((i : Int).toNat * 4)).add c) v) := by
  have hi := (List.getElem?_eq_some_iff.1 hp).1
  have hsl := h.sl
  obtain ⟨g, hg, hw, hs⟩ := h.row.wr (j := i * 4 + c) (by rw [qv_len]; omega)
  have hsb : s.blk = some g := by simp [Sl.blk, hg]
  have ea : ((⟨g, 0, none⟩ : Addr).add ((i : Int).toNat * 4)).add c = ⟨g, i * 4 + c, none⟩ := by rw [addr_add, addr_add, Int.toNat_natCast, Nat.zero_add]
  have hm : Frm (fun k => k = g) w (w.setCell ⟨g, i * 4 + c, none⟩ v) := mod_setCell (a := ⟨g, i * 4 + c, none⟩)
  refine ⟨⟨g, 0, none⟩, hg, by omega, by rw [ea]; exact hw, ?_, ?_⟩
  · rw [ea]
    refine ⟨h.blk.mod hm (fun e => h.row.g.blkNeB h.blk.g (by decide) (by rw [hsb, e])), ?_⟩
    have := hs v
    rw [qv_set hc he hp] at this
    exact this
  · rw [ea]
    exact hm.mono fun k _ hk => by rw [hk, hsb]
/-- A document's projects in memory; D holds its blocks. -/
def Dcw (w : World) (D : Nat → Prop) (b : Nat) (M : List Pj) : Prop := ∃ s, Dcr w b s M ∧ D b ∧ (∀ k, s.blk = some k → D k) ∧ ∀ k, D k → k < w.heap.size
theorem Dcw.mod {F : Nat → Prop} {w w' : World} {D : Nat → Prop} {b : Nat} {M : List Pj} (h : Dcw w D b M) (hm : Frm F w w') (hn : ∀ k, D k → ¬ F k) : Dcw w' D b M := by
  obtain ⟨s, h1, h2, h3, h4⟩ := h
  exact ⟨s, h1.mod hm (hn b h2) (fun k hk => hn k (h3 k hk)), h2, h3, fun k hk => Nat.lt_of_lt_of_le (h4 k hk) hm.size⟩
theorem Dcw.n {w w' : World} {D : Nat → Prop} {b : Nat} {M : List Pj} (h : Dcw w D b M) (hm : Frm none_ w w') : Dcw w' D b M := h.mod hm (fun _ _ h => h)
theorem Dcw.lt {w : World} {D : Nat → Prop} {b : Nat} {M : List Pj} (h : Dcw w D b M) : ∀ k, D k → k < w.heap.size := by obtain ⟨s, _, _, _, h4⟩ := h; exact h4
def WentD (w : World) (D : Nat → Prop) (b : Nat) (M' : List Pj) (w' : World) : Prop := Frm D w w' ∧ ∃ D', Dcw w' D' b M' ∧ ∀ k, D' k → D k ∨ w.heap.size ≤ k
theorem wentD {w w' : World} {D : Nat → Prop} {b : Nat} {s : Sl} {M' : List Pj} (hf : Frm D w w') (h : Dcr w' b s M') (h1 : D b ∨ w.heap.size ≤ b) (h2 : ∀ k, s.blk = some k → D k ∨ w.heap.size ≤ k) : WentD w D b M' w' :=
  ⟨hf, fun k => k = b ∨ s.blk = some k, ⟨s, h, .inl rfl, fun _ h => .inr h, fun k hk => by
    rcases hk with rfl | hk
    · exact h.blk.lt
    · exact h.row.lt k hk⟩, fun k hk => by rcases hk with rfl | hk; exact h1; exact h2 k hk⟩
theorem WentD.same {w w' : World} {D : Nat → Prop} {b : Nat} {M : List Pj} (h : Dcw w D b M) (hf : Frm none_ w w') : WentD w D b M w' := ⟨hf.none, D, h.n hf, fun _ h => .inl h⟩
theorem beqF {a b : ByteArray} (h : a ≠ b) : (a.toList == b.toList) = false := by
  cases h' : (a.toList == b.toList) with
  | true => exact (h ((str_eqIff a b).1 h')).elim
  | false => rfl
def ixI (nm : ByteArray) (M : List Pj) : Int := match ix nm M with
  | some i => (i : Int)
  | none => -1
theorem dAt_calls (w : World) (b : Nat) (s : Sl) (M : List Pj) (h : Dcr w b s M) (hs : Srt M) (hn : M.length ≤ 100000) (nm : ByteArray) : Calls prog 31 #[.pointer (some ⟨b, 0, none⟩), .string nm] w fun e w' => e = .returned (.int .i64 (ixI nm M)) ∧ w' = w := by
  refine calls_ret (W31 (x0 := some ⟨b, 0, none⟩) (x1 := nm) (Q := fun v w' => v = .int .i64 (ixI nm M) ∧ w' = w) ?_) (fun v w' ⟨h, h'⟩ => ⟨by rw [h], h'⟩)
  have hsl := h.sl
  unfold F31
  refine ⟨fun n i W => ∃ j : Nat, i = (j : Int) ∧ j ≤ M.length ∧ n = M.length - j ∧ (∀ k p, k < j → M[k]? = some p → p.n ≠ nm) ∧ W = w, M.length, ⟨0, rfl, by omega, rfl, by omega, rfl⟩, ?_⟩
  rintro n u i w1 ⟨j, rfl, hj, rfl, hall, e⟩
  subst e
  refine ⟨_, rfl, s, h.ld0, IfB.dec (fun hlt => ?_) (fun hge => ?_)⟩
  · obtain ⟨p, hp⟩ : ∃ p, M[j]? = some p := ⟨_, List.getElem?_eq_getElem (by omega)⟩
    obtain ⟨q, hq, hil, _, hld⟩ := h.at hp
    refine ⟨_, rfl, s, h.ld0, q, hq, by omega, by omega, p.n, hld 0 _ rfl, IfB.intro (fun he => ?_) (fun he => ?_)⟩
    · have := (str_eqIff _ _).1 he
      subst this
      exact ⟨by unfold ixI; rw [ix_at hs hp], rfl⟩
    · refine ⟨M.length - (j + 1), by omega, j + 1, by rw [wi _ (by omega)]; omega, by omega, rfl, fun k p' hk hp' => ?_, rfl⟩
      by_cases hkj : k = j
      · subst hkj
        rw [hp] at hp'; cases hp'
        rintro rfl
        rw [(str_eqIff _ _).2 rfl] at he; cases he
      · exact hall k p' (by omega) hp'
  · refine ⟨?_, rfl⟩
    unfold ixI
    cases hi : ix nm M with
    | none => rfl
    | some i =>
      obtain ⟨_, p, hp, he⟩ := ix_some hi
      have := (List.getElem?_eq_some_iff.1 hp).1
      exact (hall i p (by omega) hp he).elim
theorem dName_calls (w : World) (s : ByteArray) : Calls prog 57 #[.string s] w fun e w' => e = .returned (.bool (decide (goodP s))) ∧ w' = w := by
  refine calls_ret (W57 (x0 := s) (Q := fun v w' => v = .bool (decide (goodP s)) ∧ w' = w) ?_) (fun v w' ⟨h, h'⟩ => ⟨by rw [h], h'⟩)
  unfold F57
  refine ⟨fun c W => c = decide (s.size < 1 ∨ 24 < s.size) ∧ W = w, ?_, ?_⟩
  · refine IfB.dec (fun h => ⟨(decide_eq_true (.inl (by omega))).symm, rfl⟩) (fun h => ⟨?_, rfl⟩)
    by_cases h2 : s.size > 24
    · rw [decide_eq_true (by omega), decide_eq_true (.inr h2)]
    · rw [decide_eq_false (by omega), decide_eq_false (by omega)]
  rintro u c w1 ⟨rfl, rfl⟩
  refine IfB.dec (fun hb => ⟨by rw [decide_eq_false]; rintro ⟨h1, h2, _⟩; omega, rfl⟩) (fun hb => ?_)
  refine ⟨fun n x W => ∃ j : Nat, x = (j : Int) ∧ j ≤ s.size ∧ n = s.size - j ∧ W = w1 ∧ (0 < j → 97 ≤ bt s 0 ∧ bt s 0 ≤ 122) ∧ ∀ i, i < j → (97 ≤ bt s (i : Nat) ∧ bt s (i : Nat) ≤ 122) ∨ (48 ≤ bt s (i : Nat) ∧ bt s (i : Nat) ≤ 57) ∨ bt s (i : Nat) = 45 ∨ bt s (i : Nat) = 95, s.size, ⟨0, rfl, by omega, rfl, rfl, by omega, by omega⟩, ?_⟩
  rintro n u1 x w2 ⟨j, rfl, hj, rfl, e, hz, hall⟩
  subst e
  refine IfB.dec (fun hlt => ?_) (fun hge => ?_)
  · refine ⟨fun c W => c = decide (97 ≤ bt s (j : Nat) ∧ bt s (j : Nat) ≤ 122) ∧ W = w2, ⟨by omega, by omega, IfB.dec (fun h1 => ⟨by omega, by omega, ?_, rfl⟩) (fun h1 => ⟨(decide_eq_false (by omega)).symm, rfl⟩)⟩, ?_⟩
    · by_cases h2 : bt s (j : Nat) ≤ 122
      · rw [decide_eq_true h2, decide_eq_true ⟨h1, h2⟩]
      · rw [decide_eq_false h2, decide_eq_false (by omega)]
    rintro u2 c w3 ⟨rfl, e⟩
    subst e
    have dig : ∀ (P : Prop) [Decidable P], (P ↔ ((48 ≤ bt s (j : Nat) ∧ bt s (j : Nat) ≤ 57) ∨ bt s (j : Nat) = 45 ∨ bt s (j : Nat) = 95)) → decide P = decide ((48 ≤ bt s (j : Nat) ∧ bt s (j : Nat) ≤ 57) ∨ bt s (j : Nat) = 45 ∨ bt s (j : Nat) = 95) := fun P _ h => by simp only [h]
    refine ⟨fun c W => c = decide ((48 ≤ bt s (j : Nat) ∧ bt s (j : Nat) ≤ 57) ∨ bt s (j : Nat) = 45 ∨ bt s (j : Nat) = 95) ∧ W = w3, ⟨by omega, by omega, ?_⟩, ?_⟩
    · have rest : ¬ (48 ≤ bt s (j : Nat) ∧ bt s (j : Nat) ≤ 57) → 0 ≤ (j : Int) ∧ (j : Int) < ((s.size : Nat) : Int) ∧ IfB (bt s (j : Int) == (45 : Int)) (true = decide ((48 ≤ bt s (j : Nat) ∧ bt s (j : Nat) ≤ 57) ∨ bt s (j : Nat) = 45 ∨ bt s (j : Nat) = 95) ∧ w3 = w3) (0 ≤ (j : Int) ∧ (j : Int) < ((s.size : Nat) : Int) ∧ (bt s (j : Int) == (95 : Int)) = decide ((48 ≤ bt s (j : Nat) ∧ bt s (j : Nat) ≤ 57) ∨ bt s (j : Nat) = 45 ∨ bt s (j : Nat) = 95) ∧ w3 = w3) := by
        intro hx
        refine ⟨by omega, by omega, IfB.intro (fun h => ⟨(decide_eq_true (.inr (.inl (by simpa using h)))).symm, rfl⟩) (fun h => ⟨by omega, by omega, ?_, rfl⟩)⟩
        have h45 : ¬ bt s (j : Nat) = 45 := by simpa using h
        by_cases h95 : bt s (j : Nat) = 95
        · rw [decide_eq_true (.inr (.inr h95))]; exact beq_iff_eq.2 h95
        · rw [decide_eq_false (by omega)]; exact beq_eq_false_iff_ne.2 h95
      refine IfB.dec (fun h1 => ⟨by omega, by omega, IfB.dec (fun h2 => ⟨(decide_eq_true (.inl ⟨h1, h2⟩)).symm, rfl⟩) (fun h2 => rest (by omega))⟩) (fun h1 => rest (by omega))
    rintro u3 c w4 ⟨rfl, e⟩
    subst e
    have next : ((97 ≤ bt s (j : Nat) ∧ bt s (j : Nat) ≤ 122) ∨ (48 ≤ bt s (j : Nat) ∧ bt s (j : Nat) ≤ 57) ∨ bt s (j : Nat) = 45 ∨ bt s (j : Nat) = 95) → (j = 0 → 97 ≤ bt s 0 ∧ bt s 0 ≤ 122) → ∃ n', n' < s.size - j ∧ ∃ j' : Nat, IntKind.wrap .i64 ((j : Int) + (1 : Int)) = (j' : Int) ∧ j' ≤ s.size ∧ n' = s.size - j' ∧ w4 = w4 ∧ (0 < j' → 97 ≤ bt s 0 ∧ bt s 0 ≤ 122) ∧ ∀ i, i < j' → (97 ≤ bt s (i : Nat) ∧ bt s (i : Nat) ≤ 122) ∨ (48 ≤ bt s (i : Nat) ∧ bt s (i : Nat) ≤ 57) ∨ bt s (i : Nat) = 45 ∨ bt s (i : Nat) = 95 := by
      intro h h0
      refine ⟨s.size - (j + 1), by omega, j + 1, by rw [wi _ (by omega)]; omega, by omega, rfl, rfl, fun _ => ?_, fun i hi => ?_⟩
      · by_cases hj0 : j = 0
        · exact h0 hj0
        · exact hz (by omega)
      · by_cases hij : i = j
        · subst hij; exact h
        · exact hall i (by omega)
    refine IfB.intro (fun hl => ?_) (fun hl => ?_)
    · have hl : ¬ (97 ≤ bt s (j : Nat) ∧ bt s (j : Nat) ≤ 122) := by
        intro hh
        rw [decide_eq_true hh] at hl
        cases hl
      refine IfB.intro (fun h0 => ?_) (fun h0 => IfB.intro (fun ho => ?_) (fun ho => ?_))
      · have h0 : (j : Int) = 0 := by simpa using h0
        have hj0 : j = 0 := by omega
        subst hj0
        refine ⟨?_, rfl⟩
        rw [decide_eq_false]
        rintro ⟨_, _, hg, _⟩
        exact hl hg
      · have ho : ¬ ((48 ≤ bt s (j : Nat) ∧ bt s (j : Nat) ≤ 57) ∨ bt s (j : Nat) = 45 ∨ bt s (j : Nat) = 95) := by
          intro hh
          rw [decide_eq_true hh] at ho
          cases ho
        refine ⟨?_, rfl⟩
        rw [decide_eq_false]
        rintro ⟨_, _, _, hg⟩
        rcases hg j (by omega) with h | h
        · exact hl h
        · exact ho h
      · have ho : ((48 ≤ bt s (j : Nat) ∧ bt s (j : Nat) ≤ 57) ∨ bt s (j : Nat) = 45 ∨ bt s (j : Nat) = 95) := by
          refine Classical.byContradiction fun hh => ?_
          rw [decide_eq_false hh] at ho
          cases ho
        have h0 : ¬ (j : Int) = 0 := by simpa using h0
        exact next (.inr ho) (fun h => by omega)
    · have hl : 97 ≤ bt s (j : Nat) ∧ bt s (j : Nat) ≤ 122 := by
        refine Classical.byContradiction fun hh => ?_
        rw [decide_eq_false hh] at hl
        cases hl
      exact next (.inl hl) (fun h => by subst h; exact hl)
  · refine ⟨?_, rfl⟩
    rw [decide_eq_true]
    exact ⟨by omega, by omega, hz (by omega), fun i hi => hall i (by omega)⟩
theorem dScaled_calls (w : World) (had of sh : Int) (h0 : 0 ≤ had ∧ had ≤ 2147483647) (h1 : 1 ≤ of ∧ of ≤ 1000) (h2 : 1 ≤ sh ∧ sh ≤ 1000) : Calls prog 58 #[.int .i64 had, .int .i64 of, .int .i64 sh] w fun e w' => e = .returned (.int .i64 (scl had of sh)) ∧ w' = w := by
  refine calls_ret (W58 (x0 := had) (x1 := of) (x2 := sh) (Q := fun v w' => v = .int .i64 (scl had of sh) ∧ w' = w) ?_) (fun v w' ⟨h, h'⟩ => ⟨by rw [h], h'⟩)
  unfold F58
  have hp : 0 ≤ had * sh := Int.mul_nonneg h0.1 (by omega)
  have hp2 : had * sh ≤ 2147483647 * 1000 := Int.mul_le_mul h0.2 h2.2 (by omega) (by omega)
  rw [wi (had * sh) (by omega), Int.tdiv_eq_ediv_of_nonneg hp]
  have a1 : 0 ≤ had * sh / of := Int.ediv_nonneg hp (by omega)
  have a2 : had * sh / of ≤ had * sh := Int.ediv_le_self _ hp
  have b1 := Int.mul_ediv_add_emod (had * sh) of
  have b2 := Int.emod_nonneg (had * sh) (show of ≠ 0 by omega)
  have b3 := Int.emod_lt_of_pos (had * sh) (show 0 < of by omega)
  have e : had * sh / of * of = of * (had * sh / of) := Int.mul_comm _ _
  rw [wi (had * sh / of) (by omega), wi (had * sh / of * of) (by omega), wi (had * sh / of + 1) (by omega)]
  refine ⟨by omega, IfB.dec (fun hlt => ⟨?_, rfl⟩) (fun hge => ⟨?_, rfl⟩)⟩
  · have : had * sh / of + 1 = scl had of sh := scl_eq h1.1 (by rw [Int.add_mul, Int.one_mul]; omega) (by rw [Int.add_sub_cancel]; exact hlt)
    rw [this]
  · have : had * sh / of = scl had of sh := scl_eq h1.1 (by omega) (by rw [Int.sub_mul, Int.one_mul]; omega)
    rw [this]
theorem st41 : SlT prog 41 50 4 40 (.agg #[.string (⟨#[]⟩ : ByteArray), .int .i64 0, .int .i64 0, .bool false]) := ⟨by kernel_rfl, by kernel_rfl, rfl, by decide⟩
theorem b50 (nm : ByteArray) (k : Int) : BuildIs prog 50 #[(0, .string nm), (1, .int .i64 k)] (qc ⟨nm, k, 0, false⟩).toArray := fun w => by kernel_rfl
/-- One more, behind a row of projects. -/
theorem app1 {w : World} {x : Sl} {M : List Pj} (p : Pj) (hx : Row w x 50 4 (qv M)) (hn : M.length ≤ 100000) {cs : Array Value} (hcs : cs = (qc p).toArray) {K : Sl → World → Prop} (S : World → Prop)
    (hS : ∀ w1, Frm none_ w w1 → S w1)
    (hk : ∀ t w2, Row w2 t 50 4 (qv (M ++ [p])) → (∀ k, t.blk = some k → x.blk = some k ∨ w.heap.size ≤ k) → Frm (fun k => x.blk = some k) w w2 → K t w2) :
    RunT prog .slice (Instr.buildSlice 41 1 #[(0, .agg cs)]) w fun (t70 : Sl) w1 => S w1 ∧ RunT prog .slice (Builtin.append_ #[41, 41] 41 #[.slice x.a x.l x.c, .slice t70.a t70.l t70.c]) w1 K := by
  subst hcs
  have hxl : x.l = M.length := by have := hx.len; rw [qv_len] at this; omega
  refine runT_lit1 st41 (by decide) rfl ?_
  intro w1 hr1 f1 z1
  refine ⟨hS w1 f1, runT_append st41 (hx.mod f1 (fun _ _ h => h)) hr1.has ?_ (by simp only; omega) (by simp only [maxLen]; omega) ?_⟩
  · intro u hu
    have hu : u ∈ qc p := by simpa [Value.cells] using hu
    exact qv_one [p] u (by simpa [qv] using hu)
  intro t w2 hr2 hl2 hn2 f2
  refine hk t w2 ?_ (fun k hk => ?_) (f1.trans f2 (fun _ _ h => h.elim) (fun _ _ h => h))
  · rw [← qv_snoc]
    simpa [Value.cells] using hr2
  · rcases hn2.cases hk with h | h
    · exact .inl h
    · exact .inr (by omega)
end Go.Proofs.Ythgeacnemojjgaa
