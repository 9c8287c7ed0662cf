/- returned, walked. -/
import Derived.Test.YthgeacnemojjgaaRs
set_option linter.unusedVariables false
set_option linter.unusedSimpArgs false
set_option maxRecDepth 20000
namespace Go.Proofs.Ythgeacnemojjgaa
open Go Go.Proofs.YthgeacnemojjgaaV
/-- How what was and what is stand to each other. -/
structure RT (A B : List Pj) (b : Nat) : Prop where
  len : A.length = B.length
  okA : OkM A
  okB : OkM B
  each : ∀ (i : Nat) (p p' : Pj), A[i]? = some p → B[i]? = some p' → p'.n = p.n ∧ p'.sh = p.sh ∧ p.had ≤ p'.had ∧ ((p'.wt = false ∨ p.wt = true) → p'.had = p.had)
  told : ∃ pb : Pj, B[b]? = some pb ∧ pb.wt = true ∧ ∀ (i : Nat) (r : Pj), B[i]? = some r → r.wt = true → bel r pb = false
  none : lst (fun i p' => p'.wt && ((A[i]?).map (·.wt)).getD false) B B.length = none → ∀ (i : Nat) (p p' : Pj), A[i]? = some p → B[i]? = some p' → p'.wt = true → p'.had = p.had
  some : ∀ (m : Nat) (q : Pj), lst (fun i p' => p'.wt && ((A[i]?).map (·.wt)).getD false) B B.length = some m → B[m]? = some q → ∀ (i : Nat) (r : Pj), B[i]? = some r → r.wt = true → bel r q = false ∨ r.had = 2147483647
theorem returned_calls (w : World) (s t : Sl) (A B : List Pj) (b : Nat) (q : ByteArray) (hs : Has w s 4 (qv A)) (ht : Has w t 4 (qv B)) (R : RT A B b) (hq : ∃ pb : Pj, B[b]? = some pb ∧ pb.n = q) : Calls prog 36 #[.slice s.a s.l s.c, .slice t.a t.l t.c, .string q] w fun e w' => e = .returned (.bool true) ∧ Frm none_ w w' := by
  refine callsRet (W36 (x0 := s) (x1 := t) (x2 := q) (Q := fun v w' => v = .bool true ∧ Frm none_ w w') ?_) (fun v w' ⟨h, h'⟩ => ⟨by rw [h], h'⟩)
  have h1 := seen_len hs
  have h2 := seen_len ht
  have hlen := R.len
  have hB4 := R.okB.n
  obtain ⟨pb, hpb, hpn⟩ := hq
  have hbl := (List.getElem?_eq_some_iff.1 hpb).1
  obtain ⟨f, hf⟩ : ∃ f : Nat → Pj → Bool, f = fun i p' => p'.wt && ((A[i]?).map (·.wt)).getD false := ⟨_, rfl⟩
  have rnone := R.none
  have rsome := R.some
  rw [← hf] at rnone rsome
  unfold F36
  refine IfB.f (by rw [h1, h2, hlen]; simp) ⟨fun n x7 x8 i V => ∃ j : Nat, i = (j : Int) ∧ j ≤ B.length ∧ n = B.length - j ∧ x7 = lstI (lst f B j) ∧ x8 = (if b < j then (b : Int) else -1) ∧ Frm none_ w V, B.length, ⟨0, rfl, by omega, rfl, rfl, rfl, Frm.refl _ _⟩, ?_⟩
  rintro n u x7 x8 i V ⟨j, rfl, hj, rfl, rfl, rfl, fV⟩
  refine IfB.dec (fun hlt => ?_) (fun hge => ?_)
  · have hjl : j < B.length := by omega
    obtain ⟨p', hp'⟩ : ∃ p', B[j]? = some p' := ⟨_, List.getElem?_eq_getElem hjl⟩
    obtain ⟨p, hp⟩ : ∃ p, A[j]? = some p := ⟨_, List.getElem?_eq_getElem (by omega)⟩
    obtain ⟨c1, c2, c3, c4⟩ := R.each j p p' hp hp'
    have rdB : ∀ V', Frm none_ w V' → ∃ g, t.a = some g ∧ LdA V' (g.add ((j : Int).toNat * 4)) 4 (qc p').toArray ∧ ∀ c v, (qc p')[c]? = some v → Ld V' ((g.add ((j : Int).toNat * 4)).add c) v := fun V' hf => by
      obtain ⟨g, hg, _, hA, hL⟩ := seen_at (ht.mod hf (fun _ _ h => h)) hp'
      exact ⟨g, hg, hA, hL⟩
    have rdA : ∀ V', Frm none_ w V' → ∃ g, s.a = some g ∧ ∀ c v, (qc p)[c]? = some v → Ld V' ((g.add ((j : Int).toNat * 4)).add c) v := fun V' hf => by
      obtain ⟨g, hg, _, hA, hL⟩ := seen_at (hs.mod hf (fun _ _ h => h)) hp
      exact ⟨g, hg, hL⟩
    have fd := fV.drew
    obtain ⟨gB, hgB, hBA, hBL⟩ := rdB V.drew fd
    obtain ⟨gA, hgA, hAL⟩ := rdA V.drew fd
    have hb0 : (0 : Int) ≤ (j : Int) := by omega
    have hbB : (j : Int) < ((t.l : Nat) : Int) := by omega
    have hbA : (j : Int) < ((s.l : Nat) : Int) := by omega
    have hfj : f j p' = (p'.wt && p.wt) := by rw [hf]; simp [hp]
    refine ⟨fun c V' => c = false ∧ V' = V.drew, ⟨gB, hgB, hb0, hbB, p'.n, hBL 0 _ rfl, gA, hgA, hb0, hbA, p.n, hAL 0 _ rfl, IfB.f (by rw [c1]; exact nb _) ⟨gB, hgB, hb0, hbB, p'.sh, hBL 1 _ rfl, gA, hgA, hb0, hbA, p.sh, hAL 1 _ rfl, IfB.f (by rw [c2]; simp) ⟨gB, hgB, hb0, hbB, p'.had, hBL 2 _ rfl, gA, hgA, hb0, hbA, p.had, hAL 2 _ rfl, IfB.df (by omega) ⟨gB, hgB, hb0, hbB, p'.wt, hBL 3 _ rfl, IfB.intro (fun hw => ?_) (fun hw => ?_)⟩⟩⟩⟩, ?_⟩
    · have hw : p'.wt = false := by simpa using hw
      exact ⟨gB, hgB, hb0, hbB, p'.had, hBL 2 _ rfl, gA, hgA, hb0, hbA, p.had, hAL 2 _ rfl, by rw [c4 (.inl hw)]; simp, rfl⟩
    · exact ⟨gA, hgA, hb0, hbA, p.wt, hAL 3 _ rfl, IfB.intro (fun hw2 => ⟨gB, hgB, hb0, hbB, p'.had, hBL 2 _ rfl, gA, hgA, hb0, hbA, p.had, hAL 2 _ rfl, by rw [c4 (.inr hw2)]; simp, rfl⟩) (fun hw2 => ⟨rfl, rfl⟩)⟩
    rintro u1 c V1 ⟨rfl, e⟩
    subst e
    have fdd := fd.drew
    obtain ⟨gB2, hgB2, hBA2, hBL2⟩ := rdB V.drew.drew fdd
    obtain ⟨gA2, hgA2, hAL2⟩ := rdA V.drew.drew fdd
    have stepN : (p'.wt && p.wt) = false → lst f B (j + 1) = lst f B j := fun h => by
      rw [lst, hp']; simp only [hfj, h]; rfl
    have stepY : (p'.wt && p.wt) = true → lst f B (j + 1) = match lst f B j with
        | .none => some j
        | some b => match B[b]? with
          | some q => if bel p' q then some j else some b
          | .none => some b := fun h => by rw [lst, hp']; simp only [hfj, h]; rfl
    refine IfB.f rfl ⟨fun c V' => Frm none_ w V' ∧ lst f B (j + 1) = (if c then some j else lst f B j), ?_, ?_⟩
    · refine ⟨fun V' => V' = V.drew.drew, rfl, gB2, hgB2, hb0, hbB, p'.wt, fun V' e => by subst e; exact hBL2 3 _ rfl, IfB.intro (fun hw => ⟨gA2, hgA2, hb0, hbA, p.wt, fun V' e => by subst e; exact hAL2 3 _ rfl, IfB.intro (fun hw2 => ?_) (fun hw2 => ⟨fdd, stepN (by rw [hw2]; simp)⟩)⟩) (fun hw => ⟨fdd, stepN (by rw [hw]; rfl)⟩)⟩
      have hy := stepY (by rw [hw, hw2]; rfl)
      cases hl : lst f B j with
      | none =>
        rw [hl] at hy
        exact IfB.t rfl ⟨fdd, hy⟩
      | some k =>
        rw [hl] at hy
        obtain ⟨hkj, pk, hpk, _⟩ := lst_lt hl
        simp only [hpk] at hy
        obtain ⟨gk, hgk, _, hkA, _⟩ := seen_at (ht.mod fdd (fun _ _ h => h)) hpk
        rw [hgB2] at hgk; cases hgk
        refine IfB.f (decide_eq_false (by simp only [lstI]; omega)) ⟨gB2, hgB2, hb0, hbB, _, fun V' e => by subst e; exact hBA2, gB2, hgB2, by simp only [lstI]; omega, by simp only [lstI]; omega, _, fun V' e => by subst e; exact hkA, (below_calls V.drew.drew p' pk (R.okB.at hp') (R.okB.at hpk)).mono ?_⟩
        rintro _ V2 ⟨rfl, f2⟩
        exact ⟨_, rfl, fdd.n f2, hy⟩
    rintro u2 c V2 ⟨f2, hc⟩
    obtain ⟨g3, hg3, _, hL3⟩ := rdB V2 f2
    have ew : IntKind.wrap .i64 ((j : Int) + (1 : Int)) = ((j + 1 : Nat) : Int) := by rw [wi _ (by omega)]; omega
    have isb : (p'.n.toList == q.toList) = decide (j = b) := by
      by_cases hjb : j = b
      · subst hjb
        rw [hpb] at hp'; cases hp'
        rw [decide_eq_true rfl, hpn]; exact (str_eqIff _ _).2 rfl
      · rw [decide_eq_false hjb]
        exact beqF (fun e => hjb (R.okB.srt.uniq hp' hpb (by rw [e, hpn])))
    have nxt : ∀ x7 x8 : Int, x7 = lstI (lst f B (j + 1)) → x8 = (if b < j + 1 then (b : Int) else -1) → ∃ n', n' < B.length - j ∧ ∃ j' : Nat, IntKind.wrap .i64 ((j : Int) + (1 : Int)) = (j' : Int) ∧ j' ≤ B.length ∧ n' = B.length - j' ∧ x7 = lstI (lst f B j') ∧ x8 = (if b < j' then (b : Int) else -1) ∧ Frm none_ w V2 := fun x7 x8 e7 e8 => ⟨B.length - (j + 1), by omega, j + 1, ew, by omega, rfl, e7, e8, f2⟩
    refine IfB.intro (fun hct => ⟨g3, hg3, hb0, hbB, p'.n, hL3 0 _ rfl, ?_⟩) (fun hcf => ⟨g3, hg3, hb0, hbB, p'.n, hL3 0 _ rfl, ?_⟩)
    · rw [hct, if_pos rfl] at hc
      rw [isb]
      refine IfB.dec (fun hjb => nxt _ _ (by rw [hc]; rfl) (by subst hjb; rw [if_pos (by omega)])) (fun hjb => nxt _ _ (by rw [hc]; rfl) (by by_cases h : b < j; rw [if_pos h, if_pos (by omega)]; rw [if_neg h, if_neg (by omega)]))
    · rw [hcf, if_neg (by decide)] at hc
      rw [isb]
      refine IfB.dec (fun hjb => nxt _ _ (by rw [hc]) (by subst hjb; rw [if_pos (by omega)])) (fun hjb => nxt _ _ (by rw [hc]) (by by_cases h : b < j; rw [if_pos h, if_pos (by omega)]; rw [if_neg h, if_neg (by omega)]))
  have hjB : j = B.length := by omega
  subst hjB
  rw [if_pos hbl]
  obtain ⟨pb', hpb', htw, htl⟩ := R.told
  rw [hpb] at hpb'; cases hpb'
  obtain ⟨gb, hgb, _, _, hbL⟩ := seen_at (ht.mod fV (fun _ _ h => h)) hpb
  refine ⟨fun c V' => c = false ∧ V' = V, IfB.f (decide_eq_false (by omega)) ⟨gb, hgb, by omega, by omega, true, by rw [← htw]; exact hbL 3 _ rfl, rfl, rfl⟩, ?_⟩
  rintro u1 c V1 ⟨rfl, e⟩
  subst e
  refine IfB.f rfl ⟨fun n i V' => ∃ j : Nat, i = (j : Int) ∧ j ≤ B.length ∧ n = B.length - j ∧ Frm none_ w V', B.length, ⟨0, rfl, by omega, rfl, fV⟩, ?_⟩
  rintro n u2 i V2 ⟨j, rfl, hj2, rfl, f2⟩
  refine IfB.dec (fun hlt => ?_) (fun hge2 => ⟨rfl, f2⟩)
  have hjl : j < B.length := by omega
  obtain ⟨p', hp'⟩ : ∃ p', B[j]? = some p' := ⟨_, List.getElem?_eq_getElem hjl⟩
  obtain ⟨p, hp⟩ : ∃ p, A[j]? = some p := ⟨_, List.getElem?_eq_getElem (by omega)⟩
  obtain ⟨g, hg, _, hA, hL⟩ := seen_at (ht.mod f2 (fun _ _ h => h)) hp'
  have hb0 : (0 : Int) ≤ (j : Int) := by omega
  have hbB : (j : Int) < ((t.l : Nat) : Int) := by omega
  have hbA : (j : Int) < ((s.l : Nat) : Int) := by omega
  have nxt : ∀ V', Frm none_ w V' → ∃ n', n' < B.length - j ∧ ∃ j' : Nat, IntKind.wrap .i64 ((j : Int) + (1 : Int)) = (j' : Int) ∧ j' ≤ B.length ∧ n' = B.length - j' ∧ Frm none_ w V' := fun V' hf => ⟨B.length - (j + 1), by omega, j + 1, by rw [wi _ (by omega)]; omega, by omega, rfl, hf⟩
  refine ⟨g, hg, hb0, hbB, p'.wt, hL 3 _ rfl, IfB.intro (fun _ => nxt V2 f2) (fun hw => ?_)⟩
  have hw : p'.wt = true := by simpa using hw
  have rd : ∀ (k : Nat) (r : Pj), B[k]? = some r → ∀ V', Frm none_ w V' → LdA V' (g.add ((k : Int).toNat * 4)) 4 (qc r).toArray ∧ ∀ c v, (qc r)[c]? = some v → Ld V' ((g.add ((k : Int).toNat * 4)).add c) v := by
    intro k r hr V' hf
    obtain ⟨g', hg', _, hA', hL'⟩ := seen_at (ht.mod hf (fun _ _ h => h)) hr
    rw [hg] at hg'; cases hg'
    exact ⟨hA', hL'⟩
  obtain ⟨gs, hgs, _, _, _⟩ := seen_at (hs.mod f2 (fun _ _ h => h)) hp
  have rdA : ∀ V', Frm none_ w V' → ∀ c v, (qc p)[c]? = some v → Ld V' ((gs.add ((j : Int).toNat * 4)).add c) v := by
    intro V' hf
    obtain ⟨g', hg', _, _, hL'⟩ := seen_at (hs.mod hf (fun _ _ h => h)) hp
    rw [hgs] at hg'; cases hg'
    exact hL'
  refine ⟨fun V' => Frm none_ w V', f2.drew, g, hg, hb0, hbB, _, fun V' hf => (rd j p' hp' V' hf).1, g, hg, by omega, by omega, _, fun V' hf => (rd b pb hpb V' hf).1, (below_calls V2.drew p' pb (R.okB.at hp') (R.okB.at hpb)).mono ?_⟩
  rintro _ V3 ⟨rfl, f3⟩
  have f3' : Frm none_ w V3 := f2.drew.n f3
  refine ⟨_, rfl, fun V' => Frm none_ w V', fun _ h => h, f3', IfB.f (htl j p' hp' hw) ?_⟩
  cases hl : lst f B B.length with
  | none =>
    have he := rnone hl j p p' hp hp' hw
    exact IfB.f rfl (IfB.t rfl ⟨g, hg, hb0, hbB, p'.had, fun V' hf => (rd j p' hp' V' hf).2 2 _ rfl, gs, hgs, hb0, hbA, p.had, fun V' hf => rdA V' hf 2 _ rfl, IfB.f (by rw [he]; simp) (nxt V3 f3')⟩)
  | some m =>
    obtain ⟨hml, pm, hpm, _⟩ := lst_lt hl
    refine IfB.t (decide_eq_true (by simp only [lstI]; omega)) ⟨g, hg, hb0, hbB, _, fun V' hf => (rd j p' hp' V' hf).1, g, hg, by simp only [lstI]; omega, by simp only [lstI]; omega, _, fun V' hf => (rd m pm hpm V' hf).1, (below_calls V3 p' pm (R.okB.at hp') (R.okB.at hpm)).mono ?_⟩
    rintro _ V4 ⟨rfl, f4⟩
    have f4' := f3'.n f4
    have hn7 : ¬ lstI (some m) < 0 := by simp only [lstI]; omega
    refine ⟨_, rfl, fun V' => Frm none_ w V', fun _ h => h, f4', IfB.intro (fun hbel => ?_) (fun _ => IfB.df hn7 (nxt V4 f4'))⟩
    rcases rsome m pm hl hpm j p' hp' hw with h | h
    · rw [h] at hbel; cases hbel
    · exact ⟨g, hg, hb0, hbB, p'.had, fun V' hf => (rd j p' hp' V' hf).2 2 _ rfl, IfB.f (by rw [h]; rfl) (IfB.df hn7 (nxt V4 f4'))⟩
theorem rt_next {M : List Pj} (ok : OkM M) {ws : List ByteArray} {q : ByteArray} {M' : List Pj} (he : nextP ws M = (q, 0, M')) : ∃ b, RT M M' b ∧ ∃ pb : Pj, M'[b]? = some pb ∧ pb.n = q := by
  obtain ⟨G, hG⟩ := lifted_G ok ws
  have okn := nextP_ok ok ws
  -- somebody waits
  obtain ⟨b1, hb1⟩ : ∃ b1, lst (fun _ p => isW ws p) M M.length = some b1 := by
    cases h : lst (fun _ p => isW ws p) M M.length with
    | some b => exact ⟨b, rfl⟩
    | none =>
      unfold nextP at he
      rw [h] at he
      cases he
  obtain ⟨_, p1, hp1, hw1⟩ := lst_lt hb1
  have isG : ∀ p, isW ws (G p) = isW ws p := fun p => by unfold isW; rw [hG.n]
  obtain ⟨b, p, hpb, hfp, hn, hle⟩ := nextP_told ok (ws := ws) hp1 hw1 ⟨G p1, by rw [hG.eq, List.getElem?_map, hp1]; rfl, by rw [isG]; exact hw1⟩
  rw [he] at hn okn
  cases hn
  have okL := lifted_ok ok ws
  have bw : ∀ p q, bel (wtf ws p) (wtf ws q) = bel p q := fun _ _ => rfl
  have getB : ∀ {i : Nat} {p' : Pj}, ((lifted ws M).map (wtf ws))[i]? = some p' → ∃ p, M[i]? = some p ∧ p' = wtf ws (G p) := by
    intro i p' h
    rw [List.getElem?_map, hG.eq, List.getElem?_map] at h
    cases hm : M[i]? with
    | none => rw [hm] at h; cases h
    | some p => rw [hm] at h; simp only [Option.map_some, Option.some.injEq] at h; exact ⟨p, rfl, h.symm⟩
  have putB : ∀ {i : Nat} {p : Pj}, M[i]? = some p → ((lifted ws M).map (wtf ws))[i]? = some (wtf ws (G p)) := by
    intro i p h
    rw [List.getElem?_map, hG.eq, List.getElem?_map, h]; rfl
  have okB := okn
  simp only at okB
  refine ⟨b, ⟨by rw [List.length_map, hG.eq, List.length_map], ok, okB, fun i p0 p' h0 h' => ?_, ⟨wtf ws p, by rw [List.getElem?_map, hpb]; rfl, hfp, fun i r hr hw => ?_⟩, fun hno i p0 p' h0 h' hw => ?_, fun m pm hm hpm i r hr hw => ?_⟩, wtf ws p, by rw [List.getElem?_map, hpb]; rfl, rfl⟩
  · obtain ⟨p2, h2, rfl⟩ := getB h'
    rw [h0] at h2; cases h2
    have hmem := List.mem_of_getElem? h0
    refine ⟨hG.n p0, hG.sh p0 hmem, hG.up p0 hmem, fun h => hG.old p0 (h.imp (fun h => by have h : isW ws (G p0) = false := h; rw [isG] at h; exact h) id)⟩
  · obtain ⟨p2, h2, rfl⟩ := getB hr
    rw [bw]
    have hmL : G p2 ∈ lifted ws M := by rw [hG.eq]; exact List.mem_map.2 ⟨p2, List.mem_of_getElem? h2, rfl⟩
    have := hle _ hmL hw
    unfold bel
    exact decide_eq_false (by omega)
  · have hnoM : lst (fun _ p => isW ws p && p.wt) M M.length = none := by
      cases h : lst (fun _ p => isW ws p && p.wt) M M.length with
      | none => rfl
      | some m =>
        obtain ⟨hml, q0, hq0, hqw⟩ := lst_lt h
        have := lst_noneI hno m _ (by rw [List.length_map, hG.eq, List.length_map]; exact hml) (putB hq0)
        simp only [hq0, Option.map_some, Option.getD_some] at this
        have hx : (wtf ws (G q0)).wt = isW ws q0 := isG q0
        rw [hx, hqw] at this; cases this
    obtain ⟨p2, h2, rfl⟩ := getB h'
    rw [h0] at h2; cases h2
    exact hG.none hnoM p0
  · obtain ⟨pm', hpm', hfm, hlm⟩ := lst_leastI okB.each hm
    rw [hpm] at hpm'; cases hpm'
    obtain ⟨p2, h2, rfl⟩ := getB hr
    have hwr : isW ws p2 = true := by rw [← isG]; exact hw
    have hil : i < ((lifted ws M).map (wtf ws)).length := (List.getElem?_eq_some_iff.1 hr).1
    cases hwt : p2.wt with
    | true =>
      left
      have := hlm i _ hil hr (by simp only [h2, Option.map_some, Option.getD_some, hwt, hw]; rfl)
      unfold bel
      exact decide_eq_false (by omega)
    | false =>
      -- the least of the old
      obtain ⟨pp, hpp, hppe⟩ := getB hpm
      simp only [hpp, Option.map_some, Option.getD_some, Bool.and_eq_true] at hfm
      have hww : isW ws pp = true := by rw [← isG pp]; rw [hppe] at hfm; exact hfm.1
      obtain ⟨m0, hm0⟩ := lst_some (f := fun p => isW ws p && p.wt) hpp (by rw [hww, hfm.2]; rfl)
      obtain ⟨_, q0, hq0, hq0w⟩ := lst_lt hm0
      simp only [Bool.and_eq_true] at hq0w
      rcases hG.some m0 q0 hm0 hq0 p2 (List.mem_of_getElem? h2) hwr hwt with h | h
      · left
        have l1 := hlm m0 _ (by rw [List.length_map, hG.eq, List.length_map]; exact (List.getElem?_eq_some_iff.1 hq0).1) (putB hq0) (by
          have hx : (wtf ws (G q0)).wt = isW ws q0 := isG q0
          simp only [hq0, Option.map_some, Option.getD_some, hx, hq0w.1, hq0w.2]; rfl)
        have e1 : (wtf ws (G q0)).had = q0.had := hG.old q0 (.inr hq0w.2)
        have e2 : (wtf ws (G q0)).sh = q0.sh := hG.sh q0 (List.mem_of_getElem? hq0)
        rw [e1, e2] at l1
        have h' : ¬ (G p2).had * q0.sh < q0.had * (G p2).sh := of_decide_eq_false h
        have tr := bel_trans (p := pm) (q := q0) (r := wtf ws (G p2)) (okB.at hpm) (ok.at hq0) (okB.at hr) l1 (show q0.had * (G p2).sh ≤ (G p2).had * q0.sh by omega)
        unfold bel
        exact decide_eq_false (by omega)
      · exact .inr h
end Go.Proofs.Ythgeacnemojjgaa
