/- What is reached from a thing: reach and users; the document's Below and Above. -/
import Derived.Test.YtjpcbggodhfabaaR
set_option linter.unusedVariables false
set_option linter.unusedSimpArgs false
namespace Go.Proofs.Ytjpcbggodhfabaa
open Go Go.Proofs.YtjpcbggodhfabaaV
def nv (l : List Nat) : List Value := iv (l.map fun k : Nat => (k : Int))
theorem nv_len (l : List Nat) : (nv l).length = l.length := by simp [nv, iv]
/-- Needs that may be: all entries are things. -/
def Valid (ps : List (Sl × List Int)) : Prop := ∀ p ∈ ps, ∀ k ∈ p.2, 0 ≤ k ∧ k < (ps.length : Int)
/-- The loop that lists what is marked. -/
theorem lit_push {w : World} {s : Sl} {l : List Int} (n : Int) (h : Row w s 3 1 (iv l)) (hb : l.length ≤ 1000000) {K : Sl → World → Prop}
    (hk : ∀ s' w', Row w' s' 3 1 (iv (l ++ [n])) → (∀ k, s'.blk = some k → s.blk = some k ∨ w.heap.size ≤ k) → Frm (fun b => s.blk = some b) w w' → K s' w') :
    RunT prog .slice (Instr.buildSlice 25 1 #[(0, .int .i64 n)]) w fun (t : Sl) w1 => RunT prog .slice (Builtin.append_ #[25, 25] 25 #[.slice s.a s.l s.c, .slice t.a t.l t.c]) w1 fun (t' : Sl) w2 => K t' w2 := by
  refine runT_lit1 st25 (by decide) rfl ?_
  intro w1 hr1 f1 z1
  have hl := has_iv h.has
  refine runT_append st25 (h.mod f1 (fun _ _ h => h)) hr1.has (by intro u hu; simp [Value.cells] at hu; subst hu; rfl) (by simp only; omega) (by simp only [maxLen]; omega) ?_
  intro s' w2 hr2 hl2 hn2 f2
  have e : iv l ++ (Value.int .i64 n).cells.toList = iv (l ++ [n]) := by simp [iv, Value.cells]
  rw [e] at hr2
  refine hk s' w2 hr2 (fun k hk => ?_) (f1.trans f2 (fun _ _ h => h.elim) (fun _ _ h => h))
  rcases hn2.cases hk with h | h
  · exact .inl h
  · right; omega
theorem lit_pushG {w : World} {s : Sl} {l : List Int} (n : Int) (h : RowG w s 3 1 (iv l)) (hb : l.length ≤ 1000000) {K : Sl → World → Prop}
    (hk : ∀ s' w', RowG w' s' 3 1 (iv (l ++ [n])) → (∀ k, s'.blk = some k → s.blk = some k ∨ w.heap.size ≤ k) → Frm (fun b => s.blk = some b) w w' → K s' w') :
    RunT prog .slice (Instr.buildSlice 25 1 #[(0, .int .i64 n)]) w fun (t : Sl) w1 => RunT prog .slice (Builtin.append_ #[25, 25] 25 #[.slice s.a s.l s.c, .slice t.a t.l t.c]) w1 fun (t' : Sl) w2 => K t' w2 := by
  refine runT_lit1 st25 (by decide) rfl ?_
  intro w1 hr1 f1 z1
  have hl := has_iv h.has
  refine runT_appendG st25 (h.mod f1 (fun _ _ h => h)) hr1.has (by intro u hu; simp [Value.cells] at hu; subst hu; rfl) (by simp only; omega) (by simp only [maxLen]; omega) ?_
  intro s' w2 hr2 hl2 hn2 f2
  have e : iv l ++ (Value.int .i64 n).cells.toList = iv (l ++ [n]) := by simp [iv, Value.cells]
  rw [e] at hr2
  refine hk s' w2 hr2 (fun k hk => ?_) (f1.trans f2 (fun _ _ h => h.elim) (fun _ _ h => h))
  rcases hn2.cases hk with h | h
  · exact .inl h
  · right; omega
theorem lt_of_some {l : List Bool} {k : Nat} {b : Bool} (h : l[k]? = some b) : k < l.length := (List.getElem?_eq_some_iff.1 h).1
set_option maxRecDepth 20000 in
theorem reach_calls (w : World) (s : Sl) (ps : List (Sl × List Int)) (h : Gw w s ps) (hsm : Small ps) (hv : Valid ps) (i : Nat) (hi : i < ps.length) : Calls prog 24 #[.slice s.a s.l s.c, .int .i64 (i : Int)] w fun e w' =>
    ∃ t, e = .returned (.slice t.a t.l t.c) ∧ Has w' t 1 (iv (below (gOf ps) i)) ∧ Frm none_ w w' := by
  refine callsRet (W24 (Q := fun v w' => ∃ t, v = .slice t.a t.l t.c ∧ Has w' t 1 (iv (below (gOf ps) i)) ∧ Frm none_ w w') ?_) (fun v w' ⟨t, h, h'⟩ => ⟨t, by rw [h], h'⟩)
  unfold F24
  have hl := h.len
  have hsl := hsm.len
  have hgl := gOf_len ps
  refine runT_makeN st47 (by omega) (by omega) (by omega) ?_
  intro t w1 hr1 htl htc hta f1 z1
  rw [made_one (.bool false) rfl] at hr1
  have htb : t.blk = some w.heap.size := by simp [Sl.blk, hta]
  have htl : t.l = s.l := by omega
  have e0 : List.replicate (((s.l : Nat) : Int).toNat * 1) (Value.bool false) = bvs (List.replicate ps.length false) := by simp [bvs, hl]
  rw [e0] at hr1
  refine runT_lit1 st25 (by decide) rfl ?_
  intro w2 hr2 f2 z2
  have e1 : (Value.int .i64 (i : Int)).cells.toList = nv [i] := by simp [nv, iv, Value.cells]
  rw [e1] at hr2
  refine ⟨fun n x6 w' => ∃ (seen : List Bool) (todo : List Nat), n = 2 * seen.count false + todo.length ∧ Dfs (gOf ps) i seen todo (fun _ => False) ∧ Row w' t 4 1 (bvs seen) ∧ RowG w' x6 3 1 (nv todo) ∧ (∀ k, x6.blk = some k → w.heap.size ≤ k) ∧ todo.length ≤ 200000 ∧ 2 * seen.count false + todo.length ≤ 200001 ∧ Frm none_ w w', _, ⟨List.replicate ps.length false, [i], rfl, ?_, hr1.mod f2 (fun _ _ h => h), hr2.g, fun k hk => by simp [Sl.blk] at hk; omega, by simp, by simp; omega, f1.n f2⟩, ?_⟩
  · refine ⟨by rw [List.length_replicate, hgl], ?_, ?_, ?_⟩
    · intro k hk
      rw [List.getElem?_replicate] at hk
      split at hk <;> simp at hk
    · intro k hk; simp at hk; subst hk; exact ⟨by omega, .inl rfl⟩
    · rintro k (rfl | hk)
      · exact .inl (by simp)
      · rw [List.getElem?_replicate] at hk
        split at hk <;> simp at hk
  rintro n u x6 w3 ⟨seen, todo, rfl, hd, hrt, hrx, hx6, htd, hme, f3⟩
  have hxl : x6.l = todo.length := by have := hrx.len; rw [nv_len] at this; omega
  refine IfB.intro (fun hc => ?_) (fun hc => ?_)
  · -- one more thing
    have hgt := of_decide_eq_true hc
    obtain ⟨todo0, x, rfl⟩ : ∃ a b, todo = a ++ [b] := ⟨todo.dropLast, todo.getLast (by intro e; subst e; simp at hxl; omega), (List.dropLast_concat_getLast _).symm⟩
    have hx0 : x6.l = todo0.length + 1 := by rw [hxl]; simp
    obtain ⟨hxg, hxs⟩ := hd.td x (by simp)
    obtain ⟨q6, v, hq6, hv6, hld6⟩ := has_at (l := (todo0 ++ [x]).map fun k : Nat => (k : Int)) hrx.has (i := todo0.length) (by omega)
    have ev : v = (x : Int) := by simpa using hv6.symm
    subst ev
    rw [wrap64 ((x6.l : Int) - 1) (by omega), show ((x6.l : Int) - 1).toNat = todo0.length by omega, slA_zero, Nat.sub_zero]
    have hcl : x6.l ≤ x6.c := by
      rcases hrx.2 with e | ⟨_, _, _, _, hlc, _⟩
      · rw [e]; exact Nat.le_refl _
      · exact hlc
    obtain ⟨q, p, hq, hp, hpm, hld, hh⟩ := (h.mod f3).at (i := x) (by omega)
    have hpl := has_iv hh
    have hpb := hsm.each p hpm
    have hgx := gOf_get hp
    refine ⟨q6, hq6, by omega, by omega, _, hld6, ⟨by omega, by omega⟩, ⟨by omega, by omega⟩, q, hq, by omega, by omega, p.1, by rw [Int.toNat_natCast]; exact hld, ?_⟩
    have hcut := hrx.cut (k := todo0.length) (c := todo0.length) (by omega) (Nat.le_refl _) (by omega)
    have ecut : (nv (todo0 ++ [x])).take (todo0.length * 1) = nv todo0 := by
      have : nv (todo0 ++ [x]) = nv todo0 ++ nv [x] := by simp [nv, iv]
      rw [this, Nat.mul_one, ← nv_len todo0]; exact List.take_left
    rw [ecut] at hcut
    have hd0 : Dfs (gOf ps) i seen todo0 (fun k => k = x) := ⟨hd.len, hd.snd, fun k hk => hd.td k (by simp [hk]), fun k hk => by
      rcases hd.cl k hk with h1 | h1 | h1
      · rcases List.mem_append.1 h1 with h1 | h1
        · exact .inl h1
        · simp at h1; exact .inr (.inl h1)
      · exact h1.elim
      · exact .inr (.inr h1)⟩
    refine ⟨fun n x6' x40 w' => ∃ (j : Nat) (seen' : List Bool) (todo' : List Nat), x40 = (j : Int) ∧ j ≤ p.1.l ∧ n = p.1.l - j ∧ 2 * seen'.count false + todo'.length < 2 * seen.count false + (todo0 ++ [x]).length ∧ Dfs (gOf ps) i seen' todo' (fun k => k = x) ∧ (x = i ∨ seen'[x]? = some true) ∧ (∀ z ∈ p.2.take j, ∀ y : Nat, z = (y : Int) → seen'[y]? = some true) ∧ Row w' t 4 1 (bvs seen') ∧ RowG w' x6' 3 1 (nv todo') ∧ (∀ k, x6'.blk = some k → w.heap.size ≤ k) ∧ Frm none_ w w', p.1.l,
      ⟨0, seen, todo0, rfl, Nat.zero_le _, by omega, by simp, hd0, hxs, by simp, hrt, hcut, fun k hk => hx6 k hk, f3⟩, ?_⟩
    rintro n u1 x6' x40 w4 ⟨j, seen', todo', rfl, hj, rfl, hms, hd', hxs', hsee, hrt', hrx', hx6', f4⟩
    refine IfB.intro (fun hc => ?_) (fun hc => ?_)
    · have hlt := of_decide_eq_true hc
      obtain ⟨q2, k, hq2, hk, hld2⟩ := has_at (((h.mod f4).each p hpm)) (i := j) (by omega)
      obtain ⟨hk0, hk1⟩ := hv p hpm k (List.mem_of_getElem? hk)
      obtain ⟨y, rfl⟩ := Int.eq_ofNat_of_zero_le hk0
      have hyg : y < (gOf ps).length := by omega
      have hys : y < seen'.length := by rw [hd'.len]; exact hyg
      obtain ⟨q3, v3, hq3, hv3, hld3⟩ := hrt'.has.at1 (i := (y : Int)) (by omega) (by omega)
      rw [Int.toNat_natCast] at hv3
      obtain ⟨b3, hb3, rfl⟩ := bvs_get hv3
      have hEx : E (gOf ps) x y := ⟨p.2, hgx, List.mem_of_getElem? hk⟩
      refine ⟨q2, hq2, by omega, by omega, _, by rw [Int.toNat_natCast]; exact hld2, q3, hq3, by omega, by omega, b3, hld3, IfB.intro (fun hb => ?_) (fun hb => ?_)⟩
      · have hb : b3 = false := by simpa using hb
        subst hb
        obtain ⟨g, hg, hwr, hset⟩ := hrt'.wr (j := y) (by simp [bvs]; omega)
        have ead : (⟨g, 0, none⟩ : Addr).add ((y : Int).toNat * 1) = ⟨g, y, none⟩ := by rw [addr_add]; simp
        have hgt2 : w.heap.size = g := by have : t.blk = some g := by simp [Sl.blk, hg]
                                          rw [htb] at this; simpa using this
        refine ⟨_, hg, by omega, by omega, by rw [ead]; exact hwr, ?_⟩
        rintro w5 rfl
        rw [ead]
        have f5 : Frm (fun k => k = g) w4 (w4.setCell ⟨g, y, none⟩ (.bool true)) := mod_setCell (a := ⟨g, y, none⟩)
        have hr5 := hset (.bool true)
        have e5 : (bvs seen').set y (.bool true) = bvs (seen'.set y true) := by simp [bvs, List.map_set]
        rw [e5] at hr5
        have hx5 := hrx'.mod f5 (fun k hk e => hrx'.blkNe hrt'.g (by decide) k hk (by rw [e, htb, hgt2]))
        have hcnt := count_set hb3
        have z4 := f4.size; have z5 := f5.size
        refine lit_pushG (y : Int) hx5 (by rw [List.length_map]; simp at hms; omega) ?_
        intro s' w6 hr6 hs6 f6
        have f46 : Frm none_ w w6 := (f4.b f5 (by omega)).trans f6 (fun _ _ h => h) (fun k hk hs => by have := hx6' k hs; omega)
        refine ⟨p.1.l - (j + 1), by omega, j + 1, seen'.set y true, todo' ++ [y], by rw [wrap64 _ (by omega)]; omega, by omega, rfl, by rw [List.length_append]; simp at hms ⊢; omega, hd'.push hxs' hEx hyg, hxs'.imp_right (set_true hys), ?_, hr5.mod f6 (fun k hk hs => hr5.g.blkNe hx5 (by decide) k hk hs), ?_, ?_, f46⟩
        · intro z hz y' hy'
          rw [List.take_add_one, hk] at hz
          rcases List.mem_append.1 hz with hz | hz
          · exact set_true hys (hsee z hz y' hy')
          · simp at hz
            have : y' = y := by omega
            subst this; simp [hys]
        · have : nv (todo' ++ [y]) = iv ((todo'.map fun k : Nat => (k : Int)) ++ [(y : Int)]) := by simp [nv]
          rw [this]; exact hr6
        · intro k hk
          rcases hs6 k hk with hk | hk
          · exact hx6' k hk
          · omega
      · have hb : b3 = true := by simpa using hb
        subst hb
        refine ⟨p.1.l - (j + 1), by omega, j + 1, seen', todo', by rw [wrap64 _ (by omega)]; omega, by omega, rfl, hms, hd', hxs', ?_, hrt', hrx', hx6', f4⟩
        intro z hz y' hy'
        rw [List.take_add_one, hk] at hz
        rcases List.mem_append.1 hz with hz | hz
        · exact hsee z hz y' hy'
        · simp at hz
          have : y' = y := by omega
          subst this; exact hb3
    · have hge := of_decide_eq_false hc
      have hsl' : todo'.length ≤ 200000 := by simp at hms; simp at htd; simp at hme; omega
      refine ⟨_, hms, seen', todo', rfl, ⟨hd'.len, hd'.snd, hd'.td, ?_⟩, hrt', hrx', hx6', hsl', by omega, f4⟩
      intro k hk
      rcases hd'.cl k hk with h1 | h1 | h1
      · exact .inl h1
      · right; right
        subst h1
        rintro y ⟨l, hl', hy⟩
        rw [hgx] at hl'
        cases hl'
        exact hsee (y : Int) (by rw [List.take_of_length_le (by omega)]; exact hy) y rfl
      · exact .inr (.inr h1)
  · -- nothing is left to do
    have hz := of_decide_eq_false hc
    have ht0 : todo = [] := List.eq_nil_of_length_eq_zero (by omega)
    subst ht0
    have hcl : ∀ k, (k = i ∨ seen[k]? = some true) → ∀ y, E (gOf ps) k y → seen[y]? = some true := by
      intro k hk
      rcases hd.cl k hk with h1 | h1 | h1
      · simp at h1
      · exact h1.elim
      · exact h1
    have hiff : ∀ k, seen[k]? = some true ↔ TC (gOf ps) i k := fun k => ⟨hd.snd k, fun ht => TC.all (M := fun k => seen[k]? = some true) (hcl i (.inl rfl)) (fun x hx => hcl x (.inr hx)) ht⟩
    have htsl : t.l = seen.length := by rw [hd.len]; omega
    refine ⟨fun n x10 x59 w' => ∃ j : Nat, x59 = (j : Int) ∧ j ≤ t.l ∧ n = t.l - j ∧ Row w' x10 3 1 (iv (outF (fun k => seen[k]?.getD false) j)) ∧ Row w' t 4 1 (bvs seen) ∧ (∀ k, x10.blk = some k → w.heap.size ≤ k) ∧ Frm none_ w w', t.l, ⟨0, rfl, Nat.zero_le _, by omega, Row.nil _ _ _, hrt, by simp [Sl.blk], f3⟩, ?_⟩
    rintro n u1 x10 x59 w4 ⟨j, rfl, hj, rfl, hr10, hrt4, hx10, f4⟩
    refine IfB.intro (fun hc => ?_) (fun hc => ?_)
    · have hlt := of_decide_eq_true hc
      obtain ⟨q3, v3, hq3, hv3, hld3⟩ := hrt4.has.at1 (i := (j : Int)) (by omega) (by omega)
      rw [Int.toNat_natCast] at hv3
      obtain ⟨b3, hb3, rfl⟩ := bvs_get hv3
      have es : outF (fun k => seen[k]?.getD false) (j + 1) = outF (fun k => seen[k]?.getD false) j ++ (if b3 then [(j : Int)] else []) := by rw [outF_succ, hb3]; rfl
      refine ⟨q3, hq3, by omega, by omega, b3, hld3, IfB.intro (fun hb => ?_) (fun hb => ?_)⟩
      · subst hb
        have hol := outF_len (fun k => seen[k]?.getD false) j
        refine lit_push (j : Int) hr10 (by omega) ?_
        intro s' w5 hr5 hs5 f5
        have z4 := f4.size
        refine ⟨t.l - (j + 1), by omega, j + 1, by rw [wrap64 _ (by omega)]; omega, by omega, rfl, by rw [es]; exact hr5, hrt4.mod f5 (fun k hk hs => hrt4.g.blkNe hr10.g (by decide) k hk hs), ?_, f4.trans f5 (fun _ _ h => h) (fun k hk hs => by have := hx10 k hs; omega)⟩
        intro k hk
        rcases hs5 k hk with hk | hk
        · exact hx10 k hk
        · omega
      · subst hb
        exact ⟨t.l - (j + 1), by omega, j + 1, by rw [wrap64 _ (by omega)]; omega, by omega, rfl, by rw [es]; simpa using hr10, hrt4, hx10, f4⟩
    · have hge := of_decide_eq_false hc
      refine ⟨x10, rfl, ?_, f4⟩
      have e : below (gOf ps) i = outF (fun k => seen[k]?.getD false) j := by
        unfold below
        rw [show (gOf ps).length = j by omega]
        apply outF_congr
        intro k hk
        by_cases ht : TC (gOf ps) i k
        · rw [(hiff k).2 ht]; simp [ht]
        · have : seen[k]? = some false := by
            have hks : k < seen.length := by omega
            cases hb : seen[k]? with
            | none => rw [List.getElem?_eq_none_iff] at hb; omega
            | some b =>
              cases b with
              | false => rfl
              | true => exact absurd ((hiff k).1 hb) ht
          rw [this]; simp [ht]
      rw [e]; exact hr10.has
end Go.Proofs.Ytjpcbggodhfabaa
