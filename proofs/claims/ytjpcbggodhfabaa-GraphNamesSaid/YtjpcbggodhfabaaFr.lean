/- Below and Above again: what they tell lies in fresh memory. -/
import Derived.Test.YtjpcbggodhfabaaWk
set_option linter.unusedVariables false
set_option linter.unusedSimpArgs false
namespace Go.Proofs.Ytjpcbggodhfabaa
open Go Go.Proofs.YtjpcbggodhfabaaV
set_option maxRecDepth 20000 in
theorem reachF_calls (w : World) (s : Sl) (ps : List (Sl × List Int)) (h : Gw w s ps) (hsm : Small ps) (hv : Valid ps) (i : Nat) (hi : i < ps.length) : Calls prog 24 #[.slice s.a s.l s.c, .int .i64 (i : Int)] w fun e w' =>
    ∃ t, e = .returned (.slice t.a t.l t.c) ∧ Has w' t 1 (iv (below (gOf ps) i)) ∧ (∀ k, t.blk = some k → w.heap.size ≤ k) ∧ Frm none_ w w' := by
  refine callsRet (W24 (Q := fun v w' => ∃ t, v = .slice t.a t.l t.c ∧ Has w' t 1 (iv (below (gOf ps) i)) ∧ (∀ k, t.blk = some k → w.heap.size ≤ k) ∧ Frm none_ w w') ?_) (fun v w' ⟨t, h, h'⟩ => ⟨t, by rw [h], h'⟩)
  unfold F24
  have hl := h.len
  have hsl := hsm.len
  have hgl := gOf_len ps
  refine runT_makeN st47 (by omega) (by omega) (by omega) ?_
  intro t w1 hr1 htl htc hta f1 z1
  rw [made_one (.bool false) rfl] at hr1
  have htb : t.blk = some w.heap.size := by simp [Sl.blk, hta]
  have htl : t.l = s.l := by omega
  have e0 : List.replicate (((s.l : Nat) : Int).toNat * 1) (Value.bool false) = bvs (List.replicate ps.length false) := by simp [bvs, hl]
  rw [e0] at hr1
  refine runT_lit1 st25 (by decide) rfl ?_
  intro w2 hr2 f2 z2
  have e1 : (Value.int .i64 (i : Int)).cells.toList = nv [i] := by simp [nv, iv, Value.cells]
  rw [e1] at hr2
  refine ⟨fun n x6 w' => ∃ (seen : List Bool) (todo : List Nat), n = 2 * seen.count false + todo.length ∧ Dfs (gOf ps) i seen todo (fun _ => False) ∧ Row w' t 4 1 (bvs seen) ∧ RowG w' x6 3 1 (nv todo) ∧ (∀ k, x6.blk = some k → w.heap.size ≤ k) ∧ todo.length ≤ 200000 ∧ 2 * seen.count false + todo.length ≤ 200001 ∧ Frm none_ w w', _, ⟨List.replicate ps.length false, [i], rfl, ?_, hr1.mod f2 (fun _ _ h => h), hr2.g, fun k hk => by simp [Sl.blk] at hk; omega, by simp, by simp; omega, f1.n f2⟩, ?_⟩
  · refine ⟨by rw [List.length_replicate, hgl], ?_, ?_, ?_⟩
    · intro k hk
      rw [List.getElem?_replicate] at hk
      split at hk <;> simp at hk
    · intro k hk; simp at hk; subst hk; exact ⟨by omega, .inl rfl⟩
    · rintro k (rfl | hk)
      · exact .inl (by simp)
      · rw [List.getElem?_replicate] at hk
        split at hk <;> simp at hk
  rintro n u x6 w3 ⟨seen, todo, rfl, hd, hrt, hrx, hx6, htd, hme, f3⟩
  have hxl : x6.l = todo.length := by have := hrx.len; rw [nv_len] at this; omega
  refine IfB.intro (fun hc => ?_) (fun hc => ?_)
  · -- one more thing
    have hgt := of_decide_eq_true hc
    obtain ⟨todo0, x, rfl⟩ : ∃ a b, todo = a ++ [b] := ⟨todo.dropLast, todo.getLast (by intro e; subst e; simp at hxl; omega), (List.dropLast_concat_getLast _).symm⟩
    have hx0 : x6.l = todo0.length + 1 := by rw [hxl]; simp
    obtain ⟨hxg, hxs⟩ := hd.td x (by simp)
    obtain ⟨q6, v, hq6, hv6, hld6⟩ := has_at (l := (todo0 ++ [x]).map fun k : Nat => (k : Int)) hrx.has (i := todo0.length) (by omega)
    have ev : v = (x : Int) := by simpa using hv6.symm
    subst ev
    rw [wrap64 ((x6.l : Int) - 1) (by omega), show ((x6.l : Int) - 1).toNat = todo0.length by omega, slA_zero, Nat.sub_zero]
    have hcl : x6.l ≤ x6.c := by
      rcases hrx.2 with e | ⟨_, _, _, _, hlc, _⟩
      · rw [e]; exact Nat.le_refl _
      · exact hlc
    obtain ⟨q, p, hq, hp, hpm, hld, hh⟩ := (h.mod f3).at (i := x) (by omega)
    have hpl := has_iv hh
    have hpb := hsm.each p hpm
    have hgx := gOf_get hp
    refine ⟨q6, hq6, by omega, by omega, _, hld6, ⟨by omega, by omega⟩, ⟨by omega, by omega⟩, q, hq, by omega, by omega, p.1, by rw [Int.toNat_natCast]; exact hld, ?_⟩
    have hcut := hrx.cut (k := todo0.length) (c := todo0.length) (by omega) (Nat.le_refl _) (by omega)
    have ecut : (nv (todo0 ++ [x])).take (todo0.length * 1) = nv todo0 := by
      have : nv (todo0 ++ [x]) = nv todo0 ++ nv [x] := by simp [nv, iv]
      rw [this, Nat.mul_one, ← nv_len todo0]; exact List.take_left
    rw [ecut] at hcut
    have hd0 : Dfs (gOf ps) i seen todo0 (fun k => k = x) := ⟨hd.len, hd.snd, fun k hk => hd.td k (by simp [hk]), fun k hk => by
      rcases hd.cl k hk with h1 | h1 | h1
      · rcases List.mem_append.1 h1 with h1 | h1
        · exact .inl h1
        · simp at h1; exact .inr (.inl h1)
      · exact h1.elim
      · exact .inr (.inr h1)⟩
    refine ⟨fun n x6' x40 w' => ∃ (j : Nat) (seen' : List Bool) (todo' : List Nat), x40 = (j : Int) ∧ j ≤ p.1.l ∧ n = p.1.l - j ∧ 2 * seen'.count false + todo'.length < 2 * seen.count false + (todo0 ++ [x]).length ∧ Dfs (gOf ps) i seen' todo' (fun k => k = x) ∧ (x = i ∨ seen'[x]? = some true) ∧ (∀ z ∈ p.2.take j, ∀ y : Nat, z = (y : Int) → seen'[y]? = some true) ∧ Row w' t 4 1 (bvs seen') ∧ RowG w' x6' 3 1 (nv todo') ∧ (∀ k, x6'.blk = some k → w.heap.size ≤ k) ∧ Frm none_ w w', p.1.l,
      ⟨0, seen, todo0, rfl, Nat.zero_le _, by omega, by simp, hd0, hxs, by simp, hrt, hcut, fun k hk => hx6 k hk, f3⟩, ?_⟩
    rintro n u1 x6' x40 w4 ⟨j, seen', todo', rfl, hj, rfl, hms, hd', hxs', hsee, hrt', hrx', hx6', f4⟩
    refine IfB.intro (fun hc => ?_) (fun hc => ?_)
    · have hlt := of_decide_eq_true hc
      obtain ⟨q2, k, hq2, hk, hld2⟩ := has_at (((h.mod f4).each p hpm)) (i := j) (by omega)
      obtain ⟨hk0, hk1⟩ := hv p hpm k (List.mem_of_getElem? hk)
      obtain ⟨y, rfl⟩ := Int.eq_ofNat_of_zero_le hk0
      have hyg : y < (gOf ps).length := by omega
      have hys : y < seen'.length := by rw [hd'.len]; exact hyg
      obtain ⟨q3, v3, hq3, hv3, hld3⟩ := hrt'.has.at1 (i := (y : Int)) (by omega) (by omega)
      rw [Int.toNat_natCast] at hv3
      obtain ⟨b3, hb3, rfl⟩ := bvs_get hv3
      have hEx : E (gOf ps) x y := ⟨p.2, hgx, List.mem_of_getElem? hk⟩
      refine ⟨q2, hq2, by omega, by omega, _, by rw [Int.toNat_natCast]; exact hld2, q3, hq3, by omega, by omega, b3, hld3, IfB.intro (fun hb => ?_) (fun hb => ?_)⟩
      · have hb : b3 = false := by simpa using hb
        subst hb
        obtain ⟨g, hg, hwr, hset⟩ := hrt'.wr (j := y) (by simp [bvs]; omega)
        have ead : (⟨g, 0, none⟩ : Addr).add ((y : Int).toNat * 1) = ⟨g, y, none⟩ := by rw [addr_add]; simp
        have hgt2 : w.heap.size = g := by have : t.blk = some g := by simp [Sl.blk, hg]
                                          rw [htb] at this; simpa using this
        refine ⟨_, hg, by omega, by omega, by rw [ead]; exact hwr, ?_⟩
        rintro w5 rfl
        rw [ead]
        have f5 : Frm (fun k => k = g) w4 (w4.setCell ⟨g, y, none⟩ (.bool true)) := mod_setCell (a := ⟨g, y, none⟩)
        have hr5 := hset (.bool true)
        have e5 : (bvs seen').set y (.bool true) = bvs (seen'.set y true) := by simp [bvs, List.map_set]
        rw [e5] at hr5
        have hx5 := hrx'.mod f5 (fun k hk e => hrx'.blkNe hrt'.g (by decide) k hk (by rw [e, htb, hgt2]))
        have hcnt := count_set hb3
        have z4 := f4.size; have z5 := f5.size
        refine lit_pushG (y : Int) hx5 (by rw [List.length_map]; simp at hms; omega) ?_
        intro s' w6 hr6 hs6 f6
        have f46 : Frm none_ w w6 := (f4.b f5 (by omega)).trans f6 (fun _ _ h => h) (fun k hk hs => by have := hx6' k hs; omega)
        refine ⟨p.1.l - (j + 1), by omega, j + 1, seen'.set y true, todo' ++ [y], by rw [wrap64 _ (by omega)]; omega, by omega, rfl, by rw [List.length_append]; simp at hms ⊢; omega, hd'.push hxs' hEx hyg, hxs'.imp_right (set_true hys), ?_, hr5.mod f6 (fun k hk hs => hr5.g.blkNe hx5 (by decide) k hk hs), ?_, ?_, f46⟩
        · intro z hz y' hy'
          rw [List.take_add_one, hk] at hz
          rcases List.mem_append.1 hz with hz | hz
          · exact set_true hys (hsee z hz y' hy')
          · simp at hz
            have : y' = y := by omega
            subst this; simp [hys]
        · have : nv (todo' ++ [y]) = iv ((todo'.map fun k : Nat => (k : Int)) ++ [(y : Int)]) := by simp [nv]
          rw [this]; exact hr6
        · intro k hk
          rcases hs6 k hk with hk | hk
          · exact hx6' k hk
          · omega
      · have hb : b3 = true := by simpa using hb
        subst hb
        refine ⟨p.1.l - (j + 1), by omega, j + 1, seen', todo', by rw [wrap64 _ (by omega)]; omega, by omega, rfl, hms, hd', hxs', ?_, hrt', hrx', hx6', f4⟩
        intro z hz y' hy'
        rw [List.take_add_one, hk] at hz
        rcases List.mem_append.1 hz with hz | hz
        · exact hsee z hz y' hy'
        · simp at hz
          have : y' = y := by omega
          subst this; exact hb3
    · have hge := of_decide_eq_false hc
      have hsl' : todo'.length ≤ 200000 := by simp at hms; simp at htd; simp at hme; omega
      refine ⟨_, hms, seen', todo', rfl, ⟨hd'.len, hd'.snd, hd'.td, ?_⟩, hrt', hrx', hx6', hsl', by omega, f4⟩
      intro k hk
      rcases hd'.cl k hk with h1 | h1 | h1
      · exact .inl h1
      · right; right
        subst h1
        rintro y ⟨l, hl', hy⟩
        rw [hgx] at hl'
        cases hl'
        exact hsee (y : Int) (by rw [List.take_of_length_le (by omega)]; exact hy) y rfl
      · exact .inr (.inr h1)
  · -- nothing is left to do
    have hz := of_decide_eq_false hc
    have ht0 : todo = [] := List.eq_nil_of_length_eq_zero (by omega)
    subst ht0
    have hcl : ∀ k, (k = i ∨ seen[k]? = some true) → ∀ y, E (gOf ps) k y → seen[y]? = some true := by
      intro k hk
      rcases hd.cl k hk with h1 | h1 | h1
      · simp at h1
      · exact h1.elim
      · exact h1
    have hiff : ∀ k, seen[k]? = some true ↔ TC (gOf ps) i k := fun k => ⟨hd.snd k, fun ht => TC.all (M := fun k => seen[k]? = some true) (hcl i (.inl rfl)) (fun x hx => hcl x (.inr hx)) ht⟩
    have htsl : t.l = seen.length := by rw [hd.len]; omega
    refine ⟨fun n x10 x59 w' => ∃ j : Nat, x59 = (j : Int) ∧ j ≤ t.l ∧ n = t.l - j ∧ Row w' x10 3 1 (iv (outF (fun k => seen[k]?.getD false) j)) ∧ Row w' t 4 1 (bvs seen) ∧ (∀ k, x10.blk = some k → w.heap.size ≤ k) ∧ Frm none_ w w', t.l, ⟨0, rfl, Nat.zero_le _, by omega, Row.nil _ _ _, hrt, by simp [Sl.blk], f3⟩, ?_⟩
    rintro n u1 x10 x59 w4 ⟨j, rfl, hj, rfl, hr10, hrt4, hx10, f4⟩
    refine IfB.intro (fun hc => ?_) (fun hc => ?_)
    · have hlt := of_decide_eq_true hc
      obtain ⟨q3, v3, hq3, hv3, hld3⟩ := hrt4.has.at1 (i := (j : Int)) (by omega) (by omega)
      rw [Int.toNat_natCast] at hv3
      obtain ⟨b3, hb3, rfl⟩ := bvs_get hv3
      have es : outF (fun k => seen[k]?.getD false) (j + 1) = outF (fun k => seen[k]?.getD false) j ++ (if b3 then [(j : Int)] else []) := by rw [outF_succ, hb3]; rfl
      refine ⟨q3, hq3, by omega, by omega, b3, hld3, IfB.intro (fun hb => ?_) (fun hb => ?_)⟩
      · subst hb
        have hol := outF_len (fun k => seen[k]?.getD false) j
        refine lit_push (j : Int) hr10 (by omega) ?_
        intro s' w5 hr5 hs5 f5
        have z4 := f4.size
        refine ⟨t.l - (j + 1), by omega, j + 1, by rw [wrap64 _ (by omega)]; omega, by omega, rfl, by rw [es]; exact hr5, hrt4.mod f5 (fun k hk hs => hrt4.g.blkNe hr10.g (by decide) k hk hs), ?_, f4.trans f5 (fun _ _ h => h) (fun k hk hs => by have := hx10 k hs; omega)⟩
        intro k hk
        rcases hs5 k hk with hk | hk
        · exact hx10 k hk
        · omega
      · subst hb
        exact ⟨t.l - (j + 1), by omega, j + 1, by rw [wrap64 _ (by omega)]; omega, by omega, rfl, by rw [es]; simpa using hr10, hrt4, hx10, f4⟩
    · have hge := of_decide_eq_false hc
      refine ⟨x10, rfl, ?_, hx10, f4⟩
      have e : below (gOf ps) i = outF (fun k => seen[k]?.getD false) j := by
        unfold below
        rw [show (gOf ps).length = j by omega]
        apply outF_congr
        intro k hk
        by_cases ht : TC (gOf ps) i k
        · rw [(hiff k).2 ht]; simp [ht]
        · have : seen[k]? = some false := by
            have hks : k < seen.length := by omega
            cases hb : seen[k]? with
            | none => rw [List.getElem?_eq_none_iff] at hb; omega
            | some b =>
              cases b with
              | false => rfl
              | true => exact absurd ((hiff k).1 hb) ht
          rw [this]; simp [ht]
      rw [e]; exact hr10.has
theorem belowF_calls (w : World) (s : Sl) (ps : List (Sl × List Int)) (h : Gw w s ps) (hsm : Small ps) (ht : tot (gOf ps) ≤ 1000000000) (i : Int) : Calls prog 11 #[.slice s.a s.l s.c, .int .i64 i] w fun e w' =>
    ∃ t c, e = .returned (.tuple #[.slice t.a t.l t.c, .int .i64 c]) ∧ (InR ps i → c = 0 ∧ Has w' t 1 (iv (below (gOf ps) i.toNat))) ∧ (¬ InR ps i → c = 1 ∧ t = ⟨none, 0, 0⟩) ∧ (∀ k, t.blk = some k → w.heap.size ≤ k) ∧ Frm none_ w w' := by
  refine callsRet (W11 (Q := fun v w' => ∃ t c, v = .tuple #[.slice t.a t.l t.c, .int .i64 c] ∧ (InR ps i → c = 0 ∧ Has w' t 1 (iv (below (gOf ps) i.toNat))) ∧ (¬ InR ps i → c = 1 ∧ t = ⟨none, 0, 0⟩) ∧ (∀ k, t.blk = some k → w.heap.size ≤ k) ∧ Frm none_ w w') ?_) (fun v w' ⟨t, c, h, h'⟩ => ⟨t, c, by rw [h], h'⟩)
  unfold F11
  have hl := h.len
  refine (may_calls w s ps h hsm ht).mono ?_
  rintro _ w1 ⟨b, rfl, hb, f1⟩
  refine ⟨_, rfl, IfB.intro (fun hc => ?_) (fun hc => IfB.intro (fun hd => ?_) (fun hd => IfB.intro (fun he => ?_) (fun he => ?_)))⟩
  · have hc : b = false := by simpa using hc
    exact ⟨⟨none, 0, 0⟩, 1, rfl, fun hr => (by have := hb.2 hr.1; rw [hc] at this; cases this), fun _ => ⟨rfl, rfl⟩, by simp [Sl.blk], f1⟩
  · have hd := of_decide_eq_true hd
    exact ⟨⟨none, 0, 0⟩, 1, rfl, fun hr => by have := hr.2.1; omega, fun _ => ⟨rfl, rfl⟩, by simp [Sl.blk], f1⟩
  · have he := of_decide_eq_true he
    exact ⟨⟨none, 0, 0⟩, 1, rfl, fun hr => by have := hr.2.2; omega, fun _ => ⟨rfl, rfl⟩, by simp [Sl.blk], f1⟩
  · have hc : b = true := by simpa using hc
    have hd := of_decide_eq_false hd
    have he := of_decide_eq_false he
    obtain ⟨j, rfl⟩ := Int.eq_ofNat_of_zero_le (show 0 ≤ i by omega)
    refine (reachF_calls w1 s ps (h.mod f1) hsm (valid_of (hb.1 hc)) j (by omega)).mono ?_
    rintro _ w2 ⟨t, rfl, ht, hfr, f2⟩
    have z1 := f1.size
    exact ⟨t, rfl, t, 0, rfl, fun _ => ⟨rfl, ht⟩, fun hn => absurd ⟨hb.1 hc, by omega, by omega⟩ hn, fun k hk => by have := hfr k hk; omega, f1.n f2⟩
theorem aboveF_calls (w : World) (s : Sl) (ps : List (Sl × List Int)) (h : Gw w s ps) (hsm : Small ps) (ht : tot (gOf ps) ≤ 1000000000) (i : Int) : Calls prog 12 #[.slice s.a s.l s.c, .int .i64 i] w fun e w' =>
    ∃ t c, e = .returned (.tuple #[.slice t.a t.l t.c, .int .i64 c]) ∧ (InR ps i → c = 0 ∧ Has w' t 1 (iv (above (gOf ps) i.toNat))) ∧ (¬ InR ps i → c = 1 ∧ t = ⟨none, 0, 0⟩) ∧ (∀ k, t.blk = some k → w.heap.size ≤ k) ∧ Frm none_ w w' := by
  refine callsRet (W12 (Q := fun v w' => ∃ t c, v = .tuple #[.slice t.a t.l t.c, .int .i64 c] ∧ (InR ps i → c = 0 ∧ Has w' t 1 (iv (above (gOf ps) i.toNat))) ∧ (¬ InR ps i → c = 1 ∧ t = ⟨none, 0, 0⟩) ∧ (∀ k, t.blk = some k → w.heap.size ≤ k) ∧ Frm none_ w w') ?_) (fun v w' ⟨t, c, h, h'⟩ => ⟨t, c, by rw [h], h'⟩)
  unfold F12
  have hl := h.len
  refine (may_calls w s ps h hsm ht).mono ?_
  rintro _ w1 ⟨b, rfl, hb, f1⟩
  refine ⟨_, rfl, IfB.intro (fun hc => ?_) (fun hc => IfB.intro (fun hd => ?_) (fun hd => IfB.intro (fun he => ?_) (fun he => ?_)))⟩
  · have hc : b = false := by simpa using hc
    exact ⟨⟨none, 0, 0⟩, 1, rfl, fun hr => (by have := hb.2 hr.1; rw [hc] at this; cases this), fun _ => ⟨rfl, rfl⟩, by simp [Sl.blk], f1⟩
  · have hd := of_decide_eq_true hd
    exact ⟨⟨none, 0, 0⟩, 1, rfl, fun hr => by have := hr.2.1; omega, fun _ => ⟨rfl, rfl⟩, by simp [Sl.blk], f1⟩
  · have he := of_decide_eq_true he
    exact ⟨⟨none, 0, 0⟩, 1, rfl, fun hr => by have := hr.2.2; omega, fun _ => ⟨rfl, rfl⟩, by simp [Sl.blk], f1⟩
  · have hc : b = true := by simpa using hc
    have hd := of_decide_eq_false hd
    have he := of_decide_eq_false he
    have hmay := hb.1 hc
    obtain ⟨j, rfl⟩ := Int.eq_ofNat_of_zero_le (show 0 ≤ i by omega)
    have htt := hmay.2.1
    refine (users_calls w1 s ps (h.mod f1) hsm (valid_of hmay) (by omega)).mono ?_
    rintro _ w2 ⟨t, us, rfl, hU, hul, hus, hum, f2⟩
    have hEr : ∀ a b, E (gOf us) a b ↔ E (gOf ps) b a := by
      intro a b
      constructor
      · rintro ⟨l, hl', hm⟩
        simp only [gOf, List.getElem?_map, Option.map_eq_some_iff] at hl'
        obtain ⟨u, hu, rfl⟩ := hl'
        obtain ⟨x, hx, he⟩ := (hum a u hu _).1 hm
        have : x = b := by omega
        subst this; exact he
      · intro he
        obtain ⟨l, hl', hm⟩ := he
        have hva := hmay.2.2 l (List.mem_of_getElem? hl') _ hm
        rw [gOf_len] at hva
        have ha : a < us.length := by omega
        refine ⟨(us[a]).2, by simp [gOf, ha], (hum a us[a] (by simp [ha]) _).2 ⟨b, rfl, l, hl', hm⟩⟩
    have hvu : Valid us := by
      intro u hu k hk
      obtain ⟨a, ha⟩ := List.mem_iff_getElem?.1 hu
      obtain ⟨x, rfl, l, hl', _⟩ := (hum a u ha k).1 hk
      have := (List.getElem?_eq_some_iff.1 hl').1
      rw [gOf_len] at this
      omega
    refine ⟨t, rfl, (reachF_calls w2 t us hU ⟨by rw [hul]; exact hsm.len, fun u hu => by have := hus u hu; omega⟩ hvu j (by omega)).mono ?_⟩
    rintro _ w3 ⟨r, rfl, hr, hfr, f3⟩
    have z1 := f1.size
    have z2 := f2.size
    have e : below (gOf us) j = above (gOf ps) j := by
      unfold below above
      rw [gOf_len, gOf_len, hul]
      exact outF_congr (fun k _ => by rw [tc_rev hEr])
    rw [e] at hr
    exact ⟨r, rfl, r, 0, rfl, fun _ => ⟨rfl, hr⟩, fun hn => absurd ⟨hmay, by omega, by omega⟩ hn, fun k hk => by have := hfr k hk; omega, f1.n (f2.n f3)⟩
end Go.Proofs.Ytjpcbggodhfabaa
