/- Who needs a thing (users); Below and Above, the program's and the document's. -/
import Derived.Test.YtjpcbggodhfabaaR2
set_option linter.unusedVariables false
set_option linter.unusedSimpArgs false
namespace Go.Proofs.Ytjpcbggodhfabaa
open Go Go.Proofs.YtjpcbggodhfabaaV
/-- Behind i lists and j entries of the next: who needs k. -/
def Done (g : List (List Int)) (i j : Nat) (k : Nat) (z : Int) : Prop := ∃ x : Nat, z = (x : Int) ∧ ((x < i ∧ E g x k) ∨ (x = i ∧ ∃ l, g[x]? = some l ∧ (k : Int) ∈ l.take j))
structure Us (w0 w : World) (t : Sl) (n : Nat) (us : List (Sl × List Int)) (g : List (List Int)) (i j m : Nat) : Prop where
  len : us.length = n
  row : Row w t 25 1 (gv us)
  own : ∀ u ∈ us, Row w u.1 3 1 (iv u.2)
  ap : ∀ (a b : Nat) (u v : Sl × List Int), a ≠ b → us[a]? = some u → us[b]? = some v → ∀ k, u.1.blk = some k → v.1.blk ≠ some k
  fr : ∀ u ∈ us, ∀ k, u.1.blk = some k → w0.heap.size ≤ k
  mem : ∀ (k : Nat) (u : Sl × List Int), us[k]? = some u → ∀ z, z ∈ u.2 ↔ Done g i j k z
  sm : ∀ u ∈ us, u.2.length ≤ m
theorem done_next {g : List (List Int)} {i j : Nat} {l : List Int} {y : Nat} (hl : g[i]? = some l) (hy : l[j]? = some (y : Int)) (k : Nat) (z : Int) : Done g i (j + 1) k z ↔ Done g i j k z ∨ (k = y ∧ z = (i : Int)) := by
  unfold Done
  constructor
  · rintro ⟨x, rfl, h | ⟨rfl, l', hl', h⟩⟩
    · exact .inl ⟨x, rfl, .inl h⟩
    · rw [hl] at hl'; cases hl'
      rw [List.take_add_one, hy] at h
      rcases List.mem_append.1 h with h | h
      · exact .inl ⟨x, rfl, .inr ⟨rfl, l, hl, h⟩⟩
      · simp at h; exact .inr ⟨by omega, rfl⟩
  · rintro (⟨x, rfl, h | ⟨rfl, l', hl', h⟩⟩ | ⟨rfl, rfl⟩)
    · exact ⟨x, rfl, .inl h⟩
    · rw [hl] at hl'; cases hl'
      exact ⟨x, rfl, .inr ⟨rfl, l, hl, by rw [List.take_add_one]; simp [h]⟩⟩
    · exact ⟨i, rfl, .inr ⟨rfl, l, hl, by rw [List.take_add_one, hy]; simp⟩⟩
theorem done_row {g : List (List Int)} {i j : Nat} {l : List Int} (hl : g[i]? = some l) (hj : l.length ≤ j) (k : Nat) (z : Int) : Done g i j k z ↔ Done g (i + 1) 0 k z := by
  unfold Done
  constructor
  · rintro ⟨x, rfl, ⟨h1, h2⟩ | ⟨rfl, l', hl', h⟩⟩
    · exact ⟨x, rfl, .inl ⟨by omega, h2⟩⟩
    · rw [hl] at hl'; cases hl'
      rw [List.take_of_length_le hj] at h
      exact ⟨x, rfl, .inl ⟨by omega, l, hl, h⟩⟩
  · rintro ⟨x, rfl, ⟨h1, l', hl', h2⟩ | ⟨rfl, l', hl', h⟩⟩
    · by_cases hx : x = i
      · subst hx
        rw [hl] at hl'; cases hl'
        exact ⟨x, rfl, .inr ⟨rfl, l, hl, by rw [List.take_of_length_le hj]; exact h2⟩⟩
      · exact ⟨x, rfl, .inl ⟨by omega, l', hl', h2⟩⟩
    · simp at h
set_option maxRecDepth 20000 in
theorem users_calls (w : World) (s : Sl) (ps : List (Sl × List Int)) (h : Gw w s ps) (hsm : Small ps) (hv : Valid ps) (ht : tot (gOf ps) ≤ 1000000) : Calls prog 25 #[.slice s.a s.l s.c] w fun e w' =>
    ∃ t us, e = .returned (.slice t.a t.l t.c) ∧ Gw w' t us ∧ us.length = ps.length ∧ (∀ u ∈ us, u.2.length ≤ tot (gOf ps)) ∧ (∀ (k : Nat) (u : Sl × List Int), us[k]? = some u → ∀ z : Int, z ∈ u.2 ↔ ∃ x : Nat, z = (x : Int) ∧ E (gOf ps) x k) ∧ Frm none_ w w' := by
  refine callsRet (W25 (Q := fun v w' => ∃ t us, v = .slice t.a t.l t.c ∧ Gw w' t us ∧ us.length = ps.length ∧ (∀ u ∈ us, u.2.length ≤ tot (gOf ps)) ∧ (∀ (k : Nat) (u : Sl × List Int), us[k]? = some u → ∀ z : Int, z ∈ u.2 ↔ ∃ x : Nat, z = (x : Int) ∧ E (gOf ps) x k) ∧ Frm none_ w w') ?_) (fun v w' ⟨t, us, h, h'⟩ => ⟨t, us, by rw [h], h'⟩)
  unfold F25
  have hl := h.len
  have hsl := hsm.len
  have hgl := gOf_len ps
  refine runT_makeN st22 (by omega) (by omega) (by omega) ?_
  intro t w1 hr1 htl htc hta f1 z1
  rw [made_one (.slice none 0 0) rfl] at hr1
  have htb : t.blk = some w.heap.size := by simp [Sl.blk, hta]
  have htl : t.l = s.l := by omega
  have e0 : List.replicate (((s.l : Nat) : Int).toNat * 1) (Value.slice none 0 0) = gv (List.replicate ps.length ((⟨none, 0, 0⟩ : Sl), [])) := by simp [gv, hl]
  rw [e0] at hr1
  have hU0 : Us w w1 t ps.length (List.replicate ps.length ((⟨none, 0, 0⟩ : Sl), [])) (gOf ps) 0 0 0 := by
    have hrep : ∀ u ∈ List.replicate ps.length ((⟨none, 0, 0⟩ : Sl), ([] : List Int)), u = (⟨none, 0, 0⟩, []) := fun u hu => (List.mem_replicate.1 hu).2
    refine ⟨by simp, hr1, fun u hu => by rw [hrep u hu]; exact Row.nil _ _ _, ?_, fun u hu k hk => by rw [hrep u hu] at hk; simp [Sl.blk] at hk, ?_, fun u hu => by rw [hrep u hu]; simp⟩
    · intro a b u v _ hu _ k hk
      rw [hrep u (List.mem_of_getElem? hu)] at hk; simp [Sl.blk] at hk
    · intro k u hu z
      rw [hrep u (List.mem_of_getElem? hu)]
      simp only [List.not_mem_nil, false_iff]
      rintro ⟨x, _, h | ⟨_, l, _, h⟩⟩
      · omega
      · simp at h
  refine ⟨fun n x w' => ∃ (i : Nat) (us : List (Sl × List Int)), x = (i : Int) ∧ i ≤ s.l ∧ n = s.l - i ∧ Us w w' t ps.length us (gOf ps) i 0 (tot ((gOf ps).take i)) ∧ Frm none_ w w', s.l, ⟨0, _, rfl, Nat.zero_le _, by omega, by simpa [tot] using hU0, f1⟩, ?_⟩
  rintro n u x w2 ⟨i, us, rfl, hi, rfl, hU, f2⟩
  refine IfB.intro (fun hc => ?_) (fun hc => ?_)
  · have hlt := of_decide_eq_true hc
    obtain ⟨q, p, hq, hp, hpm, hld, hh⟩ := (h.mod f2).at (i := i) (by omega)
    have hpl := has_iv hh
    have hgx := gOf_get hp
    have htt := tot_take hgx
    have hle := tot_le (gOf ps) (i + 1)
    refine ⟨q, hq, by omega, by omega, p.1, by rw [Int.toNat_natCast]; exact hld, ?_⟩
    refine ⟨fun n x w' => ∃ (j : Nat) (us : List (Sl × List Int)), x = (j : Int) ∧ j ≤ p.1.l ∧ n = p.1.l - j ∧ Us w w' t ps.length us (gOf ps) i j (tot ((gOf ps).take i) + j) ∧ Frm none_ w w', p.1.l, ⟨0, us, rfl, Nat.zero_le _, by omega, hU, f2⟩, ?_⟩
    rintro n u2 x w3 ⟨j, us, rfl, hj, rfl, hU, f3⟩
    refine IfB.intro (fun hd => ?_) (fun hd => ?_)
    · have hdl := of_decide_eq_true hd
      obtain ⟨q2, k, hq2, hk, hld2⟩ := has_at ((h.mod f3).each p hpm) (i := j) (by omega)
      obtain ⟨hk0, hk1⟩ := hv p hpm k (List.mem_of_getElem? hk)
      obtain ⟨y, rfl⟩ := Int.eq_ofNat_of_zero_le hk0
      have hrt := hU.row
      have hul := hU.len
      obtain ⟨q3, v3, hq3, hv3, hld3⟩ := hrt.has.at1 (i := (y : Int)) (by omega) (by omega)
      rw [Int.toNat_natCast] at hv3
      obtain ⟨uy, huy, rfl⟩ := gv_get hv3
      have hum := List.mem_of_getElem? huy
      have hry := hU.own uy hum
      have hsy := hU.sm uy hum
      refine ⟨q2, hq2, by omega, by omega, _, by rw [Int.toNat_natCast]; exact hld2, q3, hq3, by omega, by omega, uy.1, hld3, ?_⟩
      refine lit_push (i : Int) hry (by omega) ?_
      intro s' w4 hr4 hs4 f4
      have hrt4 := hrt.mod f4 (fun k hk hs => hrt.g.blkNe hry.g (by decide) k hk hs)
      have hyl : y < us.length := by omega
      obtain ⟨g, hg, hwr, hset⟩ := hrt4.wr (j := y) (by rw [gv_len]; exact hyl)
      have ead : (⟨g, 0, none⟩ : Addr).add ((y : Int).toNat * 1) = ⟨g, y, none⟩ := by rw [addr_add]; simp
      have htg : t.blk = some g := by simp [Sl.blk, hg]
      have hgt : g = w.heap.size := by rw [htb] at htg; simpa using htg.symm
      refine ⟨_, hg, by omega, by omega, by rw [ead]; exact hwr, ?_⟩
      rintro w5 rfl
      rw [ead]
      have f5 : Frm (fun k => k = g) w4 (w4.setCell ⟨g, y, none⟩ (.slice s'.a s'.l s'.c)) := mod_setCell (a := ⟨g, y, none⟩)
      have hr5 := hset (.slice s'.a s'.l s'.c)
      have e5 : (gv us).set y (.slice s'.a s'.l s'.c) = gv (us.set y (s', uy.2 ++ [(i : Int)])) := by simp [gv, List.map_set]
      rw [e5] at hr5
      have z3 := f3.size
      have hs'0 : ∀ k, s'.blk = some k → w.heap.size ≤ k := fun k hk => by
        rcases hs4 k hk with hk | hk
        · exact hU.fr uy hum k hk
        · omega
      have hne5 : ∀ (v : Sl) (cs : List Value), Row w4 v 3 1 cs → Row (w4.setCell ⟨g, y, none⟩ (.slice s'.a s'.l s'.c)) v 3 1 cs := fun v cs hv => hv.mod f5 (fun k hk e => hv.g.blkNe hrt4.g (by decide) k hk (by rw [htg, e]))
      have hset : ∀ (a : Nat) (v : Sl × List Int), (us.set y (s', uy.2 ++ [(i : Int)]))[a]? = some v → (a = y ∧ v = (s', uy.2 ++ [(i : Int)])) ∨ (a ≠ y ∧ us[a]? = some v) := by
        intro a v hav
        by_cases e : y = a
        · subst e; simp [hyl] at hav; exact .inl ⟨rfl, hav.symm⟩
        · rw [List.getElem?_set_ne e] at hav; exact .inr ⟨Ne.symm e, hav⟩
      have hoth : ∀ (a : Nat) (v : Sl × List Int), a ≠ y → us[a]? = some v → ∀ k, v.1.blk = some k → s'.blk ≠ some k := by
        intro a v hne hav k hk hk'
        rcases hs4 k hk' with h1 | h1
        · exact hU.ap a y v uy hne hav huy k hk h1
        · have := (hU.own v (List.mem_of_getElem? hav)).lt k hk; omega
      refine ⟨p.1.l - (j + 1), by omega, j + 1, us.set y (s', uy.2 ++ [(i : Int)]), by rw [wrap64 _ (by omega)]; omega, by omega, rfl, ⟨by rw [List.length_set]; exact hul, hr5, ?_, ?_, ?_, ?_, ?_⟩, (f3.trans f4 (fun _ _ h => h) (fun k hk hs => by have := hU.fr uy hum k hs; omega)).b f5 (by omega)⟩
      · intro v hv'
        obtain ⟨a, hav⟩ := List.mem_iff_getElem?.1 hv'
        rcases hset a v hav with ⟨_, rfl⟩ | ⟨hne, hav⟩
        · exact hne5 _ _ hr4
        · have hvm := List.mem_of_getElem? hav
          exact hne5 _ _ ((hU.own v hvm).mod f4 (fun k hk hs => hU.ap a y v uy hne hav huy k hk hs))
      · intro a b u v hab hau hbv k hk
        rcases hset a u hau with ⟨ea, eu⟩ | ⟨hne, hau2⟩
        · rcases hset b v hbv with ⟨eb, _⟩ | ⟨hne', hbv2⟩
          · exact absurd (ea.trans eb.symm) hab
          · rw [eu] at hk
            exact fun hk' => hoth b v hne' hbv2 k hk' hk
        · rcases hset b v hbv with ⟨eb, ev⟩ | ⟨hne', hbv2⟩
          · rw [ev]; exact hoth a u hne hau2 k hk
          · exact hU.ap a b u v hab hau2 hbv2 k hk
      · intro v hv' k hk
        obtain ⟨a, hav⟩ := List.mem_iff_getElem?.1 hv'
        rcases hset a v hav with ⟨_, rfl⟩ | ⟨hne, hav⟩
        · exact hs'0 k hk
        · exact hU.fr v (List.mem_of_getElem? hav) k hk
      · intro k v hkv z
        rw [done_next hgx hk]
        rcases hset k v hkv with ⟨rfl, rfl⟩ | ⟨hne, hav⟩
        · simp only [List.mem_append, List.mem_singleton, true_and]
          rw [hU.mem _ uy huy z]
        · rw [hU.mem k v hav z]
          constructor
          · exact .inl
          · rintro (h | ⟨h, _⟩)
            · exact h
            · exact absurd h hne
      · intro v hv'
        obtain ⟨a, hav⟩ := List.mem_iff_getElem?.1 hv'
        rcases hset a v hav with ⟨_, rfl⟩ | ⟨hne, hav⟩
        · simp; omega
        · have := hU.sm v (List.mem_of_getElem? hav); omega
    · have hdg := of_decide_eq_false hd
      have hjl : j = p.1.l := by omega
      refine ⟨s.l - (i + 1), by omega, i + 1, us, by rw [wrap64 _ (by omega)]; omega, by omega, rfl, ⟨hU.len, hU.row, hU.own, hU.ap, hU.fr, fun k u hku z => ?_, fun u hu => by have := hU.sm u hu; omega⟩, f3⟩
      rw [hU.mem k u hku z]
      exact done_row hgx (by omega) k z
  · have hge := of_decide_eq_false hc
    have hi2 : i = s.l := by omega
    refine ⟨t, us, rfl, ⟨hU.row.has, fun u hu => (hU.own u hu).has⟩, hU.len, fun u hu => ?_, fun k u hku z => ?_, f2⟩
    · have := hU.sm u hu; have := tot_le (gOf ps) i; omega
    · rw [hU.mem k u hku z]
      constructor
      · rintro ⟨x, rfl, ⟨_, he⟩ | ⟨_, l, _, h⟩⟩
        · exact ⟨x, rfl, he⟩
        · simp at h
      · rintro ⟨x, rfl, he⟩
        obtain ⟨l, hl', _⟩ := he
        have := (List.getElem?_eq_some_iff.1 hl').1
        exact ⟨x, rfl, .inl ⟨by omega, l, hl', by assumption⟩⟩
/-- Edges turned about. -/
theorem tc_rev {g h : List (List Int)} (he : ∀ a b, E h a b ↔ E g b a) {a b : Nat} : TC h a b ↔ TC g b a := by
  have key : ∀ {g h : List (List Int)}, (∀ a b, E h a b → E g b a) → ∀ {a b : Nat}, TC h a b → TC g b a := by
    intro g h he a b ht
    induction ht with
    | single h1 => exact Relation.TransGen.single (he _ _ h1)
    | tail _ h1 ih => exact Relation.TransGen.trans (Relation.TransGen.single (he _ _ h1)) ih
  exact ⟨fun ht => key (fun a b h => (he a b).1 h) ht, fun ht => key (fun a b h => (he b a).2 h) ht⟩
open Classical in
noncomputable def above (g : List (List Int)) (i : Nat) : List Int := outF (fun k => decide (TC g k i)) g.length
def InR (ps : List (Sl × List Int)) (i : Int) : Prop := May (gOf ps) ∧ 0 ≤ i ∧ i < (ps.length : Int)
theorem valid_of {ps : List (Sl × List Int)} (h : May (gOf ps)) : Valid ps := fun p hp k hk => by
  have := h.2.2 p.2 (by simp only [gOf, List.mem_map]; exact ⟨p, hp, rfl⟩) k hk
  rw [gOf_len] at this; exact this
theorem below_calls (w : World) (s : Sl) (ps : List (Sl × List Int)) (h : Gw w s ps) (hsm : Small ps) (ht : tot (gOf ps) ≤ 1000000000) (i : Int) : Calls prog 11 #[.slice s.a s.l s.c, .int .i64 i] w fun e w' =>
    ∃ t c, e = .returned (.tuple #[.slice t.a t.l t.c, .int .i64 c]) ∧ (InR ps i → c = 0 ∧ Has w' t 1 (iv (below (gOf ps) i.toNat))) ∧ (¬ InR ps i → c = 1 ∧ t = ⟨none, 0, 0⟩) ∧ Frm none_ w w' := by
  refine callsRet (W11 (Q := fun v w' => ∃ t c, v = .tuple #[.slice t.a t.l t.c, .int .i64 c] ∧ (InR ps i → c = 0 ∧ Has w' t 1 (iv (below (gOf ps) i.toNat))) ∧ (¬ InR ps i → c = 1 ∧ t = ⟨none, 0, 0⟩) ∧ Frm none_ w w') ?_) (fun v w' ⟨t, c, h, h'⟩ => ⟨t, c, by rw [h], h'⟩)
  unfold F11
  have hl := h.len
  refine (may_calls w s ps h hsm ht).mono ?_
  rintro _ w1 ⟨b, rfl, hb, f1⟩
  refine ⟨_, rfl, IfB.intro (fun hc => ?_) (fun hc => IfB.intro (fun hd => ?_) (fun hd => IfB.intro (fun he => ?_) (fun he => ?_)))⟩
  · have hc : b = false := by simpa using hc
    exact ⟨⟨none, 0, 0⟩, 1, rfl, fun hr => (by have := hb.2 hr.1; rw [hc] at this; cases this), fun _ => ⟨rfl, rfl⟩, f1⟩
  · have hd := of_decide_eq_true hd
    exact ⟨⟨none, 0, 0⟩, 1, rfl, fun hr => by have := hr.2.1; omega, fun _ => ⟨rfl, rfl⟩, f1⟩
  · have he := of_decide_eq_true he
    exact ⟨⟨none, 0, 0⟩, 1, rfl, fun hr => by have := hr.2.2; omega, fun _ => ⟨rfl, rfl⟩, f1⟩
  · have hc : b = true := by simpa using hc
    have hd := of_decide_eq_false hd
    have he := of_decide_eq_false he
    obtain ⟨j, rfl⟩ := Int.eq_ofNat_of_zero_le (show 0 ≤ i by omega)
    refine (reach_calls w1 s ps (h.mod f1) hsm (valid_of (hb.1 hc)) j (by omega)).mono ?_
    rintro _ w2 ⟨t, rfl, ht, f2⟩
    exact ⟨t, rfl, t, 0, rfl, fun _ => ⟨rfl, ht⟩, fun hn => absurd ⟨hb.1 hc, by omega, by omega⟩ hn, f1.n f2⟩
theorem above_calls (w : World) (s : Sl) (ps : List (Sl × List Int)) (h : Gw w s ps) (hsm : Small ps) (ht : tot (gOf ps) ≤ 1000000000) (i : Int) : Calls prog 12 #[.slice s.a s.l s.c, .int .i64 i] w fun e w' =>
    ∃ t c, e = .returned (.tuple #[.slice t.a t.l t.c, .int .i64 c]) ∧ (InR ps i → c = 0 ∧ Has w' t 1 (iv (above (gOf ps) i.toNat))) ∧ (¬ InR ps i → c = 1 ∧ t = ⟨none, 0, 0⟩) ∧ Frm none_ w w' := by
  refine callsRet (W12 (Q := fun v w' => ∃ t c, v = .tuple #[.slice t.a t.l t.c, .int .i64 c] ∧ (InR ps i → c = 0 ∧ Has w' t 1 (iv (above (gOf ps) i.toNat))) ∧ (¬ InR ps i → c = 1 ∧ t = ⟨none, 0, 0⟩) ∧ Frm none_ w w') ?_) (fun v w' ⟨t, c, h, h'⟩ => ⟨t, c, by rw [h], h'⟩)
  unfold F12
  have hl := h.len
  refine (may_calls w s ps h hsm ht).mono ?_
  rintro _ w1 ⟨b, rfl, hb, f1⟩
  refine ⟨_, rfl, IfB.intro (fun hc => ?_) (fun hc => IfB.intro (fun hd => ?_) (fun hd => IfB.intro (fun he => ?_) (fun he => ?_)))⟩
  · have hc : b = false := by simpa using hc
    exact ⟨⟨none, 0, 0⟩, 1, rfl, fun hr => (by have := hb.2 hr.1; rw [hc] at this; cases this), fun _ => ⟨rfl, rfl⟩, f1⟩
  · have hd := of_decide_eq_true hd
    exact ⟨⟨none, 0, 0⟩, 1, rfl, fun hr => by have := hr.2.1; omega, fun _ => ⟨rfl, rfl⟩, f1⟩
  · have he := of_decide_eq_true he
    exact ⟨⟨none, 0, 0⟩, 1, rfl, fun hr => by have := hr.2.2; omega, fun _ => ⟨rfl, rfl⟩, f1⟩
  · have hc : b = true := by simpa using hc
    have hd := of_decide_eq_false hd
    have he := of_decide_eq_false he
    have hmay := hb.1 hc
    obtain ⟨j, rfl⟩ := Int.eq_ofNat_of_zero_le (show 0 ≤ i by omega)
    have htt := hmay.2.1
    refine (users_calls w1 s ps (h.mod f1) hsm (valid_of hmay) (by omega)).mono ?_
    rintro _ w2 ⟨t, us, rfl, hU, hul, hus, hum, f2⟩
    have hEr : ∀ a b, E (gOf us) a b ↔ E (gOf ps) b a := by
      intro a b
      constructor
      · rintro ⟨l, hl', hm⟩
        simp only [gOf, List.getElem?_map, Option.map_eq_some_iff] at hl'
        obtain ⟨u, hu, rfl⟩ := hl'
        obtain ⟨x, hx, he⟩ := (hum a u hu _).1 hm
        have : x = b := by omega
        subst this; exact he
      · intro he
        obtain ⟨l, hl', hm⟩ := he
        have hva := hmay.2.2 l (List.mem_of_getElem? hl') _ hm
        rw [gOf_len] at hva
        have ha : a < us.length := by omega
        refine ⟨(us[a]).2, by simp [gOf, ha], (hum a us[a] (by simp [ha]) _).2 ⟨b, rfl, l, hl', hm⟩⟩
    have hvu : Valid us := by
      intro u hu k hk
      obtain ⟨a, ha⟩ := List.mem_iff_getElem?.1 hu
      obtain ⟨x, rfl, l, hl', _⟩ := (hum a u ha k).1 hk
      have := (List.getElem?_eq_some_iff.1 hl').1
      rw [gOf_len] at this
      omega
    refine ⟨t, rfl, (reach_calls w2 t us hU ⟨by rw [hul]; exact hsm.len, fun u hu => by have := hus u hu; omega⟩ hvu j (by omega)).mono ?_⟩
    rintro _ w3 ⟨r, rfl, hr, f3⟩
    have e : below (gOf us) j = above (gOf ps) j := by
      unfold below above
      rw [gOf_len, gOf_len, hul]
      exact outF_congr (fun k _ => by rw [tc_rev hEr])
    rw [e] at hr
    exact ⟨r, rfl, r, 0, rfl, fun _ => ⟨rfl, hr⟩, fun hn => absurd ⟨hmay, by omega, by omega⟩ hn, f1.n (f2.n f3)⟩
end Go.Proofs.Ytjpcbggodhfabaa
