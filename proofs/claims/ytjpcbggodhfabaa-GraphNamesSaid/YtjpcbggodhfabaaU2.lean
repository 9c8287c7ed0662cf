/- Who needs a thing, in their order, as often as they do. -/
import Derived.Test.YtjpcbggodhfabaaHW
set_option linter.unusedVariables false
set_option linter.unusedSimpArgs false
namespace Go.Proofs.Ytjpcbggodhfabaa
open Go Go.Proofs.YtjpcbggodhfabaaV
def us0 (g : List (List Int)) : Nat → Nat → List Int
  | 0, _ => []
  | i + 1, k => us0 g i k ++ List.replicate ((g.getD i []).count (k : Int)) (i : Int)
def usr (g : List (List Int)) (i j k : Nat) : List Int := us0 g i k ++ List.replicate (((g.getD i []).take j).count (k : Int)) (i : Int)
theorem getD_of {g : List (List Int)} {i : Nat} {l : List Int} (h : g[i]? = some l) : g.getD i [] = l := by rw [List.getD_eq_getElem?_getD, h]; rfl
theorem usr_next {g : List (List Int)} {i j : Nat} {l : List Int} {y : Nat} (hl : g[i]? = some l) (hy : l[j]? = some (y : Int)) (k : Nat) : usr g i (j + 1) k = usr g i j k ++ (if k = y then [(i : Int)] else []) := by
  unfold usr
  rw [getD_of hl, List.take_add_one, hy, List.count_append]
  by_cases e : k = y
  · subst e
    rw [if_pos rfl, List.append_assoc]
    have : List.count (k : Int) (some (k : Int)).toList = 1 := by simp
    rw [this, List.replicate_succ']
  · rw [if_neg e]
    have : List.count (k : Int) (some (y : Int)).toList = 0 := by
      rw [Option.toList_some, List.count_eq_zero]; simp; omega
    rw [this]; simp
theorem usr_row {g : List (List Int)} {i j : Nat} {l : List Int} (hl : g[i]? = some l) (hj : l.length ≤ j) (k : Nat) : usr g i j k = usr g (i + 1) 0 k := by
  unfold usr
  rw [getD_of hl, List.take_of_length_le hj]
  simp only [us0, List.take_zero, List.count_nil, List.replicate_zero, List.append_nil, getD_of hl]
theorem us0_mem {g : List (List Int)} {i k : Nat} {z : Int} (h : z ∈ us0 g i k) : ∃ x : Nat, z = (x : Int) ∧ x < i := by
  induction i with
  | zero => simp [us0] at h
  | succ i ih =>
    rcases List.mem_append.1 h with h | h
    · obtain ⟨x, e, hx⟩ := ih h; exact ⟨x, e, by omega⟩
    · exact ⟨i, (List.mem_replicate.1 h).2, by omega⟩
theorem us0_count (g : List (List Int)) (i k x : Nat) : (us0 g i k).count (x : Int) = if x < i then (g.getD x []).count (k : Int) else 0 := by
  induction i with
  | zero => simp [us0]
  | succ i ih =>
    rw [us0, List.count_append, ih, List.count_replicate]
    by_cases e : x = i
    · subst e; simp
    · have : ((i : Int) == (x : Int)) = false := by simp; omega
      by_cases e2 : x < i
      · have e3 : x < i + 1 := by omega
        simp [this, e2, e3]
      · have e3 : ¬ x < i + 1 := by omega
        simp [this, e2, e3]
structure Us2 (w0 w : World) (t : Sl) (n : Nat) (us : List (Sl × List Int)) (g : List (List Int)) (i j m : Nat) : Prop where
  len : us.length = n
  row : Row w t 25 1 (gv us)
  own : ∀ u ∈ us, Row w u.1 3 1 (iv u.2)
  ap : ∀ (a b : Nat) (u v : Sl × List Int), a ≠ b → us[a]? = some u → us[b]? = some v → ∀ k, u.1.blk = some k → v.1.blk ≠ some k
  fr : ∀ u ∈ us, ∀ k, u.1.blk = some k → w0.heap.size ≤ k
  mem : ∀ (k : Nat) (u : Sl × List Int), us[k]? = some u → u.2 = usr g i j k
  sm : ∀ u ∈ us, u.2.length ≤ m
set_option maxRecDepth 20000 in
theorem users2_calls (w : World) (s : Sl) (ps : List (Sl × List Int)) (h : Gw w s ps) (hsm : Small ps) (hv : Valid ps) (ht : tot (gOf ps) ≤ 1000000) : Calls prog 25 #[.slice s.a s.l s.c] w fun e w' =>
    ∃ t us, e = .returned (.slice t.a t.l t.c) ∧ Gw w' t us ∧ us.length = ps.length ∧ (∀ u ∈ us, u.2.length ≤ tot (gOf ps)) ∧ (∀ (k : Nat) (u : Sl × List Int), us[k]? = some u → u.2 = us0 (gOf ps) ps.length k) ∧ Frm none_ w w' := by
  refine callsRet (W25 (Q := fun v w' => ∃ t us, v = .slice t.a t.l t.c ∧ Gw w' t us ∧ us.length = ps.length ∧ (∀ u ∈ us, u.2.length ≤ tot (gOf ps)) ∧ (∀ (k : Nat) (u : Sl × List Int), us[k]? = some u → u.2 = us0 (gOf ps) ps.length k) ∧ Frm none_ w w') ?_) (fun v w' ⟨t, us, h, h'⟩ => ⟨t, us, by rw [h], h'⟩)
  unfold F25
  have hl := h.len
  have hsl := hsm.len
  have hgl := gOf_len ps
  refine runT_makeN st22 (by omega) (by omega) (by omega) ?_
  intro t w1 hr1 htl htc hta f1 z1
  rw [made_one (.slice none 0 0) rfl] at hr1
  have htb : t.blk = some w.heap.size := by simp [Sl.blk, hta]
  have htl : t.l = s.l := by omega
  have e0 : List.replicate (((s.l : Nat) : Int).toNat * 1) (Value.slice none 0 0) = gv (List.replicate ps.length ((⟨none, 0, 0⟩ : Sl), [])) := by simp [gv, hl]
  rw [e0] at hr1
  have hU0 : Us2 w w1 t ps.length (List.replicate ps.length ((⟨none, 0, 0⟩ : Sl), [])) (gOf ps) 0 0 0 := by
    have hrep : ∀ u ∈ List.replicate ps.length ((⟨none, 0, 0⟩ : Sl), ([] : List Int)), u = (⟨none, 0, 0⟩, []) := fun u hu => (List.mem_replicate.1 hu).2
    refine ⟨by simp, hr1, fun u hu => by rw [hrep u hu]; exact Row.nil _ _ _, ?_, fun u hu k hk => by rw [hrep u hu] at hk; simp [Sl.blk] at hk, ?_, fun u hu => by rw [hrep u hu]; simp⟩
    · intro a b u v _ hu _ k hk
      rw [hrep u (List.mem_of_getElem? hu)] at hk; simp [Sl.blk] at hk
    · intro k u hu
      rw [hrep u (List.mem_of_getElem? hu)]; simp [usr, us0]
  refine ⟨fun n x w' => ∃ (i : Nat) (us : List (Sl × List Int)), x = (i : Int) ∧ i ≤ s.l ∧ n = s.l - i ∧ Us2 w w' t ps.length us (gOf ps) i 0 (tot ((gOf ps).take i)) ∧ Frm none_ w w', s.l, ⟨0, _, rfl, Nat.zero_le _, by omega, by simpa [tot] using hU0, f1⟩, ?_⟩
  rintro n u x w2 ⟨i, us, rfl, hi, rfl, hU, f2⟩
  refine IfB.intro (fun hc => ?_) (fun hc => ?_)
  · have hlt := of_decide_eq_true hc
    obtain ⟨q, p, hq, hp, hpm, hld, hh⟩ := (h.mod f2).at (i := i) (by omega)
    have hpl := has_iv hh
    have hgx := gOf_get hp
    have htt := tot_take hgx
    have hle := tot_le (gOf ps) (i + 1)
    refine ⟨q, hq, by omega, by omega, p.1, by rw [Int.toNat_natCast]; exact hld, ?_⟩
    refine ⟨fun n x w' => ∃ (j : Nat) (us : List (Sl × List Int)), x = (j : Int) ∧ j ≤ p.1.l ∧ n = p.1.l - j ∧ Us2 w w' t ps.length us (gOf ps) i j (tot ((gOf ps).take i) + j) ∧ Frm none_ w w', p.1.l, ⟨0, us, rfl, Nat.zero_le _, by omega, hU, f2⟩, ?_⟩
    rintro n u2 x w3 ⟨j, us, rfl, hj, rfl, hU, f3⟩
    refine IfB.intro (fun hd => ?_) (fun hd => ?_)
    · have hdl := of_decide_eq_true hd
      obtain ⟨q2, k, hq2, hk, hld2⟩ := has_at ((h.mod f3).each p hpm) (i := j) (by omega)
      obtain ⟨hk0, hk1⟩ := hv p hpm k (List.mem_of_getElem? hk)
      obtain ⟨y, rfl⟩ := Int.eq_ofNat_of_zero_le hk0
      have hrt := hU.row
      have hul := hU.len
      obtain ⟨q3, v3, hq3, hv3, hld3⟩ := hrt.has.at1 (i := (y : Int)) (by omega) (by omega)
      rw [Int.toNat_natCast] at hv3
      obtain ⟨uy, huy, rfl⟩ := gv_get hv3
      have hum := List.mem_of_getElem? huy
      have hry := hU.own uy hum
      have hsy := hU.sm uy hum
      refine ⟨q2, hq2, by omega, by omega, _, by rw [Int.toNat_natCast]; exact hld2, q3, hq3, by omega, by omega, uy.1, hld3, ?_⟩
      refine lit_push (i : Int) hry (by omega) ?_
      intro s' w4 hr4 hs4 f4
      have hrt4 := hrt.mod f4 (fun k hk hs => hrt.g.blkNe hry.g (by decide) k hk hs)
      have hyl : y < us.length := by omega
      obtain ⟨g, hg, hwr, hset⟩ := hrt4.wr (j := y) (by rw [gv_len]; exact hyl)
      have ead : (⟨g, 0, none⟩ : Addr).add ((y : Int).toNat * 1) = ⟨g, y, none⟩ := by rw [addr_add]; simp
      have htg : t.blk = some g := by simp [Sl.blk, hg]
      have hgt : g = w.heap.size := by rw [htb] at htg; simpa using htg.symm
      refine ⟨_, hg, by omega, by omega, by rw [ead]; exact hwr, ?_⟩
      rintro w5 rfl
      rw [ead]
      have f5 : Frm (fun k => k = g) w4 (w4.setCell ⟨g, y, none⟩ (.slice s'.a s'.l s'.c)) := mod_setCell (a := ⟨g, y, none⟩)
      have hr5 := hset (.slice s'.a s'.l s'.c)
      have e5 : (gv us).set y (.slice s'.a s'.l s'.c) = gv (us.set y (s', uy.2 ++ [(i : Int)])) := by simp [gv, List.map_set]
      rw [e5] at hr5
      have z3 := f3.size
      have hs'0 : ∀ k, s'.blk = some k → w.heap.size ≤ k := fun k hk => by
        rcases hs4 k hk with hk | hk
        · exact hU.fr uy hum k hk
        · omega
      have hne5 : ∀ (v : Sl) (cs : List Value), Row w4 v 3 1 cs → Row (w4.setCell ⟨g, y, none⟩ (.slice s'.a s'.l s'.c)) v 3 1 cs := fun v cs hv => hv.mod f5 (fun k hk e => hv.g.blkNe hrt4.g (by decide) k hk (by rw [htg, e]))
      have hset : ∀ (a : Nat) (v : Sl × List Int), (us.set y (s', uy.2 ++ [(i : Int)]))[a]? = some v → (a = y ∧ v = (s', uy.2 ++ [(i : Int)])) ∨ (a ≠ y ∧ us[a]? = some v) := by
        intro a v hav
        by_cases e : y = a
        · subst e; simp [hyl] at hav; exact .inl ⟨rfl, hav.symm⟩
        · rw [List.getElem?_set_ne e] at hav; exact .inr ⟨Ne.symm e, hav⟩
      have hoth : ∀ (a : Nat) (v : Sl × List Int), a ≠ y → us[a]? = some v → ∀ k, v.1.blk = some k → s'.blk ≠ some k := by
        intro a v hne hav k hk hk'
        rcases hs4 k hk' with h1 | h1
        · exact hU.ap a y v uy hne hav huy k hk h1
        · have := (hU.own v (List.mem_of_getElem? hav)).lt k hk; omega
      refine ⟨p.1.l - (j + 1), by omega, j + 1, us.set y (s', uy.2 ++ [(i : Int)]), by rw [wrap64 _ (by omega)]; omega, by omega, rfl, ⟨by rw [List.length_set]; exact hul, hr5, ?_, ?_, ?_, ?_, ?_⟩, (f3.trans f4 (fun _ _ h => h) (fun k hk hs => by have := hU.fr uy hum k hs; omega)).b f5 (by omega)⟩
      · intro v hv'
        obtain ⟨a, hav⟩ := List.mem_iff_getElem?.1 hv'
        rcases hset a v hav with ⟨_, rfl⟩ | ⟨hne, hav⟩
        · exact hne5 _ _ hr4
        · have hvm := List.mem_of_getElem? hav
          exact hne5 _ _ ((hU.own v hvm).mod f4 (fun k hk hs => hU.ap a y v uy hne hav huy k hk hs))
      · intro a b u v hab hau hbv k hk
        rcases hset a u hau with ⟨ea, eu⟩ | ⟨hne, hau2⟩
        · rcases hset b v hbv with ⟨eb, _⟩ | ⟨hne', hbv2⟩
          · exact absurd (ea.trans eb.symm) hab
          · rw [eu] at hk
            exact fun hk' => hoth b v hne' hbv2 k hk' hk
        · rcases hset b v hbv with ⟨eb, ev⟩ | ⟨hne', hbv2⟩
          · rw [ev]; exact hoth a u hne hau2 k hk
          · exact hU.ap a b u v hab hau2 hbv2 k hk
      · intro v hv' k hk
        obtain ⟨a, hav⟩ := List.mem_iff_getElem?.1 hv'
        rcases hset a v hav with ⟨_, rfl⟩ | ⟨hne, hav⟩
        · exact hs'0 k hk
        · exact hU.fr v (List.mem_of_getElem? hav) k hk
      · intro k v hkv
        rw [usr_next hgx hk]
        rcases hset k v hkv with ⟨rfl, rfl⟩ | ⟨hne, hav⟩
        · rw [if_pos rfl, hU.mem _ uy huy]
        · rw [if_neg hne, List.append_nil]; exact hU.mem k v hav
      · intro v hv'
        obtain ⟨a, hav⟩ := List.mem_iff_getElem?.1 hv'
        rcases hset a v hav with ⟨_, rfl⟩ | ⟨hne, hav⟩
        · simp; omega
        · have := hU.sm v (List.mem_of_getElem? hav); omega
    · have hdg := of_decide_eq_false hd
      have hjl : j = p.1.l := by omega
      refine ⟨s.l - (i + 1), by omega, i + 1, us, by rw [wrap64 _ (by omega)]; omega, by omega, rfl, ⟨hU.len, hU.row, hU.own, hU.ap, hU.fr, fun k u hku => ?_, fun u hu => by have := hU.sm u hu; omega⟩, f3⟩
      rw [hU.mem k u hku]
      exact usr_row hgx (by omega) k
  · have hge := of_decide_eq_false hc
    have hi2 : i = s.l := by omega
    refine ⟨t, us, rfl, ⟨hU.row.has, fun u hu => (hU.own u hu).has⟩, hU.len, fun u hu => ?_, fun k u hku => ?_, f2⟩
    · have := hU.sm u hu; have := tot_le (gOf ps) i; omega
    · rw [hU.mem k u hku, hi2, ← hl]; simp [usr]
end Go.Proofs.Ytjpcbggodhfabaa
