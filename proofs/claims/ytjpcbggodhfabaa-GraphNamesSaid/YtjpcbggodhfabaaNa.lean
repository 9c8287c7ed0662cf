/- The law GraphNames walked. -/
import Derived.Test.YtjpcbggodhfabaaRw
set_option linter.unusedVariables false
set_option linter.unusedSimpArgs false
namespace Go.Proofs.Ytjpcbggodhfabaa
open Go Go.Proofs.YtjpcbggodhfabaaV
def cyc : List (List Int) := [[2], [3], [1], [0, 2]]
theorem cyE {a b : Nat} (h : (a = 0 ∧ b = 2) ∨ (a = 1 ∧ b = 3) ∨ (a = 2 ∧ b = 1) ∨ (a = 3 ∧ b = 0) ∨ (a = 3 ∧ b = 2)) : E cyc a b := by
  rcases h with ⟨rfl, rfl⟩ | ⟨rfl, rfl⟩ | ⟨rfl, rfl⟩ | ⟨rfl, rfl⟩ | ⟨rfl, rfl⟩
  · exact ⟨[2], rfl, by simp⟩
  · exact ⟨[3], rfl, by simp⟩
  · exact ⟨[1], rfl, by simp⟩
  · exact ⟨[0, 2], rfl, by simp⟩
  · exact ⟨[0, 2], rfl, by simp⟩
theorem cyc_may : May cyc := by decide +kernel
theorem cyc_sort : sortC cyc = 64 := sort_cyc cyc_may (by decide +kernel)
theorem cyc_below : below cyc 1 = [0, 1, 2, 3] := by
  rw [below_eq (fun k => true) ?_]
  · rfl
  intro k hk
  have hk : k < 4 := hk
  have h3 : TC cyc 1 3 := TC.one (cyE (by omega))
  have h0 : TC cyc 1 0 := h3.more (cyE (by omega))
  have h2 : TC cyc 1 2 := h3.more (cyE (by omega))
  have h1 : TC cyc 1 1 := h2.more (cyE (by omega))
  match k with
  | 0 => simp [h0]
  | 1 => simp [h1]
  | 2 => simp [h2]
  | 3 => simp [h3]
  | k + 4 => omega
def twi : List (List Int) := [[1, 1, 2], [], []]
theorem twi_row : srow twi = [1, 2, 0] := by decide +kernel
theorem twi_sort : sortC twi = 0 ∧ sortL twi = [1, 2, 0] := by
  obtain ⟨h1, h2, _⟩ := sort_ok (g := twi) (by decide +kernel) (by rw [twi_row]; rfl)
  exact ⟨h1, by rw [h2, twi_row]⟩
theorem one_sort : sortC [[1]] = 1 := sort_bad (by decide +kernel)
theorem neg_sort : sortC [[-1]] = 1 := sort_bad (by decide +kernel)
theorem own_sort : sortC [[0]] = 64 := sort_cyc (by decide +kernel) (by decide +kernel)
theorem nil_sort : sortC [] = 0 ∧ sortL [] = [] := by
  obtain ⟨h1, h2, _⟩ := sort_ok (g := []) (by decide +kernel) (by decide +kernel)
  exact ⟨h1, by rw [h2]; rfl⟩
theorem acyc {g : List (List Int)} (hm : May g) (h : ∀ i, ¬ TC g i i) : sortC g = 0 ∧ (sortL g).length = g.length := by
  have hle := srow_le g
  have hf : (srow g).length = g.length := by
    refine Classical.byContradiction fun hn => ?_
    obtain ⟨i, _, hi⟩ := cyc_of_short hm.2.2 (by omega)
    exact h i hi
  obtain ⟨h1, h2, _⟩ := sort_ok hm hf
  exact ⟨h1, by rw [h2]; exact hf⟩
theorem tot_rep (n : Nat) : tot (List.replicate n []) = 0 := by simp [tot]
theorem rep_bad : sortC (List.replicate 4097 []) = 1 := sort_bad fun h => by
  have := h.1
  rw [List.length_replicate] at this; omega
theorem rep_ok : sortC (List.replicate 4096 []) = 0 ∧ (sortL (List.replicate 4096 [])).length = 4096 := by
  have hm : May (List.replicate 4096 []) := ⟨by rw [List.length_replicate]; omega, by rw [tot_rep]; omega, fun l hl k hk => by
    rw [(List.mem_replicate.1 hl).2] at hk; simp at hk⟩
  have := acyc hm (fun i ht => TC.all (M := fun _ => False) (fun y hy => by
    obtain ⟨l, hl, hm⟩ := hy
    rw [(List.mem_replicate.1 (List.mem_of_getElem? hl)).2] at hm; simp at hm) (fun _ h => h.elim) ht)
  rw [List.length_replicate] at this
  exact this
theorem tot_two (n : Nat) : tot [[], List.replicate n (0 : Int)] = n := by simp [tot]
theorem many_bad : sortC [[], List.replicate 65537 0] = 1 := sort_bad fun h => by
  have := h.2.1
  rw [tot_two] at this; omega
theorem two_ok (n : Nat) (hn : n ≤ 65536) : sortC [[], List.replicate n 0] = 0 := by
  have hm : May [[], List.replicate n 0] := ⟨by simp, by rw [tot_two]; omega, fun l hl k hk => by
    simp only [List.mem_cons, List.not_mem_nil, or_false] at hl
    rcases hl with rfl | rfl
    · simp at hk
    · rw [(List.mem_replicate.1 hk).2]; simp⟩
  have hE : ∀ a b, E [[], List.replicate n 0] a b → a = 1 ∧ b = 0 := by
    rintro a b ⟨l, hl, hb⟩
    match a with
    | 0 => simp at hl; subst hl; simp at hb
    | 1 =>
      simp only [List.getElem?_cons_succ, List.getElem?_cons_zero, Option.some.injEq] at hl
      rw [← hl] at hb
      have := (List.mem_replicate.1 hb).2
      exact ⟨rfl, by omega⟩
    | a + 2 => simp at hl
  refine (acyc hm fun i ht => ?_).1
  have h1 : i = 0 := TC.all (M := fun k => k = 0) (fun y hy => (hE _ _ hy).2) (fun x hx y hy => (hE _ _ hy).2) ht
  subst h1
  exact TC.all (M := fun _ => False) (fun y hy => by have := (hE _ _ hy).1; omega) (fun _ h => h.elim) ht
theorem many_ok : sortC [[], List.replicate 65536 0] = 0 := two_ok _ (by omega)
theorem two_len (n : Nat) : [[], List.replicate n (0 : Int)].length ≤ 100000 := by simp
theorem made_gw {n : Nat} (hn : n ≤ 100000) {m : Int} (hm : m = (n : Int)) {w : World} {K : Sl → World → Prop} (hk : ∀ t w', Gw w' t (List.replicate n ((⟨none, 0, 0⟩ : Sl), ([] : List Int))) → Frm none_ w w' → K t w') :
    RunT prog .slice (Instr.makeSlice 22 (.int .i64 m) (.int .i64 m)) w K := by
  subst hm
  refine runT_makeN st22 (by omega) (by omega) (by omega) ?_
  intro t w' hr htl htc hta f z
  rw [made_one (.slice none 0 0) rfl] at hr
  have e : List.replicate (((n : Nat) : Int).toNat * 1) (Value.slice none 0 0) = gv (List.replicate n ((⟨none, 0, 0⟩ : Sl), ([] : List Int))) := by rw [Int.toNat_natCast, Nat.mul_one]; simp [gv]
  rw [e] at hr
  refine hk t w' ⟨hr.has, fun p hp => ?_⟩ f
  rw [(List.mem_replicate.1 hp).2]
  exact Has.nil _ _ _ rfl
theorem gOf_rep (n : Nat) (s : Sl) : gOf (List.replicate n (s, [])) = List.replicate n [] := by simp [gOf]
/-- Needs of known lists are asked for their row. -/
theorem sortK (w : World) (s : Sl) (ps : List (Sl × List Int)) (h : Gw w s ps) {g : List (List Int)} (hg : gOf ps = g) (h1 : g.length ≤ 100000) (h2 : tot g ≤ 1000000) {c : Int} (hc : sortC g = c) : Calls prog 18 #[.slice s.a s.l s.c] w fun e w' =>
    ∃ t, e = .returned (.tuple #[.slice t.a t.l t.c, .int .i64 c]) ∧ Has w' t 1 (iv (sortL g)) ∧ Frm none_ w w' := by
  subst hg hc
  exact sort_calls w s ps h (small4 rfl h1 (fun l hl => by have := tot_mem hl; omega)) (by omega)
set_option maxRecDepth 40000 in
set_option maxHeartbeats 1000000 in
theorem names_calls (w : World) : Calls prog 5 #[] w fun e w' => e = .returned (.bool true) ∧ Frm none_ w w' := by
  refine callsRet (W5 (Q := fun v w' => v = .bool true ∧ Frm none_ w w') ?_) (fun v w' ⟨h, h'⟩ => ⟨by rw [h], h'⟩)
  unfold F5
  refine (works_calls w).mono ?_
  rintro _ w1 ⟨rfl, F⟩
  refine ⟨_, rfl, IfB.f rfl ?_⟩
  -- the cycle
  refine lit_iv (l := [2]) (by decide) (by decide) (by kernel_rfl) rfl ?_
  intro t41 w2 h1 f
  replace F := F.n f
  refine lit_iv (l := [3]) (by decide) (by decide) (by kernel_rfl) rfl ?_
  intro t42 w3 h2 f
  replace F := F.n f
  replace h1 := h1.mod f (fun _ _ h => h)
  refine lit_iv (l := [1]) (by decide) (by decide) (by kernel_rfl) rfl ?_
  intro t43 w4 h3 f
  replace F := F.n f
  replace h1 := h1.mod f (fun _ _ h => h)
  replace h2 := h2.mod f (fun _ _ h => h)
  refine lit_iv (l := [0, 2]) (by decide) (by decide) (by kernel_rfl) rfl ?_
  intro t44 w5 h4 f
  replace F := F.n f
  replace h1 := h1.mod f (fun _ _ h => h)
  replace h2 := h2.mod f (fun _ _ h => h)
  replace h3 := h3.mod f (fun _ _ h => h)
  refine lit_gv (n := 4) (ps := [(t41, [2]), (t42, [3]), (t43, [1]), (t44, [0, 2])]) (by decide) (by decide) (by kernel_rfl) rfl (by
    intro p hp
    simp only [List.mem_cons, List.not_mem_nil, or_false] at hp
    rcases hp with rfl | rfl | rfl | rfl <;> assumption) ?_
  intro t45 w6 hG f
  replace F := F.n f
  generalize hps : [(t41, [(2 : Int)]), (t42, [3]), (t43, [1]), (t44, [0, 2])] = ps at hG
  have hg : gOf ps = cyc := by rw [← hps]; rfl
  have hpl : ps.length = 4 := by rw [← hps]; rfl
  have hsm : Small ps := small4 hg (by decide) (by decide)
  have htt : tot (gOf ps) ≤ 1000000000 := by rw [hg]; decide
  refine (sortK w6 t45 ps hG hg (by decide) (by decide) cyc_sort).mono ?_
  rintro _ w7 ⟨t48, rfl, _, f⟩
  replace F := F.n f
  replace hG := hG.mod f
  refine ⟨t48, _, rfl, ?_⟩
  -- twice
  refine lit_iv (l := [1, 1, 2]) (by decide) (by decide) (by kernel_rfl) rfl ?_
  intro t52 w8 k1 f
  replace F := F.n f
  replace hG := hG.mod f
  refine lit0_iv ?_
  intro t53 w9 k2 f
  replace F := F.n f
  replace hG := hG.mod f
  replace k1 := k1.mod f (fun _ _ h => h)
  refine lit0_iv ?_
  intro t54 w10 k3 f
  replace F := F.n f
  replace hG := hG.mod f
  replace k1 := k1.mod f (fun _ _ h => h)
  replace k2 := k2.mod f (fun _ _ h => h)
  refine lit_gv (n := 3) (ps := [(t52, [1, 1, 2]), (t53, []), (t54, [])]) (by decide) (by decide) (by kernel_rfl) rfl (by
    intro p hp
    simp only [List.mem_cons, List.not_mem_nil, or_false] at hp
    rcases hp with rfl | rfl | rfl <;> assumption) ?_
  intro t55 w11 hT f
  replace F := F.n f
  replace hG := hG.mod f
  refine (sortK w11 t55 _ hT (g := twi) rfl (by decide) (by decide) twi_sort.1).mono ?_
  rintro _ w12 ⟨t56, rfl, ht56, f⟩
  replace F := F.n f
  replace hG := hG.mod f
  rw [twi_sort.2] at ht56
  refine ⟨t56, _, rfl, fun b w' => b = false ∧ Frm none_ w12 w', IfB.f rfl ?_, ?_⟩
  · refine lit_iv (l := [1, 2, 0]) (by decide) (by decide) (by kernel_rfl) rfl ?_
    intro t63 w13 k4 f
    refine (ints_calls w13 t56 t63 _ _ (ht56.mod f (fun _ _ h => h)) k4 (by rw [has_iv ht56]; decide)).mono ?_
    rintro _ w14 ⟨b, rfl, hb, f'⟩
    obtain rfl : b = true := hb.2 rfl
    exact ⟨_, rfl, rfl, f.n f'⟩
  rintro u b w13 ⟨rfl, f⟩
  replace F := F.n f
  replace hG := hG.mod f
  refine IfB.f rfl ?_
  refine (levels_calls w13 t45 ps hG hsm htt).mono ?_
  rintro _ w14 ⟨t69, rfl, _, f⟩
  rw [hg, cyc_sort]
  replace F := F.n f
  replace hG := hG.mod f
  refine ⟨t69, _, rfl, ?_⟩
  refine (below_calls w14 t45 ps hG hsm htt 1).mono ?_
  rintro _ w15 ⟨t74, c74, rfl, hc1, _, f⟩
  obtain ⟨rfl, htc⟩ := hc1 ⟨by rw [hg]; exact cyc_may, by decide, by rw [hpl]; decide⟩
  rw [hg, show (1 : Int).toNat = 1 from rfl, cyc_below] at htc
  replace F := F.n f
  clear hG
  refine ⟨t74, _, rfl, ?_⟩
  -- 1 of 1
  refine lit_iv (l := [1]) (by decide) (by decide) (by kernel_rfl) rfl ?_
  intro t78 w16 k5 f
  replace F := F.n f
  replace htc := htc.mod f (fun _ _ h => h)
  refine lit_gv (n := 1) (ps := [(t78, [1])]) (by decide) (by decide) (by kernel_rfl) rfl (by
    intro p hp
    simp only [List.mem_cons, List.not_mem_nil, or_false] at hp
    subst hp; assumption) ?_
  intro t79 w17 k6 f
  replace F := F.n f
  replace htc := htc.mod f (fun _ _ h => h)
  refine (sortK w17 t79 _ k6 (g := [[1]]) rfl (by decide) (by decide) one_sort).mono ?_
  rintro _ w18 ⟨t80, rfl, _, f⟩
  replace F := F.n f
  replace htc := htc.mod f (fun _ _ h => h)
  refine ⟨t80, _, rfl, ?_⟩
  -- less than 0
  refine lit_iv (l := [-1]) (by decide) (by decide) (by kernel_rfl) rfl ?_
  intro t84 w19 k7 f
  replace F := F.n f
  replace htc := htc.mod f (fun _ _ h => h)
  refine lit_gv (n := 1) (ps := [(t84, [-1])]) (by decide) (by decide) (by kernel_rfl) rfl (by
    intro p hp
    simp only [List.mem_cons, List.not_mem_nil, or_false] at hp
    subst hp; assumption) ?_
  intro t85 w20 k8 f
  replace F := F.n f
  replace htc := htc.mod f (fun _ _ h => h)
  refine (sortK w20 t85 _ k8 (g := [[-1]]) rfl (by decide) (by decide) neg_sort).mono ?_
  rintro _ w21 ⟨t86, rfl, _, f⟩
  replace F := F.n f
  replace htc := htc.mod f (fun _ _ h => h)
  refine ⟨t86, _, rfl, ?_⟩
  -- on itself
  refine lit_iv (l := [0]) (by decide) (by decide) (by kernel_rfl) rfl ?_
  intro t90 w22 k9 f
  replace F := F.n f
  replace htc := htc.mod f (fun _ _ h => h)
  refine lit_gv (n := 1) (ps := [(t90, [0])]) (by decide) (by decide) (by kernel_rfl) rfl (by
    intro p hp
    simp only [List.mem_cons, List.not_mem_nil, or_false] at hp
    subst hp; assumption) ?_
  intro t91 w23 k10 f
  replace F := F.n f
  replace htc := htc.mod f (fun _ _ h => h)
  refine (sortK w23 t91 _ k10 (g := [[0]]) rfl (by decide) (by decide) own_sort).mono ?_
  rintro _ w24 ⟨t92, rfl, _, f⟩
  replace F := F.n f
  replace htc := htc.mod f (fun _ _ h => h)
  refine ⟨t92, _, rfl, ?_⟩
  -- nothing
  have hnil : ∀ w', Gw w' ⟨none, 0, 0⟩ [] := fun w' => ⟨Has.nil _ _ _ rfl, by simp⟩
  refine (sortK w24 ⟨none, 0, 0⟩ [] (hnil _) (g := []) rfl (by decide) (by decide) nil_sort.1).mono ?_
  rintro _ w25 ⟨t96, rfl, ht96, f⟩
  replace F := F.n f
  replace htc := htc.mod f (fun _ _ h => h)
  rw [nil_sort.2] at ht96
  have hl96 := has_iv ht96
  refine ⟨t96, _, rfl, ?_⟩
  refine (below_calls w25 ⟨none, 0, 0⟩ [] (hnil _) (small4 (g := []) rfl (by decide) (by simp)) (by decide) 0).mono ?_
  rintro _ w26 ⟨t100, c100, rfl, _, hc0, f⟩
  obtain ⟨rfl, rfl⟩ := hc0 (fun h => by have := h.2.2; simp at this)
  replace F := F.n f
  replace htc := htc.mod f (fun _ _ h => h)
  refine ⟨_, _, rfl, ?_⟩
  -- Above
  refine lit0_iv ?_
  intro t104 w27 k11 f
  replace F := F.n f
  replace htc := htc.mod f (fun _ _ h => h)
  refine lit_gv (n := 1) (ps := [(t104, [])]) (by decide) (by decide) (by kernel_rfl) rfl (by
    intro p hp
    simp only [List.mem_cons, List.not_mem_nil, or_false] at hp
    subst hp; assumption) ?_
  intro t105 w28 k12 f
  replace F := F.n f
  replace htc := htc.mod f (fun _ _ h => h)
  refine (above_calls w28 t105 _ k12 (small4 (g := [[]]) rfl (by decide) (by simp)) (by show tot [[]] ≤ 1000000000; decide) 1).mono ?_
  rintro _ w29 ⟨t106, c106, rfl, _, hc0, f⟩
  obtain ⟨rfl, rfl⟩ := hc0 (fun h => by have := h.2.2; simp at this)
  replace F := F.n f
  replace htc := htc.mod f (fun _ _ h => h)
  refine ⟨_, _, rfl, ?_⟩
  refine lit0_iv ?_
  intro t110 w30 k13 f
  replace F := F.n f
  replace htc := htc.mod f (fun _ _ h => h)
  refine lit_gv (n := 1) (ps := [(t110, [])]) (by decide) (by decide) (by kernel_rfl) rfl (by
    intro p hp
    simp only [List.mem_cons, List.not_mem_nil, or_false] at hp
    subst hp; assumption) ?_
  intro t111 w31 k14 f
  replace F := F.n f
  replace htc := htc.mod f (fun _ _ h => h)
  refine (above_calls w31 t111 _ k14 (small4 (g := [[]]) rfl (by decide) (by simp)) (by show tot [[]] ≤ 1000000000; decide) (-1)).mono ?_
  rintro _ w32 ⟨t112, c112, rfl, _, hc0, f⟩
  obtain ⟨rfl, rfl⟩ := hc0 (fun h => by have := h.2.1; simp at this)
  replace F := F.n f
  replace htc := htc.mod f (fun _ _ h => h)
  refine ⟨_, _, rfl, ?_⟩
  -- as many as may be
  refine made_gw (n := 4097) (by omega) rfl ?_
  intro t116 w33 k15 f
  replace F := F.n f
  replace htc := htc.mod f (fun _ _ h => h)
  refine (sortK w33 t116 _ k15 (gOf_rep 4097 _) (by rw [List.length_replicate]; omega) (by rw [tot_rep]; omega) rep_bad).mono ?_
  rintro _ w34 ⟨t117, rfl, _, f⟩
  replace F := F.n f
  replace htc := htc.mod f (fun _ _ h => h)
  refine ⟨_, _, rfl, ?_⟩
  refine made_gw (n := 4096) (by omega) rfl ?_
  intro t121 w35 k16 f
  replace F := F.n f
  replace htc := htc.mod f (fun _ _ h => h)
  refine (sortK w35 t121 _ k16 (gOf_rep 4096 _) (by rw [List.length_replicate]; omega) (by rw [tot_rep]; omega) rep_ok.1).mono ?_
  rintro _ w36 ⟨t122, rfl, ht122, f⟩
  replace F := F.n f
  replace htc := htc.mod f (fun _ _ h => h)
  have hl122 := has_iv ht122
  rw [rep_ok.2] at hl122
  refine ⟨_, _, rfl, ?_⟩
  -- as many needs as may be
  refine runT_makeN st25 (by omega) (by omega) (by omega) ?_
  intro t125 w37 hr hl125 hc125 _ f z
  replace F := F.n f
  replace htc := htc.mod f (fun _ _ h => h)
  rw [made_one (.int .i64 0) rfl] at hr
  have e125 : List.replicate ((65537 : Int).toNat * 1) (Value.int .i64 0) = iv (List.replicate 65537 0) := by
    rw [show (65537 : Int).toNat * 1 = 65537 by omega]; simp only [iv, List.map_replicate]
  rw [e125] at hr
  have hm := hr.has
  refine lit0_iv ?_
  intro t127 w38 k17 f
  replace F := F.n f
  replace htc := htc.mod f (fun _ _ h => h)
  replace hm := hm.mod f (fun _ _ h => h)
  refine lit_gv (n := 2) (ps := [(t127, []), (t125, List.replicate 65537 0)]) (by decide) (by decide) (by kernel_rfl) rfl (by
    intro p hp
    simp only [List.mem_cons, List.not_mem_nil, or_false] at hp
    rcases hp with rfl | rfl <;> assumption) ?_
  intro t129 w39 k18 f
  replace F := F.n f
  replace htc := htc.mod f (fun _ _ h => h)
  replace hm := hm.mod f (fun _ _ h => h)
  refine (sortK w39 t129 _ k18 (g := [[], List.replicate 65537 0]) rfl (two_len _) (by rw [tot_two]; omega) many_bad).mono ?_
  rintro _ w40 ⟨t130, rfl, _, f⟩
  replace F := F.n f
  replace htc := htc.mod f (fun _ _ h => h)
  replace hm := hm.mod f (fun _ _ h => h)
  refine ⟨_, _, rfl, ?_⟩
  refine lit0_iv ?_
  intro t134 w41 k19 f
  replace F := F.n f
  replace htc := htc.mod f (fun _ _ h => h)
  replace hm := hm.mod f (fun _ _ h => h)
  refine ⟨⟨by omega, by omega⟩, ?_⟩
  have hcut := hm.cut 1 (by omega) (by omega)
  have ecut : (iv (List.replicate 65537 0)).drop (1 * 1) = iv (List.replicate 65536 0) := by
    unfold iv
    rw [← List.map_drop, List.drop_replicate]
  rw [ecut] at hcut
  refine lit_gv (n := 2) (ps := [(t134, []), (⟨slA t125.a 1 t125.c 1, t125.l - 1, t125.c - 1⟩, List.replicate 65536 0)]) (by decide) (by decide) (by kernel_rfl) rfl (by
    intro p hp
    simp only [List.mem_cons, List.not_mem_nil, or_false] at hp
    rcases hp with rfl | rfl <;> assumption) ?_
  intro t137 w42 k20 f
  replace F := F.n f
  replace htc := htc.mod f (fun _ _ h => h)
  refine (sortK w42 t137 _ k20 (g := [[], List.replicate 65536 0]) rfl (two_len _) (by rw [tot_two]; omega) many_ok).mono ?_
  rintro _ w43 ⟨t138, rfl, _, f⟩
  replace F := F.n f
  replace htc := htc.mod f (fun _ _ h => h)
  refine ⟨_, _, rfl, ?_⟩
  refine IfB.t rfl (IfB.t rfl (IfB.t rfl ?_))
  refine lit_iv (l := [0, 1, 2, 3]) (by decide) (by decide) (by kernel_rfl) rfl ?_
  intro t153 w44 k21 f
  replace F := F.n f
  replace htc := htc.mod f (fun _ _ h => h)
  refine (ints_calls w44 t74 t153 _ _ htc k21 (by rw [has_iv htc]; decide)).mono ?_
  rintro _ w45 ⟨b, rfl, hb, f⟩
  obtain rfl : b = true := hb.2 rfl
  replace F := F.n f
  refine ⟨_, rfl, IfB.t rfl (IfB.t rfl (IfB.t rfl (IfB.t rfl (IfB.t (by rw [hl96]; rfl) (IfB.t rfl (IfB.t rfl (IfB.t rfl (IfB.t rfl (IfB.t rfl (IfB.t rfl (IfB.t (by rw [hl122]; rfl) (IfB.t rfl ⟨rfl, F⟩))))))))))))⟩
theorem names_law (W : World) : Calls prog 5 #[] W fun e w' => e = .returned (.bool true) ∧ Frm none_ W w' := names_calls W
end Go.Proofs.Ytjpcbggodhfabaa
