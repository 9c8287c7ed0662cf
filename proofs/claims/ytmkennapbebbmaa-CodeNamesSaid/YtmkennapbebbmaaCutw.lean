/- The law CodeCuts walked: the loop that lays, the loop that reads. -/
import Derived.Test.YtmkennapbebbmaaCuts
set_option linter.unusedVariables false
set_option linter.unusedSimpArgs false
namespace Go.Proofs.Ytmkennapbebbmaa
open Go Go.Proofs.YtmkennapbebbmaaV
theorem tcOne (t : Th) : ∀ y, y ∈ (tc t).toArray.toList → y.oneCell' = true := fun y hy => tc_one t y (by simpa using hy)
theorem b36c (n : Int) : BuildIs prog 36 #[(0, .int .i64 n)] (toldV (n, [])) := b36a n
theorem b36d (s : ByteArray) : BuildIs prog 36 #[(1, .string s)] (toldV (0, s.data.toList)) := by
  have e : toldV (0, s.data.toList) = #[.int .i64 0, .string s] := by unfold toldV; rw [str_list]
  rw [e]; exact b36b s

/-- One more thing is laid. -/
theorem CutI.step {w : World} {l : List Th} {i : Nat} {x5 x6 x7 : Sl} {w3 : World} (hI : CutI w l i x5 x6 x7 w3) {t : Th} (htl : l[i]? = some t) (ht : OkT t) (hi : i < 1000) (hx5 : x5.l ≤ 1000000) {b : Nat} (hB : Blk w3 b (tc t).toArray 28) (hb : w.heap.size ≤ b) (hbn : ∀ k, x7.blk = some k → k ≠ b)
    {K : Sl → Sl → Sl → World → Prop} (hK : ∀ t46 t51 t43 w9, CutI w l (i + 1) t46 t51 t43 w9 → K t46 t51 t43 w9) :
    ∃ t41 : Array Value, LdA w3 (⟨b, 0, none⟩ : Addr) 3 t41 ∧
    RunT prog .slice (Instr.buildSlice 23 1 #[(0, .agg t41)]) w3 fun (t42 : Sl) w1_4 =>
    RunT prog .slice (Builtin.append_ #[23, 23] 23 #[.slice x7.a x7.l x7.c, .slice t42.a t42.l t42.c]) w1_4 fun (t43 : Sl) w1_5 =>
    ∃ t44 : Array Value, LdA w1_5 (⟨b, 0, none⟩ : Addr) 3 t44 ∧
    Calls prog 12 #[.agg t44, .slice x5.a x5.l x5.c] w1_5 fun en w1_6 =>
    ∃ t46 : Sl, en = .returned (.slice t46.a t46.l t46.c) ∧
    RunT prog .slice (Instr.buildSlice 58 1 #[(0, .int .i64 ((t46.l : Nat) : Int))]) w1_6 fun (t50 : Sl) w1_7 =>
    RunT prog .slice (Builtin.append_ #[58, 58] 58 #[.slice x6.a x6.l x6.c, .slice t50.a t50.l t50.c]) w1_7 fun (t51 : Sl) w1_8 =>
    K t46 t51 t43 w1_8 := by
  have hl6 := hI.l6
  have hl7 := hI.l7
  refine ⟨_, hB.ldA rfl, runT_lit1 st23 (by decide) rfl ?_⟩
  intro w4 hr4 hm4 hs4
  have hr7' := hI.r7.mod hm4 (fun _ _ h => h)
  have ecell : (Value.agg (tc t).toArray).cells.toList = tc t := by simp [Value.cells]
  rw [ecell] at hr4
  refine runT_append st23 hr7' hr4.has (tc_one t) (by simp; omega) (by simp [maxLen]; omega) ?_
  intro t43 w5 hr5 hl5 hn5 hm5
  have hl5 : t43.l = x7.l + 1 := hl5
  have f4 := trN hI.fr hm4
  have f5 := hI.n7.frm f4 hm5
  have hB4 := hB.mod hm4 (fun h => h)
  have hB5 := hB4.mod hm5 (fun h => hbn b h rfl)
  refine ⟨_, hB5.ldA rfl, ?_⟩
  have h5' := (hI.r5.mod hm4 (fun _ _ h => h))
  have h5'' := h5'.mod hm5 (h5'.ne hr7' (by decide))
  refine (thing_lay w5 t ht x5 _ h5''.has (by omega)).mono ?_
  rintro _ w6 ⟨t46, rfl, hr6, ⟨k6, hk6, hks6⟩, hm6⟩
  have e5 : (l.take i).flatMap tb ++ tb t = (l.take (i + 1)).flatMap tb := by
    rw [List.take_add_one, htl, List.flatMap_append]; simp
  rw [e5] at hr6
  have hl46 := rowLen hr6
  refine ⟨t46, rfl, runT_lit1 st58 (by decide) rfl ?_⟩
  intro w7 hr7 hm7 hs7
  have f6 := trN f5 hm6
  have f7 := trN f6 hm7
  have g6a := hI.r6.mod hm4 (fun _ _ h => h)
  have g6b := g6a.mod hm5 (g6a.ne hr7' (by decide))
  have g6c := (g6b.mod hm6 (fun _ _ h => h)).mod hm7 (fun _ _ h => h)
  have ecell2 : (Value.int IntKind.i64 ((t46.l : Nat) : Int)).cells.toList = [.int .i64 (((l.take (i + 1)).flatMap tb).length : Int)] := by
    rw [hl46]; rfl
  rw [ecell2] at hr7
  refine runT_append st58 g6c hr7.has (by intro u hu; simp at hu; subst hu; rfl) (by simp; omega) (by simp [maxLen]; omega) ?_
  intro t51 w8 hr8 hl8 hn8 hm8
  have hl8 : t51.l = x6.l + 1 := hl8
  have f8 := hI.n6.frm f7 hm8
  have a7 := (hr5.mod hm6 (fun _ _ h => h)).mod hm7 (fun _ _ h => h)
  have a5 := hr6.mod hm7 (fun _ _ h => h)
  refine hK _ _ _ _ ⟨a5.mod hm8 (a5.ne g6c (by decide)), ?_, ?_, by omega, by omega, ?_, hI.n6.near (w2 := w8) hn8 f7.size, hI.n7.near (w2 := w5) hn5 f4.size, f8⟩
  · rw [ends_succ]; exact hr8
  · have e7 : (l.take i).flatMap tc ++ tc t = (l.take (i + 1)).flatMap tc := by
      rw [List.take_add_one, htl, List.flatMap_append]; simp
    rw [e7] at a7
    exact a7.mod hm8 (a7.ne g6c (by decide))
  · intro k hk
    rw [hk6] at hk; cases hk
    exact Nat.le_trans f5.size hks6
theorem umod (x : Int) (n : Nat) (hn : n ≤ 1000000) : ∃ k : Nat, IntKind.wrap .i64 (Int.tmod (IntKind.wrap .u64 x) (IntKind.wrap .u64 (IntKind.wrap .i64 ((n : Int) + 1)))) = (k : Int) ∧ k ≤ n := by
  have e : IntKind.wrap .u64 (IntKind.wrap .i64 ((n : Int) + 1)) = ((n + 1 : Nat) : Int) := by rw [wi _ (by omega), wu64 _ (by omega)]; omega
  have hx : 0 ≤ IntKind.wrap .u64 x := by rw [wu64m]; omega
  rw [e, Int.tmod_eq_emod_of_nonneg hx]
  generalize IntKind.wrap .u64 x = y at hx
  have h1 := Int.emod_nonneg y (show ((n + 1 : Nat) : Int) ≠ 0 by omega)
  have h2 := Int.emod_lt_of_pos y (show (0 : Int) < ((n + 1 : Nat) : Int) by omega)
  generalize y % ((n + 1 : Nat) : Int) = z at h1 h2
  refine ⟨z.toNat, ?_, by omega⟩
  rw [wi _ (by omega)]
  omega
theorem row_c {w : World} {s : Sl} {E sz : Nat} {cs : List Value} (h : Row w s E sz cs) : s.l ≤ s.c := by
  rcases h.cases with ⟨rfl, _⟩ | ⟨g, cur, ha, hB, h1, _⟩
  · exact Nat.le_refl _
  · exact h1

set_option maxRecDepth 20000 in
theorem cuts_calls (w : World) (s : Sl) (l0 : List Th) (x1 : Int) (hl : HasL w s 3 tc l0) (hok : ∀ t ∈ l0, OkT t) (hs : s.l ≤ 140737488351232) :
    Calls prog 10 #[.slice s.a s.l s.c, .int .i64 x1] w fun e w' => e = .returned (.bool true) ∧ Frm none_ w w' := by
  refine calls_ret (W10 (Q := fun v w' => v = .bool true ∧ Frm none_ w w') ?_) (fun v w' ⟨h, h'⟩ => ⟨by rw [h], h'⟩)
  unfold F10
  have hll := hl.len
  refine ⟨fun v w' => Frm none_ w w' ∧ (v = false → wt l0 < 20000), ?_, ?_⟩
  · refine (works_calls w).mono ?_
    rintro _ w1 ⟨rfl, hm⟩
    refine ⟨true, rfl, IfB.f rfl ?_⟩
    refine (long_calls w1 s l0 (hl.mod hm (fun _ _ h => h)) hok hs).mono ?_
    rintro _ _ ⟨v, rfl, rfl, hv⟩
    exact ⟨v, rfl, hm, hv⟩
  rintro u x21 w1 ⟨hm1, hv⟩
  refine IfB.intro (fun h => ?_) (fun h => ?_)
  · refine (works_calls w1).mono ?_
    rintro _ w2 ⟨rfl, hm⟩
    exact ⟨true, rfl, rfl, trN hm1 hm⟩
  have hwt := hv h
  have hlen : s.l ≤ 1000 := by have := wt_len l0; omega
  generalize hL : l0.map fixT = l
  have hLl : l.length = s.l := by rw [← hL, List.length_map]; exact hll
  have hown : ∀ t ∈ l, OwnT t := by
    intro t ht
    rw [← hL] at ht
    obtain ⟨t0, ht0, rfl⟩ := List.mem_map.1 ht
    exact fixT_own (hok t0 ht0) (by have := wt_mem ht0; omega)
  have hwl : wt l = wt l0 := by
    rw [← hL]; clear hL hLl hown hwt hll hok hl hv
    induction l0 with
    | nil => rfl
    | cons t r ih =>
      have : (fixT t).s = t.s := by unfold fixT; split <;> rfl
      simp only [List.map_cons, wt, ih, this]
  have hflat : ∀ i, ((l.take i).flatMap tb).length ≤ 20000 := by
    intro i
    have h1 := flat_len (l := l.take i) (fun t ht => (hown t (List.mem_of_mem_take ht)).ok)
    have := wt_take l i
    omega
  refine ⟨fun n x5 x6 x7 x8 w' => ∃ i : Nat, x8 = (i : Int) ∧ i ≤ s.l ∧ n = s.l - i ∧ CutI w l i x5 x6 x7 w', s.l, ⟨0, rfl, by omega, by omega, ⟨Row.nil _ _ _, Row.nil _ _ _, Row.nil _ _ _, rfl, rfl, by intro k hk; simp [Sl.blk] at hk, by intro k hk; simp [Sl.blk] at hk, by intro k hk; simp [Sl.blk] at hk, hm1⟩⟩, ?_⟩
  rintro n u1 x5 x6 x7 x8 w2 ⟨i, rfl, hi, rfl, hI⟩
  have hl5 := rowLen hI.r5
  have h5le : x5.l ≤ 20000 := by rw [hl5]; exact hflat i
  refine IfB.intro (fun h => ?_) (fun h => ?_)
  · have hlt := of_decide_eq_true h
    obtain ⟨p, t0, hp, ht0, htm, _, hla⟩ := (hl.mod hI.fr (fun _ _ h => h)).at (by omega) (i := (i : Int)) (by omega) hlt
    have ht0 : l0[i]? = some t0 := by simpa using ht0
    have htl : l[i]? = some (fixT t0) := by rw [← hL, List.getElem?_map, ht0]; rfl
    refine ⟨p, hp, by omega, hlt, _, hla, ?_⟩
    intro b9 w3 hnb
    have hm3 := hnb.mod none_
    obtain ⟨hwr, hB3, hm3'⟩ := hnb.blk.whole (vs := (tc t0).toArray) rfl
    refine ⟨rfl, tcOne t0, hwr, ?_⟩
    rintro w4 rfl
    have hb9 : w2.heap.size ≤ b9 := by obtain ⟨h, _⟩ := hnb; omega
    have hb9w : w.heap.size ≤ b9 := Nat.le_trans hI.fr.size hb9
    generalize setAt w3 (⟨b9, 0, none⟩ : Addr) (tc t0).toArray.toList 0 = w4 at hB3 hm3'
    have hm4 : Frm none_ w2 w4 := hm3.trans hm3' (fun _ _ h => h) (fun x hx he => by omega)
    have m0 : ∀ {w5}, Frm none_ w2 w5 → CutI w l i x5 x6 x7 w5 := fun hm => ⟨hI.r5.mod hm (fun _ _ h => h), hI.r6.mod hm (fun _ _ h => h), hI.r7.mod hm (fun _ _ h => h), hI.l6, hI.l7, hI.n5, hI.n6, hI.n7, trN hI.fr hm⟩
    have hbn : ∀ k, x7.blk = some k → k ≠ b9 := fun k hk => by have := hI.r7.lt k hk; omega
    have fin : ∀ t46 t51 t43 w9, CutI w l (i + 1) t46 t51 t43 w9 → ∃ n', n' < s.l - i ∧ ∃ i' : Nat, IntKind.wrap .i64 ((i : Int) + 1) = (i' : Int) ∧ i' ≤ s.l ∧ n' = s.l - i' ∧ CutI w l i' t46 t51 t43 w9 :=
      fun t46 t51 t43 w9 hC => ⟨s.l - (i + 1), by omega, i + 1, by rw [wi _ (by omega)]; omega, by omega, rfl, hC⟩
    have hto := (hown _ (List.mem_of_getElem? htl)).ok
    refine ⟨t0.k, by rw [addr_add]; exact hB3.ld rfl, IfB.intro (fun hk => ?_) (fun hk => ?_)⟩
    · have hk1 := eq_of_beq hk
      refine ⟨t0.n, by rw [addr_add]; exact hB3.ld rfl, by rw [addr_add]; exact hB3.wr (show 1 < 3 by decide), ?_⟩
      rintro w5 rfl
      rw [addr_add]
      have ef : fixT t0 = ⟨t0.k, bitsI .and .i64 t0.n 2147483647, t0.s⟩ := by unfold fixT; rw [if_pos hk1]
      have hB5 : Blk (w4.setCell ⟨b9, 0 + 1, none⟩ (.int .i64 (bitsI .and .i64 t0.n 2147483647))) b9 (tc (fixT t0)).toArray 28 := by rw [ef]; exact hB3.set 1 _
      have hm5 : Frm none_ w2 (w4.setCell ⟨b9, 0 + 1, none⟩ (.int .i64 (bitsI .and .i64 t0.n 2147483647))) := hm4.trans (mod_setCell (a := ⟨b9, 0 + 1, none⟩)) (fun _ _ h => h) (fun x hx he => by have he : x = b9 := he; omega)
      exact (m0 hm5).step htl hto (by omega) (by omega) hB5 hb9w hbn fin
    · have hk1 := ne_of_beq_false hk
      have ef : fixT t0 = t0 := by unfold fixT; rw [if_neg hk1]
      rw [ef] at htl hto
      exact (m0 hm4).step htl hto (by omega) (by omega) hB3 hb9w hbn fin
  · have hge := of_decide_eq_false h
    have hi' : i = s.l := by omega
    subst hi'
    have htake : l.take s.l = l := List.take_of_length_le (by omega)
    have hr5 := hI.r5
    have hr7 := hI.r7
    rw [htake] at hr5 hr7 hl5
    generalize hBd : l.flatMap tb = B at hr5 hl5
    have h5c := row_c hr5
    obtain ⟨k, hk, hkle⟩ := umod x1 x5.l (by omega)
    refine ⟨by rw [wi _ (by omega), wu64 _ (by omega)]; omega, ?_⟩
    rw [hk]
    refine ⟨by omega, ?_⟩
    rw [slA_none, Int.toNat_natCast, Nat.sub_zero, Nat.sub_zero]
    have hhd := hr5.has.head k x5.c hkle
    rw [bv_take] at hhd
    refine (newReader_calls w2 ⟨x5.a, k, x5.c⟩ (B.take k) hhd (by simp only; omega)).mono ?_
    rintro _ w3 ⟨kr, rfl, hkr, hR, hm3⟩
    have hkrw : w.heap.size ≤ kr := Nat.le_trans hI.fr.size hkr
    have hl7 := hI.l7
    have hl6 := hI.l6
    refine ⟨_, rfl, fun n x12 w' => ∃ j : Nat, x12 = (j : Int) ∧ j ≤ s.l ∧ n = s.l - j ∧ ((l.take j).flatMap tb).length ≤ k ∧ RdQ w' (some ⟨kr, 0, none⟩) (some ((B.take k).drop ((l.take j).flatMap tb).length)) ∧ Frm (fun b => b = kr) w3 w', s.l,
      ⟨0, rfl, by omega, by omega, by simp, .inr ⟨kr, rfl, by simpa using hR⟩, Frm.refl _ _⟩, ?_⟩
    rintro n u2 x12 w4 ⟨j, rfl, hj, rfl, hpos, hQ, hm4⟩
    -- what lies there still
    have hkr3 : ∀ b, b < w2.heap.size → b ≠ kr := fun b hb => by omega
    have a7 : Row w4 x7 28 3 (l.flatMap tc) := (hr7.mod hm3 (fun _ _ h => h)).mod hm4 (fun b hb => hkr3 b (hr7.lt b hb))
    have a6 : Row w4 x6 3 1 (ends l s.l) := (hI.r6.mod hm3 (fun _ _ h => h)).mod hm4 (fun b hb => hkr3 b (hI.r6.lt b hb))
    have f4 : Frm none_ w w4 := (trN hI.fr hm3).trans hm4 (fun _ _ h => h) (fun x hx he => by omega)
    have f4q : Frm (Of (some ⟨kr, 0, none⟩)) w3 w4 := hm4.mono (fun x _ he => by subst he; rfl)
    refine IfB.intro (fun h => ?_) (fun h => ?_)
    · have hlt := of_decide_eq_true h
      have hL7 : HasL w4 x7 3 tc l := ⟨a7.has, by omega, fun _ _ => rfl⟩
      obtain ⟨p, t, hp, ht, htm, _, hla⟩ := hL7.at (by omega) (i := (j : Int)) (by omega) hlt
      have htl : l[j]? = some t := by simpa using ht
      have hto := hown t htm
      have hsp : (l.take (j + 1)).flatMap tb = (l.take j).flatMap tb ++ tb t := by
        rw [List.take_add_one, htl, List.flatMap_append]; simp
      obtain ⟨R, hBR⟩ : ∃ R, B = (l.take j).flatMap tb ++ (tb t ++ R) := by
        refine ⟨(l.drop (j + 1)).flatMap tb, ?_⟩
        rw [← hBd, ← List.append_assoc, ← hsp, ← List.flatMap_append, List.take_append_drop]
      have hst : (B.take k).drop ((l.take j).flatMap tb).length = (tb t ++ R).take (k - ((l.take j).flatMap tb).length) := by
        rw [hBR, List.take_append, List.take_of_length_le hpos, List.drop_left]
      rw [hst] at hQ
      generalize hposd : ((l.take j).flatMap tb).length = pos at hpos hQ hst
      refine ⟨p, hp, by omega, hlt, _, hla, ?_⟩
      intro b13 w5 hnb
      have hm5 := hnb.mod none_
      have hb13 : w4.heap.size = b13 := by obtain ⟨h, _⟩ := hnb; omega
      have hs5 := hnb.size
      obtain ⟨hwr, hB5, hm5'⟩ := hnb.blk.whole (vs := (tc t).toArray) rfl
      refine ⟨rfl, tcOne t, hwr, ?_⟩
      rintro w6 rfl
      generalize setAt w5 (⟨b13, 0, none⟩ : Addr) (tc t).toArray.toList 0 = w6 at hB5 hm5'
      have g6 : Frm none_ w4 w6 := hm5.trans hm5' (fun _ _ h => h) (fun x hx he => by omega)
      refine ⟨t.n, by rw [addr_add]; exact hB5.ld rfl, toldV (t.n, []), b36c _, ?_⟩
      intro b14 w7 hnb2
      have hm7 := hnb2.mod none_
      have hb14 : w6.heap.size = b14 := by obtain ⟨h, _⟩ := hnb2; omega
      have hs7 := hnb2.size
      have hbb : b13 < b14 := by have := hm5'.size; omega
      obtain ⟨hwr2, hB7, hm7'⟩ := hnb2.blk.whole (vs := toldV (t.n, [])) rfl
      refine ⟨rfl, toldOne _, hwr2, ?_⟩
      rintro w8 rfl
      generalize setAt w7 (⟨b14, 0, none⟩ : Addr) (toldV (t.n, [])).toList 0 = w8 at hB7 hm7'
      have g8 : Frm none_ w4 w8 := (trN g6 hm7).trans hm7' (fun _ _ h => h) (fun x hx he => by have := g6.size; omega)
      have hB58 : Blk w8 b13 (tc t).toArray 28 := (hB5.mod hm7 (fun h => h)).mod hm7' (by omega)
      refine ⟨fun w' => Frm none_ w4 w' ∧ Blk w' b13 (tc (askT t)).toArray 28 ∧ Blk w' b14 (toldV (wantT t)) 36, ?_, ?_⟩
      · refine ⟨t.k, by rw [addr_add]; exact hB58.ld rfl, IfB.intro (fun hk => ?_) (fun hk => ?_)⟩
        · have hk2 := eq_of_beq hk
          refine ⟨t.s, by rw [addr_add]; exact hB58.ld rfl, toldV (0, t.s.data.toList), b36d _, ?_⟩
          obtain ⟨hwr3, hB9, hm9⟩ := hB7.whole (vs := toldV (0, t.s.data.toList)) rfl
          refine ⟨rfl, toldOne _, hwr3, ?_⟩
          rintro w9 rfl
          generalize setAt w8 (⟨b14, 0, none⟩ : Addr) (toldV (0, t.s.data.toList)).toList 0 = w9 at hB9 hm9
          have hB59 := hB58.mod hm9 (by omega)
          refine ⟨t.s, by rw [addr_add]; exact hB59.ld rfl, by rw [addr_add]; exact hB59.wr (show 1 < 3 by decide), ?_⟩
          rintro w10 rfl
          rw [addr_add]
          have ms : Frm (fun x => x = b13) w9 (w9.setCell ⟨b13, 0 + 1, none⟩ (.int .i64 ((t.s.size : Nat) : Int))) := mod_setCell (a := ⟨b13, 0 + 1, none⟩)
          refine ⟨(g8.trans hm9 (fun _ _ h => h) (fun x hx he => by have := g6.size; omega) (H := none_)).trans ms (fun _ _ h => h) (fun x hx he => by omega), ?_, ?_⟩
          · have ea : askT t = ⟨t.k, (t.s.size : Int), t.s⟩ := by unfold askT; rw [if_pos hk2]
            rw [ea]; exact hB59.set 1 _
          · have ew : wantT t = (0, t.s.data.toList) := by unfold wantT; rw [if_pos hk2]
            rw [ew]; exact hB9.mod ms (by omega)
        · have hk2 := ne_of_beq_false hk
          have ea : askT t = t := by unfold askT; rw [if_neg hk2]
          rw [ea]
          refine ⟨t.k, by rw [addr_add]; exact hB58.ld rfl, IfB.intro (fun hk => ?_) (fun hk => ?_)⟩
          · have hk3 := of_decide_eq_true hk
            have ew : wantT t = (one (t.n.tmod 2 != 0), []) := by unfold wantT; rw [if_neg hk2, if_pos hk3]
            refine ⟨t.n, by rw [addr_add]; exact hB58.ld rfl, by decide, (one_calls w8 _).mono ?_⟩
            rintro _ _ ⟨rfl, rfl⟩
            refine ⟨_, rfl, toldV (one (t.n.tmod 2 != 0), []), b36c _, ?_⟩
            obtain ⟨hwr3, hB9, hm9⟩ := hB7.whole (vs := toldV (one (t.n.tmod 2 != 0), [])) rfl
            refine ⟨rfl, toldOne _, hwr3, ?_⟩
            rintro w9 rfl
            refine ⟨g8.trans hm9 (fun _ _ h => h) (fun x hx he => by have := g6.size; omega), hB58.mod hm9 (by omega), ?_⟩
            rw [ew]; exact hB9
          · have hk3 := of_decide_eq_false hk
            have ew : wantT t = (t.n, []) := by unfold wantT; rw [if_neg hk2, if_neg hk3]
            rw [ew]
            exact ⟨g8, hB58, hB7⟩
      rintro u3 w9 ⟨g9, hBa, hBw⟩
      have hQ9 := hQ.mod g9 (fun _ _ h => h)
      have hkrl : kr < w4.heap.size := hQ.lt kr rfl
      refine ⟨_, hBa.ldA rfl, (ask_calls w9 (askT t) _ _ hQ9).mono ?_⟩
      rintro _ w10 ⟨rfl, hQ10, hm10⟩
      refine ⟨_, rfl, ?_⟩
      intro b15 w11 hnb3
      have hm11 := hnb3.mod none_
      have hb15 : w10.heap.size = b15 := by obtain ⟨h, _⟩ := hnb3; omega
      generalize hans : askR (askT t) (some ((tb t ++ R).take (k - pos))) = ans at hQ10 hm10
      obtain ⟨hwr4, hB12, hm12⟩ := hnb3.blk.whole (vs := toldV ans.1) rfl
      refine ⟨rfl, toldOne _, hwr4, ?_⟩
      rintro w12 rfl
      generalize setAt w11 (⟨b15, 0, none⟩ : Addr) (toldV ans.1).toList 0 = w12 at hB12 hm12
      have g12 : Frm none_ w10 w12 := hm11.trans hm12 (fun _ _ h => h) (fun x hx he => by omega)
      have hm10k : Frm (fun b => b = kr) w9 w10 := hm10.mono (fun x _ he => by simp at he; omega)
      have g412 : Frm (fun b => b = kr) w4 w12 := (g9.trans hm10k (fun _ _ h => h.elim) (fun _ _ h => h) (H := fun b => b = kr)).trans g12 (fun _ _ h => h) (fun _ _ h => h.elim)
      have hQ12 := hQ10.mod g12 (fun _ _ h => h)
      have a6' : Row w12 x6 3 1 (ends l s.l) := a6.mod g412 (fun b hb => hkr3 b (hI.r6.lt b hb))
      have fin12 : Frm none_ w w12 := f4.trans g412 (fun _ _ h => h) (fun x hx he => by omega)
      obtain ⟨p6, v6, hp6, hv6, hld6⟩ := a6'.has.at1 (i := (j : Int)) (by omega) (by omega)
      have hend : v6 = .int .i64 ((pos + (tb t).length : Nat) : Int) := by
        rw [Int.toNat_natCast] at hv6
        unfold ends at hv6
        rw [List.getElem?_map, List.getElem?_range (by omega)] at hv6
        simp only [Option.map_some, Option.some.injEq] at hv6
        rw [← hv6, hsp, List.length_append, hposd]
      subst hend
      refine ⟨p6, hp6, by omega, by omega, _, hld6, IfB.intro (fun h => ?_) (fun h => ?_)⟩
      · have hgt := of_decide_eq_true h
        have hc := ask_cut hto R (k := k - pos) (by omega)
        rw [hans] at hc
        subst hc
        refine ⟨_, hB12.ldA rfl, toldV (0, []), b36, _, toldV_eql _ _ _ _, IfB.t (by simp) ?_⟩
        refine (ok_calls w12 _ _ hQ12).mono ?_
        rintro _ w13 ⟨rfl, hm13⟩
        refine ⟨_, rfl, IfB.t rfl ?_⟩
        refine (done_calls w13 _ _ (hQ12.mod hm13 (fun _ _ h => h))).mono ?_
        rintro _ w14 ⟨rfl, hm14⟩
        exact ⟨_, rfl, rfl, trN (trN fin12 hm13) hm14⟩
      · have hle := of_decide_eq_false h
        have he : (tb t ++ R).take (k - pos) = tb t ++ R.take (k - pos - (tb t).length) := by
          rw [List.take_append, List.take_of_length_le (by omega)]
        rw [he, ask_own hto] at hans
        subst hans
        have hBw12 : Blk w12 b14 (toldV (wantT t)) 36 := ((hBw.mod hm10 (fun h => by simp at h; have := g6.size; omega)).mod g12 (fun h => h))
        refine ⟨fun w' => Frm none_ w12 w', (Frm.refl _ _).drew, _, fun w' hw' => (hB12.mod hw' (fun h => h)).ldA rfl, _, fun w' hw' => (hBw12.mod hw' (fun h => h)).ldA rfl, _, toldV_neq _ _ _ _, IfB.f (by simp) ?_⟩
        refine (ok_calls w12.drew _ _ (hQ12.mod (frm_drew (F := none_) w12) (fun _ _ h => h))).mono ?_
        rintro _ w13 ⟨rfl, hm13⟩
        have hm13 : Frm none_ w12 w13 := hm13.ofDrew
        have hQ13 := hQ12.mod hm13 (fun _ _ h => h)
        refine ⟨_, rfl, fun w' => Frm none_ w12 w', fun _ h => h, hm13, IfB.f rfl ?_⟩
        refine ⟨p6, hp6, by omega, by omega, ((pos + (tb t).length : Nat) : Int), ?_, ?_⟩
        · intro w' hw'
          exact hw'.cell hld6 (fun h => h)
        refine (left_calls w13 _ _ hQ13).mono ?_
        rintro _ w14 ⟨rfl, hm14⟩
        have hBl : B.length = x5.l := hl5.symm
        have hRl := congrArg List.length hBR
        rw [List.length_append, List.length_append, hposd] at hRl
        refine ⟨_, rfl, trN hm13 hm14, IfB.f ?_ ?_⟩
        · rw [wi _ (by omega), bne_eq_false_iff_eq]
          simp only [leftR, List.length_take]
          omega
        · refine ⟨s.l - (j + 1), by omega, j + 1, by rw [wi _ (by omega)]; omega, by omega, rfl, ?_, ?_, ?_⟩
          · rw [hsp, List.length_append, hposd]; omega
          · have e2 : (B.take k).drop ((l.take (j + 1)).flatMap tb).length = R.take (k - pos - (tb t).length) := by
              rw [hsp, List.length_append, hposd, ← List.drop_drop, hst, he, List.drop_left]
            rw [e2]
            exact hQ13.mod hm14 (fun _ _ h => h)
          · exact (hm4.trans g412 (fun _ _ h => h) (fun _ _ h => h) (H := fun b => b = kr)).trans (trN hm13 hm14) (fun _ _ h => h) (fun _ _ h => h.elim)
    · have hge := of_decide_eq_false h
      have hj' : j = s.l := by omega
      subst hj'
      rw [htake] at hpos hQ
      rw [hBd] at hpos hQ
      refine (done_calls w4 _ _ hQ).mono ?_
      rintro _ w5 ⟨rfl, hm5⟩
      refine ⟨_, rfl, ?_, trN f4 hm5⟩
      have : (B.take k).drop B.length = [] := List.drop_eq_nil_of_le (by rw [List.length_take]; omega)
      rw [this]; rfl
theorem cuts_law (W : World) (s : Sl) (l : List Th) (hl : HasL W s 3 tc l ∧ (∀ a ∈ l, OkT a) ∧ s.l ≤ s.c ∧ s.c ≤ maxLen ∧ s.c * 32 ≤ 140737488351232) (n : Int) (hn : -9223372036854775808 ≤ n ∧ n ≤ 9223372036854775807) :
    Calls prog 10 #[.slice s.a s.l s.c, .int .i64 n] W fun e w' => e = .returned (.bool true) ∧ Frm none_ W w' :=
  cuts_calls W s l n hl.1 hl.2.1 (by omega)
end Go.Proofs.Ytmkennapbebbmaa
