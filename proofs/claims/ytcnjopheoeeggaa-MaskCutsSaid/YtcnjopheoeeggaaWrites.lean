/- The laws MaskWrites and MaskCuts walked: they return true, and turn nothing that was there. -/
import Derived.Test.YtcnjopheoeeggaaHides
set_option linter.unusedVariables false
set_option linter.unusedSimpArgs false
namespace Go.Proofs.Ytcnjopheoeeggaa
open Go Go.Proofs.YtcnjopheoeeggaaV
theorem tot_take_le (l : List ByteArray) (i : Nat) : tot (l.take i) ≤ tot l := by
  have e : tot l = tot (l.take i) + tot (l.drop i) := by
    unfold tot; rw [← List.sum_append, ← List.map_append, List.take_append_drop]
  omega
theorem small_of {sb : List ByteArray} {h : List UInt8} {c : Bool} (h0 : checkS sb = 0) (hh : h.length ≤ 1000000) : Sm ⟨sb, h, c⟩ := by
  obtain ⟨h1, h2⟩ := checkS_ok h0
  exact ⟨hh, by show sb.length ≤ 1000; omega, fun s hs => by have := (h2 s hs).2; omega⟩
set_option maxRecDepth 20000 in
theorem writes_calls (w : World) (s p : Sl) (sb pb : List ByteArray) (hs : OkSb w s sb) (hp : OkSb w p pb) : Calls prog 5 #[.slice s.a s.l s.c, .slice p.a p.l p.c] w fun e w' => e = .returned (.bool true) ∧ Frm none_ w w' := by
  refine callsRet (W5 (Q := fun v w' => v = .bool true ∧ Frm none_ w w') ?_) (fun v w' ⟨h, h'⟩ => ⟨by rw [h], h'⟩)
  unfold F5
  have hl := has_sv hs.has
  have hcap := hs.cap
  have hlp := has_sv hp.has
  have hcapp := hp.cap
  refine ⟨fun b w' => w' = w ∧ (b = false → tot sb ≤ 2000 ∧ tot pb ≤ 2000), ?_, ?_⟩
  · refine (large_calls w s sb 2000 (by decide) hs.has (by omega) hs.each).mono ?_
    rintro _ _ ⟨b, rfl, hb, rfl⟩
    refine ⟨_, rfl, IfB.intro (fun h => ⟨rfl, by simp⟩) (fun h => ?_)⟩
    refine (large_calls w p pb 2000 (by decide) hp.has (by omega) hp.each).mono ?_
    rintro _ _ ⟨b2, rfl, hb2, rfl⟩
    exact ⟨_, rfl, rfl, fun hd => ⟨hb h, hb2 hd⟩⟩
  rintro u b w' ⟨rfl, hb⟩
  refine IfB.intro (fun _ => ⟨rfl, Frm.refl _ _⟩) (fun hbf => ?_)
  obtain ⟨hts, htp⟩ := hb hbf
  have hsl2 := tot_len sb
  have hpl2 := tot_len pb
  refine runT_lit0 st22 ?_
  intro w1 hr1 f1 z1
  refine runT_append st22 hr1 (hs.has.mod f1 (fun _ _ h => h)) (sv_one _) (by simp only; omega) (by simp only [maxLen]; omega) ?_
  intro t w2 hr2 hl2 hn2 f2
  rw [List.nil_append] at hr2
  have f12 : Frm none_ w' w2 := f1.trans f2 (fun _ _ h => h) (fun k hk hs => by simp [Sl.blk] at hs; omega)
  have z2 := f12.size
  have htl := has_sv hr2.has
  have htb : ∀ k, t.blk = some k → w'.heap.size ≤ k ∧ k < w2.heap.size := fun k hk => by
    refine ⟨?_, hr2.lt k hk⟩
    rcases hn2.cases hk with h | h
    · simp [Sl.blk] at h; omega
    · omega
  refine (new_calls w2 t sb hr2.has (by omega)).mono ?_
  rintro _ w3 ⟨x, rfl, hx1, hx0, f3⟩
  have f13 := f12.n f3
  refine ⟨x, _, rfl, (check_doc w3 s sb (hs.has.mod f13 (fun _ _ h => h)) (by omega)).mono ?_⟩
  rintro _ _ ⟨rfl, rfl⟩
  refine ⟨_, rfl, fun c w'' => c = false ∧ w'' = w3, ?_, ?_⟩
  · refine IfB.f (by simp) ?_
    by_cases h0 : checkS sb = 0
    · obtain ⟨⟨b, rfl⟩, _⟩ := hx0 h0
      rw [h0]
      exact ⟨_, some_eql31 _ b, _, bool_neq _ _ _ _, rfl, rfl⟩
    · rw [hx1 h0]
      refine ⟨_, nil_eql31 _, _, bool_neq _ _ _ _, ?_, rfl⟩
      simp [h0]
  rintro u1 c w3' ⟨rfl, rfl⟩
  refine IfB.f rfl ⟨fun n i w'' => ∃ j : Nat, i = (j : Int) ∧ j ≤ t.l ∧ n = t.l - j ∧ (∃ cs, Row w'' t 9 1 cs) ∧ (checkS sb = 0 → St w2 w'' x ⟨sb, [], false⟩) ∧ Frm none_ w' w'' ∧ w2.heap.size ≤ w''.heap.size, t.l, ⟨0, rfl, Nat.zero_le _, by omega, ⟨_, hr2.mod f3 (fun _ _ h => h)⟩, fun h0 => (hx0 h0).2, f13, f3.size⟩, ?_⟩
  rintro n u2 i w4 ⟨j, rfl, hj, rfl, ⟨cs, hrc⟩, hSt, f4, hz4⟩
  refine IfB.intro (fun hc => ?_) (fun hc => ?_)
  · have hlt := of_decide_eq_true hc
    have hcl := hrc.len
    obtain ⟨g, hg, hwr, hset⟩ := hrc.wr (j := j) (by omega)
    have ead : (⟨g, 0, none⟩ : Addr).add ((j : Int).toNat * 1) = ⟨g, j, none⟩ := by rw [addr_add]; simp
    have htg : t.blk = some g := by simp [Sl.blk, hg]
    have hgb := htb g htg
    refine ⟨_, hg, by omega, by omega, by rw [ead]; exact hwr, ?_⟩
    rintro w5 rfl
    rw [ead]
    have f5 : Frm (fun k => k = g) w4 (w4.setCell ⟨g, j, none⟩ (.string (⟨#[122, 122]⟩ : ByteArray))) := mod_setCell (a := ⟨g, j, none⟩)
    have z5 := f5.size
    exact ⟨t.l - (j + 1), by omega, j + 1, by rw [wrap64 _ (by omega)]; omega, by omega, rfl, ⟨_, hset _⟩, fun h0 => (hSt h0).mod f5 (fun k hk e => by have e : k = g := e; omega), f4.b f5 hgb.1, by omega⟩
  have hge := of_decide_eq_false hc
  refine ⟨fun n x9 x10 i w'' => ∃ (j : Nat) (tl td held : List UInt8), x9 = str tl ∧ x10 = str td ∧ i = (j : Int) ∧ j ≤ p.l ∧ n = p.l - j ∧ tl.length ≤ tot (pb.take j) ∧ (checkS sb = 0 → St w2 w'' x ⟨sb, held, false⟩ ∧ run (ssOf sb) false tl = (td, held)) ∧ Frm none_ w' w'' ∧ w2.heap.size ≤ w''.heap.size ∧ td.length ≤ 10000 ∧ held.length ≤ 10000, p.l, ⟨0, [], [], [], rfl, rfl, rfl, Nat.zero_le _, by omega, by simp, fun h0 => ⟨hSt h0, run_nil _ _⟩, f4, hz4, by simp, by simp⟩, ?_⟩
  clear hSt
  rintro n u3 x9 x10 i w5 ⟨j, tl, td, held, rfl, rfl, rfl, hj, rfl, htll, hinv, f5, hz5, htd, hhe⟩
  have hP5 := hp.has.mod f5 (fun _ _ h => h)
  have hS5 := hs.has.mod f5 (fun _ _ h => h)
  have htj := tot_take_le pb j
  refine IfB.intro (fun hc => ?_) (fun hc => ?_)
  · have hlt := of_decide_eq_true hc
    obtain ⟨q, y, hq, hy, hym, hld⟩ := sv_at hP5 (i := j) (by omega)
    have hyl : y.data.toList.length = y.size := Array.length_toList
    have hty := tot_take hy
    have htj1 := tot_take_le pb (j + 1)
    have hld : Ld w5 (q.add ((j : Int).toNat * 1)) (.string y) := by rw [Int.toNat_natCast]; exact hld
    refine ⟨q, hq, by omega, by omega, y, hld, by rw [str_len]; omega, IfB.intro (fun h0 => ?_) (fun h0 => ?_)⟩
    · have h0 := iNe h0
      rw [str_app]
      exact ⟨p.l - (j + 1), by omega, j + 1, tl ++ y.data.toList, td, held, rfl, rfl, by rw [wrap64 _ (by omega)]; omega, by omega, rfl, by rw [List.length_append]; omega, fun h => absurd h h0, f5, hz5, htd, hhe⟩
    · have h0 := iEq h0
      obtain ⟨hSt, hrun⟩ := hinv h0
      refine ⟨q, hq, by omega, by omega, y, hld, (write_calls w2 w5 x ⟨sb, held, false⟩ y hSt hz5 rfl (small_of h0 (by omega)) (by omega)).mono ?_⟩
      rintro _ w6 ⟨rfl, hSt6, f6⟩
      dsimp only at hSt6 ⊢
      have hck := (checkS_ok h0).1
      have f6' : Frm none_ w' w6 := upN f5 f6 z2
      have z6 := f6.size
      have hmore := run_more (ssOf sb) false y.data.toList _ tl (Nat.le_refl _)
      rw [hrun] at hmore
      simp only at hmore
      have hsz := (run_size (ssOf sb) false _ (tl ++ y.data.toList) (Nat.le_refl _)).1
      have hsz2 := hsz
      rw [List.length_append] at hsz2
      have hA : (run (ssOf sb) false (held ++ y.data.toList)).1.length ≤ 10000 := by
        rw [hmore] at hsz2; simp only [List.length_append] at hsz2; omega
      have hAll : td.length + (run (ssOf sb) false (held ++ y.data.toList)).1.length + (run (ssOf sb) false (held ++ y.data.toList)).2.length ≤ 10000 := by
        rw [hmore] at hsz2; simp only [List.length_append] at hsz2; omega
      refine ⟨_, _, rfl, by rw [str_len, str_len]; omega, ?_⟩
      rw [str_app]
      refine (masked_calls w6 s sb (str (tl ++ y.data.toList)) false (hs.has.mod f6' (fun _ _ h => h)) (by omega) (fun z hz => by have := tot_mem hz; omega) (by rw [str_len, List.length_append]; omega)).mono ?_
      rintro _ w7 ⟨rfl, f7⟩
      rw [str_dl, hmore]
      have z7 := f7.size
      refine ⟨_, _, rfl, IfB.f rfl (IfB.f ?_ ((held_calls w2 w7 x _ (hSt6.fn f7)).mono ?_))⟩
      · rw [str_app, str_dl, (str_eqIff _ _).2 rfl]; rfl
      rintro _ _ ⟨rfl, rfl⟩
      refine ⟨_, rfl, IfB.f (by simp) ⟨p.l - (j + 1), by omega, j + 1, tl ++ y.data.toList, td ++ (run (ssOf sb) false (held ++ y.data.toList)).1, (run (ssOf sb) false (held ++ y.data.toList)).2, rfl, by rw [str_app, str_dl], by rw [wrap64 _ (by omega)]; omega, by omega, rfl, by rw [List.length_append]; omega, fun _ => ⟨hSt6.fn f7, hmore⟩, f6'.n f7, by omega, by rw [List.length_append]; omega, by omega⟩⟩
  · have hge5 := of_decide_eq_false hc
    refine (whole_calls w5 s sb (str tl) hS5 hs.len (by rw [str_len]; omega)).mono ?_
    rintro _ w6 ⟨tw, rfl, ht1, ht0, f6⟩
    refine ⟨tw, _, rfl, IfB.intro (fun h0 => ?_) (fun h0 => ?_)⟩
    · have h0 := iNe h0
      rw [ht1 h0]
      exact IfB.t (by simp) ⟨by rw [(str_eqIff _ _).2 rfl], f5.n f6⟩
    · have h0 := iEq h0
      obtain ⟨hSt, hrun⟩ := hinv h0
      have ht0 := ht0 h0
      have z6 := f6.size
      refine (close_calls w2 w6 x ⟨sb, held, false⟩ (hSt.fn f6) (by omega) rfl (small_of h0 (by omega))).mono ?_
      rintro _ w7 ⟨rfl, hSt7, f7⟩
      dsimp only at hSt7 ⊢
      have hck := (checkS_ok h0).1
      have f7' : Frm none_ w' w7 := upN (f5.n f6) f7 z2
      have hmore := run_more (ssOf sb) true [] _ tl (Nat.le_refl _)
      rw [List.append_nil, hrun] at hmore
      simp only [List.append_nil] at hmore
      have hsz := (run_size (ssOf sb) true _ held (Nat.le_refl _)).1
      refine ⟨_, _, rfl, (masked_calls w7 s sb (str tl) true (hs.has.mod f7' (fun _ _ h => h)) (by omega) (fun z hz => by have := tot_mem hz; omega) (by rw [str_len]; omega)).mono ?_⟩
      rintro _ w8 ⟨rfl, f8⟩
      have hSt8 := hSt7.fn f8
      refine ⟨_, _, rfl, (close_closed w2 w8 x _ hSt8 rfl).mono ?_⟩
      rintro _ _ ⟨rfl, rfl⟩
      refine ⟨_, _, rfl, (write_closed w2 w8 x _ _ hSt8 rfl).mono ?_⟩
      rintro _ _ ⟨rfl, rfl⟩
      refine ⟨_, _, rfl, IfB.t rfl ⟨by rw [str_len, str_len]; omega, IfB.t ?_ ((held_calls w2 w8 x _ hSt8).mono ?_)⟩⟩
      · rw [str_app, str_dl, str_dl, hmore]; exact (str_eqIff _ _).2 rfl
      rintro _ _ ⟨rfl, rfl⟩
      refine ⟨_, rfl, IfB.t rfl (IfB.t rfl (IfB.t rfl (IfB.t (by rw [h0]; rfl) ⟨?_, f7'.n f8⟩)))⟩
      rw [ht0, str_dl, (str_eqIff _ _).2 rfl]
theorem writes_law (W : World) (s : Sl) (sb : List ByteArray) (hs : OkSb W s sb) (p : Sl) (pb : List ByteArray) (hp : OkSb W p pb) : Calls prog 5 #[.slice s.a s.l s.c, .slice p.a p.l p.c] W fun e w' => e = .returned (.bool true) ∧ Frm none_ W w' := writes_calls W s p sb pb hs hp
theorem wu64 (e : Int) (h : 0 ≤ e ∧ e ≤ 18446744073709551615) : IntKind.wrap .u64 e = e := by
  unfold IntKind.wrap; simp [IntKind.signed, IntKind.bits]; omega
theorem wu64m (e : Int) : IntKind.wrap .u64 e = e % 18446744073709551616 := by
  unfold IntKind.wrap; simp [IntKind.signed, IntKind.bits]
theorem umod (x : Int) (n : Nat) (hn : n ≤ 1000000) : ∃ k : Nat, IntKind.wrap .i64 (Int.tmod (IntKind.wrap .u64 x) (IntKind.wrap .u64 (IntKind.wrap .i64 ((n : Int) + 1)))) = (k : Int) ∧ k ≤ n := by
  have e : IntKind.wrap .u64 (IntKind.wrap .i64 ((n : Int) + 1)) = ((n + 1 : Nat) : Int) := by rw [wrap64 _ (by omega), wu64 _ (by omega)]; omega
  have hx : 0 ≤ IntKind.wrap .u64 x := by rw [wu64m]; omega
  rw [e, Int.tmod_eq_emod_of_nonneg hx]
  generalize IntKind.wrap .u64 x = y at hx
  have h1 := Int.emod_nonneg y (show ((n + 1 : Nat) : Int) ≠ 0 by omega)
  have h2 := Int.emod_lt_of_pos y (show (0 : Int) < ((n + 1 : Nat) : Int) by omega)
  generalize y % ((n + 1 : Nat) : Int) = z at h1 h2
  refine ⟨z.toNat, ?_, by omega⟩
  rw [wrap64 _ (by omega)]
  omega
theorem ext_head (h : List UInt8) (k : Nat) : (str h).extract 0 k = str (h.take k) := by
  have e := ext_list (str h) 0 k
  rw [str_dl, List.drop_zero, Nat.sub_zero] at e
  have := congrArg str e
  rwa [str_list] at this
set_option maxRecDepth 20000 in
theorem cuts_calls (w : World) (s : Sl) (sb : List ByteArray) (hs : OkSb w s sb) (x : ByteArray) (hx : x.size ≤ 140737488351232) (c : Sl) (cl : List Int) (hcl : HasL w c 1 (fun n : Int => [Value.int .i64 n]) cl) (hcb : c.l ≤ 140737488351232) : Calls prog 6 #[.slice s.a s.l s.c, .string x, .slice c.a c.l c.c] w fun e w' => e = .returned (.bool true) ∧ Frm none_ w w' := by
  refine callsRet (W6 (Q := fun v w' => v = .bool true ∧ Frm none_ w w') ?_) (fun v w' ⟨h, h'⟩ => ⟨by rw [h], h'⟩)
  unfold F6
  have hl := has_sv hs.has
  have hcap := hs.cap
  have hcll := hcl.len
  refine ⟨fun b w' => Frm none_ w w' ∧ (b = false → tot sb ≤ 2000 ∧ x.size ≤ 2000 ∧ c.l ≤ 200), ?_, ?_⟩
  · refine (works_calls w).mono ?_
    rintro _ w1 ⟨rfl, f1⟩
    refine ⟨_, rfl, IfB.f rfl ((large_calls w1 s sb 2000 (by decide) (hs.has.mod f1 (fun _ _ h => h)) (by omega) hs.each).mono ?_)⟩
    rintro _ _ ⟨b, rfl, hb, rfl⟩
    refine ⟨_, rfl, IfB.intro (fun h => ⟨f1, by simp⟩) (fun h => IfB.intro (fun h2 => ⟨f1, by simp⟩) (fun h2 => ⟨f1, fun hd => ?_⟩))⟩
    have h2 := of_decide_eq_false h2
    have hd := of_decide_eq_false hd
    exact ⟨hb h, by omega, by omega⟩
  rintro u b w1 ⟨f1, hb⟩
  refine IfB.intro (fun _ => ?_) (fun hbf => ?_)
  · refine (works_calls w1).mono ?_
    rintro _ w2 ⟨rfl, f2⟩
    exact ⟨_, rfl, rfl, f1.n f2⟩
  obtain ⟨htot, hx2, hc2⟩ := hb hbf
  have hsl2 := tot_len sb
  have hxl : x.data.toList.length = x.size := Array.length_toList
  refine (whole_calls w1 s sb x (hs.has.mod f1 (fun _ _ h => h)) hs.len (by omega)).mono ?_
  rintro _ w2 ⟨tw, rfl, ht1, ht0, f2⟩
  have f12 := f1.n f2
  have z2 := f12.size
  refine ⟨tw, _, rfl, (new_calls w2 s sb (hs.has.mod f12 (fun _ _ h => h)) hs.len).mono ?_⟩
  rintro _ w3 ⟨m, rfl, hm1, hm0, f3⟩
  have f13 := f12.n f3
  refine ⟨m, _, rfl, fun c w' => w' = w3 ∧ c = (checkS sb != 0), IfB.f (by simp) ⟨rfl, rfl⟩, ?_⟩
  rintro u1 c1 w3' ⟨rfl, rfl⟩
  refine IfB.intro (fun h0 => ?_) (fun h0 => ?_)
  · have h0 := iNe h0
    rw [hm1 h0]
    exact IfB.t (by simp) ⟨_, nil_eql31 _, rfl, f13⟩
  have h0 := iEq h0
  have ht0 := ht0 h0
  obtain ⟨_, hSt0⟩ := hm0 h0
  refine ⟨fun n x11 i w' => ∃ j : Nat, i = (j : Int) ∧ j ≤ s.l ∧ n = s.l - j ∧ 0 ≤ x11 ∧ (∀ k y, k < j → sb[k]? = some y → (y.size : Int) ≤ x11) ∧ w' = w3', s.l, ⟨0, rfl, Nat.zero_le _, by omega, by decide, by simp, rfl⟩, ?_⟩
  rintro n u2 x11 i w4 ⟨j, rfl, hj, rfl, hx0, hmax, rfl⟩
  refine IfB.intro (fun hd => ?_) (fun hd => ?_)
  · have hlt := of_decide_eq_true hd
    obtain ⟨q, y, hq, hy, hym, hld⟩ := sv_at (hs.has.mod f13 (fun _ _ h => h)) (i := j) (by omega)
    refine ⟨q, hq, by omega, by omega, y, by rw [Int.toNat_natCast]; exact hld, s.l - (j + 1), by omega, j + 1, by rw [wrap64 _ (by omega)]; omega, by omega, rfl, by split <;> omega, ?_, rfl⟩
    intro k z hk hz
    rcases Nat.lt_succ_iff_lt_or_eq.1 hk with hh | hh
    · have := hmax k z hh hz
      split <;> omega
    · subst hh; rw [hy] at hz; cases hz
      split <;> omega
  have hge := of_decide_eq_false hd
  have hlong : ∀ l ∈ ssOf sb, (l.length : Int) ≤ x11 := by
    intro l hl'
    simp only [ssOf, List.mem_map] at hl'
    obtain ⟨y, hy, rfl⟩ := hl'
    obtain ⟨k, hk⟩ := List.mem_iff_getElem?.1 hy
    have h1 := (List.getElem?_eq_some_iff.1 hk).1
    have h2 : y.data.toList.length = y.size := Array.length_toList
    have := hmax k y (by omega) hk
    omega
  have z3 := f3.size
  refine ⟨fun n xt xd i w' => ∃ (j : Nat) (dn rl td held : List UInt8), i = (j : Int) ∧ j ≤ c.l + 1 ∧ n = c.l + 1 - j ∧ xt = str rl ∧ xd = str td ∧ x.data.toList = dn ++ rl ∧ run (ssOf sb) false dn = (td, held) ∧ St w2 w' m ⟨sb, held, false⟩ ∧ (j = c.l + 1 → rl = []) ∧ Frm none_ w w' ∧ w2.heap.size ≤ w'.heap.size, c.l + 1, ⟨0, [], x.data.toList, [], [], rfl, by omega, rfl, (str_list x).symm, rfl, rfl, run_nil _ _, hSt0, by omega, f13, z3⟩, ?_⟩
  rintro n u3 xt xd i w5 ⟨j, dn, rl, td, held, rfl, hj2, rfl, rfl, rfl, hx3, hrun, hSt, hend, f5, hz5⟩
  have hlen3 := congrArg List.length hx3
  rw [List.length_append, hxl] at hlen3
  have hsz0 := (run_size (ssOf sb) false _ dn (Nat.le_refl _)).1
  rw [hrun] at hsz0
  simp only at hsz0
  refine IfB.intro (fun hc5 => ?_) (fun hc5 => ?_)
  · have hle := of_decide_eq_true hc5
    have step : ∀ k : Nat, k ≤ rl.length → (j = c.l → k = rl.length) → Calls prog 12 #[.pointer m, .string (str (rl.take k))] w5 fun en w1_6 =>
        ∃ t103a : ByteArray, ∃ t103b : Int, en = .returned (.tuple #[.string t103a, .int .i64 t103b]) ∧
        (str td).size + t103a.size ≤ 9223372036854775807 ∧
        IfB (t103b != (0 : Int))
        ((fun v w' => v = Value.bool true ∧ Frm none_ w w') (.bool false) w1_6)
        (Calls prog 13 #[.pointer m] w1_6 fun en w1_7 =>
        ∃ t116 : Int, en = .returned (.int .i64 t116) ∧
        IfB (decide (t116 > (0 : Int)))
        (Calls prog 13 #[.pointer m] w1_7 fun en w1_8 =>
        ∃ t120 : Int, en = .returned (.int .i64 t120) ∧
        IfB (decide (t120 ≥ x11))
        ((fun v w' => v = Value.bool true ∧ Frm none_ w w') (.bool false) w1_8)
        (∃ n', n' < c.l + 1 - j ∧ ∃ (j' : Nat) (dn rl' td' held : List UInt8), IntKind.wrap .i64 ((j : Int) + (1 : Int)) = (j' : Int) ∧ j' ≤ c.l + 1 ∧ n' = c.l + 1 - j' ∧ str (rl.drop k) = str rl' ∧ (str td ++ t103a) = str td' ∧ x.data.toList = dn ++ rl' ∧ run (ssOf sb) false dn = (td', held) ∧ St w2 w1_8 m ⟨sb, held, false⟩ ∧ (j' = c.l + 1 → rl' = []) ∧ Frm none_ w w1_8 ∧ w2.heap.size ≤ w1_8.heap.size))
        (∃ n', n' < c.l + 1 - j ∧ ∃ (j' : Nat) (dn rl' td' held : List UInt8), IntKind.wrap .i64 ((j : Int) + (1 : Int)) = (j' : Int) ∧ j' ≤ c.l + 1 ∧ n' = c.l + 1 - j' ∧ str (rl.drop k) = str rl' ∧ (str td ++ t103a) = str td' ∧ x.data.toList = dn ++ rl' ∧ run (ssOf sb) false dn = (td', held) ∧ St w2 w1_7 m ⟨sb, held, false⟩ ∧ (j' = c.l + 1 → rl' = []) ∧ Frm none_ w w1_7 ∧ w2.heap.size ≤ w1_7.heap.size)) := by
      intro k hk hkl
      have htk : (rl.take k).length = k := by rw [List.length_take]; omega
      refine (write_calls w2 w5 m ⟨sb, held, false⟩ (str (rl.take k)) hSt hz5 rfl (small_of h0 (by omega)) (by rw [str_len]; omega)).mono ?_
      rintro _ w6 ⟨rfl, hSt6, f6⟩
      dsimp only at hSt6 ⊢
      have hck := (checkS_ok h0).1
      have f6' : Frm none_ w w6 := upN f5 f6 z2
      have z6 := f6.size
      rw [str_dl] at hSt6 ⊢
      have hmore := run_more (ssOf sb) false (rl.take k) _ dn (Nat.le_refl _)
      rw [hrun] at hmore
      simp only at hmore
      have hsz := run_size (ssOf sb) false _ (held ++ rl.take k) (Nat.le_refl _)
      have hsz1 := hsz.1
      rw [List.length_append, htk] at hsz1
      have hnext : ∃ n', n' < c.l + 1 - j ∧ ∃ (j' : Nat) (dn rl' td' held' : List UInt8), IntKind.wrap .i64 ((j : Int) + (1 : Int)) = (j' : Int) ∧ j' ≤ c.l + 1 ∧ n' = c.l + 1 - j' ∧ str (rl.drop k) = str rl' ∧ (str td ++ str (run (ssOf sb) false (held ++ rl.take k)).1) = str td' ∧ x.data.toList = dn ++ rl' ∧ run (ssOf sb) false dn = (td', held') ∧ St w2 w6 m ⟨sb, held', false⟩ ∧ (j' = c.l + 1 → rl' = []) ∧ Frm none_ w w6 ∧ w2.heap.size ≤ w6.heap.size := by
        refine ⟨c.l + 1 - (j + 1), by omega, j + 1, dn ++ rl.take k, rl.drop k, td ++ (run (ssOf sb) false (held ++ rl.take k)).1, (run (ssOf sb) false (held ++ rl.take k)).2, by rw [wrap64 _ (by omega)]; omega, by omega, rfl, rfl, by rw [str_app, str_dl], ?_, hmore, hSt6, ?_, f6', by omega⟩
        · rw [List.append_assoc, List.take_append_drop]; exact hx3
        · intro hje
          have := hkl (by omega)
          rw [this]; exact List.drop_of_length_le (Nat.le_refl _)
      refine ⟨_, _, rfl, by rw [str_len, str_len]; omega, IfB.f rfl ((held_calls w2 w6 m _ hSt6).mono ?_)⟩
      rintro _ _ ⟨rfl, rfl⟩
      refine ⟨_, rfl, IfB.intro (fun hp => ?_) (fun _ => hnext)⟩
      have hp := of_decide_eq_true hp
      refine (held_calls w2 w6 m _ hSt6).mono ?_
      rintro _ _ ⟨rfl, rfl⟩
      refine ⟨_, rfl, IfB.f (decide_eq_false ?_) hnext⟩
      rcases hsz.2 with hnil | ⟨_, hop⟩
      · rw [hnil] at hp; simp at hp
      · obtain ⟨l, hl', h1, _⟩ := openB_iff.1 hop
        have := hlong l hl'
        simp only; omega
    refine IfB.intro (fun hd => ?_) (fun hd => ?_)
    · have hdl := of_decide_eq_true hd
      have hone := (hcl.mod f5 (fun _ _ h => h)).one
      obtain ⟨q, v, hq, hv, hld⟩ := hone.at1 (i := (j : Int)) (by omega) (by omega)
      rw [Int.toNat_natCast, List.getElem?_map, Option.map_eq_some_iff] at hv
      obtain ⟨y, _, rfl⟩ := hv
      have hrls : (str rl).size = rl.length := rfl
      obtain ⟨k, hk, hkn⟩ := umod y rl.length (by omega)
      rw [hrls]
      refine ⟨q, hq, by omega, by omega, y, hld, ?_, ?_⟩
      · rw [wrap64 _ (by omega), wu64 _ (by omega)]; omega
      rw [hk, Int.toNat_natCast, ext_head]
      have hdr : (str rl).extract k rl.length = str (rl.drop k) := ext_drop rl k
      rw [hdr]
      refine ⟨⟨by omega, by omega⟩, (step k hkn (fun h => by omega)).mono ?_⟩
      rintro e w6 ⟨ta, tb, he, h1, h2⟩
      exact ⟨ta, tb, he, ⟨by omega, by omega⟩, h1, h2⟩
    · have hdg := of_decide_eq_false hd
      have hrls : (str rl).size = rl.length := rfl
      rw [hrls, Int.toNat_natCast, ext_head]
      have hdr : (str rl).extract rl.length rl.length = str (rl.drop rl.length) := ext_drop rl rl.length
      rw [hdr]
      refine ⟨⟨by omega, by omega⟩, (step rl.length (Nat.le_refl _) (fun _ => rfl)).mono ?_⟩
      rintro e w6 ⟨ta, tb, he, h1, h2⟩
      exact ⟨ta, tb, he, ⟨by omega, by omega⟩, h1, h2⟩
  · have hgt := of_decide_eq_false hc5
    have hrl := hend (by omega)
    subst hrl
    rw [List.append_nil] at hx3
    refine (close_calls w2 w5 m ⟨sb, held, false⟩ hSt hz5 rfl (small_of h0 (by omega))).mono ?_
    rintro _ w6 ⟨rfl, _, f6⟩
    dsimp only
    have hmore := run_more (ssOf sb) true [] _ dn (Nat.le_refl _)
    rw [List.append_nil, hrun] at hmore
    simp only [List.append_nil] at hmore
    have hsz := (run_size (ssOf sb) true _ held (Nat.le_refl _)).1
    refine ⟨_, _, rfl, IfB.t rfl ⟨by rw [str_len, str_len]; omega, ?_, upN f5 f6 z2⟩⟩
    rw [ht0, hx3, hmore, str_app, str_dl, (str_eqIff _ _).2 rfl]
theorem op3 (w : World) : Opens prog w 3 (fun n : Int => [.int .i64 n]) (fun n => True) :=
  (opens_int (by kernel_rfl)).map (fun n => n) fun n h => ⟨rfl, trivial⟩
theorem op41 (w : World) : Opens prog w 41 (fun p : Sl × List Int => [.slice p.1.a p.1.l p.1.c]) (fun p => HasL w p.1 1 (fun n : Int => [Value.int .i64 n]) p.2 ∧ p.1.l ≤ 140737488351232) :=
  (opens_slice (sz := 1) (bytes := 8) (by kernel_rfl) (by kernel_rfl) (by kernel_rfl) (op3 w)).map (fun p => p) fun p ⟨h1, _, h2, _, h3⟩ => ⟨rfl, h1, by omega⟩
theorem cuts_law (W : World) (s : Sl) (sb : List ByteArray) (hs : OkSb W s sb) (x : ByteArray) (hx : x.size ≤ 140737488351232) (c : Sl) (cl : List Int) (hc : HasL W c 1 (fun n : Int => [Value.int .i64 n]) cl ∧ c.l ≤ 140737488351232) : Calls prog 6 #[.slice s.a s.l s.c, .string x, .slice c.a c.l c.c] W fun e w' => e = .returned (.bool true) ∧ Frm none_ W w' := cuts_calls W s sb hs x hx c cl hc.1 hc.2
end Go.Proofs.Ytcnjopheoeeggaa
