/- The law LogsNames walked. -/
import Derived.Test.YtmcdeldjgfapbaaBack
set_option linter.unusedVariables false
set_option linter.unusedSimpArgs false
set_option maxRecDepth 20000
namespace Go.Proofs.Ytmcdeldjgfapbaa
open Go Go.Proofs.YtmcdeldjgfapbaaV
def lett (n : Nat) : ByteArray := str (List.replicate n 97)
theorem lett_size (n : Nat) : (lett n).size = n := by simp [lett, str_size]
theorem letters_calls (w : World) (n : Nat) (hn : n ≤ 1000) : Calls prog 29 #[.int .i64 (n : Int)] w fun e w' => e = .returned (.string (lett n)) ∧ Frm none_ w w' := by
  refine calls_ret (W29 (x0 := (n : Int)) (Q := fun v w' => v = .string (lett n) ∧ Frm none_ w w') ?_) (fun v w' ⟨h, h'⟩ => ⟨by rw [h], h'⟩)
  unfold F29
  refine runT_makeN st22 (by omega) (by omega) (by omega) ?_
  intro t w1 hr1 hl1 hc1 ha1 f1 z1
  rw [Int.toNat_natCast] at hl1 hc1
  have hcl : ∀ {V : World} {cs : List Value}, Row V t 5 1 cs → cs.length = n := fun h => by have := h.len; omega
  refine ⟨fun m i V => ∃ (j : Nat) (cs : List Value), i = (j : Int) ∧ j ≤ n ∧ m = n - j ∧ Row V t 5 1 cs ∧ cs.take j = List.replicate j (.int .u8 97) ∧ Frm none_ w V, n, ⟨0, _, rfl, by omega, by omega, hr1, rfl, f1⟩, ?_⟩
  rintro m u i V ⟨j, cs, rfl, hj, rfl, hr, hcs, fV⟩
  refine IfB.dec (fun hlt => ?_) (fun hge => ?_)
  · obtain ⟨g, hg, hwr, hset⟩ := hr.wr (show j < cs.length by rw [hcl hr]; omega)
    have ea : (⟨g, 0, none⟩ : Addr).add ((j : Int).toNat * 1) = ⟨g, j, none⟩ := by rw [addr_add, Int.toNat_natCast, Nat.mul_one, Nat.zero_add]
    have hgn : w.heap.size ≤ g := by rw [ha1] at hg; cases hg; exact Nat.le_refl _
    refine ⟨_, hg, by omega, by omega, by rw [ea]; exact hwr, ?_⟩
    rintro V2 rfl
    rw [ea]
    refine ⟨n - (j + 1), by omega, j + 1, _, by rw [wi _ (by omega)]; omega, by omega, rfl, hset _, ?_, fV.b (mod_setCell (a := ⟨g, j, none⟩)) hgn⟩
    rw [List.take_add_one, List.take_set_of_le (Nat.le_refl _), hcs, List.getElem?_set_self (by rw [hcl hr]; omega), List.replicate_succ']
    rfl
  · have hjn : j = n := by omega
    subst hjn
    have hfull : cs = bv (List.replicate j 97) := by
      rw [List.take_of_length_le (by rw [hcl hr]; omega)] at hcs
      rw [hcs]
      simp [bv]
    rw [hfull] at hr
    exact runT_str un22 un5 un9 hr.has ⟨rfl, fV⟩
/-! ### What no log's bytes are -/
theorem saveL_head {qs : List ByteArray} (h : OkL qs) : saveL qs = UInt8.ofNat qs.length :: qs.flatMap sb := by
  have := h.n
  unfold saveL
  rw [cb_gb (by omega), gb_small (by omega)]
  rfl
theorem sb_two {p : ByteArray} (h1 : 1 ≤ p.size) (h2 : p.size ≤ 256) : 2 ≤ (sb p).length ∧ (sb p).head? ≠ some 0 := by
  have hl : p.data.toList.length = p.size := Array.length_toList
  rw [sb_gb (by omega)]
  have := gb_pos p.size
  refine ⟨by rw [List.length_append]; omega, ?_⟩
  intro h
  by_cases hs : p.size < 128
  · rw [gb_small hs] at h
    simp only [List.cons_append, List.head?_cons, Option.some.injEq] at h
    have := congrArg UInt8.toNat h
    rw [u8_ofNat _ (by omega)] at this
    have h00 : (0 : UInt8).toNat = 0 := rfl
    omega
  · rw [gb_big (by omega)] at h
    simp only [List.cons_append, List.head?_cons, Option.some.injEq] at h
    have := congrArg UInt8.toNat h
    rw [u8_ofNat _ (by omega)] at this
    simp at this
theorem ld_cases {c : UInt8} {r : List UInt8} {qs : List ByteArray} (hq : OkL qs) (e : saveL qs = c :: r) : qs.length = c.toNat ∧ qs.flatMap sb = r ∧ c.toNat ≤ 64 := by
  have := hq.n
  rw [saveL_head hq] at e
  cases e
  rw [u8_ofNat _ (by omega)]
  exact ⟨rfl, rfl, by omega⟩
theorem ld0 : ldOf [0] = some [] := ldOf_some ok_nil (by rw [saveL_head ok_nil]; rfl)
theorem ld10 : ldOf [1, 0] = none := ldOf_none fun qs hq e => by
  obtain ⟨h1, h2, _⟩ := ld_cases hq e
  match qs, h1 with
  | [p], _ =>
    have hp := hq.each p (by simp)
    have := (sb_two hp.1 hp.2).1
    have h3 : (sb p).length = 1 := by have := congrArg List.length h2; simpa using this
    omega
theorem ld00 : ldOf [0, 0] = none := ldOf_none fun qs hq e => by
  obtain ⟨h1, h2, _⟩ := ld_cases hq e
  have : qs = [] := List.eq_nil_of_length_eq_zero (by simpa using h1)
  subst this
  simp at h2
theorem ld80 : ldOf [128, 0] = none := ldOf_none fun qs hq e => by
  obtain ⟨h1, h2, h3⟩ := ld_cases hq e
  have : (128 : UInt8).toNat = 128 := rfl
  omega
theorem ld12 : ldOf [1, 2, 97] = none := ldOf_none fun qs hq e => by
  obtain ⟨h1, h2, _⟩ := ld_cases hq e
  match qs, h1 with
  | [p], _ =>
    have hp := hq.each p (by simp)
    have hl : p.data.toList.length = p.size := Array.length_toList
    have h3 : sb p = [2, 97] := by simpa using h2
    rw [sb_gb (by omega)] at h3
    by_cases hs : p.size < 128
    · rw [gb_small hs] at h3
      simp only [List.cons_append, List.nil_append, List.cons.injEq] at h3
      have e1 := congrArg UInt8.toNat h3.1
      rw [u8_ofNat _ (by omega)] at e1
      have e2 := congrArg List.length h3.2
      have : (2 : UInt8).toNat = 2 := rfl
      simp only [List.length_cons, List.length_nil] at e2
      omega
    · have := congrArg List.length h3
      rw [List.length_append] at this
      simp only [List.length_cons, List.length_nil] at this
      omega
theorem ld65 : ldOf [65] = none := ldOf_none fun qs hq e => by
  obtain ⟨h1, h2, h3⟩ := ld_cases hq e
  have : (65 : UInt8).toNat = 65 := rfl
  omega
theorem ldnil : ldOf [] = none := ldOf_none fun qs hq e => by
  rw [saveL_head hq] at e
  cases e
theorem loadNone (w : World) (b : Sl) (l : List UInt8) (hb : Has w b 1 (bv l)) (hl : ldOf l = none) (hn : b.l ≤ 1000) : Calls prog 11 #[.slice b.a b.l b.c] w fun e w' => e = .returned (.tuple #[.pointer none, .int .i64 4]) ∧ Frm none_ w w' := by
  refine (load_calls w b l hb (by omega)).mono ?_
  rintro _ w1 ⟨v, rfl, hv, f1⟩
  exact ⟨by rw [loaded_none hl hv], f1⟩
theorem tail_nil (w : World) (n : Int) : Calls prog 26 #[.pointer none, .int .i64 n] w fun e w' => e = .returned (.string (⟨#[]⟩ : ByteArray)) ∧ w' = w := by
  refine calls_ret (W26 (x0 := none) (x1 := n) (Q := fun v w' => v = .string (⟨#[]⟩ : ByteArray) ∧ w' = w) ?_) (fun v w' ⟨h, h'⟩ => ⟨by rw [h], h'⟩)
  unfold F26
  refine ⟨fun c w' => c = true ∧ w' = w, ⟨true, none23, IfB.t rfl ⟨rfl, rfl⟩⟩, ?_⟩
  rintro u c w1 ⟨rfl, rfl⟩
  exact IfB.t rfl ⟨rfl, rfl⟩
def xs (n : Nat) : List ByteArray := lett 256 :: List.replicate n ⟨#[120]⟩
theorem xs_len (n : Nat) : (xs n).length = n + 1 := by simp [xs]
theorem xs_szs (n : Nat) : szs (xs n) = 256 + n := by
  simp only [xs, szs, List.map_cons, List.sum_cons, List.map_replicate, List.sum_replicate_nat, lett_size]
  have : (⟨#[120]⟩ : ByteArray).size = 1 := rfl
  rw [this]; omega
theorem xs_ok (n : Nat) (hn : n ≤ 63) : OkL (xs n) := ⟨by rw [xs_len]; omega, fun p hp => by
  simp only [xs, List.mem_cons, List.mem_replicate] at hp
  rcases hp with rfl | ⟨_, rfl⟩
  · rw [lett_size]; omega
  · decide⟩
theorem xs_get (n i : Nat) (h : i < n) : (xs n)[i + 1]? = some (⟨#[120]⟩ : ByteArray) := by
  simp [xs, List.getElem?_replicate, h]
theorem xs_next (n : Nat) : xs n ++ [⟨#[120]⟩] = xs (n + 1) := by
  simp [xs, List.replicate_succ']
theorem xs_txt (n : Nat) : ∀ c ∈ txt (xs n), c.toNat ≠ 10 := by
  intro c hc
  simp only [txt, xs, List.mem_flatMap, List.mem_cons, List.mem_replicate] at hc
  obtain ⟨p, hp, hc⟩ := hc
  rcases hp with rfl | ⟨_, rfl⟩
  · rw [lett, str_data, List.mem_replicate] at hc
    rw [hc.2]; decide
  · have hc' : c ∈ [(120 : UInt8)] := hc
    simp at hc'
    rw [hc']; decide
theorem names_law (W : World) : Calls prog 9 #[] W fun e w' => e = .returned (.bool true) ∧ Frm none_ W w' := by
  refine callsRet (W9 (Q := fun v w' => v = .bool true ∧ Frm none_ W w') ?_) (fun v w' ⟨h, h'⟩ => ⟨by rw [h], h'⟩)
  unfold F9
  refine (works_calls W).mono ?_
  rintro _ w1 ⟨rfl, f1⟩
  refine ⟨_, rfl, IfB.f rfl ((new_calls w1).mono ?_)⟩
  rintro _ w2 ⟨b, rfl, hb, hL2, f2⟩
  have F2 := f1.n f2
  have hbW : W.heap.size ≤ b := by have := f1.size; omega
  have n2 : New W ⟨none, 0, 0⟩ := fun k hk => by simp [Sl.blk] at hk
  refine ⟨_, rfl, (letters_calls w2 257 (by omega)).mono ?_⟩
  rintro _ w3 ⟨rfl, f3⟩
  have F3 := F2.n f3
  have a1 : addA [] 0 (lett 257) = (false, 40, []) := by unfold addA; rw [lett_size, if_neg (by omega), if_pos (by omega)]
  refine ⟨_, rfl, (add_calls w3 b _ [] 0 (lett 257) (hL2.n f3) ok_nil).mono ?_⟩
  rw [a1]
  rintro _ w4 ⟨rfl, t4, hL4, hn4, f4⟩
  have F4 := frm_lg F3 f4 hbW n2
  have n4 := hn4.new n2 F3.size
  refine ⟨_, _, rfl, (letters_calls w4 257 (by omega)).mono ?_⟩
  rintro _ w5 ⟨rfl, f5⟩
  have F5 := F4.n f5
  have a2 : addA [] (-1) (lett 257) = (false, 1, []) := by unfold addA; rw [if_pos (by omega)]
  refine ⟨_, rfl, (add_calls w5 b _ [] (-1) (lett 257) (hL4.n f5) ok_nil).mono ?_⟩
  rw [a2]
  rintro _ w6 ⟨rfl, t6, hL6, hn6, f6⟩
  have F6 := frm_lg F5 f6 hbW n4
  have n6 := hn6.new n4 F5.size
  refine ⟨_, _, rfl, (letters_calls w6 256 (by omega)).mono ?_⟩
  rintro _ w7 ⟨rfl, f7⟩
  have F7 := F6.n f7
  have a3 : addA [] 0 (lett 256) = (true, 0, xs 0) := by unfold addA; rw [lett_size, if_neg (by omega), if_neg (by omega), if_neg (by simp), if_neg (by omega), if_neg (by simp)]; rfl
  refine ⟨_, rfl, (add_calls w7 b _ [] 0 (lett 256) (hL6.n f7) ok_nil).mono ?_⟩
  rw [a3]
  rintro _ w8 ⟨rfl, t8, hL8, hn8, f8⟩
  have F8 := frm_lg F7 f8 hbW n6
  have n8 := hn8.new n6 F7.size
  refine ⟨_, _, rfl, (letters_calls w8 257 (by omega)).mono ?_⟩
  rintro _ w9 ⟨rfl, f9⟩
  have F9 := F8.n f9
  have a4 : addA (xs 0) 0 (lett 257) = (false, 40, xs 0) := by unfold addA; rw [lett_size, if_neg (by omega), if_pos (by omega)]
  refine ⟨_, rfl, (add_calls w9 b _ (xs 0) 0 (lett 257) (hL8.n f9) (xs_ok 0 (by omega))).mono ?_⟩
  rw [a4]
  rintro _ w10 ⟨rfl, t10, hL10, hn10, f10⟩
  have F10 := frm_lg F9 f10 hbW n8
  have n10 := hn10.new n8 F9.size
  have hx1 : (⟨#[120]⟩ : ByteArray).size = 1 := rfl
  refine ⟨_, _, rfl, fun n i V => ∃ (j : Nat) (t : Sl), i = (j : Int) + 1 ∧ j ≤ 63 ∧ n = 63 - j ∧ LgS V b t (xs j) ∧ New W t ∧ Frm none_ W V, 63, ⟨0, t10, rfl, by omega, rfl, hL10, n10, F10⟩, ?_⟩
  rintro n u i w11 ⟨j, t, rfl, hj, rfl, hL11, n11, F11⟩
  refine IfB.dec (fun hlt => ?_) (fun hge => ?_)
  · have a5 : addA (xs j) ((j : Int) + 1) (⟨#[120]⟩ : ByteArray) = (true, 0, xs (j + 1)) := by
      unfold addA
      rw [hx1, if_neg (by omega), if_neg (by omega), if_neg (by rw [xs_len]; omega), if_neg (by omega), if_neg (by rw [xs_len]; omega), xs_next]
    refine (add_calls w11 b t (xs j) _ _ hL11 (xs_ok j hj)).mono ?_
    rw [a5]
    rintro _ w12 ⟨rfl, t12, hL12, hn12, f12⟩
    exact ⟨_, _, rfl, IfB.f rfl (IfB.f rfl ⟨63 - (j + 1), by omega, j + 1, t12, by rw [wi _ (by omega)]; omega, by omega, rfl, hL12, hn12.new n11 F11.size, frm_lg F11 f12 hbW n11⟩)⟩
  have hj63 : j = 63 := by omega
  subst hj63
  have ok := xs_ok 63 (by omega)
  have hlen : (xs 63).length = 64 := by rw [xs_len]
  have hsz : szs (xs 63) = 319 := by rw [xs_szs]
  have hg63 : (xs 63)[63]? = some (⟨#[120]⟩ : ByteArray) := xs_get 63 62 (by omega)
  generalize hps : xs 63 = ps at *
  have hnt : ∀ c ∈ txt ps, c.toNat ≠ 10 := by rw [← hps]; exact xs_txt 63
  have a6 : addA ps 64 (⟨#[120]⟩ : ByteArray) = (false, 3, ps) := by unfold addA; rw [hx1, if_neg (by omega), if_neg (by omega), if_neg (by omega), if_pos (by omega)]
  refine (add_calls w11 b t ps 64 _ hL11 ok).mono ?_
  rw [a6]
  rintro _ w12 ⟨rfl, t12, hL12, hn12, f12⟩
  have F12 := frm_lg F11 f12 hbW n11
  have n12 := hn12.new n11 F11.size
  have a7 : addA ps 63 (⟨#[120]⟩ : ByteArray) = (false, 0, ps) := by unfold addA; rw [hx1, if_neg (by omega), if_neg (by omega), if_pos (by omega), show (63 : Int).toNat = 63 from rfl, if_pos hg63]
  refine ⟨_, _, rfl, (add_calls w12 b _ ps 63 _ hL12 ok).mono ?_⟩
  rw [a7]
  rintro _ w13 ⟨rfl, t13, hL13, hn13, f13⟩
  have F13 := frm_lg F12 f13 hbW n12
  have n13 := hn13.new n12 F12.size
  have a8 : addA ps 1099511627776 (⟨#[120]⟩ : ByteArray) = (false, 3, ps) := by unfold addA; rw [hx1, if_neg (by omega), if_neg (by omega), if_neg (by omega), if_pos (by omega)]
  refine ⟨_, _, rfl, (add_calls w13 b _ ps 1099511627776 _ hL13 ok).mono ?_⟩
  rw [a8]
  rintro _ w14 ⟨rfl, t14, hL14, hn14, f14⟩
  have F14 := frm_lg F13 f14 hbW n13
  refine ⟨_, _, rfl, (piece_calls w14 b _ ps hL14 64).mono ?_⟩
  rintro _ _ ⟨h64, rfl⟩
  rename_i w14
  rcases h64 with ⟨p, _, hp, _⟩ | ⟨_, rfl⟩
  · have := (List.getElem?_eq_some_iff.1 hp).1
    have e : (64 : Int).toNat = 64 := rfl
    omega
  refine ⟨_, _, rfl, (piece_calls w14 b _ ps hL14 (-1)).mono ?_⟩
  rintro _ _ ⟨hm1, rfl⟩
  rename_i w14
  rcases hm1 with ⟨p, h0, _⟩ | ⟨_, rfl⟩
  · omega
  refine ⟨_, _, rfl, (piece_calls w14 b _ ps hL14 63).mono ?_⟩
  rintro _ _ ⟨h63, rfl⟩
  rename_i w14
  rcases h63 with ⟨p, _, hp, rfl⟩ | ⟨h, _⟩
  rotate_left 1
  · omega
  have hp' : ps[63]? = some p := hp
  rw [hg63] at hp'
  cases hp'
  refine ⟨_, _, rfl, fun c V => c = false ∧ Frm none_ w14 V, ?_, ?_⟩
  · refine IfB.f rfl (IfB.f rfl (IfB.f rfl (IfB.f rfl (IfB.f rfl (IfB.f rfl (IfB.f rfl (IfB.f rfl (IfB.f rfl (IfB.f rfl (IfB.f rfl (IfB.f (by rw [(str_eqIff _ _).2 rfl]; rfl) ((len_calls w14 _ _ _ hL14.lp).mono ?_))))))))))))
    rintro _ _ ⟨rfl, rfl⟩
    rename_i w14
    refine ⟨_, rfl, IfB.f (by rw [hlen]; rfl) ((size15_calls 0 w14 _ ps hL14.q).mono ?_)⟩
    rintro _ w15 ⟨rfl, f15⟩
    refine ⟨_, rfl, IfB.f (by rw [hsz]; rfl) ((tail_calls w15 b _ ps (hL14.n f15) (by omega) (by omega) 400 (by omega)).mono ?_)⟩
    rintro _ w16 ⟨rfl, f16⟩
    have F16 := f15.n f16
    have t1 : (str (tailL (txt ps) 400)).size = 319 := by
      rw [str_size]
      unfold tailL
      rw [List.length_drop, txt_len, hsz]
      rfl
    refine ⟨_, rfl, IfB.f (by rw [t1]; rfl) ((tail_calls w16 b _ ps (hL14.n F16) (by omega) (by omega) (-1) (by omega)).mono ?_)⟩
    rintro _ w17 ⟨rfl, f17⟩
    have F17 := F16.n f17
    have t2 : (str (tailL (txt ps) (-1))).size = 0 := by
      rw [str_size]
      unfold tailL
      rw [List.length_drop, txt_len, hsz]
      rfl
    refine ⟨_, rfl, IfB.f (by rw [t2]; rfl) ((from_calls 0 w17 _ ps (hL14.n F17).q (by omega) (-9)).mono ?_)⟩
    rintro _ w18 ⟨r18, rfl, hr18, _, f18⟩
    have F18 := F17.n f18
    have e18 := has_sv hr18.has
    rw [List.length_drop, hlen] at e18
    refine ⟨r18, rfl, IfB.f (by rw [e18]; rfl) ((from_calls 0 w18 _ ps (hL14.n F18).q (by omega) 64).mono ?_)⟩
    rintro _ w19 ⟨r19, rfl, hr19, _, f19⟩
    have F19 := F18.n f19
    have e19 := has_sv hr19.has
    rw [List.length_drop, hlen] at e19
    refine ⟨r19, rfl, IfB.f (by rw [e19]; rfl) ((lines_calls w19 _ _ ps (-3) 1 (hL14.n F19).lp (by omega) (by omega)).mono ?_)⟩
    rintro _ w20 ⟨r20, rfl, hr20, _, f20⟩
    have F20 := F19.n f20
    have e20 := has_sv hr20.has
    have hln : lns [] (txt ps) = [str (txt ps)] := by
      have := lns_skip (txt ps) [] [] hnt
      rw [List.append_nil, List.nil_append] at this
      rw [this, lns, if_neg]
      intro h
      have := congrArg List.length h
      rw [txt_len, hsz] at this
      simp at this
    rw [hln, sel_len] at e20
    refine ⟨r20, rfl, IfB.f (by rw [e20]; rfl) ((lines_calls w20 _ _ ps 1 0 (hL14.n F20).lp (by omega) (by omega)).mono ?_)⟩
    rintro _ w21 ⟨r21, rfl, hr21, _, f21⟩
    have e21 := has_sv hr21.has
    rw [hln, sel_len] at e21
    exact ⟨r21, rfl, by rw [e21]; rfl, F20.n f21⟩
  rintro u c w15 ⟨rfl, f15⟩
  have F15 := F14.n f15
  refine IfB.f rfl (runT_lit1 st22 (by decide) rfl ?_)
  intro w16 hr16 g16 z16
  have F16 := F15.n g16
  refine (load_calls w16 _ [0] (show Has w16 _ 1 (bv [0]) from hr16.has) (by simp only; omega)).mono ?_
  rintro _ w17 ⟨v17, rfl, hv17, f17⟩
  rcases hv17 with ⟨b0, ps0, rfl, hl0, s0, hb0, hs0, hK0, hR0⟩ | ⟨_, h⟩
  rotate_left 1
  · rw [ld0] at h; cases h
  rw [ld0] at hl0
  cases hl0
  have F17 := F16.n f17
  have hL0 : LgS w17 b0 s0 [] := ⟨hK0, hR0⟩
  refine ⟨_, _, rfl, runT_lit st22 (by decide) (by decide) (cells := (bv [1, 0]).toArray) (by kernel_rfl) (by kernel_rfl) ?_⟩
  intro w18 hr18 g18 z18
  refine (loadNone w18 _ [1, 0] hr18.has ld10 (by simp only; omega)).mono ?_
  rintro _ w19 ⟨rfl, f19⟩
  have F19 := g18.n f19
  refine ⟨_, _, rfl, runT_lit st22 (by decide) (by decide) (cells := (bv [0, 0]).toArray) (by kernel_rfl) (by kernel_rfl) ?_⟩
  intro w20 hr20 g20 z20
  refine (loadNone w20 _ [0, 0] hr20.has ld00 (by simp only; omega)).mono ?_
  rintro _ w21 ⟨rfl, f21⟩
  have F21 := (F19.n g20).n f21
  refine ⟨_, _, rfl, runT_lit st22 (by decide) (by decide) (cells := (bv [128, 0]).toArray) (by kernel_rfl) (by kernel_rfl) ?_⟩
  intro w22 hr22 g22 z22
  refine (loadNone w22 _ [128, 0] hr22.has ld80 (by simp only; omega)).mono ?_
  rintro _ w23 ⟨rfl, f23⟩
  have F23 := (F21.n g22).n f23
  refine ⟨_, _, rfl, runT_lit st22 (by decide) (by decide) (cells := (bv [1, 2, 97]).toArray) (by kernel_rfl) (by kernel_rfl) ?_⟩
  intro w24 hr24 g24 z24
  refine (loadNone w24 _ [1, 2, 97] hr24.has ld12 (by simp only; omega)).mono ?_
  rintro _ w25 ⟨rfl, f25⟩
  have F25 := (F23.n g24).n f25
  refine ⟨_, _, rfl, runT_lit1 st22 (by decide) rfl ?_⟩
  intro w26 hr26 g26 z26
  refine (loadNone w26 _ [65] (show Has w26 _ 1 (bv [65]) from hr26.has) ld65 (by simp only; omega)).mono ?_
  rintro _ w27 ⟨rfl, f27⟩
  have F27 := (F25.n g26).n f27
  refine ⟨_, _, rfl, (loadNone w27 ⟨none, 0, 0⟩ [] (nilHas _) ldnil (by simp only; omega)).mono ?_⟩
  rintro _ w28 ⟨rfl, f28⟩
  have F28 := F27.n f28
  refine ⟨_, _, rfl, fun c V => c = false ∧ w28 = V, ?_, ?_⟩
  · refine IfB.f rfl ((len_calls w28 _ _ _ (hL0.n F28).lp).mono ?_)
    rintro _ _ ⟨rfl, rfl⟩
    exact ⟨_, rfl, IfB.f rfl (IfB.f rfl (IfB.f rfl (IfB.f rfl (IfB.f rfl (IfB.f rfl ⟨rfl, rfl⟩)))))⟩
  rintro u2 c w29 ⟨rfl, rfl⟩
  have F29 := F17.n F28
  refine IfB.f rfl ((add_nil w28 0 _).mono ?_)
  rintro _ _ ⟨rfl, rfl⟩
  rename_i w28
  refine ⟨_, _, rfl, (piece_nil w28 0).mono ?_⟩
  rintro _ _ ⟨rfl, rfl⟩
  rename_i w28
  have hnl : LpS w28 none ⟨none, 0, 0⟩ [] := .inl ⟨rfl, rfl⟩
  refine ⟨_, _, rfl, IfB.t rfl (IfB.t rfl ((len_calls w28 none _ _ hnl).mono ?_))⟩
  rintro _ _ ⟨rfl, rfl⟩
  rename_i w28
  refine ⟨_, rfl, (size15_calls 0 w28 none [] (.inl ⟨rfl, rfl⟩)).mono ?_⟩
  rintro _ w30 ⟨rfl, f30⟩
  refine ⟨_, rfl, (from_calls 0 w30 none [] (.inl ⟨rfl, rfl⟩) (by simp) 0).mono ?_⟩
  rintro _ w31 ⟨r31, rfl, hr31, _, f31⟩
  have e31 := has_sv hr31.has
  refine ⟨r31, rfl, (tail_nil w31 9).mono ?_⟩
  rintro _ _ ⟨rfl, rfl⟩
  rename_i w31
  refine ⟨_, rfl, (lines_calls w31 none ⟨none, 0, 0⟩ [] 0 9 (.inl ⟨rfl, rfl⟩) (by simp [szs]) (by simp)).mono ?_⟩
  rintro _ w32 ⟨r32, rfl, hr32, _, f32⟩
  have e32 := has_sv hr32.has
  refine ⟨r32, rfl, (save_calls 0 w32 none [] (.inl ⟨rfl, rfl⟩) (by simp) (by simp [szs])).mono ?_⟩
  rintro _ w33 ⟨r33, rfl, hr33, _, f33⟩
  have e33 := rowLen hr33
  rw [if_pos rfl] at e33
  refine ⟨r33, rfl, IfB.t ?_ ((copy_nil w33).mono ?_)⟩
  · rw [e31, e32, e33]; rfl
  · rintro _ _ ⟨rfl, rfl⟩
    exact ⟨none, rfl, true, none23, rfl, ((((F29.n f30).n f31).n f32).n f33)⟩
end Go.Proofs.Ytmcdeldjgfapbaa
