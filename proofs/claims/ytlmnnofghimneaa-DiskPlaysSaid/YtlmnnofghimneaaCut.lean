/- The law DiskCut walked. -/
import Derived.Test.YtlmnnofghimneaaW
set_option linter.unusedVariables false
set_option linter.unusedSimpArgs false
namespace Go.Proofs.Ytlmnnofghimneaa
open Go Go.Proofs.YtlmnnofghimneaaV
theorem st22 : SlT prog 22 3 1 8 (.int .i64 0) := ⟨by kernel_rfl, by kernel_rfl, rfl, by decide⟩
theorem bool_neq (i j : Nat) (a b : Bool) : BinIs prog .neq 4 (.tmp i) (.tmp j) (.bool a) (.bool b) (a != b) := by
  cases a <;> cases b <;> exact fun w => by kernel_rfl
theorem wu64m (e : Int) : IntKind.wrap .u64 e = e % 18446744073709551616 := by
  simp [IntKind.wrap, IntKind.min, IntKind.max, IntKind.signed, IntKind.bits]
theorem wu8m (e : Int) : IntKind.wrap .u8 e = e % 256 := by
  simp [IntKind.wrap, IntKind.min, IntKind.max, IntKind.signed, IntKind.bits]
theorem umod (x : Int) (n : Nat) (h0 : 0 < n) (h1 : n ≤ 1000000) : ∃ k : Nat, IntKind.wrap .i64 (Int.tmod (IntKind.wrap .u64 x) (n : Int)) = (k : Int) ∧ k < n := by
  have hx : 0 ≤ IntKind.wrap .u64 x := by rw [wu64m]; omega
  rw [Int.tmod_eq_emod_of_nonneg hx]
  generalize IntKind.wrap .u64 x = y at hx
  have a1 := Int.emod_nonneg y (show (n : Int) ≠ 0 by omega)
  have a2 := Int.emod_lt_of_pos y (show (0 : Int) < (n : Int) by omega)
  generalize y % (n : Int) = z at a1 a2
  refine ⟨z.toNat, ?_, by omega⟩
  rw [wi _ (by omega)]
  omega
def iv (l : List Int) : List Value := l.map (.int .i64)
/-- Behind i writes of which n may be done. -/
structure CutS (n i : Nat) (d : Dk) (wl : List Int) : Prop where
  len : d.bl.length = 512
  wlen : wl.length = 512
  cut : d.cut = ((n - min i n : Nat) : Int)
  dead : d.dead = decide (i > n)
  wr : d.wr ≤ i
  same : ∀ k, k < 512 → ∃ c : UInt8, wl[k]? = some (c.toNat : Int) ∧ d.bl[k]? = some (fl c)
theorem cutS_go {n i : Nat} {d : Dk} {wl : List Int} (h : CutS n i d wl) (hi : i < n) (k : Nat) (hk : k < 512) (c : UInt8) :
    (writeD (k : Int) (fl c) d).1 = 0 ∧ CutS n (i + 1) (writeD (k : Int) (fl c) d).2 (wl.set k (c.toNat : Int)) := by
  have hd : d.dead = false := by rw [h.dead]; exact decide_eq_false (by omega)
  have hlen := h.len
  have hcut := h.cut
  have e : writeD (k : Int) (fl c) d = (0, { d with bl := d.bl.set k (fl c), wr := d.wr + 1, cut := if d.cut > 0 then d.cut - 1 else d.cut }) := by
    unfold writeD; rw [hd]; simp only [Bool.false_eq_true, if_false]
    rw [if_neg (show ¬ ((k : Int) < 0 ∨ (k : Int) ≥ (d.bl.length : Int) ∨ (fl c).length ≠ 256) by rw [List.length_replicate]; omega), if_neg (by omega), Int.toNat_natCast]
  rw [e]
  refine ⟨rfl, by simp only [List.length_set]; exact hlen, by rw [List.length_set]; exact h.wlen, ?_, ?_, by simp only; have := h.wr; omega, ?_⟩
  · simp only; rw [if_pos (by omega)]; omega
  · simp only; rw [hd]; exact (decide_eq_false (by omega)).symm
  · intro j hj
    by_cases hjk : j = k
    · subst hjk
      exact ⟨c, by rw [List.getElem?_set_self (by rw [h.wlen]; omega)], by simp only; rw [List.getElem?_set_self (by omega)]⟩
    · obtain ⟨c', h1, h2⟩ := h.same j hj
      exact ⟨c', by rw [List.getElem?_set_ne (Ne.symm hjk)]; exact h1, by simp only; rw [List.getElem?_set_ne (Ne.symm hjk)]; exact h2⟩
theorem cutS_stop {n i : Nat} {d : Dk} {wl : List Int} (h : CutS n i d wl) (hi : n ≤ i) (k : Nat) (hk : k < 512) (c : UInt8) :
    (writeD (k : Int) (fl c) d).1 = 20 ∧ CutS n (i + 1) (writeD (k : Int) (fl c) d).2 wl := by
  have hlen := h.len
  have hcut := h.cut
  by_cases hin : i = n
  · have hd : d.dead = false := by rw [h.dead]; exact decide_eq_false (by omega)
    have e : writeD (k : Int) (fl c) d = (20, { d with dead := true }) := by
      unfold writeD; rw [hd]; simp only [Bool.false_eq_true, if_false]
      rw [if_neg (show ¬ ((k : Int) < 0 ∨ (k : Int) ≥ (d.bl.length : Int) ∨ (fl c).length ≠ 256) by rw [List.length_replicate]; omega), if_pos (by omega)]
    rw [e]
    exact ⟨rfl, hlen, h.wlen, by simp only; omega, (decide_eq_true (by omega)).symm, by simp only; have := h.wr; omega, h.same⟩
  · have hd : d.dead = true := by rw [h.dead]; exact decide_eq_true (by omega)
    have e : writeD (k : Int) (fl c) d = (20, d) := by unfold writeD; rw [hd]; rfl
    rw [e]
    exact ⟨rfl, hlen, h.wlen, by simp only; omega, by simp only; rw [hd]; exact (decide_eq_true (by omega)).symm, by simp only; have := h.wr; omega, h.same⟩
theorem iv_get {l : List Int} {i : Nat} {v : Value} (h : (iv l)[i]? = some v) : ∃ n, l[i]? = some n ∧ v = .int .i64 n := by
  simp only [iv, List.getElem?_map, Option.map_eq_some_iff] at h
  obtain ⟨n, hn, rfl⟩ := h
  exact ⟨n, hn, rfl⟩
set_option maxRecDepth 20000 in
theorem cut_law_calls (w : World) (s : Sl) (l : List Int) (x1 : Int) (hs : Has w s 1 (iv l)) : Calls prog 3 #[.slice s.a s.l s.c, .int .i64 x1] w fun e w' => e = .returned (.bool true) ∧ Frm none_ w w' := by
  refine calls_ret (W3 (Q := fun v w' => v = .bool true ∧ Frm none_ w w') ?_) (fun v w' ⟨h, h'⟩ => ⟨by rw [h], h'⟩)
  unfold F3
  have hll : l.length = s.l := by have := hs.len; unfold iv at this; rw [List.length_map] at this; omega
  refine ⟨fun v w' => Frm none_ w w' ∧ (v = false → s.l ≤ 200), ?_, ?_⟩
  · refine (works_calls w).mono ?_
    rintro _ w1 ⟨rfl, hm⟩
    exact ⟨true, rfl, IfB.f rfl ⟨hm, fun h => by have := of_decide_eq_false h; omega⟩⟩
  rintro u x24 w1 ⟨f1, hv⟩
  refine IfB.intro (fun h => ?_) (fun h => ?_)
  · refine (works_calls w1).mono ?_
    rintro _ w2 ⟨rfl, hm⟩
    exact ⟨true, rfl, rfl, trN f1 hm⟩
  have hlen := hv h
  obtain ⟨n, hn, hn210⟩ := umod x1 210 (by omega) (by omega)
  have hn : IntKind.wrap .i64 (Int.tmod (IntKind.wrap .u64 x1) 210) = (n : Int) := hn
  rw [hn]
  refine (new_calls w1 512 (by omega) (by omega)).mono ?_
  rintro _ w2 ⟨b, G, rfl, h2, hG, hm2⟩
  have f2 := trN f1 hm2
  have toN : ∀ {a c : World}, Frm G a c → Frm none_ w a → Frm none_ w c := fun h k => k.trans h (fun _ _ h => h) (fun x hx hg => by have := (hG x hg).1; have := f1.size; omega)
  refine ⟨_, _, rfl, by decide, fun v w' => v = false ∧ ∃ d, CutS n 0 d (List.replicate 512 0) ∧ DkQ G w' (some ⟨b, 0, none⟩) d ∧ Frm none_ w w' ∧ w2.heap.size ≤ w'.heap.size, IfB.f rfl ?_, ?_⟩
  · refine (cut_calls G w2 _ _ (n : Int) (by omega) h2).mono ?_
    have e : cutD (n : Int) ⟨List.replicate (512 : Int).toNat zeroB, 0, -1, false⟩ = (0, ⟨List.replicate (512 : Int).toNat zeroB, 0, (n : Int), false⟩) := by
      unfold cutD; simp only [Bool.false_eq_true, if_false]; rw [if_neg (by omega)]
    rw [e]
    rintro _ w3 ⟨rfl, h3, hm3⟩
    refine ⟨_, rfl, rfl, _, ⟨by rw [List.length_replicate]; rfl, by rw [List.length_replicate], by simp only; omega, (decide_eq_false (by omega)).symm, Nat.zero_le _, ?_⟩, h3, toN hm3 f2, hm3.size⟩
    intro k hk
    exact ⟨0, by rw [List.getElem?_replicate, if_pos hk]; rfl, by simp only; rw [List.getElem?_replicate, if_pos (show k < (512 : Int).toNat from hk)]; rfl⟩
  rintro u1 _ w3 ⟨rfl, d0, hS0, h3, f3, hs23⟩
  refine IfB.f rfl (runT_makeN st22 (by omega) (by omega) (by omega) ?_)
  intro t42 w4 hr4 hl4 hc4 ha4 hm4 hs4
  have hz : (madeCells (Value.int IntKind.i64 0).cells ((512 : Int).toNat * 1)).toList = iv (List.replicate 512 0) := by
    rw [made_const (v := .int .i64 0) (by intro i hi; simp [Value.cells] at hi; subst hi; rfl) (by simp [Value.cells])]
    unfold iv; rw [List.map_replicate]; rfl
  rw [hz] at hr4
  have hl4 : t42.l = 512 := hl4
  have hb4 : t42.blk = some w3.heap.size := by simp [Sl.blk, ha4]
  have f4 := trN f3 hm4
  have h4 : DkQ G w4 (some ⟨b, 0, none⟩) d0 := h3.mod hm4 (fun _ _ h => h)
  have hGlt : ∀ k, G k → k < w3.heap.size := fun k hk => by have := (hG k hk).2; omega
  have hw3 : w.heap.size ≤ w3.heap.size := f3.size
  refine ⟨fun m x9 w' => ∃ (i : Nat) (d : Dk) (wl : List Int), x9 = (i : Int) ∧ i ≤ s.l ∧ m = s.l - i ∧ CutS n i d wl ∧ DkQ G w' (some ⟨b, 0, none⟩) d ∧ Row w' t42 3 1 (iv wl) ∧ Frm none_ w w' ∧ w4.heap.size ≤ w'.heap.size, s.l,
    ⟨0, d0, _, rfl, by omega, by omega, hS0, h4, hr4, f4, Nat.le_refl _⟩, ?_⟩
  rintro m u2 x9 w5 ⟨i, d, wl, rfl, hi, rfl, hS, h5, hr5, f5, hs5⟩
  refine IfB.intro (fun h => ?_) (fun h => ?_)
  · have hlt := of_decide_eq_true h
    obtain ⟨p, v, hp, hv, hld⟩ := (hs.mod f5 (fun _ _ h => h)).at1 (i := (i : Int)) (by omega) hlt
    obtain ⟨a, _, rfl⟩ := iv_get hv
    obtain ⟨k, hk, hk512⟩ := umod a 512 (by omega) (by omega)
    have hk : IntKind.wrap .i64 (Int.tmod (IntKind.wrap .u64 a) 512) = (k : Int) := hk
    have hc : IntKind.wrap .u8 (IntKind.wrap .i64 ((i : Int) + 1)) = (((UInt8.ofNat (i + 1)).toNat : Nat) : Int) := by
      rw [wi _ (by omega), wu8m, UInt8.toNat_ofNat']; omega
    refine ⟨p, hp, by omega, hlt, a, hld, by decide, ?_⟩
    rw [hc, hk]
    generalize UInt8.ofNat (i + 1) = c
    refine (full_calls w5 c).mono ?_
    rintro _ w6 ⟨t, rfl, hr6, hn6, hm6⟩
    have htG : ∀ k, t.blk = some k → ¬ G k := fun k hk hg => by have := hn6 k hk; have := hGlt k hg; omega
    have hwr : d.wr < 1000000 := by have := hS.wr; omega
    refine ⟨t, rfl, (write_calls G w6 _ d (k : Int) t _ (by omega) hr6.has htG (h5.mod hm6 (fun _ _ h => h)) hwr).mono ?_⟩
    rintro _ w7 ⟨rfl, h7, hm7⟩
    have f7 := toN hm7 (trN f5 hm6)
    have h42G : ∀ k, t42.blk = some k → ¬ G k := fun k hk hg => by rw [hb4] at hk; cases hk; have := hGlt _ hg; omega
    have hr7 := (hr5.mod hm6 (fun _ _ h => h)).mod hm7 h42G
    have hs7 : w4.heap.size ≤ w7.heap.size := Nat.le_trans hs5 (Nat.le_trans hm6.size hm7.size)
    by_cases hin : i < n
    · obtain ⟨e1, hS'⟩ := cutS_go hS hin k hk512 c
      rw [e1]
      refine ⟨_, rfl, fun v w' => v = false ∧ w' = w7, ⟨_, bool_neq _ _ _ _, IfB.f ?_ (IfB.f rfl ⟨rfl, rfl⟩)⟩, ?_⟩
      · rw [decide_eq_true (by omega)]; rfl
      rintro u3 _ w7 ⟨rfl, rfl⟩
      refine IfB.f rfl (IfB.t rfl ?_)
      obtain ⟨g, hg, hwr', hset⟩ := hr7.wr (j := k) (by unfold iv; rw [List.length_map, hS.wlen]; omega)
      have ead : (⟨g, 0, none⟩ : Addr).add ((k : Int).toNat * 1) = ⟨g, k, none⟩ := by rw [addr_add]; simp
      have hgb : g = w3.heap.size := by have := hb4; simp [Sl.blk, hg] at this; exact this
      refine ⟨_, hg, by omega, by omega, by rw [ead]; exact hwr', ?_⟩
      rintro w9 rfl
      rw [ead, wi (c.toNat : Int) (by have := c.toNat_lt; omega)]
      have hm9 : Frm (fun x => x = g) w7 (w7.setCell ⟨g, k, none⟩ (.int .i64 (c.toNat : Int))) := mod_setCell (a := ⟨g, k, none⟩)
      have e3 : (iv wl).set k (.int .i64 (c.toNat : Int)) = iv (wl.set k (c.toNat : Int)) := by unfold iv; rw [List.map_set]
      have := hset (.int .i64 (c.toNat : Int))
      rw [e3] at this
      exact ⟨s.l - (i + 1), by omega, i + 1, _, _, by rw [wi _ (by omega)]; omega, by omega, rfl, hS', h7.mod hm9 (fun x hx he => by have := hGlt x hx; omega), this, f7.trans hm9 (fun _ _ h => h) (fun x hx he => by omega), Nat.le_trans hs7 hm9.size⟩
    · obtain ⟨e1, hS'⟩ := cutS_stop hS (by omega) k hk512 c
      rw [e1]
      refine ⟨_, rfl, fun v w' => v = false ∧ w' = w7, ⟨_, bool_neq _ _ _ _, IfB.f ?_ (IfB.t rfl ⟨rfl, rfl⟩)⟩, ?_⟩
      · rw [decide_eq_false (by omega)]; rfl
      rintro u3 _ w7 ⟨rfl, rfl⟩
      exact IfB.f rfl (IfB.f rfl ⟨s.l - (i + 1), by omega, i + 1, _, wl, by rw [wi _ (by omega)]; omega, by omega, rfl, hS', h7, hr7, f7, hs7⟩)
  · have hge := of_decide_eq_false h
    have hi' : i = s.l := by omega
    subst hi'
    have hok : OkD d := by obtain ⟨_, _, _, hp⟩ := h5; exact hp.ok
    refine ⟨fun x12 w' => ∃ G' d', DkQ G' w' x12 d' ∧ d'.dead = false ∧ d'.bl = d.bl ∧ DkQ G w' (some ⟨b, 0, none⟩) d ∧ Row w' t42 3 1 (iv wl) ∧ Frm none_ w w', ?_, ?_⟩
    · refine (dead_calls G w5 _ d h5).mono ?_
      rintro _ _ ⟨rfl, rfl⟩
      refine ⟨_, rfl, IfB.intro (fun h => ?_) (fun h => ⟨G, d, h5, h, rfl, h5, hr5, f5⟩)⟩
      refine (reopen_calls G w5 _ d h5 h).mono ?_
      rintro _ w6 ⟨b', G', rfl, h6, _, hm6⟩
      exact ⟨_, _, rfl, IfB.f rfl ⟨G', _, h6, rfl, rfl, keep2 h5 hm6, hr5.mod hm6 (fun _ _ h => h), trN f5 hm6⟩⟩
    rintro u3 x12 w6 ⟨G', d', h6, hd', hbl, h6d, hr6, f6⟩
    refine (dead_calls G w6 _ d h6d).mono ?_
    rintro _ _ ⟨rfl, rfl⟩
    refine ⟨_, rfl, _, bool_neq _ _ _ _, IfB.f ?_ ?_⟩
    · rw [hS.dead]
      have e : decide (((s.l : Nat) : Int) > (n : Int)) = decide (s.l > n) := by congr 1; exact propext (by omega)
      rw [e]; simp
    refine ⟨fun m x15 w' => ∃ j : Nat, x15 = (j : Int) ∧ j ≤ 512 ∧ m = 512 - j ∧ Frm none_ w6 w', 512, ⟨0, rfl, by omega, by omega, Frm.refl _ _⟩, ?_⟩
    rintro m u4 x15 w7 ⟨j, rfl, hj, rfl, hm7⟩
    refine IfB.intro (fun h => ?_) (fun h => ⟨rfl, trN f6 hm7⟩)
    have hlt := of_decide_eq_true h
    obtain ⟨c, hc1, hc2⟩ := hS.same j (by omega)
    refine (read_calls G' w7 _ d' j (keep2 h6 hm7) hd' (by rw [hbl, hS.len]; omega)).mono ?_
    rintro _ w8 ⟨b8, l8, hl8, rfl, hB8, _, hm8⟩
    rw [hbl, hc2] at hl8; cases hl8
    have sz : (bv (fl c)).toArray.size = 256 := by rw [List.size_toArray, bv_length, List.length_replicate]
    have A8 : ∀ {w'}, Frm none_ w8 w' → Has w' ⟨some ⟨b8, 0, none⟩, 256, 256⟩ 1 (bv (fl c)) := fun hm => by
      have := (hB8.mod hm (fun h => h)).has 256
      rw [sz] at this; exact this
    have d8 : Frm none_ w8 w8.drew := (Frm.refl _ _).drew
    have f8 := trN hm7 hm8
    obtain ⟨p, v, hp, hv, hld⟩ := (hr6.mod f8 (fun _ _ h => h)).has.at1 (i := (j : Int)) (by omega) (by omega)
    obtain ⟨a, ha, rfl⟩ := iv_get hv
    rw [Int.toNat_natCast, hc1] at ha; cases ha
    have next : ∀ w', Frm none_ w8 w' → ∃ n', n' < 512 - j ∧ ∃ j' : Nat, IntKind.wrap .i64 ((j : Int) + 1) = (j' : Int) ∧ j' ≤ 512 ∧ n' = 512 - j' ∧ Frm none_ w6 w' := fun w' hw' =>
      ⟨512 - (j + 1), by omega, j + 1, by rw [wi _ (by omega)]; omega, by omega, rfl, trN f8 hw'⟩
    have ew : IntKind.wrap .u8 ((c.toNat : Nat) : Int) = ((c.toNat : Nat) : Int) := by rw [wu8m]; have := c.toNat_lt; omega
    have ne : (!((str (fl c)).toList == (str (fl c)).toList)) = false := by rw [strEq rfl]; rfl
    refine ⟨⟨some ⟨b8, 0, none⟩, 256, 256⟩, 0, rfl, fun w' => Frm none_ w8 w', d8, IfB.f rfl ⟨p, hp, by omega, by omega, ((c.toNat : Nat) : Int), fun w' hw' => hw'.cell hld (fun h => h), ?_, ?_⟩⟩
    · rw [ew]
      refine runT_str un31 un5 un9 (A8 d8) ⟨d8, (full_calls w8.drew c).mono ?_⟩
      rintro _ w9 ⟨t, rfl, hr9, _, hm9⟩
      exact ⟨t, rfl, runT_str un31 un5 un9 hr9.has (IfB.f ne (next _ (trN d8 hm9)))⟩
    · rw [ew]
      refine (full_calls w8.drew c).mono ?_
      rintro _ w9 ⟨t, rfl, hr9, _, hm9⟩
      have g9 := trN d8 hm9
      exact ⟨t, rfl, runT_str un31 un5 un9 (A8 g9) ⟨trivial, runT_str un31 un5 un9 hr9.has (IfB.f ne (next _ g9))⟩, runT_str un31 un5 un9 hr9.has (runT_str un31 un5 un9 (A8 g9) ⟨trivial, IfB.f ne (next _ g9)⟩)⟩
end Go.Proofs.Ytlmnnofghimneaa
