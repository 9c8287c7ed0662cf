/- The law DiskApart walked. -/
import Derived.Test.YtlmnnofghimneaaOps
set_option linter.unusedVariables false
set_option linter.unusedSimpArgs false
namespace Go.Proofs.Ytlmnnofghimneaa
open Go Go.Proofs.YtlmnnofghimneaaV
theorem st37 : SlT prog 37 9 1 16 (.string (⟨#[]⟩ : ByteArray)) := ⟨by kernel_rfl, by kernel_rfl, rfl, by decide⟩
/-- A disk that lives, without a cut. -/
structure PutS (i : Nat) (d : Dk) : Prop where
  len : d.bl.length = 512
  cut : d.cut = -1
  dead : d.dead = false
  wr : d.wr = i
theorem putS_go {i : Nat} {d : Dk} (h : PutS i d) (k : Nat) (hk : k < 512) (c : UInt8) : (writeD (k : Int) (fl c) d).1 = 0 ∧ PutS (i + 1) (writeD (k : Int) (fl c) d).2 := by
  have hd := h.dead
  have hlen := h.len
  have hcut := h.cut
  have e : writeD (k : Int) (fl c) d = (0, { d with bl := d.bl.set k (fl c), wr := d.wr + 1, cut := if d.cut > 0 then d.cut - 1 else d.cut }) := by
    unfold writeD; rw [hd]; simp only [Bool.false_eq_true, if_false]
    rw [if_neg (show ¬ ((k : Int) < 0 ∨ (k : Int) ≥ (d.bl.length : Int) ∨ (fl c).length ≠ 256) by rw [List.length_replicate]; omega), if_neg (by omega), Int.toNat_natCast]
  rw [e]
  exact ⟨rfl, by simp only [List.length_set]; exact hlen, by simp only; rw [if_neg (by omega)]; exact hcut, hd, by simp only; rw [h.wr]⟩
theorem byteArg (e : Int) (h : 0 ≤ e ∧ e ≤ 255) : IntKind.wrap .u8 (IntKind.wrap .i64 e) = (((UInt8.ofNat e.toNat).toNat : Nat) : Int) := by
  rw [wi _ (by omega), wu8m, UInt8.toNat_ofNat']; omega
set_option maxRecDepth 20000 in
theorem apart_calls (w : World) (s s2 : Sl) (l l2 : List Int) (hs : Has w s 1 (iv l)) (hs2 : Has w s2 1 (iv l2)) (hb1 : s.l ≤ 1000000000000000) (hb2 : s2.l ≤ 1000000000000000) : Calls prog 4 #[.slice s.a s.l s.c, .slice s2.a s2.l s2.c] w fun e w' => e = .returned (.bool true) ∧ Frm none_ w w' := by
  refine calls_ret (W4 (Q := fun v w' => v = .bool true ∧ Frm none_ w w') ?_) (fun v w' ⟨h, h'⟩ => ⟨by rw [h], h'⟩)
  unfold F4
  refine ⟨fun v w' => Frm none_ w w' ∧ (v = false → s.l + s2.l ≤ 200), ?_, ?_⟩
  · refine (works_calls w).mono ?_
    rintro _ w1 ⟨rfl, hm⟩
    refine ⟨true, rfl, IfB.f rfl ⟨hm, fun h => ?_⟩⟩
    have := of_decide_eq_false h
    rw [wi _ (by omega)] at this
    omega
  rintro u x26 w1 ⟨f1, hv⟩
  refine IfB.intro (fun h => ?_) (fun h => ?_)
  · refine (works_calls w1).mono ?_
    rintro _ w2 ⟨rfl, hm⟩
    exact ⟨true, rfl, rfl, trN f1 hm⟩
  have hlen := hv h
  refine (new_calls w1 512 (by omega) (by omega)).mono ?_
  rintro _ w2 ⟨b, G, rfl, h2, hG, hm2⟩
  have f2 := trN f1 hm2
  have toN : ∀ {a c : World}, Frm G a c → Frm none_ w a → Frm none_ w c := fun h k => k.trans h (fun _ _ h => h) (fun x hx hg => by have := (hG x hg).1; have := f1.size; omega)
  have hGlt : ∀ k, G k → k < w2.heap.size := fun k hk => (hG k hk).2
  refine ⟨_, _, rfl, IfB.f rfl ?_⟩
  refine ⟨fun m x7 w' => ∃ (i : Nat) (d : Dk), x7 = (i : Int) ∧ i ≤ s.l ∧ m = s.l - i ∧ PutS i d ∧ DkQ G w' (some ⟨b, 0, none⟩) d ∧ Frm none_ w w' ∧ w2.heap.size ≤ w'.heap.size, s.l,
    ⟨0, _, rfl, by omega, by omega, ⟨by rw [List.length_replicate]; rfl, rfl, rfl, rfl⟩, h2, f2, Nat.le_refl _⟩, ?_⟩
  rintro m u1 x7 w3 ⟨i, d, rfl, hi, rfl, hP, h3, f3, hs23⟩
  refine IfB.intro (fun h => ?_) (fun h => ?_)
  · have hlt := of_decide_eq_true h
    obtain ⟨p, v, hp, hv, hld⟩ := (hs.mod f3 (fun _ _ h => h)).at1 (i := (i : Int)) (by omega) hlt
    obtain ⟨a, _, rfl⟩ := iv_get hv
    obtain ⟨k, hk, hk512⟩ := umod a 512 (by omega) (by omega)
    have hk : IntKind.wrap .i64 (Int.tmod (IntKind.wrap .u64 a) 512) = (k : Int) := hk
    have d3 : Frm none_ w3 w3.drew := (Frm.refl _ _).drew
    refine ⟨fun w' => Frm none_ w3 w', d3, p, hp, by omega, hlt, a, fun w' hw' => hw'.cell hld (fun h => h), by decide, ?_⟩
    rw [byteArg _ (by omega), hk]
    generalize UInt8.ofNat ((i : Int) + 1).toNat = c
    refine (full_calls w3.drew c).mono ?_
    rintro _ w4 ⟨t, rfl, hr4, hn4, hm4⟩
    have g4 := trN d3 hm4
    have htG : ∀ k, t.blk = some k → ¬ G k := fun k hk hg => by have h1 := hn4 k hk; have := hGlt k hg; have e : w3.drew.heap.size = w3.heap.size := rfl; omega
    refine ⟨t, rfl, g4, (write_calls G w4 _ d (k : Int) t _ (by omega) hr4.has htG (keep2 h3 g4) (by rw [hP.wr]; omega)).mono ?_⟩
    obtain ⟨e1, hP'⟩ := putS_go hP k hk512 c
    rw [e1]
    rintro _ w5 ⟨rfl, h5, hm5⟩
    exact ⟨_, rfl, IfB.f rfl ⟨s.l - (i + 1), by omega, i + 1, _, by rw [wi _ (by omega)]; omega, by omega, rfl, hP', h5, toN hm5 (trN f3 g4), Nat.le_trans hs23 (Nat.le_trans g4.size hm5.size)⟩⟩
  have hge := of_decide_eq_false h
  have hi' : i = s.l := by omega
  subst hi'
  have hd512 := hP.len
  refine ⟨fun m x8 x9 w' => ∃ j : Nat, x9 = (j : Int) ∧ j ≤ 512 ∧ m = 512 - j ∧ Row w' x8 9 1 ((d.bl.take j).map fun l => .string (str l)) ∧ x8.l = j ∧ (∀ k, x8.blk = some k → w3.heap.size ≤ k) ∧ Frm none_ w3 w', 512,
    ⟨0, rfl, by omega, by omega, Row.nil _ _ _, rfl, by intro k hk; simp [Sl.blk] at hk, Frm.refl _ _⟩, ?_⟩
  rintro m u2 x8 x9 w4 ⟨j, rfl, hj, rfl, hr4, hl4, hn4, hm4⟩
  have h4 := keep2 h3 hm4
  refine IfB.intro (fun h => ?_) (fun h => ?_)
  · have hlt := of_decide_eq_true h
    refine (read_calls G w4 _ d j h4 hP.dead (by omega)).mono ?_
    rintro _ w5 ⟨b5, l5, hl5, rfl, hB5, _, hm5⟩
    have hll : l5.length = 256 := by obtain ⟨_, _, _, hp⟩ := h4; exact hp.ok.len l5 (List.mem_of_getElem? hl5)
    have A5 := hB5.has 256
    rw [List.size_toArray, bv_length, hll] at A5
    refine ⟨⟨some ⟨b5, 0, none⟩, 256, 256⟩, 0, rfl, runT_str un31 un5 un9 A5 (runT_lit1 st37 (by decide) rfl ?_)⟩
    intro w6 hr6 hm6 hs6
    have g6 := trN hm5 hm6
    refine runT_append st37 (hr4.mod g6 (fun _ _ h => h)) hr6.has (by intro u hu; simp [Value.cells] at hu; subst hu; rfl) (by simp only; omega) (by simp only [maxLen]; omega) ?_
    intro t w7 hr7 hl7 hn7 hm7
    have hl7 : t.l = x8.l + 1 := hl7
    have g46 := trN hm4 g6
    refine ⟨512 - (j + 1), by omega, j + 1, by rw [wi _ (by omega)]; omega, by omega, rfl, ?_, by omega, ?_, g46.trans hm7 (fun _ _ h => h) (fun x hx hf => by have := hn4 x hf; omega)⟩
    · rw [List.take_add_one, hl5, List.map_append]; exact hr7
    · intro k hk
      rcases hn7.cases hk with h | h
      · exact hn4 k h
      · have := g46.size; omega
  have hge := of_decide_eq_false h
  have hj' : j = 512 := by omega
  subst hj'
  rw [List.take_of_length_le (by omega)] at hr4
  refine (copy_calls G w4 _ d h4).mono ?_
  rintro _ w5 ⟨b2, G2, rfl, h5, hG2, hm5⟩
  have f5 := trN (trN f3 hm4) hm5
  have s4 : w3.heap.size ≤ w4.heap.size := hm4.size
  have toN2 : ∀ {a c : World}, Frm G2 a c → Frm none_ w a → Frm none_ w c := fun h k => k.trans h (fun _ _ h => h) (fun x hx hg => by have := (hG2 x hg).1; have := f3.size; omega)
  have off : ∀ k, k < w4.heap.size → ¬ G2 k := fun k hk hg => by have := (hG2 k hg).1; omega
  have GG : ∀ k, G k → ¬ G2 k := fun k hk => off k (by have := hGlt k hk; omega)
  have h45 := keep2 h4 hm5
  have hr5 := hr4.mod hm5 (fun _ _ h => h)
  have x8off : ∀ k, x8.blk = some k → ¬ G2 k := fun k hk => off k (hr4.lt k hk)
  refine ⟨_, rfl, fun m x13 w' => ∃ (i : Nat) (d2 : Dk), x13 = (i : Int) ∧ i ≤ s2.l ∧ m = s2.l - i ∧ PutS (s.l + i) d2 ∧ DkQ G2 w' (some ⟨b2, 0, none⟩) d2 ∧ DkQ G w' (some ⟨b, 0, none⟩) d ∧ Row w' x8 9 1 (d.bl.map fun l => .string (str l)) ∧ Frm none_ w w' ∧ w5.heap.size ≤ w'.heap.size, s2.l,
    ⟨0, d, rfl, by omega, by omega, hP, h5, h45, hr5, f5, Nat.le_refl _⟩, ?_⟩
  rintro m u3 x13 w6 ⟨i, d2, rfl, hi, rfl, hP2, h6, h6d, hr6, f6, hs56⟩
  have G2lt : ∀ k, G2 k → k < w5.heap.size := fun k hk => (hG2 k hk).2
  refine IfB.intro (fun h => ?_) (fun h => ?_)
  · have hlt := of_decide_eq_true h
    obtain ⟨p, v, hp, hv, hld⟩ := (hs2.mod f6 (fun _ _ h => h)).at1 (i := (i : Int)) (by omega) hlt
    obtain ⟨a, _, rfl⟩ := iv_get hv
    obtain ⟨k, hk, hk512⟩ := umod a 512 (by omega) (by omega)
    have hk : IntKind.wrap .i64 (Int.tmod (IntKind.wrap .u64 a) 512) = (k : Int) := hk
    have d3 : Frm none_ w6 w6.drew := (Frm.refl _ _).drew
    refine ⟨fun w' => Frm none_ w6 w', d3, p, hp, by omega, hlt, a, fun w' hw' => hw'.cell hld (fun h => h), by decide, ?_⟩
    rw [byteArg _ (by omega), hk]
    generalize UInt8.ofNat ((200 : Int) - (i : Int)).toNat = c
    refine (full_calls w6.drew c).mono ?_
    rintro _ w7 ⟨t, rfl, hr7, hn7, hm7⟩
    have g7 := trN d3 hm7
    have htG : ∀ k, t.blk = some k → ¬ G2 k := fun k hk hg => by have h1 := hn7 k hk; have := G2lt k hg; have e : w6.drew.heap.size = w6.heap.size := rfl; omega
    refine ⟨t, rfl, g7, (write_calls G2 w7 _ d2 (k : Int) t _ (by omega) hr7.has htG (keep2 h6 g7) (by rw [hP2.wr]; omega)).mono ?_⟩
    obtain ⟨e1, hP'⟩ := putS_go hP2 k hk512 c
    rw [e1]
    rintro _ w8 ⟨rfl, h8, hm8⟩
    exact ⟨_, rfl, IfB.f rfl ⟨s2.l - (i + 1), by omega, i + 1, _, by rw [wi _ (by omega)]; omega, by omega, rfl, hP', h8, (keep2 h6d g7).mod hm8 GG, (hr6.mod g7 (fun _ _ h => h)).mod hm8 x8off, toN2 hm8 (trN f6 g7), Nat.le_trans hs56 (Nat.le_trans g7.size hm8.size)⟩⟩
  have hge := of_decide_eq_false h
  have hi' : i = s2.l := by omega
  subst hi'
  refine ⟨fun v w' => v = false ∧ DkQ G w' (some ⟨b, 0, none⟩) d ∧ Row w' x8 9 1 (d.bl.map fun l => .string (str l)) ∧ Frm none_ w w', ?_, ?_⟩
  · refine (cut_calls G2 w6 _ d2 0 (by omega) h6).mono ?_
    have e : cutD 0 d2 = (0, { d2 with cut := 0 }) := by
      unfold cutD; rw [hP2.dead]; simp only [Bool.false_eq_true, if_false]; rw [if_neg (by omega)]
    rw [e]
    rintro _ w7 ⟨rfl, h7, hm7⟩
    have e1 : (1 : Int) = ((1 : UInt8).toNat : Int) := rfl
    have e11 : ∀ (w : World) (K : Ending → World → Prop), Calls prog 11 #[.int .u8 ((1 : UInt8).toNat : Int)] w K → Calls prog 11 #[.int .u8 1] w K := fun _ _ h => h
    refine ⟨_, rfl, IfB.f rfl (e11 _ _ ((full_calls w7 1).mono ?_))⟩
    rintro _ w8 ⟨t, rfl, hr8, hn8, hm8⟩
    have htG : ∀ k, t.blk = some k → ¬ G2 k := fun k hk hg => by have h1 := hn8 k hk; have := G2lt k hg; have := hm7.size; omega
    refine ⟨t, rfl, (write_calls G2 w8 _ _ 0 t _ (by omega) hr8.has htG (keep2 h7 hm8) (by simp only; rw [hP2.wr]; omega)).mono ?_⟩
    have e2 : writeD 0 (fl 1) { d2 with cut := 0 } = (20, { d2 with cut := 0, dead := true }) := by
      unfold writeD; simp only; rw [hP2.dead]; simp only [Bool.false_eq_true, if_false]
      rw [if_neg (show ¬ ((0 : Int) < 0 ∨ (0 : Int) ≥ (d2.bl.length : Int) ∨ (fl 1).length ≠ 256) by rw [List.length_replicate, hP2.len]; omega), if_pos trivial]
    rw [e2]
    rintro _ w9 ⟨rfl, h9, hm9⟩
    have hd9 : DkQ G w9 (some ⟨b, 0, none⟩) d := ((keep2 (h6d.mod hm7 GG) hm8).mod hm9 GG)
    refine ⟨_, rfl, IfB.f rfl ((dead_calls G w9 _ d hd9).mono ?_)⟩
    rintro _ _ ⟨rfl, rfl⟩
    refine ⟨_, rfl, IfB.f hP.dead ((writes_calls G w9 _ d hd9).mono ?_)⟩
    rintro _ _ ⟨rfl, rfl⟩
    refine ⟨_, rfl, IfB.f (by rw [hP.wr]; simp) ((writes_calls G2 w9 _ _ h9).mono ?_)⟩
    rintro _ _ ⟨rfl, rfl⟩
    refine ⟨_, rfl, ?_, hd9, (((hr6.mod hm7 x8off).mod hm8 (fun _ _ h => h)).mod hm9 x8off), toN2 hm9 (trN (toN2 hm7 f6) hm8)⟩
    rw [wi _ (by omega), bne_eq_false_iff_eq]
    simp only
    rw [hP2.wr]; omega
  rintro u4 _ w7 ⟨rfl, h7, hr7, f7⟩
  refine IfB.f rfl ?_
  refine ⟨fun m x14 w' => ∃ j : Nat, x14 = (j : Int) ∧ j ≤ 512 ∧ m = 512 - j ∧ Frm none_ w7 w', 512, ⟨0, rfl, by omega, by omega, Frm.refl _ _⟩, ?_⟩
  rintro m u5 x14 w8 ⟨j, rfl, hj, rfl, hm8⟩
  refine IfB.intro (fun h => ?_) (fun h => ⟨rfl, trN f7 hm8⟩)
  have hlt := of_decide_eq_true h
  refine (read_calls G w8 _ d j (keep2 h7 hm8) hP.dead (by omega)).mono ?_
  rintro _ w9 ⟨b9, l9, hl9, rfl, hB9, _, hm9⟩
  have hll : l9.length = 256 := by obtain ⟨_, _, _, hp⟩ := h7; exact hp.ok.len l9 (List.mem_of_getElem? hl9)
  have d9 : Frm none_ w9 w9.drew := (Frm.refl _ _).drew
  have A9 : Has w9.drew ⟨some ⟨b9, 0, none⟩, 256, 256⟩ 1 (bv l9) := by
    have := (hB9.mod d9 (fun h => h)).has 256
    rw [List.size_toArray, bv_length, hll] at this; exact this
  have g9 := trN hm8 hm9
  have hx8 := hr7.len
  rw [List.length_map] at hx8
  obtain ⟨p, v, hp, hv, hld⟩ := (hr7.mod g9 (fun _ _ h => h)).has.at1 (i := (j : Int)) (by omega) (by omega)
  rw [Int.toNat_natCast, List.getElem?_map, hl9] at hv
  simp only [Option.map_some, Option.some.injEq] at hv
  subst hv
  refine ⟨⟨some ⟨b9, 0, none⟩, 256, 256⟩, 0, rfl, fun w' => Frm none_ w9 w', d9, IfB.f rfl ⟨p, hp, by omega, by omega, str l9, fun w' hw' => hw'.cell hld (fun h => h), ?_⟩⟩
  refine runT_str un31 un5 un9 A9 ⟨d9, IfB.f (by rw [strEq rfl]; rfl) ⟨512 - (j + 1), by omega, j + 1, by rw [wi _ (by omega)]; omega, by omega, rfl, trN g9 d9⟩⟩
theorem apart_law (W : World) (s : Sl) (l : List Int) (hl : HasL W s 1 (fun n : Int => [Value.int .i64 n]) l ∧ (∀ a ∈ l, -9223372036854775808 ≤ a ∧ a ≤ 9223372036854775807) ∧ s.l ≤ s.c ∧ s.c ≤ maxLen ∧ s.c * 8 ≤ 140737488351232)
    (s2 : Sl) (l2 : List Int) (hl2 : HasL W s2 1 (fun n : Int => [Value.int .i64 n]) l2 ∧ (∀ a ∈ l2, -9223372036854775808 ≤ a ∧ a ≤ 9223372036854775807) ∧ s2.l ≤ s2.c ∧ s2.c ≤ maxLen ∧ s2.c * 8 ≤ 140737488351232) :
    Calls prog 4 #[.slice s.a s.l s.c, .slice s2.a s2.l s2.c] W fun e w' => e = .returned (.bool true) ∧ Frm none_ W w' := apart_calls W s s2 l l2 hl.1.one hl2.1.one (by omega) (by omega)
end Go.Proofs.Ytlmnnofghimneaa
