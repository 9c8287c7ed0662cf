/- The worked example of the disk's laws. -/
import Derived.Test.YtlmnnofghimneaaC
set_option linter.unusedVariables false
set_option linter.unusedSimpArgs false
namespace Go.Proofs.Ytlmnnofghimneaa
open Go Go.Proofs.YtlmnnofghimneaaV
abbrev fl (c : UInt8) : List UInt8 := List.replicate 256 c
theorem strEq {l m : List UInt8} (h : l = m) : ((str l).toList == (str m).toList) = true := by rw [h, str_beq]; exact decide_eq_true rfl
theorem keep2 {G : Nat → Prop} {a c : World} {x : Option Addr} {d : Dk} (h : DkQ G a x d) (hm : Frm none_ a c) : DkQ G c x d := h.mod hm (fun _ _ h => h)
set_option maxRecDepth 20000 in
theorem works_calls (w : World) : Calls prog 7 #[] w fun e w' => e = .returned (.bool true) ∧ Frm none_ w w' := by
  refine calls_ret (W7 (Q := fun v w' => v = .bool true ∧ Frm none_ w w') ?_) (fun v w' ⟨h, h'⟩ => ⟨by rw [h], h'⟩)
  unfold F7
  refine (new_calls w 512 (by omega) (by omega)).mono ?_
  rintro _ w1 ⟨b, G, rfl, h1, hG, f1⟩
  have toN : ∀ {a c : World}, Frm G a c → Frm none_ w a → Frm none_ w c := fun h k => k.trans h (fun _ _ h => h) (fun x hx hg => by have := (hG x hg).1; omega)
  have keep : ∀ {a c : World} {x : Option Addr} {d : Dk}, DkQ G a x d → Frm none_ a c → DkQ G c x d := fun h hm => h.mod hm (fun _ _ h => h)
  refine ⟨_, _, rfl, fun v w' => v = false ∧ Frm none_ w w' ∧ ∃ d : Dk, DkQ G w' (some ⟨b, 0, none⟩) d ∧ d.dead = true ∧ d.bl[1]? = some (fl 98) ∧ d.bl[2]? = some (fl 0), IfB.f rfl ?_, ?_⟩
  · have e97 : (97 : Int) = ((97 : UInt8).toNat : Int) := rfl
    have e98 : (98 : Int) = ((98 : UInt8).toNat : Int) := rfl
    rw [e97]
    refine (full_calls w1 97).mono ?_
    rintro _ w2 ⟨t, rfl, hr2, hn2, hm2⟩
    have htG : ∀ k, t.blk = some k → ¬ G k := fun k hk hg => by have := hn2 k hk; have := (hG k hg).2; omega
    refine ⟨t, rfl, (write_calls G w2 _ _ 1 t _ (by omega) hr2.has htG (keep h1 hm2) (by decide)).mono ?_⟩
    have hl : (List.replicate (512 : Int).toNat zeroB).length = 512 := by rw [List.length_replicate]; rfl
    have e1 : writeD 1 (fl 97) ⟨List.replicate (512 : Int).toNat zeroB, 0, -1, false⟩ = (0, ⟨(List.replicate (512 : Int).toNat zeroB).set 1 (fl 97), 1, -1, false⟩) := by
      unfold writeD
      simp only [Bool.false_eq_true, if_false]
      rw [if_neg (by rw [hl, List.length_replicate]; omega), if_neg (by omega)]
      rfl
    rw [e1]
    rintro _ w3 ⟨rfl, h3, hm3⟩
    have f3 := toN hm3 (trN f1 hm2)
    refine ⟨_, rfl, IfB.f rfl ((cut_calls G w3 _ _ 1 (by omega) h3).mono ?_)⟩
    have e2 : cutD 1 ⟨(List.replicate (512 : Int).toNat zeroB).set 1 (fl 97), 1, -1, false⟩ = (0, ⟨(List.replicate (512 : Int).toNat zeroB).set 1 (fl 97), 1, 1, false⟩) := rfl
    rw [e2]
    rintro _ w4 ⟨rfl, h4, hm4⟩
    have f4 := toN hm4 f3
    rw [e98]
    refine ⟨_, rfl, IfB.f rfl ((full_calls w4 98).mono ?_)⟩
    rintro _ w5 ⟨t2, rfl, hr5, hn5, hm5⟩
    have hGlt : ∀ k, G k → k < w1.heap.size := fun k hg => (hG k hg).2
    have s14 : w1.heap.size ≤ w4.heap.size := Nat.le_trans hm2.size (Nat.le_trans hm3.size hm4.size)
    have ht2G : ∀ k, t2.blk = some k → ¬ G k := fun k hk hg => by have := hn5 k hk; have := hGlt k hg; omega
    refine ⟨t2, rfl, (write_calls G w5 _ _ 1 t2 _ (by omega) hr5.has ht2G (keep h4 hm5) (by decide)).mono ?_⟩
    have e3 : writeD 1 (fl 98) ⟨(List.replicate (512 : Int).toNat zeroB).set 1 (fl 97), 1, 1, false⟩ = (0, ⟨((List.replicate (512 : Int).toNat zeroB).set 1 (fl 97)).set 1 (fl 98), 2, 0, false⟩) := by
      unfold writeD
      simp only [Bool.false_eq_true, if_false]
      rw [if_neg (by rw [List.length_set, hl, List.length_replicate]; omega), if_neg (by omega)]
      rfl
    rw [e3]
    rintro _ w6 ⟨rfl, h6, hm6⟩
    have f6 := toN hm6 (trN f4 hm5)
    refine ⟨_, rfl, IfB.f rfl ((full_calls w6 98).mono ?_)⟩
    rintro _ w7 ⟨t3, rfl, hr7, hn7, hm7⟩
    have s46 : w4.heap.size ≤ w6.heap.size := Nat.le_trans hm5.size hm6.size
    have ht3G : ∀ k, t3.blk = some k → ¬ G k := fun k hk hg => by have := hn7 k hk; have := hGlt k hg; omega
    refine ⟨t3, rfl, (write_calls G w7 _ _ 2 t3 _ (by omega) hr7.has ht3G (keep h6 hm7) (by decide)).mono ?_⟩
    have e4 : writeD 2 (fl 98) ⟨((List.replicate (512 : Int).toNat zeroB).set 1 (fl 97)).set 1 (fl 98), 2, 0, false⟩ = (20, ⟨((List.replicate (512 : Int).toNat zeroB).set 1 (fl 97)).set 1 (fl 98), 2, 0, true⟩) := by
      unfold writeD
      simp only [Bool.false_eq_true, if_false]
      rw [if_neg (by rw [List.length_set, List.length_set, hl, List.length_replicate]; omega), if_pos trivial]
    rw [e4]
    rintro _ w8 ⟨rfl, h8, hm8⟩
    have f8 := toN hm8 (trN f6 hm7)
    refine ⟨_, rfl, IfB.f rfl ((dead_calls G w8 _ _ h8).mono ?_)⟩
    rintro _ _ ⟨rfl, rfl⟩
    refine ⟨_, rfl, rfl, f8, _, h8, rfl, ?_, ?_⟩
    · rw [List.getElem?_set_self (by rw [List.length_set, hl]; omega)]
    · rw [List.getElem?_set_ne (by omega), List.getElem?_set_ne (by omega), List.getElem?_replicate, if_pos (by decide)]; rfl
  rintro u _ w2 ⟨rfl, f2, d, hd, hdead, hb1, hb2⟩
  refine IfB.f rfl ?_
  refine (reopen_calls G w2 _ d hd hdead).mono ?_
  rintro _ w3 ⟨b', G', rfl, h3, hG', hm3⟩
  have f3 := trN f2 hm3
  refine ⟨_, _, rfl, IfB.f rfl ?_⟩
  have i1 : 1 < d.bl.length := (List.getElem?_eq_some_iff.1 hb1).1
  have i2 : 2 < d.bl.length := (List.getElem?_eq_some_iff.1 hb2).1
  refine (read_calls G' w3 _ _ 1 h3 rfl i1).mono ?_
  rintro _ w4 ⟨b4, l4, hl4, rfl, hB4, _, hm4⟩
  have hl4 : d.bl[1]? = some l4 := hl4
  rw [hb1] at hl4; cases hl4
  have h4 := keep2 h3 hm4
  refine ⟨⟨some ⟨b4, 0, none⟩, 256, 256⟩, 0, rfl, (read_calls G' w4 _ _ 2 h4 rfl i2).mono ?_⟩
  rintro _ w5 ⟨b5, l5, hl5, rfl, hB5, _, hm5⟩
  have hl5 : d.bl[2]? = some l5 := hl5
  rw [hb2] at hl5; cases hl5
  have h5 := keep2 h4 hm5
  have f5 := trN (trN f3 hm4) hm5
  have sz : ∀ c : UInt8, (bv (fl c)).toArray.size = 256 := fun c => by rw [List.size_toArray, bv_length, List.length_replicate]
  have A4 : ∀ {w'}, Frm none_ w5 w' → Has w' ⟨some ⟨b4, 0, none⟩, 256, 256⟩ 1 (bv (fl 98)) := fun hm => by
    have := ((hB4.mod hm5 (fun h => h)).mod hm (fun h => h)).has 256
    rw [sz] at this; exact this
  have A5 : ∀ {w'}, Frm none_ w5 w' → Has w' ⟨some ⟨b5, 0, none⟩, 256, 256⟩ 1 (bv (fl 0)) := fun hm => by
    have := (hB5.mod hm (fun h => h)).has 256
    rw [sz] at this; exact this
  refine ⟨⟨some ⟨b5, 0, none⟩, 256, 256⟩, 0, rfl, IfB.t rfl (IfB.t rfl ?_)⟩
  have e98 : (98 : Int) = ((98 : UInt8).toNat : Int) := rfl
  have e0 : ∀ (w : World) (K : Ending → World → Prop), Calls prog 11 #[.int .u8 ((0 : UInt8).toNat : Int)] w K → Calls prog 11 #[.int .u8 0] w K := fun _ _ h => h
  have fin : ∀ w', Frm none_ w5 w' → Calls prog 16 #[.pointer (some ⟨b', 0, none⟩)] w' fun en w1_11 => ∃ t81 : Int, en = .returned (.int .i64 t81) ∧ (Value.bool (t81 == 0) = .bool true ∧ Frm none_ w w1_11) := by
    intro w' hw'
    refine (writes_calls G' w' _ _ (keep2 h5 hw')).mono ?_
    rintro _ _ ⟨rfl, rfl⟩
    exact ⟨_, rfl, rfl, trN f5 hw'⟩
  have d5 : Frm none_ w5 w5.drew := (Frm.refl _ _).drew
  refine ⟨?_, ?_⟩
  · refine runT_str un31 un5 un9 (A4 d5) ((full_calls w5.drew 98).mono ?_)
    rintro _ w6 ⟨t, rfl, hr, _, hm6⟩
    have g6 := trN d5 hm6
    refine ⟨t, rfl, runT_str un31 un5 un9 hr.has (IfB.t (strEq rfl) ⟨?_, ?_⟩)⟩
    · refine runT_str un31 un5 un9 (A5 g6) (e0 _ _ ((full_calls w6 0).mono ?_))
      rintro _ w7 ⟨q, rfl, hq, _, hm7⟩
      exact ⟨q, rfl, runT_str un31 un5 un9 hq.has (IfB.t (strEq rfl) (fin _ (trN g6 hm7)))⟩
    · refine e0 _ _ ((full_calls w6 0).mono ?_)
      rintro _ w7 ⟨q, rfl, hq, _, hm7⟩
      have g7 := trN g6 hm7
      exact ⟨q, rfl, runT_str un31 un5 un9 (A5 g7) (runT_str un31 un5 un9 hq.has (IfB.t (strEq rfl) (fin _ g7))), runT_str un31 un5 un9 hq.has (runT_str un31 un5 un9 (A5 g7) (IfB.t (strEq rfl) (fin _ g7)))⟩
  · refine (full_calls w5.drew 98).mono ?_
    rintro _ w6 ⟨t, rfl, hr, _, hm6⟩
    have g6 := trN d5 hm6
    refine ⟨t, rfl, runT_str un31 un5 un9 (A4 g6) (runT_str un31 un5 un9 hr.has (IfB.t (strEq rfl) ⟨?_, ?_⟩)), runT_str un31 un5 un9 hr.has (runT_str un31 un5 un9 (A4 g6) (IfB.t (strEq rfl) ⟨?_, ?_⟩))⟩
    all_goals first
      | (refine runT_str un31 un5 un9 (A5 g6) (e0 _ _ ((full_calls w6 0).mono ?_))
         rintro _ w7 ⟨q, rfl, hq, _, hm7⟩
         exact ⟨q, rfl, runT_str un31 un5 un9 hq.has (IfB.t (strEq rfl) (fin _ (trN g6 hm7)))⟩)
      | (refine e0 _ _ ((full_calls w6 0).mono ?_)
         rintro _ w7 ⟨q, rfl, hq, _, hm7⟩
         have g7 := trN g6 hm7
         exact ⟨q, rfl, runT_str un31 un5 un9 (A5 g7) (runT_str un31 un5 un9 hq.has (IfB.t (strEq rfl) (fin _ g7))), runT_str un31 un5 un9 hq.has (runT_str un31 un5 un9 (A5 g7) (IfB.t (strEq rfl) (fin _ g7)))⟩)
end Go.Proofs.Ytlmnnofghimneaa
