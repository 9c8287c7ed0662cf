/- The head's bytes of a group: entry. -/
import Derived.Test.YtlbipbepeeopaaaAp
set_option linter.unusedVariables false
set_option linter.unusedSimpArgs false
set_option maxRecDepth 20000
namespace Go.Proofs.Ytlbipbepeeopaaa
open Go Go.Proofs.YtlbipbepeeopaaaV
def hd2 (p : Wt) : List UInt8 := [u8 (Int.fdiv p.1 (2 ^ (min 8 64))), u8 p.1]
def headB (l : List Wt) : List UInt8 := u8 (l.length : Int) :: l.flatMap hd2
def fnvOf (l : List Wt) : Int := fnv (fnv fnv0 (l.flatMap (·.2))) (headB l)
def sumB (n : Int) (k : Nat) : List UInt8 := (List.range k).map fun i => u8 (Int.fdiv n (2 ^ (min (8 * i) 64)))
def entryB (l : List Wt) : List UInt8 := (headB l ++ sumB (fnvOf l) 8) ++ List.replicate (256 - ((headB l).length + 8)) 0
theorem headB_len (l : List Wt) : (headB l).length = 1 + 2 * l.length := by
  unfold headB
  rw [List.length_cons, List.length_flatMap]
  have : (l.map fun p => (hd2 p).length) = List.replicate l.length 2 := by
    apply List.eq_replicate_iff.2
    exact ⟨by simp, fun u hu => by obtain ⟨p, _, rfl⟩ := List.mem_map.1 hu; rfl⟩
  rw [this, List.sum_replicate_nat]
  omega
theorem sumB_len (n : Int) (k : Nat) : (sumB n k).length = k := by simp [sumB]
theorem entryB_len (l : List Wt) (h : l.length ≤ 120) : (entryB l).length = 256 := by
  unfold entryB
  rw [List.length_append, List.length_append, List.length_replicate, sumB_len, headB_len]
  omega
theorem bv_u8 (x : Int) : Value.int .u8 (IntKind.wrap .u8 x) = .int .u8 ((u8 x).toNat : Int) := by rw [u8_val]
theorem entry_calls (H : Nat → Prop) (w : World) (x : Sl) (l : List Wt) (hg : Grp H w x l) (hn : l.length ≤ 120) (hd : ∀ p ∈ l, p.2.length = 256) (hH : ∀ k, H k → k < w.heap.size) :
    Calls prog 30 #[.slice x.a x.l x.c] w fun e w' => ∃ t : Sl, e = .returned (.slice t.a t.l t.c) ∧ Row w' t 5 1 (bv (entryB l)) ∧ (∀ k, t.blk = some k → w.heap.size < k) ∧ Frm none_ w w' := by
  refine calls_ret (W30 (Q := fun v w' => ∃ t : Sl, v = .slice t.a t.l t.c ∧ Row w' t 5 1 (bv (entryB l)) ∧ (∀ k, t.blk = some k → w.heap.size < k) ∧ Frm none_ w w') ?_) (fun v w' ⟨t, h, h'⟩ => ⟨t, by rw [h], h'⟩)
  unfold F30
  have hxl := hg.len
  refine (summer_calls w).mono ?_
  rintro _ w1 ⟨rfl, hb1, hf1⟩
  refine ⟨_, _, rfl, ?_⟩
  refine runT_lit1 st31 (by decide) rfl ?_
  intro w2 hr2 hf2 hs2
  have hw1 : w.heap.size < w1.heap.size := hb1.lt
  have hrow0 : Row w2 ⟨some ⟨w1.heap.size, 0, none⟩, 1, 1⟩ 5 1 (bv (u8 (l.length : Int) :: (l.take 0).flatMap hd2)) := by
    have e : (Value.int IntKind.u8 (IntKind.wrap .u8 ((x.l : Nat) : Int))).cells.toList = bv (u8 (l.length : Int) :: (l.take 0).flatMap hd2) := by
      rw [← hxl, bv_u8]; rfl
    rw [← e]; exact hr2
  refine ⟨fun n y i w3 => ∃ j : Nat, i = (j : Int) ∧ j ≤ l.length ∧ n = l.length - j ∧ Row w3 y 5 1 (bv (u8 (l.length : Int) :: (l.take j).flatMap hd2)) ∧ (∃ k, y.blk = some k ∧ w.heap.size < k) ∧ y.l = 1 + 2 * j ∧ Blk w3 w.heap.size #[.int .u64 (fnv fnv0 ((l.take j).flatMap (·.2)))] 85 ∧ Frm none_ w w3, l.length,
    ⟨0, rfl, by omega, by omega, hrow0, ⟨_, rfl, hw1⟩, rfl, hb1.mod hf2 (fun h => h), trN hf1 hf2⟩, ?_⟩
  rintro n u y i w3 ⟨j, rfl, hj, rfl, hrow, ⟨ky, hky, hkw⟩, hyl, hB, hF⟩
  refine IfB.intro (fun h1 => ?_) (fun h1 => ?_)
  · have h1 := of_decide_eq_true h1
    have hj' : j < l.length := by omega
    obtain ⟨p, s, hp, hld, hhas, hsb⟩ := (hg.mod hF (fun _ _ h => h)).get j hj'
    refine ⟨p, hp, by omega, by omega, _, by rw [Int.toNat_natCast]; exact hld, ?_⟩
    intro b7 w4 hnb
    have hm4 := hnb.mod none_
    have hb7 : b7 = w3.heap.size := hnb.b
    obtain ⟨hwr, hB7, hF7⟩ := hnb.blk.whole (vs := #[.int .i64 (l[j]'hj').1, .slice s.a s.l s.c]) rfl
    refine ⟨rfl, ?_, hwr, ?_⟩
    · intro v hv
      simp only [List.mem_cons, List.not_mem_nil, or_false] at hv
      rcases hv with rfl | rfl <;> rfl
    intro w5 hw5
    rw [← hw5] at hB7 hF7
    have hF5 : Frm none_ w3 w5 := hm4.trans hF7 (fun _ _ h => h) (fun k hk he => by have he : k = b7 := he; omega)
    refine ⟨_, by rw [addr_add]; exact hB7.ld rfl, by decide, _, by rw [addr_add]; exact hB7.ld rfl, ?_⟩
    refine runT_lit st31 (by decide) (by decide) (cells := #[.int .u8 (IntKind.wrap .u8 (Int.fdiv (l[j]'hj').1 (2 ^ (min 8 64)))), .int .u8 (IntKind.wrap .u8 (l[j]'hj').1)]) (by kernel_rfl) rfl ?_
    intro w6 hr6 hf6 hs6
    have hF6 := trN hF5 hf6
    have hrow6 := hrow.mod hF6 (fun _ _ h => h)
    have hlit : Has w6 ⟨some ⟨w5.heap.size, 0, none⟩, 2, 2⟩ 1 (bv (hd2 (l[j]'hj'))) := by
      have := hr6.has
      have e : (#[Value.int .u8 (IntKind.wrap .u8 (Int.fdiv (l[j]'hj').1 (2 ^ (min 8 64)))), .int .u8 (IntKind.wrap .u8 (l[j]'hj').1)] : Array Value).toList = bv (hd2 (l[j]'hj')) := by
        rw [bv_u8, bv_u8]; rfl
      rwa [e] at this
    have hlt3 : ky < w3.heap.size := by
      rcases hrow.cases with ⟨rfl, _⟩ | ⟨g, cur, ha, hBg, _⟩
      · simp [Sl.blk] at hky
      · simp [Sl.blk, ha] at hky; subst hky; exact hBg.lt
    refine runT_append st31 hrow6 hlit (bv_one _) (by simp only; omega) (by simp only [maxLen]; omega) ?_
    intro y' w7 hrow7 hl7 hnear hf7
    have hbky : ¬ y.blk = some w.heap.size := by rw [hky]; simp; omega
    have hb7y : ¬ y.blk = some b7 := by rw [hky]; simp; omega
    have hB67 := (hB7.mod hf6 (fun h => h)).mod hf7 hb7y
    have hBs := ((hB.mod hF6 (fun h => h)).mod hf7 hbky)
    have hsbk : ∀ k, s.blk = some k → k < w.heap.size := fun k hk => hH k (hsb k hk)
    have hhas7 := (hhas.mod hF6 (fun _ _ h => h)).mod hf7 (fun k hk he => by have := hsbk k hk; rw [hky] at he; cases he; omega)
    have hF7' : Frm none_ w w7 := (trN hF hF6).trans hf7 (fun _ _ h => h) (fun k hk he => by rw [hky] at he; cases he; omega)
    refine ⟨s, by rw [addr_add]; exact hB67.ld rfl, ?_⟩
    refine addV_calls w7 w.heap.size _ s _ hBs hhas7 (fun k hk => by have := hsbk k hk; omega) (by rw [hd _ (List.getElem_mem hj')]; decide) ?_
    intro w8 hB8 hf8
    refine ⟨rfl, l.length - (j + 1), by omega, j + 1, by rw [wi _ (by omega)]; omega, by omega, rfl, ?_, ?_, by rw [hl7, hyl]; simp only; omega, ?_, hF7'.trans hf8 (fun _ _ h => h) (fun k hk he => by have he : k = w.heap.size := he; omega)⟩
    · have hny : ∀ k, y'.blk = some k → ¬ k = w.heap.size := by
        intro k hk he
        have hsz := (trN hF hF6).size
        rcases hnear.cases hk with h | h
        · exact hbky (he ▸ h)
        · have := hF6.size; have := hF.size; have h3 := hB.lt; omega
      have := hrow7.mod hf8 hny
      rw [← bv_append, List.cons_append] at this
      rw [← List.take_append_getElem hj', List.flatMap_append, List.flatMap_cons, List.flatMap_nil, List.append_nil]
      exact this
    · rcases hrow7.cases with ⟨rfl, h0⟩ | ⟨g, cur, ha, _⟩
      · exfalso; simp only at hl7; omega
      · refine ⟨g, by simp [Sl.blk, ha], ?_⟩
        rcases hnear.cases (b := g) (by simp [Sl.blk, ha]) with h | h
        · rw [hky] at h; cases h; exact hkw
        · have := hF6.size; have h3 := hB.lt; omega
    · have e : (l.take (j + 1)).flatMap (·.2) = (l.take j).flatMap (·.2) ++ (l[j]'hj').2 := by
        rw [← List.take_append_getElem hj', List.flatMap_append, List.flatMap_cons, List.flatMap_nil, List.append_nil]
      rw [e, fnv_append]
      exact hB8
  · have h1 := of_decide_eq_false h1
    have hj' : j = l.length := by omega
    subst hj'
    rw [List.take_length] at hrow hB
    have hbky : ∀ k, y.blk = some k → k ≠ w.heap.size := by intro k hk; rw [hky] at hk; cases hk; omega
    refine addV_calls w3 w.heap.size _ y (headB l) hB hrow.has hbky (by rw [headB_len]; omega) ?_
    intro w4 hB4 hf4
    refine ⟨rfl, sumV_calls w4 w.heap.size _ hB4 ⟨_, rfl, ?_⟩⟩
    have hF4 : Frm none_ w w4 := hF.trans hf4 (fun _ _ h => h) (fun k hk he => by have he : k = w.heap.size := he; omega)
    have hrow4 : Row w4 y 5 1 (bv (headB l ++ sumB (fnvOf l) 0)) := by
      have := hrow.mod hf4 (fun k hk he => hbky k hk he)
      rw [show headB l ++ sumB (fnvOf l) 0 = headB l by simp [sumB]]
      exact this
    refine ⟨fun n z i w5 => ∃ j : Nat, i = (j : Int) ∧ j ≤ 8 ∧ n = 8 - j ∧ Row w5 z 5 1 (bv (headB l ++ sumB (fnvOf l) j)) ∧ (∃ k, z.blk = some k ∧ w.heap.size < k) ∧ z.l = 1 + 2 * l.length + j ∧ Frm none_ w w5, 8, ⟨0, rfl, by omega, by omega, hrow4, ⟨ky, hky, hkw⟩, by omega, hF4⟩, ?_⟩
    rintro n u z i w5 ⟨j, rfl, hj, rfl, hrow5, ⟨kz, hkz, hkzw⟩, hzl, hF5⟩
    refine IfB.intro (fun h1 => ?_) (fun h1 => ?_)
    · have h1 := of_decide_eq_true h1
      have hj' : j < 8 := by omega
      have e8 : IntKind.wrap .i64 ((8 : Int) * (j : Int)) = ((8 * j : Nat) : Int) := by rw [wi _ (by omega)]; omega
      rw [e8, Int.toNat_natCast]
      refine ⟨by omega, runT_lit1 st31 (by decide) rfl ?_⟩
      intro w6 hr6 hf6 hs6
      have hrow6 := hrow5.mod hf6 (fun _ _ h => h)
      have hlit := hr6.has
      have e : (Value.int IntKind.u8 (IntKind.wrap .u8 (Int.fdiv (fnvOf l) (2 ^ (min (8 * j) 64))))).cells.toList = bv [u8 (Int.fdiv (fnvOf l) (2 ^ (min (8 * j) 64)))] := by rw [bv_u8]; rfl
      have hlit : Has w6 ⟨some ⟨w5.heap.size, 0, none⟩, 1, 1⟩ 1 (bv [u8 (Int.fdiv (fnvOf l) (2 ^ (min (8 * j) 64)))]) := by rw [← e]; exact hlit
      have hlt5 : kz < w5.heap.size := by
        rcases hrow5.cases with ⟨rfl, _⟩ | ⟨g, cur, ha, hBg, _⟩
        · simp [Sl.blk] at hkz
        · simp [Sl.blk, ha] at hkz; subst hkz; exact hBg.lt
      refine runT_append st31 hrow6 hlit (bv_one _) (by simp only; omega) (by simp only [maxLen]; omega) ?_
      intro z' w7 hrow7 hl7 hnear hf7
      refine ⟨8 - (j + 1), by omega, j + 1, by rw [wi _ (by omega)]; omega, by omega, rfl, ?_, ?_, by rw [hl7]; simp only; omega, (trN hF5 hf6).trans hf7 (fun _ _ h => h) (fun k hk he => by rw [hkz] at he; cases he; omega)⟩
      · rw [← bv_append, List.append_assoc] at hrow7
        have : sumB (fnvOf l) (j + 1) = sumB (fnvOf l) j ++ [u8 (Int.fdiv (fnvOf l) (2 ^ (min (8 * j) 64)))] := by
          unfold sumB; rw [List.range_succ, List.map_append]; rfl
        rw [this]; exact hrow7
      · rcases hrow7.cases with ⟨rfl, h0⟩ | ⟨g, cur, ha, _⟩
        · exfalso; simp only at hl7; omega
        · refine ⟨g, by simp [Sl.blk, ha], ?_⟩
          rcases hnear.cases (b := g) (by simp [Sl.blk, ha]) with h | h
          · rw [hkz] at h; cases h; exact hkzw
          · have := hf6.size; have h3 := hF5.size; omega
    · have h1 := of_decide_eq_false h1
      have hj' : j = 8 := by omega
      subst hj'
      have e : IntKind.wrap .i64 ((256 : Int) - ((z.l : Nat) : Int)) = ((256 - ((headB l).length + 8) : Nat) : Int) := by
        rw [headB_len, wi _ (by omega)]; omega
      rw [e]
      refine runT_appendZ hrow5 ⟨kz, hkz⟩ _ (by rw [headB_len]; omega) (by rw [headB_len]; omega) ?_
      intro t w6 hrow6 hl6 hnear hf6
      refine ⟨t, rfl, ?_, ?_, hF5.trans hf6 (fun _ _ h => h) (fun k hk he => by rw [hkz] at he; cases he; omega)⟩
      · have e2 : bv (headB l ++ sumB (fnvOf l) 8) ++ List.replicate (256 - ((headB l).length + 8)) (Value.int .u8 0) = bv (entryB l) := by
          unfold entryB
          rw [bv_append (headB l ++ sumB (fnvOf l) 8), bv_rep]; rfl
        rw [← e2]; exact hrow6
      · intro k hk
        rcases hnear.cases hk with h | h
        · rw [hkz] at h; cases h; exact hkzw
        · have h3 := hF4.size; have h4 := hF5.size; have := hB4.lt
          have hlt5 : kz < w5.heap.size := by
            rcases hrow5.cases with ⟨rfl, _⟩ | ⟨g, cur, ha, hBg, _⟩
            · simp [Sl.blk] at hkz
            · simp [Sl.blk, ha] at hkz; subst hkz; exact hBg.lt
          omega
end Go.Proofs.Ytlbipbepeeopaaa
