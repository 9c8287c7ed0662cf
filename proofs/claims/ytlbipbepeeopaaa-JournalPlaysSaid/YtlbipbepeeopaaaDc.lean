/- The document: its blocks. -/
import Derived.Test.YtlbipbepeeopaaaMq
set_option linter.unusedVariables false
set_option linter.unusedSimpArgs false
set_option maxRecDepth 20000
namespace Go.Proofs.Ytlbipbepeeopaaa
open Go Go.Proofs.YtlbipbepeeopaaaV
def docF (l : List Ent) (i : Int) : List UInt8 := match lk l i with | some s => s.data.toList | none => rep 0
/-- A document in memory, of n blocks, that reads as f; none of it lies in R. -/
def DocP (n : Nat) (R : Nat → Prop) (w : World) (z : Option Addr) (f : Int → List UInt8) : Prop :=
  ∃ b m l, z = some ⟨b, 0, none⟩ ∧ ¬ R b ∧ ¬ R m ∧ Blk w b #[.int .i64 (n : Int), .map (some m)] 79 ∧ SMap w m l ∧ ∀ i, docF l i = f i
theorem DocP.mod {n : Nat} {R F : Nat → Prop} {w w' : World} {z : Option Addr} {f : Int → List UInt8} (h : DocP n R w z f) (hm : Frm F w w') (hF : ∀ k, k < w.heap.size → F k → R k) : DocP n R w' z f := by
  obtain ⟨b, m, l, hz, hb, hmm, hB, hM, hf⟩ := h
  exact ⟨b, m, l, hz, hb, hmm, hB.mod hm (fun h => hb (hF b hB.lt h)), hM.mod hm (fun h => hmm (hF m hM.lt h)), hf⟩
theorem DocP.modN {n : Nat} {R : Nat → Prop} {w w' : World} {z : Option Addr} {f : Int → List UInt8} (h : DocP n R w z f) (hm : Frm none_ w w') : DocP n R w' z f := h.mod hm (fun _ _ h => h.elim)
theorem DocP.region {n : Nat} {R R' : Nat → Prop} {w : World} {z : Option Addr} {f : Int → List UInt8} (h : DocP n R w z f) (hR : ∀ k, k < w.heap.size → ¬ R' k) : DocP n R' w z f := by
  obtain ⟨b, m, l, hz, hb, hmm, hB, hM, hf⟩ := h
  exact ⟨b, m, l, hz, hR b hB.lt, hR m hM.lt, hB, hM, hf⟩
theorem b79 (n : Int) (m : Nat) : BuildIs prog 79 #[(0, .int .i64 n), (1, .map (some m))] #[.int .i64 n, .map (some m)] := fun w => by kernel_rfl
theorem docNew (w : World) (n : Nat) : Calls prog 20 #[.int .i64 (n : Int)] w fun e w' => ∃ b m, e = .returned (.pointer (some ⟨b, 0, none⟩)) ∧ Blk w' b #[.int .i64 (n : Int), .map (some m)] 79 ∧ SMap w' m [] ∧ w.heap.size ≤ b ∧ w.heap.size ≤ m ∧ Frm none_ w w' := by
  refine calls_ret (W20 (Q := fun v w' => ∃ b m, v = .pointer (some ⟨b, 0, none⟩) ∧ Blk w' b #[.int .i64 (n : Int), .map (some m)] 79 ∧ SMap w' m [] ∧ w.heap.size ≤ b ∧ w.heap.size ≤ m ∧ Frm none_ w w') ?_) (fun v w' ⟨b, m, h, h'⟩ => ⟨b, m, by rw [h], h'⟩)
  unfold F20
  refine SMap.new ?_
  intro w1 hM hf hs
  refine ⟨_, b79 _ _, ?_⟩
  intro b w2 hn
  have hm2 := hn.mod none_
  have hb : b = w1.heap.size := hn.b
  exact ⟨b, _, rfl, hn.blk, hM.mod hm2 (fun h => h), by omega, Nat.le_refl _, trN hf hm2⟩
theorem doc_plain {n : Nat} {R : Nat → Prop} {w : World} {z : Option Addr} {f : Int → List UInt8} (h : DocP n R w z f) (hn : 512 ≤ n) (i : Int) : Calls prog 36 #[.pointer z, .int .i64 i] w fun e w' => e = .returned (.bool (decide (PlN n i))) ∧ w = w' := by
  refine calls_ret (W36 (Q := fun v w' => v = .bool (decide (PlN n i)) ∧ w = w') ?_) (fun v w' ⟨h, h'⟩ => ⟨by rw [h], h'⟩)
  unfold F36
  obtain ⟨b, m, l, rfl, _, _, hB, hM, hf⟩ := h
  refine IfB.intro (fun h0 => ?_) (fun h0 => ?_)
  · have h0 := of_decide_eq_true h0
    refine ⟨_, rfl, _, by rw [addr_add]; exact hB.ld rfl, IfB.intro (fun h1 => ?_) (fun h1 => ?_)⟩
    · have h1 := of_decide_eq_true h1
      refine IfB.intro (fun h2 => ?_) (fun h2 => ?_)
      · have h2 := eq_of_beq h2
        exact ⟨by rw [decide_eq_true (show PlN n i from .inl h2)], rfl⟩
      · have h2 := ne_of_beq_false h2
        refine ⟨?_, rfl⟩
        congr 1
        apply decide_eq_decide.2
        unfold PlN
        omega
    · have h1 := of_decide_eq_false h1
      exact ⟨by rw [decide_eq_false (show ¬ PlN n i by unfold PlN; omega)], rfl⟩
  · have h0 := of_decide_eq_false h0
    exact ⟨by rw [decide_eq_false (show ¬ PlN n i by unfold PlN; omega)], rfl⟩
theorem doc_at {n : Nat} {R : Nat → Prop} {w : World} {z : Option Addr} {f : Int → List UInt8} (h : DocP n R w z f) (i : Int) : Calls prog 37 #[.pointer z, .int .i64 i] w fun e w' => ∃ s : ByteArray, e = .returned (.string s) ∧ s.data.toList = f i ∧ Frm none_ w w' := by
  refine calls_ret (W37 (Q := fun v w' => ∃ s : ByteArray, v = .string s ∧ s.data.toList = f i ∧ Frm none_ w w') ?_) (fun v w' ⟨s, h, h'⟩ => ⟨s, by rw [h], h'⟩)
  unfold F37
  obtain ⟨b, m, l, rfl, _, _, hB, hM, hf⟩ := h
  refine ⟨_, rfl, _, by rw [addr_add]; exact hB.ld rfl, hM.look i ⟨_, _, rfl, ?_⟩⟩
  have hfi := hf i
  unfold docF at hfi
  cases hl : lk l i with
  | none =>
    rw [hl] at hfi
    refine IfB.t rfl (runT_makeN st31 (by omega) (by omega) (by omega) ?_)
    intro t w1 hr htl htc ha hm hs
    have hz0 : (madeCells (Value.int IntKind.u8 0).cells ((256 : Int).toNat * 1)).toList = bv zeroB := by
      rw [made_const (v := .int .u8 0) (by intro i hi; simp [Value.cells] at hi; subst hi; rfl) (by simp [Value.cells]), bv_zeroB]
      rfl
    rw [hz0] at hr
    refine runT_str un23 un5 un9 hr.has ⟨_, rfl, ?_, hm⟩
    rw [← hfi]; rfl
  | some s =>
    rw [hl] at hfi
    exact IfB.f rfl ⟨s, rfl, hfi, Frm.refl _ _⟩
theorem Frm.self {F : Nat → Prop} {w : World} : Frm F w w.drew := ⟨rfl, rfl, rfl, Nat.le_refl _, fun _ _ _ => rfl⟩
theorem take_split {l : List Wt} {j : Nat} (hj : j < l.length) : (l.take (j + 1)).map (·.1) = (l.take j).map (·.1) ++ [(l[j]'hj).1] := by
  rw [← List.take_append_getElem hj, List.map_append]; rfl
theorem doc_check {n B : Nat} {R : Nat → Prop} {w : World} {z : Option Addr} {f : Int → List UInt8} (h : DocP n R w z f) (hn : 512 ≤ n) {t : Sl} {es : List (Wt × Sl)} (hG : GrpR 58 B w t es) (hlim : es.length ≤ 1000000) :
    Calls prog 23 #[.pointer z, .slice t.a t.l t.c] w fun e w' => e = .returned (.int .i64 (chkD n (es.map (·.1)))) ∧ Frm none_ w w' := by
  refine calls_ret (W23 (Q := fun v w' => v = .int .i64 (chkD n (es.map (·.1))) ∧ Frm none_ w w') ?_) (fun v w' ⟨h, h'⟩ => ⟨by rw [h], h'⟩)
  unfold F23
  have hl := hG.len
  generalize hw : es.map (·.1) = l
  have hle : l.length = es.length := by rw [← hw, List.length_map]
  have hge : ∀ j (hj : j < es.length), l[j]'(by omega) = (es[j]'hj).1 := fun j hj => by subst hw; simp
  refine IfB.intro (fun hc => ?_) (fun hc => ?_)
  · have hc := of_decide_eq_true hc
    exact ⟨by rw [chk_full (by omega)], Frm.refl _ _⟩
  have hc := of_decide_eq_false hc
  have hlen : l.length ≤ 120 := by omega
  have bad : ¬ ChkP n l → ∀ w', Frm none_ w w' → (Value.int .i64 1 = .int .i64 (chkD n l) ∧ Frm none_ w w') := fun hb w' hf => ⟨by rw [chk_bad hlen hb], hf⟩
  refine ⟨fun m i w1 => ∃ j : Nat, i = (j : Int) ∧ j ≤ l.length ∧ m = l.length - j ∧ ChkP n (l.take j) ∧ Frm none_ w w1, l.length, ⟨0, rfl, by omega, by omega, ⟨by simp, by simp⟩, Frm.refl _ _⟩, ?_⟩
  rintro m u i w1 ⟨j, rfl, hj, rfl, hck, hF⟩
  refine IfB.intro (fun h1 => ?_) (fun h1 => ?_)
  · have h1 := of_decide_eq_true h1
    have hje : j < es.length := by omega
    have hjl : j < l.length := by omega
    have hmem := List.getElem_mem hjl
    obtain ⟨p, hp, hcell, _⟩ := (hG.mod hF (fun _ _ _ h => h)).get hje
    have hdat := (hG.dat _ (List.getElem_mem hje)).1.len
    rw [bv_length] at hdat
    refine ⟨fun v w' => v = !decide (PlN n (l[j]'hjl).1 ∧ (l[j]'hjl).2.length = 256) ∧ Frm none_ w w', ?_, ?_⟩
    · refine ⟨p, hp, by omega, by omega, _, by rw [Int.toNat_natCast]; exact hcell 0 _ rfl, ?_⟩
      refine (doc_plain (h.modN hF) hn _).mono ?_
      rintro _ _ ⟨rfl, rfl⟩
      refine ⟨_, rfl, ?_⟩
      rw [hge j hje]
      by_cases hpl : PlN n (es[j]'hje).1.1
      · rw [decide_eq_true hpl]
        refine IfB.f rfl ⟨p, hp, by omega, by omega, _, by rw [Int.toNat_natCast]; exact hcell 1 _ rfl, ?_, hF⟩
        by_cases h2 : (es[j]'hje).1.2.length = 256
        · rw [decide_eq_true ⟨hpl, h2⟩, Bool.not_true, bne_eq_false_iff_eq]; omega
        · rw [decide_eq_false (fun hh => h2 hh.2), Bool.not_false, bne_iff_ne]; omega
      · rw [decide_eq_false hpl, decide_eq_false (fun hh => hpl hh.1)]
        exact IfB.t rfl ⟨rfl, hF⟩
    clear hp hcell
    rintro u v w2 ⟨hv, hF2⟩
    refine IfB.intro (fun h2 => ?_) (fun h2 => ?_)
    · rw [hv] at h2
      refine bad (fun hb => ?_) _ hF2
      have := hb.1 _ hmem
      rw [decide_eq_true this] at h2
      cases h2
    rw [hv] at h2
    have hok : PlN n (l[j]'hjl).1 ∧ (l[j]'hjl).2.length = 256 := by
      apply Decidable.byContradiction
      intro hc
      rw [decide_eq_false hc] at h2
      cases h2
    refine ⟨fun m i w1 => ∃ k : Nat, i = (k : Int) ∧ k ≤ j ∧ m = j - k ∧ (∀ k', (hk : k' < k) → (hk2 : k' < l.length) → (l[k']'hk2).1 ≠ (l[j]'hjl).1) ∧ Frm none_ w w1, j, ⟨0, rfl, by omega, by omega, fun k' hk => absurd hk (by omega), hF2⟩, ?_⟩
    rintro m u i w3 ⟨k, rfl, hk, rfl, hne, hF3⟩
    refine IfB.intro (fun h3 => ?_) (fun h3 => ?_)
    · have h3 := of_decide_eq_true h3
      have hke : k < es.length := by omega
      have hG3 := (hG.mod hF3 (fun _ _ _ h => h)).mod (w' := w3.drew) (Frm.self (F := none_)) (fun _ _ _ h => h)
      obtain ⟨p, hp, hcell, _⟩ := hG3.get hke
      obtain ⟨p2, hp2, hcell2, _⟩ := hG3.get hje
      refine ⟨p, hp, by omega, by omega, _, by rw [Int.toNat_natCast]; exact hcell 0 _ rfl, p2, hp2, by omega, by omega, _, by rw [Int.toNat_natCast]; exact hcell2 0 _ rfl, ?_⟩
      refine IfB.intro (fun h4 => ?_) (fun h4 => ?_)
      · have h4 := eq_of_beq h4
        refine bad (fun hb => ?_) _ hF3.drew
        have h5 := hb.2
        unfold List.Nodup at h5
        rw [List.pairwise_map] at h5
        have h6 := List.pairwise_iff_getElem.1 h5 k j (by omega) hjl (by omega)
        rw [hge k hke, hge j hje] at h6
        exact h6 h4
      · have h4 := ne_of_beq_false h4
        refine ⟨j - (k + 1), by omega, k + 1, by rw [wi _ (by omega)]; omega, by omega, rfl, ?_, hF3.drew⟩
        intro k' hk' hk2
        by_cases e : k' = k
        · subst e
          rw [hge k' hke, hge j hje]; exact h4
        · exact hne k' (by omega) hk2
    · have h3 := of_decide_eq_false h3
      have hkj : k = j := by omega
      subst hkj
      refine ⟨l.length - (k + 1), by omega, k + 1, by rw [wi _ (by omega)]; omega, by omega, rfl, ⟨?_, ?_⟩, hF3⟩
      · intro q hq
        rw [← List.take_append_getElem hjl] at hq
        rcases List.mem_append.1 hq with hq | hq
        · exact hck.1 q hq
        · rw [List.mem_singleton] at hq
          subst hq
          exact hok
      · rw [take_split hjl, List.nodup_append]
        refine ⟨hck.2, by simp, fun a ha b hb hab => ?_⟩
        rw [List.mem_singleton] at hb
        subst hab hb
        obtain ⟨q, hq, e⟩ := List.mem_map.1 ha
        obtain ⟨k', hk', e2⟩ := List.mem_iff_getElem.1 hq
        rw [List.length_take] at hk'
        rw [List.getElem_take] at e2
        exact hne k' (by omega) (by omega) (by rw [e2]; exact e)
  · have h1 := of_decide_eq_false h1
    have hj' : j = l.length := by omega
    subst hj'
    rw [List.take_length] at hck
    exact ⟨by rw [chk_ok hlen hck], hF⟩
theorem docF_put {l l' : List Ent} {k : Int} {b : List UInt8} (h : ∀ i, lk l' i = if i = k then some (str b) else lk l i) (i : Int) : docF l' i = upd (docF l) (k, b) i := by
  unfold docF upd
  rw [h i]
  by_cases e : i = k
  · simp only [if_pos e]; rfl
  · simp only [if_neg e]
theorem over_snoc (l : List Wt) (p : Wt) (f : Int → List UInt8) : over (l ++ [p]) f = upd (over l f) p := by rw [over_append]; rfl
set_option maxHeartbeats 1000000 in
theorem doc_behind {n B : Nat} {R : Nat → Prop} {w : World} {z : Option Addr} {f : Int → List UInt8} (h : DocP n R w z f) {t : Sl} {es : List (Wt × Sl)} (hG : GrpR 58 B w t es) (hlim : es.length ≤ 1000000) (hRw : ∀ k, R k → k < w.heap.size) :
    Calls prog 24 #[.pointer z, .slice t.a t.l t.c] w fun e w' => ∃ z', e = .returned (.pointer z') ∧ DocP n R w' z' (over (es.map (·.1)) f) ∧ Frm none_ w w' := by
  refine calls_ret (W24 (Q := fun v w' => ∃ z', v = .pointer z' ∧ DocP n R w' z' (over (es.map (·.1)) f) ∧ Frm none_ w w') ?_) (fun v w' ⟨z', h, h'⟩ => ⟨z', by rw [h], h'⟩)
  unfold F24
  have hl := hG.len
  obtain ⟨b, m, lx, rfl, hb, hm, hB, hM, hf⟩ := h
  refine ⟨_, rfl, _, by rw [addr_add]; exact hB.ld rfl, ?_⟩
  refine (docNew w n).mono ?_
  rintro _ w1 ⟨by', my, rfl, hBy, hMy, hby, hmy, hf1⟩
  have hB1 := hB.mod hf1 (fun h => h)
  have hM1 := hM.mod hf1 (fun h => h)
  have hmlt := hM.lt
  have hmyl := hMy.lt
  have hbyl := hBy.lt
  refine ⟨_, rfl, _, rfl, _, by rw [addr_add]; exact hB1.ld rfl, hM1.range ?_⟩
  intro w2 hI hf2 hs2
  have hf02 := trN hf1 hf2
  refine ⟨fun c w3 => ∃ seen ly, c = left lx seen ∧ Iter w3 w1.heap.size m lx seen ∧ SMap w3 my ly ∧ (∀ e ∈ lx, seen.contains e.2.2 = true → lk ly e.1 = some e.2.1) ∧ (∀ i s, lk ly i = some s → lk lx i = some s) ∧ Blk w3 by' #[.int .i64 (n : Int), .map (some my)] 79 ∧ Frm none_ w w3 ∧ w2.heap.size ≤ w3.heap.size, left lx #[],
    ⟨#[], [], rfl, hI, hMy.mod hf2 (fun h => h), fun e _ h => by simp at h, fun i s h => by simp [lk] at h, hBy.mod hf2 (fun h => h), hf02, Nat.le_refl _⟩, ?_⟩
  rintro c u w3 ⟨seen, ly, rfl, hI3, hM3, hs1, hs2', hB3, hF3, hz3⟩
  refine hI3.next hM.bn (fun hall => .inl ⟨rfl, ?_⟩) (fun e he w4 hI4 hf4 hlt hen => .inr ⟨_, _, rfl, runT_entry hen ⟨_, _, rfl, _, rfl, _, by rw [addr_add]; exact (hB3.mod hf4 (show ¬ by' = w1.heap.size by omega)).ld rfl, ?_⟩⟩)
  · have heq : ∀ i, docF ly i = f i := by
      intro i
      rw [← hf i]
      unfold docF
      cases hx : lk lx i with
      | some s =>
        obtain ⟨e, he, h1, h2⟩ := lk_some hx
        have := hs1 e he (hall e he)
        rw [h1, h2] at this
        rw [this]
      | none =>
        cases hy : lk ly i with
        | none => rfl
        | some s => have := hs2' i s hy; rw [hx] at this; cases this
    refine ⟨fun c i w4 => ∃ (j : Nat) (l' : List Ent), i = (j : Int) ∧ j ≤ es.length ∧ c = es.length - j ∧ SMap w4 my l' ∧ (∀ i, docF l' i = over ((es.take j).map (·.1)) f i) ∧ Blk w4 by' #[.int .i64 (n : Int), .map (some my)] 79 ∧ Frm none_ w w4, es.length, ⟨0, ly, rfl, by omega, by omega, hM3, heq, hB3, hF3⟩, ?_⟩
    rintro c u i w4 ⟨j, l', rfl, hj, rfl, hM4, hov, hB4, hF4⟩
    refine IfB.intro (fun h1 => ?_) (fun h1 => ?_)
    · have h1 := of_decide_eq_true h1
      have hje : j < es.length := by omega
      have hG4 := (hG.mod hF4 (fun _ _ _ h => h)).mod (w' := w4.drew) (Frm.self (F := none_)) (fun _ _ _ h => h)
      obtain ⟨p, hp, hcell, _⟩ := hG4.get hje
      have hdat := (hG4.dat _ (List.getElem_mem hje)).1
      refine ⟨fun w' => w' = w4.drew, rfl, _, rfl, _, fun w' hw' => by rw [hw', addr_add]; exact hB4.drew.ld rfl, p, hp, by omega, by omega, _, fun w' hw' => by rw [hw', Int.toNat_natCast]; exact hcell 0 _ rfl, p, hp, by omega, by omega, _, fun w' hw' => by rw [hw', Int.toNat_natCast]; exact hcell 1 _ rfl, ?_⟩
      refine runT_str un23 un5 un9 hdat ⟨rfl, ?_⟩
      refine (hM4.mod (w' := w4.drew) (Frm.self (F := none_)) (fun h => h)).put _ _ ?_
      intro w5 l5 hM5 hl5 hf5 hsz5
      have hF5 : Frm none_ w w5 := hF4.drew.b hf5 (by omega)
      refine ⟨es.length - (j + 1), by omega, j + 1, l5, by rw [wi _ (by omega)]; omega, by omega, rfl, hM5, ?_, hB4.drew.mod hf5 ?_, hF5⟩
      · intro i
        rw [docF_put hl5, ← List.take_append_getElem hje, List.map_append, List.map_cons, List.map_nil, over_snoc]
        unfold upd
        rw [hov i]
      · rintro rfl
        obtain ⟨cc, hmm, _⟩ := hM4.ex
        have := hB4.symm.trans hmm
        cases this
    · have h1 := of_decide_eq_false h1
      have hj' : j = es.length := by omega
      subst hj'
      rw [List.take_length] at hov
      exact ⟨_, rfl, ⟨by', my, l', rfl, fun h => by have := hRw _ h; omega, fun h => by have := hRw _ h; omega, hB4, hM4, hov⟩, hF4⟩
  · have hM4 := hM3.mod hf4 (show ¬ my = w1.heap.size by omega)
    refine hM4.put _ _ ?_
    intro w5 l5 hM5 hl5 hf5 hsz5
    have hI5 := hI4.mod hf5 (show ¬ w1.heap.size = my by omega) (show ¬ m = my by omega)
    have hF4 : Frm none_ w w4 := hF3.b hf4 (by have := hf1.size; omega)
    have hF5 : Frm none_ w w5 := hF4.b hf5 (by omega)
    refine ⟨_, hlt, seen.push e.2.2, l5, rfl, hI5, hM5, ?_, ?_, ?_, hF5, by have := hf4.size; omega⟩
    · intro x hx hc
      rw [hl5]
      by_cases hk : x.1 = e.1
      · rw [if_pos hk]
        have h1 := lk_mem hM.kn hx
        have h2 := lk_mem hM.kn he
        rw [hk, h2] at h1
        rw [Option.some.inj h1]
      · rw [if_neg hk]
        refine hs1 x hx ?_
        rw [Array.contains_push] at hc
        rw [Bool.or_eq_true] at hc
        rcases hc with hc | hc
        · exact hc
        · exfalso
          have hc := eq_of_beq hc
          apply hk
          have hn := hM.bn
          -- one stamp, one entry
          have key : ∀ (l : List Ent), (l.map (·.2.2)).Nodup → x ∈ l → e ∈ l → x = e := by
            intro l
            induction l with
            | nil => intro _ h; simp at h
            | cons a r ih =>
              intro hn hx he
              rw [List.map_cons, List.nodup_cons] at hn
              rcases List.mem_cons.1 hx with hx' | hx'
              · rcases List.mem_cons.1 he with he' | he'
                · rw [hx', he']
                · exact absurd (by rw [← hx', hc]; exact List.mem_map_of_mem he') hn.1
              · rcases List.mem_cons.1 he with he' | he'
                · exact absurd (by rw [← he', ← hc]; exact List.mem_map_of_mem hx') hn.1
                · exact ih hn.2 hx' he'
          rw [key lx hn hx he]
    · intro i s hi
      rw [hl5] at hi
      by_cases hk : i = e.1
      · rw [if_pos hk] at hi
        rw [hk, lk_mem hM.kn he, Option.some.inj hi]
      · rw [if_neg hk] at hi
        exact hs2' i s hi
    · refine (hB3.mod hf4 (show ¬ by' = w1.heap.size by omega)).mod hf5 ?_
      rintro rfl
      obtain ⟨cc, hmm, _⟩ := hM3.ex
      have := hB3.symm.trans hmm
      cases this
end Go.Proofs.Ytlbipbepeeopaaa
