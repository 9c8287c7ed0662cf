/- The document's disk in memory, and that it goes as the program's. -/
import Derived.Test.YtlmnnofghimneaaNames
set_option linter.unusedVariables false
set_option linter.unusedSimpArgs false
namespace Go.Proofs.Ytlmnnofghimneaa
open Go Go.Proofs.YtlmnnofghimneaaV
theorem st51 : SlT prog 51 63 2 24 (.agg #[.int .i64 0, .string ⟨#[]⟩]) := ⟨by kernel_rfl, by kernel_rfl, rfl, by decide⟩
structure Rf where
  n : Nat
  old : Nat
  cut : Int
  L : List (Int × List UInt8)
  dead : Bool
@[reducible] def rc (r : Rf) (s : Sl) : Array Value := #[.int .i64 (r.n : Int), .int .i64 (r.old : Int), .int .i64 r.cut, .slice s.a s.l s.c, .bool r.dead]
def wc (a : Int × List UInt8) : List Value := [.int .i64 a.1, .string (str a.2)]
theorem wc_len (l : List (Int × List UInt8)) : ∀ a ∈ l, (wc a).length = 2 := fun _ _ => rfl
theorem wc_one (l : List (Int × List UInt8)) : ∀ u ∈ l.flatMap wc, u.oneCell' = true := by
  intro u hu
  obtain ⟨a, _, hu⟩ := List.mem_flatMap.1 hu
  simp only [wc, List.mem_cons, List.not_mem_nil, or_false] at hu
  rcases hu with rfl | rfl <;> rfl
structure RfP (G : Nat → Prop) (w : World) (b : Nat) (s : Sl) (r : Rf) : Prop where
  blk : Blk w b (rc r s) 53
  row : Row w s 63 2 (r.L.flatMap wc)
  gb : G b
  gs : ∀ k, s.blk = some k → G k
  lt : ∀ k, G k → k < w.heap.size
  sm : r.L.length ≤ 100000 ∧ r.n ≤ 100000 ∧ r.old ≤ 100000
  cut : -1 ≤ r.cut ∧ r.cut ≤ 9223372036854775807
def RfQ (G : Nat → Prop) (w : World) (x : Option Addr) (r : Rf) : Prop := ∃ b s, x = some ⟨b, 0, none⟩ ∧ RfP G w b s r
theorem RfP.len {G : Nat → Prop} {w : World} {b : Nat} {s : Sl} {r : Rf} (h : RfP G w b s r) : s.l = r.L.length := by
  have := h.row.len
  rw [flatMap_len (wc_len _)] at this; omega
theorem RfP.mod {G F : Nat → Prop} {w w' : World} {b : Nat} {s : Sl} {r : Rf} (h : RfP G w b s r) (f : Frm F w w') (hg : ∀ k, G k → ¬ F k) : RfP G w' b s r :=
  ⟨h.blk.mod f (hg b h.gb), h.row.mod f (fun k hk => hg k (h.gs k hk)), h.gb, h.gs, fun k hk => Nat.lt_of_lt_of_le (h.lt k hk) f.size, h.sm, h.cut⟩
theorem RfQ.mod {G F : Nat → Prop} {w w' : World} {x : Option Addr} {r : Rf} (h : RfQ G w x r) (f : Frm F w w') (hg : ∀ k, G k → ¬ F k) : RfQ G w' x r := by
  obtain ⟨b, s, rfl, h⟩ := h
  exact ⟨b, s, rfl, h.mod f hg⟩
theorem RfQ.lt {G : Nat → Prop} {w : World} {x : Option Addr} {r : Rf} (h : RfQ G w x r) : ∀ k, G k → k < w.heap.size := by obtain ⟨b, s, _, h⟩ := h; exact h.lt
theorem b53n (n : Int) : BuildIs prog 53 #[(0, .int .i64 n), (2, .int .i64 (-1))] #[.int .i64 n, .int .i64 0, .int .i64 (-1), .slice none 0 0, .bool false] := fun w => by kernel_rfl
theorem b53r (n m : Int) (s : Sl) : BuildIs prog 53 #[(0, .int .i64 n), (1, .int .i64 m), (2, .int .i64 (-1)), (3, .slice s.a s.l s.c)] #[.int .i64 n, .int .i64 m, .int .i64 (-1), .slice s.a s.l s.c, .bool false] := fun w => by kernel_rfl
theorem b53c (n m c : Int) (s : Sl) (d : Bool) : BuildIs prog 53 #[(0, .int .i64 n), (1, .int .i64 m), (2, .int .i64 c), (3, .slice s.a s.l s.c), (4, .bool d)] #[.int .i64 n, .int .i64 m, .int .i64 c, .slice s.a s.l s.c, .bool d] := fun w => by kernel_rfl
theorem b63 (i : Int) (s : ByteArray) : BuildIs prog 63 #[(0, .int .i64 i), (1, .string s)] #[.int .i64 i, .string s] := fun w => by kernel_rfl
theorem rnew_calls (w : World) (n : Nat) (h0 : 512 ≤ n) (h1 : n ≤ 32768) : Calls prog 18 #[.int .i64 (n : Int)] w fun e w' => ∃ b G, e = .returned (.tuple #[.pointer (some ⟨b, 0, none⟩), .int .i64 0]) ∧ RfQ G w' (some ⟨b, 0, none⟩) ⟨n, 0, -1, [], false⟩ ∧ (∀ k, G k → w.heap.size ≤ k) ∧ Frm none_ w w' := by
  refine calls_ret (W18 (Q := fun v w' => ∃ b G, v = .tuple #[.pointer (some ⟨b, 0, none⟩), .int .i64 0] ∧ RfQ G w' (some ⟨b, 0, none⟩) ⟨n, 0, -1, [], false⟩ ∧ (∀ k, G k → w.heap.size ≤ k) ∧ Frm none_ w w') ?_) (fun v w' ⟨b, G, h, h'⟩ => ⟨b, G, by rw [h], h'⟩)
  unfold F18
  refine IfB.f (decide_eq_false (by omega)) (IfB.f (decide_eq_false (by omega)) ⟨_, b53n n, ?_⟩)
  intro b w1 hn
  have e := hn.b; have z := hn.size
  exact ⟨b, fun k => k = b, rfl, ⟨b, ⟨none, 0, 0⟩, rfl, hn.blk, Row.nil _ _ _, rfl, by simp [Sl.blk], fun k hk => by omega, by simp; omega, by simp⟩, fun k hk => by omega, hn.mod _⟩
theorem rnew_no (w : World) (n : Int) (h0 : n < 512 ∨ n > 32768) : Calls prog 18 #[.int .i64 n] w fun e w' => e = .returned (.tuple #[.pointer none, .int .i64 1]) ∧ w = w' := by
  refine calls_ret (W18 (Q := fun v w' => v = .tuple #[.pointer none, .int .i64 1] ∧ w = w') ?_) (fun v w' ⟨h, h'⟩ => ⟨by rw [h], h'⟩)
  unfold F18
  refine IfB.intro (fun h => ⟨rfl, rfl⟩) (fun h => ?_)
  have h := of_decide_eq_false h
  exact IfB.t (decide_eq_true (by omega)) ⟨rfl, rfl⟩
def writeR (i : Int) (lb : List UInt8) (r : Rf) : Int × Rf :=
  if r.dead then (20, r) else if i < 0 ∨ i ≥ r.n ∨ lb.length ≠ 256 then (1, r) else if r.cut = 0 then (20, { r with dead := true })
  else (0, { r with L := r.L ++ [(i, lb)], cut := if r.cut > 0 then r.cut - 1 else r.cut })
theorem w_tail {Q : Value → World → Prop} {G : Nat → Prop} {w1 : World} {b : Nat} {s t : Sl} {r : Rf} {i : Int} {lb : List UInt8} (h : RfP G w1 b s r) (ht : Has w1 t 1 (bv lb)) (hsm : r.L.length < 100000)
    (hQ : ∀ G' w', RfQ G' w' (some ⟨b, 0, none⟩) { r with L := r.L ++ [(i, lb)] } → (∀ k, G' k → G k ∨ w1.heap.size ≤ k) → Frm G w1 w' → Q (.int .i64 0) w') :
    ∃ S : World → Prop, S w1.drew ∧
     ∃ p48, (some ⟨b, 0, none⟩ : Option Addr) = some p48 ∧
     ∃ t50 : Sl, (∀ w', S w' → Ld w' (p48.add 3) (.slice t50.a t50.l t50.c)) ∧
     RunT prog .str (convert 31 9 (.slice t.a t.l t.c)) w1.drew fun (t53 : ByteArray) w1_2 =>
     S w1_2 ∧
     ∃ t54 : Array Value, BuildIs prog 63 #[(0, .int .i64 i), (1, .string t53)] t54 ∧
     RunT prog .slice (Instr.buildSlice 51 1 #[(0, .agg t54)]) w1_2 fun (t55 : Sl) w1_3 =>
     S w1_3 ∧
     RunT prog .slice (Builtin.append_ #[51, 51] 51 #[.slice t50.a t50.l t50.c, .slice t55.a t55.l t55.c]) w1_3 fun (t56 : Sl) w1_4 =>
     ∃ p57, (some ⟨b, 0, none⟩ : Option Addr) = some p57 ∧
     Wr w1_4 (p57.add 3) ∧ ∀ w1_5, w1_5 = w1_4.setCell (p57.add 3) (.slice t56.a t56.l t56.c) →
     Q (.int .i64 0) w1_5 := by
  have fd : Frm none_ w1 w1.drew := (Frm.refl _ _).drew
  have hl := h.len
  refine ⟨fun w' => Frm none_ w1 w', fd, _, rfl, s, fun w' f => by rw [addr_add]; exact (h.blk.mod f (fun h => h)).ld rfl, ?_⟩
  refine runT_str un31 un5 un9 (show Has w1.drew t 1 (bv lb) from ht.drew) ?_
  refine ⟨fd, _, b63 i (str lb), runT_lit1 st51 (by decide) rfl ?_⟩
  intro w3 hr3 f3 z3
  have f13 := trN fd f3
  refine ⟨f13, ?_⟩
  have h3 := h.mod f13 (fun _ _ h => h)
  refine runT_append st51 h3.row hr3.has (by intro u hu; simp [Value.cells] at hu; rcases hu with rfl | rfl <;> rfl) (by simp only; omega) (by simp only [maxLen]; omega) ?_
  intro s' w4 hr4 hl4 hn4 f4
  have e4 : r.L.flatMap wc ++ (Value.agg #[.int .i64 i, .string (str lb)]).cells.toList = (r.L ++ [(i, lb)]).flatMap wc := by simp [wc, Value.cells]
  rw [e4] at hr4
  have hnb : s.blk ≠ some b := fun e => by
    have := h3.row.g.blkNeB h3.blk.g (by decide); exact this e
  have hB4 := h3.blk.mod f4 (fun e => hnb e)
  refine ⟨_, rfl, by rw [addr_add]; exact hB4.wr (show 3 < 5 by decide), ?_⟩
  rintro w5 rfl
  rw [addr_add]
  have f5 : Frm (fun k => k = b) w4 (w4.setCell ⟨b, 0 + 3, none⟩ (.slice s'.a s'.l s'.c)) := mod_setCell (a := ⟨b, 0 + 3, none⟩)
  have hr5 := hr4.mod f5 (fun k hk e => hr4.g.blkNeB hB4.g (by decide) (by rw [hk, e]))
  have z13 := f13.size; have z4 := f4.size; have z5 := f5.size
  refine hQ (fun k => G k ∨ s'.blk = some k) _ ⟨b, s', rfl, hB4.set 3 _, hr5, .inl h.gb, fun k hk => .inr hk, ?_, ?_, h.cut⟩ ?_ ((f13.trans f4 (fun _ _ h => h.elim) (fun k _ hk => h.gs k hk) (H := G)).trans f5 (fun _ _ h => h) (fun k _ hk => hk ▸ h.gb))
  · rintro k (hk | hk)
    · have := h.lt k hk; omega
    · exact hr5.lt k hk
  · refine ⟨?_, h.sm.2⟩
    show (r.L ++ [(i, lb)]).length ≤ 100000
    rw [List.length_append]; simp; omega
  · rintro k (hk | hk)
    · exact .inl hk
    · rcases hn4.cases hk with h1 | h1
      · exact .inl (h.gs k h1)
      · right; omega
theorem rwrite_calls (G : Nat → Prop) (w : World) (x : Option Addr) (r : Rf) (i : Int) (t : Sl) (lb : List UInt8) (h : RfQ G w x r) (ht : Has w t 1 (bv lb)) (htg : ∀ k, t.blk = some k → ¬ G k) (hsm : r.L.length < 100000) : Calls prog 20 #[.pointer x, .int .i64 i, .slice t.a t.l t.c] w fun e w' =>
    e = .returned (.int .i64 (writeR i lb r).1) ∧ ∃ G', RfQ G' w' x (writeR i lb r).2 ∧ (∀ k, G' k → G k ∨ w.heap.size ≤ k) ∧ Frm G w w' := by
  refine calls_ret (W20 (Q := fun v w' => v = .int .i64 (writeR i lb r).1 ∧ ∃ G', RfQ G' w' x (writeR i lb r).2 ∧ (∀ k, G' k → G k ∨ w.heap.size ≤ k) ∧ Frm G w w') ?_) (fun v w' ⟨h, h'⟩ => ⟨by rw [h], h'⟩)
  unfold F20
  have hlt : lb.length = t.l := by have := ht.len; rw [bv_length] at this; omega
  have hq := h
  obtain ⟨b, s, rfl, h⟩ := h
  refine ⟨_, rfl, r.dead, by rw [addr_add]; exact h.blk.ld rfl, IfB.intro (fun hd => ?_) (fun hd => ?_)⟩
  · have e : writeR i lb r = (20, r) := by unfold writeR; rw [hd]; rfl
    rw [e]
    exact ⟨rfl, G, hq, fun k hk => .inl hk, Frm.refl _ _⟩
  refine ⟨fun c w' => w' = w ∧ c = decide (i < 0 ∨ i ≥ r.n ∨ lb.length ≠ 256), ?_, ?_⟩
  · refine IfB.intro (fun h0 => ?_) (fun h0 => ?_)
    · have h0 := of_decide_eq_true h0
      exact ⟨rfl, (decide_eq_true (.inl h0)).symm⟩
    · have h0 := of_decide_eq_false h0
      refine ⟨_, rfl, (r.n : Int), by rw [addr_add]; exact h.blk.ld rfl, IfB.intro (fun h1 => ?_) (fun h1 => ?_)⟩
      · have h1 := of_decide_eq_true h1
        exact ⟨rfl, (decide_eq_true (.inr (.inl (by omega)))).symm⟩
      · have h1 := of_decide_eq_false h1
        refine ⟨rfl, ?_⟩
        by_cases h2 : lb.length = 256
        · rw [decide_eq_false (by omega), bne_eq_false_iff_eq]; omega
        · rw [decide_eq_true (by omega), bne_iff_ne]; omega
  rintro u c w' ⟨rfl, rfl⟩
  refine IfB.intro (fun h0 => ?_) (fun h0 => ?_)
  · have h0 := of_decide_eq_true h0
    have e : writeR i lb r = (1, r) := by unfold writeR; rw [hd]; simp only [Bool.false_eq_true, if_false]; rw [if_pos h0]
    rw [e]
    exact ⟨rfl, G, hq, fun k hk => .inl hk, Frm.refl _ _⟩
  have h0 := of_decide_eq_false h0
  refine ⟨_, rfl, r.cut, by rw [addr_add]; exact h.blk.ld rfl, IfB.intro (fun h1 => ?_) (fun h1 => ?_)⟩
  · have h1 := eq_of_beq h1
    have e : writeR i lb r = (20, { r with dead := true }) := by unfold writeR; rw [hd]; simp only [Bool.false_eq_true, if_false]; rw [if_neg h0, if_pos h1]
    rw [e]
    refine ⟨_, rfl, by rw [addr_add]; exact h.blk.wr (show 4 < 5 by decide), ?_⟩
    rintro w2 rfl
    rw [addr_add]
    have hm : Frm (fun k => k = b) w' (w'.setCell ⟨b, 0 + 4, none⟩ (.bool true)) := mod_setCell (a := ⟨b, 0 + 4, none⟩)
    have hz := hm.size
    exact ⟨rfl, G, ⟨b, s, rfl, h.blk.set 4 _, h.row.mod hm (fun k hk e => h.row.g.blkNeB h.blk.g (by decide) (by rw [hk, e])), h.gb, h.gs, fun k hk => by have := h.lt k hk; omega, h.sm, h.cut⟩, fun k hk => .inl hk, hm.mono (fun k _ hk => hk ▸ h.gb)⟩
  · have h1 := ne_of_beq_false h1
    have e : writeR i lb r = (0, { r with L := r.L ++ [(i, lb)], cut := if r.cut > 0 then r.cut - 1 else r.cut }) := by unfold writeR; rw [hd]; simp only [Bool.false_eq_true, if_false]; rw [if_neg h0, if_neg h1]
    rw [e]
    refine ⟨_, rfl, r.cut, by rw [addr_add]; exact h.blk.ld rfl, IfB.intro (fun h2 => ?_) (fun h2 => ?_)⟩
    · have h2 := of_decide_eq_true h2
      have hc := h.cut
      refine ⟨_, rfl, r.cut, by rw [addr_add]; exact h.blk.ld rfl, _, rfl, by rw [addr_add]; exact h.blk.wr (show 2 < 5 by decide), ?_⟩
      rintro w2 rfl
      rw [addr_add, wi (r.cut - 1) (by omega)]
      have hm : Frm (fun k => k = b) w' (w'.setCell ⟨b, 0 + 2, none⟩ (.int .i64 (r.cut - 1))) := mod_setCell (a := ⟨b, 0 + 2, none⟩)
      have hz := hm.size
      have h' : RfP G (w'.setCell ⟨b, 0 + 2, none⟩ (.int .i64 (r.cut - 1))) b s { r with cut := r.cut - 1 } := ⟨h.blk.set 2 _, h.row.mod hm (fun k hk e => h.row.g.blkNeB h.blk.g (by decide) (by rw [hk, e])), h.gb, h.gs, fun k hk => by have := h.lt k hk; omega, h.sm, by show -1 ≤ r.cut - 1 ∧ r.cut - 1 ≤ 9223372036854775807; omega⟩
      refine w_tail (Q := fun v w'' => v = .int .i64 0 ∧ ∃ G', RfQ G' w'' (some ⟨b, 0, none⟩) { r with L := r.L ++ [(i, lb)], cut := if r.cut > 0 then r.cut - 1 else r.cut } ∧ (∀ k, G' k → G k ∨ w'.heap.size ≤ k) ∧ Frm G w' w'') h' (ht.mod hm (fun k hk e => htg k hk (e ▸ h.gb))) hsm ?_
      intro G' w3 hq3 hg3 f3
      rw [if_pos h2]
      exact ⟨rfl, G', hq3, fun k hk => (hg3 k hk).imp_right (fun h => by omega), (hm.mono (fun k _ hk => hk ▸ h.gb)).trans f3 (fun _ _ h => h) (fun _ _ h => h)⟩
    · have h2 := of_decide_eq_false h2
      refine w_tail (Q := fun v w'' => v = .int .i64 0 ∧ ∃ G', RfQ G' w'' (some ⟨b, 0, none⟩) { r with L := r.L ++ [(i, lb)], cut := if r.cut > 0 then r.cut - 1 else r.cut } ∧ (∀ k, G' k → G k ∨ w'.heap.size ≤ k) ∧ Frm G w' w'') h ht hsm ?_
      intro G' w3 hq3 hg3 f3
      rw [if_neg h2]
      exact ⟨rfl, G', hq3, hg3, f3⟩
def setR (n : Int) (r : Rf) : Int × Rf := if r.dead then (20, r) else if n < 0 then (1, r) else (0, { r with cut := n })
theorem rset_calls (G : Nat → Prop) (w : World) (x : Option Addr) (r : Rf) (n : Int) (hn : n ≤ 9223372036854775807) (h : RfQ G w x r) : Calls prog 21 #[.pointer x, .int .i64 n] w fun e w' => e = .returned (.int .i64 (setR n r).1) ∧ RfQ G w' x (setR n r).2 ∧ Frm G w w' := by
  refine calls_ret (W21 (Q := fun v w' => v = .int .i64 (setR n r).1 ∧ RfQ G w' x (setR n r).2 ∧ Frm G w w') ?_) (fun v w' ⟨h, h'⟩ => ⟨by rw [h], h'⟩)
  unfold F21
  have hq := h
  obtain ⟨b, s, rfl, h⟩ := h
  refine ⟨_, rfl, r.dead, by rw [addr_add]; exact h.blk.ld rfl, IfB.intro (fun hd => ?_) (fun hd => IfB.intro (fun h0 => ?_) (fun h0 => ?_))⟩
  · have e : setR n r = (20, r) := by unfold setR; rw [hd]; rfl
    rw [e]; exact ⟨rfl, hq, Frm.refl _ _⟩
  · have e : setR n r = (1, r) := by unfold setR; rw [hd]; simp [of_decide_eq_true h0]
    rw [e]; exact ⟨rfl, hq, Frm.refl _ _⟩
  · have h0 := of_decide_eq_false h0
    have e : setR n r = (0, { r with cut := n }) := by unfold setR; rw [hd]; simp [h0]
    rw [e]
    refine ⟨_, rfl, by rw [addr_add]; exact h.blk.wr (show 2 < 5 by decide), ?_⟩
    rintro w2 rfl
    rw [addr_add]
    have hm : Frm (fun k => k = b) w (w.setCell ⟨b, 0 + 2, none⟩ (.int .i64 n)) := mod_setCell (a := ⟨b, 0 + 2, none⟩)
    have hz := hm.size
    exact ⟨rfl, ⟨b, s, rfl, h.blk.set 2 _, h.row.mod hm (fun k hk e => h.row.g.blkNeB h.blk.g (by decide) (by rw [hk, e])), h.gb, h.gs, fun k hk => by have := h.lt k hk; omega, h.sm, by show -1 ≤ n ∧ n ≤ 9223372036854775807; omega⟩, hm.mono (fun k _ hk => hk ▸ h.gb)⟩
theorem rreopen_no (G : Nat → Prop) (w : World) (x : Option Addr) (r : Rf) (h : RfQ G w x r) (hd : r.dead = false) : Calls prog 22 #[.pointer x] w fun e w' => e = .returned (.tuple #[.pointer none, .int .i64 50]) ∧ w = w' := by
  refine calls_ret (W22 (Q := fun v w' => v = .tuple #[.pointer none, .int .i64 50] ∧ w = w') ?_) (fun v w' ⟨h, h'⟩ => ⟨by rw [h], h'⟩)
  unfold F22
  obtain ⟨b, s, rfl, h⟩ := h
  exact ⟨_, rfl, r.dead, by rw [addr_add]; exact h.blk.ld rfl, IfB.t (by rw [hd]; rfl) ⟨rfl, rfl⟩⟩
theorem rreopen_calls (G : Nat → Prop) (w : World) (x : Option Addr) (r : Rf) (h : RfQ G w x r) (hd : r.dead = true) : Calls prog 22 #[.pointer x] w fun e w' =>
    ∃ b G', e = .returned (.tuple #[.pointer (some ⟨b, 0, none⟩), .int .i64 0]) ∧ RfQ G' w' (some ⟨b, 0, none⟩) ⟨r.n, r.L.length, -1, r.L, false⟩ ∧ (∀ k, G' k → w.heap.size ≤ k) ∧ Frm none_ w w' := by
  refine calls_ret (W22 (Q := fun v w' => ∃ b G', v = .tuple #[.pointer (some ⟨b, 0, none⟩), .int .i64 0] ∧ RfQ G' w' (some ⟨b, 0, none⟩) ⟨r.n, r.L.length, -1, r.L, false⟩ ∧ (∀ k, G' k → w.heap.size ≤ k) ∧ Frm none_ w w') ?_) (fun v w' ⟨b, G, h, h'⟩ => ⟨b, G, by rw [h], h'⟩)
  unfold F22
  obtain ⟨b, s, rfl, h⟩ := h
  have hl := h.len
  have hsm := h.sm
  have fd : Frm none_ w w.drew := (Frm.refl _ _).drew
  refine ⟨_, rfl, r.dead, by rw [addr_add]; exact h.blk.ld rfl, IfB.f (by rw [hd]; rfl) ⟨fun w' => Frm none_ w w', fd, _, rfl, (r.n : Int), fun w' f => by rw [addr_add]; exact (h.blk.mod f (fun h => h)).ld rfl, _, rfl, s, fun w' f => by rw [addr_add]; exact (h.blk.mod f (fun h => h)).ld rfl, _, rfl, s, fun w' f => by rw [addr_add]; exact (h.blk.mod f (fun h => h)).ld rfl, runT_lit0 st51 ?_⟩⟩
  intro w1 hr1 f1 z1
  have f1' := trN fd f1
  refine ⟨f1', runT_append st51 hr1 (h.row.mod f1' (fun _ _ h => h)).has (wc_one _) (by simp only; omega) (by simp only [maxLen]; omega) ?_⟩
  intro t w2 hr2 hl2 hn2 f2
  rw [List.nil_append] at hr2
  have f2' : Frm none_ w w2 := f1'.trans f2 (fun _ _ h => h) (fun k hk hs => by simp [Sl.blk] at hs; have : w.drew.heap.size = w.heap.size := rfl; omega)
  have ht : ∀ k, t.blk = some k → w.heap.size ≤ k := fun k hk => by
    have z := f1'.size
    have : w.drew.heap.size = w.heap.size := rfl
    rcases hn2.cases hk with h | h
    · simp [Sl.blk] at h; omega
    · omega
  refine ⟨f2', _, b53r r.n s.l t, ?_⟩
  intro b2 w3 hn
  have e3 := hn.b; have z3 := hn.size
  have f3 := hn.mod none_
  have z2 := f2'.size
  refine ⟨b2, fun k => k = b2 ∨ t.blk = some k, rfl, ⟨b2, t, rfl, ?_, hr2.mod f3 (fun _ _ h => h), .inl rfl, fun k hk => .inr hk, ?_, ⟨hsm.1, hsm.2.1, hsm.1⟩, by simp⟩, ?_, trN f2' f3⟩
  · have := hn.blk; rw [hl] at this; exact this
  · rintro k (hk | hk)
    · omega
    · have := hr2.lt k hk; omega
  · rintro k (hk | hk)
    · omega
    · exact ht k hk
theorem rcopy_calls (G : Nat → Prop) (w : World) (x : Option Addr) (r : Rf) (h : RfQ G w x r) : Calls prog 23 #[.pointer x] w fun e w' =>
    ∃ b G', e = .returned (.pointer (some ⟨b, 0, none⟩)) ∧ RfQ G' w' (some ⟨b, 0, none⟩) r ∧ (∀ k, G' k → w.heap.size ≤ k) ∧ Frm none_ w w' := by
  refine calls_ret (W23 (Q := fun v w' => ∃ b G', v = .pointer (some ⟨b, 0, none⟩) ∧ RfQ G' w' (some ⟨b, 0, none⟩) r ∧ (∀ k, G' k → w.heap.size ≤ k) ∧ Frm none_ w w') ?_) (fun v w' ⟨b, G, h, h'⟩ => ⟨b, G, by rw [h], h'⟩)
  unfold F23
  obtain ⟨b, s, rfl, h⟩ := h
  have hl := h.len
  have hsm := h.sm
  have fd : Frm none_ w w.drew := (Frm.refl _ _).drew
  refine ⟨fun w' => Frm none_ w w', fd, _, rfl, (r.n : Int), fun w' f => by rw [addr_add]; exact (h.blk.mod f (fun h => h)).ld rfl, _, rfl, (r.old : Int), fun w' f => by rw [addr_add]; exact (h.blk.mod f (fun h => h)).ld rfl, _, rfl, r.cut, fun w' f => by rw [addr_add]; exact (h.blk.mod f (fun h => h)).ld rfl, _, rfl, s, fun w' f => by rw [addr_add]; exact (h.blk.mod f (fun h => h)).ld rfl, _, rfl, r.dead, fun w' f => by rw [addr_add]; exact (h.blk.mod f (fun h => h)).ld rfl, runT_lit0 st51 ?_⟩
  intro w1 hr1 f1 z1
  have f1' := trN fd f1
  refine ⟨f1', runT_append st51 hr1 (h.row.mod f1' (fun _ _ h => h)).has (wc_one _) (by simp only; omega) (by simp only [maxLen]; omega) ?_⟩
  intro t w2 hr2 hl2 hn2 f2
  rw [List.nil_append] at hr2
  have f2' : Frm none_ w w2 := f1'.trans f2 (fun _ _ h => h) (fun k hk hs => by simp [Sl.blk] at hs; have : w.drew.heap.size = w.heap.size := rfl; omega)
  have ht : ∀ k, t.blk = some k → w.heap.size ≤ k := fun k hk => by
    have z := f1'.size
    have : w.drew.heap.size = w.heap.size := rfl
    rcases hn2.cases hk with h | h
    · simp [Sl.blk] at h; omega
    · omega
  refine ⟨f2', _, b53c r.n r.old r.cut t r.dead, ?_⟩
  intro b2 w3 hn
  have e3 := hn.b; have z3 := hn.size
  have f3 := hn.mod none_
  have z2 := f2'.size
  refine ⟨b2, fun k => k = b2 ∨ t.blk = some k, rfl, ⟨b2, t, rfl, hn.blk, hr2.mod f3 (fun _ _ h => h), .inl rfl, fun k hk => .inr hk, ?_, hsm, h.cut⟩, ?_, trN f2' f3⟩
  · rintro k (hk | hk)
    · omega
    · have := hr2.lt k hk; omega
  · rintro k (hk | hk)
    · omega
    · exact ht k hk
/-- What was written last to a place. -/
def lastW (L : List (Int × List UInt8)) (i : Int) : List UInt8 := L.foldl (fun acc a => if a.1 = i then a.2 else acc) zeroB
theorem lastW_push (L : List (Int × List UInt8)) (a : Int × List UInt8) (i : Int) : lastW (L ++ [a]) i = if a.1 = i then a.2 else lastW L i := by unfold lastW; rw [List.foldl_append]; rfl
theorem block_calls (G : Nat → Prop) (w : World) (x : Option Addr) (r : Rf) (i : Int) (h : RfQ G w x r) (h256 : ∀ a ∈ r.L, a.2.length = 256) : Calls prog 28 #[.pointer x, .int .i64 i] w fun e w' =>
    ∃ t : Sl, e = .returned (.slice t.a t.l t.c) ∧ Has w' t 1 (bv (lastW r.L i)) ∧ (∀ k, t.blk = some k → w.heap.size ≤ k) ∧ Frm none_ w w' := by
  refine calls_ret (W28 (Q := fun v w' => ∃ t : Sl, v = .slice t.a t.l t.c ∧ Has w' t 1 (bv (lastW r.L i)) ∧ (∀ k, t.blk = some k → w.heap.size ≤ k) ∧ Frm none_ w w') ?_) (fun v w' ⟨t, h, h'⟩ => ⟨t, by rw [h], h'⟩)
  unfold F28
  obtain ⟨b, s, rfl, h⟩ := h
  have hl := h.len
  have hsm := h.sm
  have hHL : HasL w s 2 wc r.L := ⟨h.row.has, hl.symm, wc_len _⟩
  refine ⟨_, rfl, s, by rw [addr_add]; exact h.blk.ld rfl, fun n x w' => ∃ j : Nat, x = (j : Int) - 1 ∧ j ≤ s.l ∧ n = j ∧ lastW r.L i = lastW (r.L.take j) i ∧ w = w', s.l, ⟨s.l, by rw [wi _ (by omega)], Nat.le_refl _, rfl, by rw [List.take_of_length_le (by omega)], rfl⟩, ?_⟩
  rintro n u x w1 ⟨j, rfl, hj, hnj, hlast, rfl⟩
  refine IfB.intro (fun hc => ?_) (fun hc => ?_)
  · have hge := of_decide_eq_true hc
    obtain ⟨k, rfl⟩ : ∃ k, j = k + 1 := ⟨j - 1, by omega⟩
    rw [show (((k + 1 : Nat) : Int) - 1) = (k : Int) by omega]
    obtain ⟨p, a, hp, ha, ham, hcells, _⟩ := hHL.at (by omega) (i := (k : Int)) (by omega) (by omega)
    have ha : r.L[k]? = some a := by simpa using ha
    have htk : r.L.take (k + 1) = r.L.take k ++ [a] := by rw [List.take_add_one, ha]; rfl
    rw [htk, lastW_push] at hlast
    refine ⟨_, rfl, s, by rw [addr_add]; exact h.blk.ld rfl, p, hp, by omega, by omega, a.1, hcells 0 _ rfl, IfB.intro (fun he => ?_) (fun he => ?_)⟩
    · have he := eq_of_beq he
      rw [if_pos he] at hlast
      refine ⟨_, rfl, s, by rw [addr_add]; exact h.blk.ld rfl, p, hp, by omega, by omega, str a.2, hcells 1 _ rfl, ?_⟩
      refine runT_bytesG un9 un31 un5 (by rw [str_size, h256 a ham]; decide) ?_
      intro w' c hr f z
      refine ⟨_, rfl, ?_, fun k hk => by simp [Sl.blk] at hk; omega, f⟩
      rw [hlast]; exact hr.has
    · have he := ne_of_beq_false he
      rw [if_neg he] at hlast
      exact ⟨k, by omega, k, by rw [wi _ (by omega)], by omega, rfl, hlast, rfl⟩
  · have hlt := of_decide_eq_false hc
    have hj0 : j = 0 := by omega
    subst hj0
    refine runT_makeN st31 (by omega) (by omega) (by omega) ?_
    intro t w1 hr1 hl1 hc1 ha1 f1 z1
    have hz : (madeCells (Value.int IntKind.u8 0).cells ((256 : Int).toNat * 1)).toList = bv zeroB := by
      rw [made_const (v := .int .u8 0) (by intro i hi; simp [Value.cells] at hi; subst hi; rfl) (by simp [Value.cells])]
      rw [zeroB, bv_rep]; rfl
    rw [hz] at hr1
    refine ⟨t, rfl, ?_, fun k hk => by simp [Sl.blk, ha1] at hk; omega, f1⟩
    rw [hlast]; exact hr1.has
def readR (r : Rf) (i : Int) : Int × List UInt8 := if r.dead then (20, []) else if i < 0 ∨ i ≥ r.n then (1, []) else (0, lastW r.L i)
theorem rread_calls (G : Nat → Prop) (w : World) (x : Option Addr) (r : Rf) (i : Int) (h : RfQ G w x r) (h256 : ∀ a ∈ r.L, a.2.length = 256) : Calls prog 24 #[.pointer x, .int .i64 i] w fun e w' =>
    ∃ t : Sl, e = .returned (.tuple #[.slice t.a t.l t.c, .int .i64 (readR r i).1]) ∧ Has w' t 1 (bv (readR r i).2) ∧ (∀ k, t.blk = some k → w.heap.size ≤ k) ∧ Frm none_ w w' := by
  refine calls_ret (W24 (Q := fun v w' => ∃ t : Sl, v = .tuple #[.slice t.a t.l t.c, .int .i64 (readR r i).1] ∧ Has w' t 1 (bv (readR r i).2) ∧ (∀ k, t.blk = some k → w.heap.size ≤ k) ∧ Frm none_ w w') ?_) (fun v w' ⟨t, h, h'⟩ => ⟨t, by rw [h], h'⟩)
  unfold F24
  have hq := h
  obtain ⟨b, s, rfl, h⟩ := h
  have nilC : ∀ (c : Int), readR r i = (c, []) → ∃ t : Sl, (Value.tuple #[.slice none 0 0, .int .i64 c]) = .tuple #[.slice t.a t.l t.c, .int .i64 (readR r i).1] ∧ Has w t 1 (bv (readR r i).2) ∧ (∀ k, t.blk = some k → w.heap.size ≤ k) ∧ Frm none_ w w := by
    intro c e
    rw [e]
    exact ⟨⟨none, 0, 0⟩, rfl, Has.nil _ _ _ rfl, by simp [Sl.blk], Frm.refl _ _⟩
  refine ⟨_, rfl, r.dead, by rw [addr_add]; exact h.blk.ld rfl, IfB.intro (fun hd => ?_) (fun hd => IfB.intro (fun h0 => ?_) (fun h0 => ?_))⟩
  · exact nilC 20 (by unfold readR; rw [hd]; rfl)
  · have h0 := of_decide_eq_true h0
    exact nilC 1 (by unfold readR; rw [hd]; simp [h0])
  · have h0 := of_decide_eq_false h0
    refine ⟨_, rfl, (r.n : Int), by rw [addr_add]; exact h.blk.ld rfl, IfB.intro (fun h1 => ?_) (fun h1 => ?_)⟩
    · have h1 := of_decide_eq_true h1
      exact nilC 1 (by unfold readR; rw [hd]; simp only [Bool.false_eq_true, if_false]; rw [if_pos (.inr h1)])
    · have h1 := of_decide_eq_false h1
      refine (block_calls G w _ r i hq h256).mono ?_
      rintro _ w1 ⟨t, rfl, ht, hb, f⟩
      have e : readR r i = (0, lastW r.L i) := by unfold readR; rw [hd]; simp only [Bool.false_eq_true, if_false]; rw [if_neg (by omega)]
      rw [e]
      exact ⟨t, rfl, t, rfl, ht, hb, f⟩
theorem alike_calls (w : World) (s t : Sl) (l m : List UInt8) (hs : Has w s 1 (bv l)) (ht : Has w t 1 (bv m)) : Calls prog 25 #[.slice s.a s.l s.c, .slice t.a t.l t.c] w fun e w' => ∃ b : Bool, e = .returned (.bool b) ∧ (l = m → b = true) ∧ w = w' := by
  refine calls_ret (W25 (Q := fun v w' => ∃ b : Bool, v = .bool b ∧ (l = m → b = true) ∧ w = w') ?_) (fun v w' ⟨t, h, h'⟩ => ⟨t, by rw [h], h'⟩)
  unfold F25
  refine runT_str un31 un5 un9 hs (runT_str un31 un5 un9 ht ⟨_, rfl, ?_, rfl⟩)
  rintro rfl
  exact (str_eqIff _ _).2 rfl
def fillB (f : Bool) (l : List UInt8) : List UInt8 := if f then l ++ List.replicate (256 - l.length) 0 else l
@[reducible] def stc (k n : Int) (s : ByteArray) (f : Bool) : Array Value := #[.int .i64 k, .int .i64 n, .string s, .bool f]
theorem bytes_calls (w : World) (k at_ : Int) (s : ByteArray) (f : Bool) (hs : s.size ≤ 140737488351232) : Calls prog 19 #[.agg (stc k at_ s f)] w fun e w' =>
    ∃ t : Sl, e = .returned (.slice t.a t.l t.c) ∧ RowG w' t 5 1 (bv (fillB f s.data.toList)) ∧ (∀ k, t.blk = some k → w.heap.size ≤ k) ∧ Frm none_ w w' := by
  refine calls_ret (W19 (Q := fun v w' => ∃ t : Sl, v = .slice t.a t.l t.c ∧ RowG w' t 5 1 (bv (fillB f s.data.toList)) ∧ (∀ k, t.blk = some k → w.heap.size ≤ k) ∧ Frm none_ w w') ?_) (fun v w' ⟨t, h, h'⟩ => ⟨t, by rw [h], h'⟩)
  unfold F19
  have hsz : s.data.toList.length = s.size := Array.length_toList
  intro b1 w1 hn
  have e1 := hn.b; have z1 := hn.size
  refine ⟨s, by rw [addr_add]; exact hn.blk.ld rfl, runT_bytesG un9 un31 un5 (by simp only [maxLen]; omega) ?_⟩
  intro w2 c hr2 f2 z2
  have f12 := trN (hn.mod none_) f2
  refine ⟨fun n x w' => ∃ m : Nat, n = 256 - s.size - m ∧ m ≤ 256 - s.size ∧ (m = 0 ∨ f = true) ∧ RowG w' x 5 1 (bv (s.data.toList ++ List.replicate m 0)) ∧ Blk w' b1 (stc k at_ s f) 46 ∧ (∀ k, x.blk = some k → b1 < k) ∧ Frm none_ w w', _, ⟨0, rfl, by omega, .inl rfl, by simpa using hr2, hn.blk.mod f2 (fun h => h), fun k hk => by simp [Sl.blk] at hk; omega, f12⟩, ?_⟩
  rintro N u x w3 ⟨m, rfl, hm, hmf, hr3, hB3, hx3, f3⟩
  have hxl : x.l = s.size + m := by have := hr3.len; rw [bv_length, List.length_append, List.length_replicate] at this; omega
  refine ⟨f, by rw [addr_add]; exact hB3.ld rfl, IfB.intro (fun hf => IfB.intro (fun hc => ?_) (fun hc => ?_)) (fun hf => ?_)⟩
  · have hlt := of_decide_eq_true hc
    refine runT_lit1 st31 (by decide) rfl ?_
    intro w4 hr4 f4 z4
    refine runT_appendG st31 (hr3.mod f4 (fun _ _ h => h)) hr4.has (by intro u hu; simp [Value.cells] at hu; subst hu; rfl) (by simp only; omega) (by simp only [maxLen]; omega) ?_
    intro t w5 hr5 hl5 hn5 f5
    have e5 : bv (s.data.toList ++ List.replicate m 0) ++ (Value.int .u8 0).cells.toList = bv (s.data.toList ++ List.replicate (m + 1) 0) := by
      rw [List.replicate_succ', ← List.append_assoc, bv_append (s.data.toList ++ List.replicate m 0) [0]]; rfl
    rw [e5] at hr5
    have z3 := f3.size
    have hb1 := hB3.lt
    refine ⟨256 - s.size - (m + 1), by omega, m + 1, rfl, by omega, .inr hf, hr5, (hB3.mod f4 (fun h => h)).mod f5 (fun hs => by have := hx3 b1 hs; omega), ?_, (trN f3 f4).trans f5 (fun _ _ h => h) (fun k hk hs => by have := hx3 k hs; omega)⟩
    intro k hk
    rcases hn5.cases hk with h | h
    · exact hx3 k h
    · omega
  · have hge := of_decide_eq_false hc
    refine ⟨x, rfl, ?_, fun k hk => by have := hx3 k hk; omega, f3⟩
    have e : fillB f s.data.toList = s.data.toList ++ List.replicate m 0 := by
      unfold fillB; rw [hf, if_pos rfl, hsz, show 256 - s.size = m by omega]
    rw [e]; exact hr3
  · have hm0 : m = 0 := by
      rcases hmf with h | h
      · exact h
      · rw [hf] at h; cases h
    subst hm0
    refine ⟨x, rfl, ?_, fun k hk => by have := hx3 k hk; omega, f3⟩
    have e : fillB f s.data.toList = s.data.toList := by unfold fillB; rw [hf]; rfl
    rw [e]; simpa using hr3
end Go.Proofs.Ytlmnnofghimneaa
