/- Bytes are read as a node: the program's Decode and the document's. -/
import Derived.Test.YtedkaegdfdcdaaaI
set_option linter.unusedVariables false
set_option linter.unusedSimpArgs false
namespace Go.Proofs.Ytedkaegdfdcdaaa
open Go Go.Proofs.YtedkaegdfdcdaaaV
def dStep (s : Nd × Rd) : Nd × Rd :=
  if s.1.leaf = true then (⟨s.1.leaf, s.1.keys ++ [str (strR 32 s.2).1], s.1.vals ++ [str (strR 64 (strR 32 s.2).2).1], s.1.kids⟩, (strR 64 (strR 32 s.2).2).2)
  else (⟨s.1.leaf, s.1.keys ++ [str (strR 32 s.2).1], s.1.vals, s.1.kids ++ [(countR 32768 (strR 32 s.2).2).1]⟩, (countR 32768 (strR 32 s.2).2).2)
def dIter : Nat → Nd × Rd → Nd × Rd
  | 0, s => s
  | i + 1, s => dStep (dIter i s)
def dMany (l : List UInt8) : Int := (countR 256 (flagR (some l)).2).1
def dBeg (l : List UInt8) : Nd × Rd :=
  if (flagR (some l)).1 = true then (⟨true, [], [], []⟩, (countR 256 (flagR (some l)).2).2)
  else (⟨false, [], [], [(countR 32768 (countR 256 (flagR (some l)).2).2).1]⟩, (countR 32768 (countR 256 (flagR (some l)).2).2).2)
def dEnd (l : List UInt8) : Nd × Rd := dIter (dMany l).toNat (dBeg l)
def Good (l : List UInt8) : Prop := okR (dEnd l).2 = true ∧ encC (dEnd l).1 = 0 ∧ enc (dEnd l).1 = l
def nd0 : Nd := ⟨false, [], [], []⟩
open Classical in
noncomputable def decN (l : List UInt8) : Nd := if Good l then (dEnd l).1 else nd0
open Classical in
noncomputable def decC (l : List UInt8) : Int := if Good l then 0 else 4
theorem countR_b (m : Int) (hm : 0 ≤ m) (r : Rd) : 0 ≤ (countR m r).1 ∧ (countR m r).1 ≤ m := by
  cases r with
  | none => exact ⟨Int.le_refl _, hm⟩
  | some l =>
    cases h : cnt l m with
    | none => simp [countR, h, hm]
    | some p =>
      obtain ⟨u, n⟩ := p
      have := cnt_num h
      simp [countR, h]; omega
theorem dMany_b (l : List UInt8) : 0 ≤ dMany l ∧ dMany l ≤ 256 := countR_b 256 (by decide) _
theorem dStep_leaf (s : Nd × Rd) : (dStep s).1.leaf = s.1.leaf := by unfold dStep; split <;> rfl
theorem dIter_leaf (i : Nat) (s : Nd × Rd) : (dIter i s).1.leaf = s.1.leaf := by
  induction i with
  | zero => rfl
  | succ i ih => rw [dIter, dStep_leaf, ih]
theorem dStep_len (s : Nd × Rd) : (dStep s).1.keys.length = s.1.keys.length + 1 ∧ (dStep s).1.vals.length ≤ s.1.vals.length + 1 ∧ (dStep s).1.kids.length ≤ s.1.kids.length + 1 := by
  unfold dStep; split <;> simp
theorem dIter_len (i : Nat) (s : Nd × Rd) : (dIter i s).1.keys.length = s.1.keys.length + i ∧ (dIter i s).1.vals.length ≤ s.1.vals.length + i ∧ (dIter i s).1.kids.length ≤ s.1.kids.length + i := by
  induction i with
  | zero => exact ⟨rfl, Nat.le_refl _, Nat.le_refl _⟩
  | succ i ih =>
    have := dStep_len (dIter i s)
    rw [dIter]; omega
theorem dBeg_len (l : List UInt8) : (dBeg l).1.keys.length = 0 ∧ (dBeg l).1.vals.length = 0 ∧ (dBeg l).1.kids.length ≤ 1 := by
  unfold dBeg; split <;> simp
theorem dStep_none {s : Nd × Rd} (h : s.2 = none) : (dStep s).2 = none := by
  have h1 : strR 32 s.2 = ([], none) := by rw [h]; rfl
  unfold dStep
  rw [h1]
  split <;> rfl
theorem dIter_none {s : Nd × Rd} {i j : Nat} (hij : i ≤ j) (h : (dIter i s).2 = none) : (dIter j s).2 = none := by
  induction j with
  | zero => have : i = 0 := by omega
            subst this; exact h
  | succ j ih =>
    rcases Nat.lt_or_eq_of_le hij with hh | rfl
    · rw [dIter]; exact dStep_none (ih (by omega))
    · exact h
theorem good_iff (l : List UInt8) : (Good l ∧ decN l = (dEnd l).1 ∧ decC l = 0) ∨ (¬ Good l ∧ decN l = nd0 ∧ decC l = 4) := by
  unfold decN decC
  by_cases h : Good l
  · left; simp [h]
  · right; simp [h]
/-- A node that is being made, of one's own. -/
structure Np (wb w : World) (b T : Nat) (k v d : Sl) (n : Nd) : Prop where
  blk : Blk w b (ndc n.leaf k v d) T
  own : Own wb w k v d n
  hb : wb.heap.size ≤ b
  t9 : T ≠ 9
  t3 : T ≠ 3
theorem Own.mod {wb w w' : World} {k v d : Sl} {n : Nd} {F : Nat → Prop} (h : Own wb w k v d n) (f : Frm F w w') (hF : ∀ j, wb.heap.size ≤ j → ¬ F j) : Own wb w' k v d n :=
  ⟨h.rk.mod f (fun j hj => hF j (h.nk j hj)), h.rv.mod f (fun j hj => hF j (h.nv j hj)), h.rd.mod f (fun j hj => hF j (h.nd j hj)), h.nk, h.nv, h.nd, h.kv⟩
theorem Np.mod {wb w w' : World} {b T : Nat} {k v d : Sl} {n : Nd} {F : Nat → Prop} (h : Np wb w b T k v d n) (f : Frm F w w') (hF : ∀ j, wb.heap.size ≤ j → ¬ F j) : Np wb w' b T k v d n :=
  ⟨h.blk.mod f (hF b h.hb), h.own.mod f hF, h.hb, h.t9, h.t3⟩
theorem Np.drew {wb w : World} {b T : Nat} {k v d : Sl} {n : Nd} (h : Np wb w b T k v d n) : Np wb w.drew b T k v d n :=
  ⟨h.blk.drew, ⟨h.own.rk.drew, h.own.rv.drew, h.own.rd.drew, h.own.nk, h.own.nv, h.own.nd, h.own.kv⟩, h.hb, h.t9, h.t3⟩
theorem Np.bk {wb w : World} {b T : Nat} {k v d : Sl} {n : Nd} (h : Np wb w b T k v d n) : Bk w b T k v d n := ⟨h.blk, h.own.s⟩
theorem sv_snoc (l : List ByteArray) (x : ByteArray) : sv l ++ (Value.string x).cells.toList = sv (l ++ [x]) := by simp [sv, Value.cells]
theorem iv_snoc (l : List Int) (x : Int) : iv l ++ (Value.int .i64 x).cells.toList = iv (l ++ [x]) := by simp [iv, Value.cells]
theorem Np.pushK {wb w : World} {b T : Nat} {k v d : Sl} {n : Nd} (h : Np wb w b T k v d n) (hz : wb.heap.size ≤ w.heap.size) (x : ByteArray) (hl : n.keys.length ≤ 1000000) {S : World → Prop} (hS : ∀ w', Frm none_ w w' → S w') {K : World → Prop}
    (hk : ∀ w' k' F, Np wb w' b T k' v d ⟨n.leaf, n.keys ++ [x], n.vals, n.kids⟩ → Frm F w w' → (∀ j, F j → wb.heap.size ≤ j) → K w') :
    RunT prog .slice (Instr.buildSlice 22 1 #[(0, .string x)]) w fun (t : Sl) w1 => S w1 ∧ RunT prog .slice (Builtin.append_ #[22, 22] 22 #[.slice k.a k.l k.c, .slice t.a t.l t.c]) w1 fun (t' : Sl) w2 =>
      Wr w2 ((⟨b, 0, none⟩ : Addr).add 1) ∧ ∀ w3, w3 = w2.setCell ((⟨b, 0, none⟩ : Addr).add 1) (.slice t'.a t'.l t'.c) → K w3 := by
  refine runT_lit1 st22s (by decide) rfl ?_
  intro w1 hr1 f1 z1
  have hkl := has_sv h.own.rk.has
  refine ⟨hS _ f1, runT_append st22s (h.own.rk.mod f1 (fun _ _ h => h)) hr1.has (by intro u hu; simp [Value.cells] at hu; subst hu; rfl) (by simp only; omega) (by simp only [maxLen]; omega) ?_⟩
  intro t' w2 hr2 hl2 hn2 f2
  rw [sv_snoc] at hr2
  have hbk : k.blk ≠ some b := h.own.rk.g.blkNeB h.blk.g (Ne.symm h.t9)
  have h1 := h.mod f1 (fun _ _ h => h)
  have hB2 := h1.blk.mod f2 (fun e => hbk e)
  rw [addr_add]
  refine ⟨hB2.wr (by show 0 + 1 < 4; decide), ?_⟩
  rintro w3 rfl
  have f3 : Frm (fun j => j = b) w2 (w2.setCell ⟨b, 0 + 1, none⟩ (.slice t'.a t'.l t'.c)) := mod_setCell (a := ⟨b, 0 + 1, none⟩)
  have hnk : New wb t' := by
    intro j hj
    rcases hn2.cases hj with e | e
    · exact h.own.nk j e
    · omega
  have hr3 := hr2.mod f3 (fun j hj e => (hr2.g.blkNeB hB2.g (Ne.symm h.t9)) (by rw [hj, e]))
  have hv2 := h1.own.rv.mod f2 (fun j hj e => h.own.kv j e hj)
  have hd2 := h1.own.rd.mod f2 (fun j hj e => h.own.rd.g.blkNe h.own.rk.g (by decide) j hj e)
  have hkv : ∀ j, t'.blk = some j → v.blk ≠ some j := by
    intro j hj
    rcases hn2.cases hj with e | e
    · exact h.own.kv j e
    · intro e2
      have := h1.own.rv.lt j e2
      omega
  refine hk _ t' (fun j => k.blk = some j ∨ j = b) ⟨hB2.set 1 _, ⟨hr3, hv2.mod f3 (fun j hj e => (hv2.g.blkNeB hB2.g (Ne.symm h.t9)) (by rw [hj, e])), hd2.mod f3 (fun j hj e => (hd2.g.blkNeB hB2.g (Ne.symm h.t3)) (by rw [hj, e])), hnk, h.own.nv, h.own.nd, hkv⟩, h.hb, h.t9, h.t3⟩ ((f1.trans f2 (fun _ _ h => h.elim) (fun _ _ h => .inl h)).trans f3 (fun _ _ h => h) (fun _ _ h => .inr h)) ?_
  rintro j (e | e)
  · exact h.own.nk j e
  · rw [e]; exact h.hb
theorem Np.pushV {wb w : World} {b T : Nat} {k v d : Sl} {n : Nd} (h : Np wb w b T k v d n) (hz : wb.heap.size ≤ w.heap.size) (x : ByteArray) (hl : n.vals.length ≤ 1000000) {S : World → Prop} (hS : ∀ w', Frm none_ w w' → S w') {K : World → Prop}
    (hk : ∀ w' v' F, Np wb w' b T k v' d ⟨n.leaf, n.keys, n.vals ++ [x], n.kids⟩ → Frm F w w' → (∀ j, F j → wb.heap.size ≤ j) → K w') :
    RunT prog .slice (Instr.buildSlice 22 1 #[(0, .string x)]) w fun (t : Sl) w1 => S w1 ∧ RunT prog .slice (Builtin.append_ #[22, 22] 22 #[.slice v.a v.l v.c, .slice t.a t.l t.c]) w1 fun (t' : Sl) w2 =>
      Wr w2 ((⟨b, 0, none⟩ : Addr).add 2) ∧ ∀ w3, w3 = w2.setCell ((⟨b, 0, none⟩ : Addr).add 2) (.slice t'.a t'.l t'.c) → K w3 := by
  refine runT_lit1 st22s (by decide) rfl ?_
  intro w1 hr1 f1 z1
  have hkl := has_sv h.own.rv.has
  refine ⟨hS _ f1, runT_append st22s (h.own.rv.mod f1 (fun _ _ h => h)) hr1.has (by intro u hu; simp [Value.cells] at hu; subst hu; rfl) (by simp only; omega) (by simp only [maxLen]; omega) ?_⟩
  intro t' w2 hr2 hl2 hn2 f2
  rw [sv_snoc] at hr2
  have hbk : v.blk ≠ some b := h.own.rv.g.blkNeB h.blk.g (Ne.symm h.t9)
  have h1 := h.mod f1 (fun _ _ h => h)
  have hB2 := h1.blk.mod f2 (fun e => hbk e)
  rw [addr_add]
  refine ⟨hB2.wr (by show 0 + 2 < 4; decide), ?_⟩
  rintro w3 rfl
  have f3 : Frm (fun j => j = b) w2 (w2.setCell ⟨b, 0 + 2, none⟩ (.slice t'.a t'.l t'.c)) := mod_setCell (a := ⟨b, 0 + 2, none⟩)
  have hnk : New wb t' := by
    intro j hj
    rcases hn2.cases hj with e | e
    · exact h.own.nv j e
    · omega
  have hr3 := hr2.mod f3 (fun j hj e => (hr2.g.blkNeB hB2.g (Ne.symm h.t9)) (by rw [hj, e]))
  have hv2 := h1.own.rk.mod f2 (fun j hj e => h.own.kv j hj e)
  have hd2 := h1.own.rd.mod f2 (fun j hj e => h.own.rd.g.blkNe h.own.rv.g (by decide) j hj e)
  have hkv : ∀ j, k.blk = some j → t'.blk ≠ some j := by
    intro j hj e2
    rcases hn2.cases e2 with e | e
    · exact h.own.kv j hj e
    · have := h1.own.rk.lt j hj
      omega
  refine hk _ t' (fun j => v.blk = some j ∨ j = b) ⟨hB2.set 2 _, ⟨hv2.mod f3 (fun j hj e => (hv2.g.blkNeB hB2.g (Ne.symm h.t9)) (by rw [hj, e])), hr3, hd2.mod f3 (fun j hj e => (hd2.g.blkNeB hB2.g (Ne.symm h.t3)) (by rw [hj, e])), h.own.nk, hnk, h.own.nd, hkv⟩, h.hb, h.t9, h.t3⟩ ((f1.trans f2 (fun _ _ h => h.elim) (fun _ _ h => .inl h)).trans f3 (fun _ _ h => h) (fun _ _ h => .inr h)) ?_
  rintro j (e | e)
  · exact h.own.nv j e
  · rw [e]; exact h.hb
theorem Np.pushD {wb w : World} {b T : Nat} {k v d : Sl} {n : Nd} (h : Np wb w b T k v d n) (hz : wb.heap.size ≤ w.heap.size) (x : Int) (hl : n.kids.length ≤ 1000000) {S : World → Prop} (hS : ∀ w', Frm none_ w w' → S w') {K : World → Prop}
    (hk : ∀ w' d' F, Np wb w' b T k v d' ⟨n.leaf, n.keys, n.vals, n.kids ++ [x]⟩ → Frm F w w' → (∀ j, F j → wb.heap.size ≤ j) → K w') :
    RunT prog .slice (Instr.buildSlice 23 1 #[(0, .int .i64 x)]) w fun (t : Sl) w1 => S w1 ∧ RunT prog .slice (Builtin.append_ #[23, 23] 23 #[.slice d.a d.l d.c, .slice t.a t.l t.c]) w1 fun (t' : Sl) w2 =>
      Wr w2 ((⟨b, 0, none⟩ : Addr).add 3) ∧ ∀ w3, w3 = w2.setCell ((⟨b, 0, none⟩ : Addr).add 3) (.slice t'.a t'.l t'.c) → K w3 := by
  refine runT_lit1 st23 (by decide) rfl ?_
  intro w1 hr1 f1 z1
  have hkl := has_iv h.own.rd.has
  refine ⟨hS _ f1, runT_append st23 (h.own.rd.mod f1 (fun _ _ h => h)) hr1.has (by intro u hu; simp [Value.cells] at hu; subst hu; rfl) (by simp only; omega) (by simp only [maxLen]; omega) ?_⟩
  intro t' w2 hr2 hl2 hn2 f2
  rw [iv_snoc] at hr2
  have hbk : d.blk ≠ some b := h.own.rd.g.blkNeB h.blk.g (Ne.symm h.t3)
  have h1 := h.mod f1 (fun _ _ h => h)
  have hB2 := h1.blk.mod f2 (fun e => hbk e)
  rw [addr_add]
  refine ⟨hB2.wr (by show 0 + 3 < 4; decide), ?_⟩
  rintro w3 rfl
  have f3 : Frm (fun j => j = b) w2 (w2.setCell ⟨b, 0 + 3, none⟩ (.slice t'.a t'.l t'.c)) := mod_setCell (a := ⟨b, 0 + 3, none⟩)
  have hnk : New wb t' := by
    intro j hj
    rcases hn2.cases hj with e | e
    · exact h.own.nd j e
    · omega
  have hr3 := hr2.mod f3 (fun j hj e => (hr2.g.blkNeB hB2.g (Ne.symm h.t3)) (by rw [hj, e]))
  have hk2 := h1.own.rk.mod f2 (fun j hj e => h.own.rk.g.blkNe h.own.rd.g (by decide) j hj e)
  have hv2 := h1.own.rv.mod f2 (fun j hj e => h.own.rv.g.blkNe h.own.rd.g (by decide) j hj e)
  refine hk _ t' (fun j => d.blk = some j ∨ j = b) ⟨hB2.set 3 _, ⟨hk2.mod f3 (fun j hj e => (hk2.g.blkNeB hB2.g (Ne.symm h.t9)) (by rw [hj, e])), hv2.mod f3 (fun j hj e => (hv2.g.blkNeB hB2.g (Ne.symm h.t9)) (by rw [hj, e])), hr3, h.own.nk, h.own.nv, hnk, h.own.kv⟩, h.hb, h.t9, h.t3⟩ ((f1.trans f2 (fun _ _ h => h.elim) (fun _ _ h => .inl h)).trans f3 (fun _ _ h => h) (fun _ _ h => .inr h)) ?_
  rintro j (e | e)
  · exact h.own.nd j e
  · rw [e]; exact h.hb
theorem b28z : BuildIs prog 28 #[] #[.bool false, .slice none 0 0, .slice none 0 0, .slice none 0 0] := fun w => by kernel_rfl
theorem b28a (b : Bool) : BuildIs prog 28 #[(0, .bool b)] (ndc b ⟨none, 0, 0⟩ ⟨none, 0, 0⟩ ⟨none, 0, 0⟩) := fun w => by kernel_rfl
theorem b25z : BuildIs prog 25 #[] #[.bool false, .slice none 0 0, .slice none 0 0, .slice none 0 0] := fun w => by kernel_rfl
theorem b25a (b : Bool) : BuildIs prog 25 #[(0, .bool b)] (ndc b ⟨none, 0, 0⟩ ⟨none, 0, 0⟩ ⟨none, 0, 0⟩) := fun w => by kernel_rfl
theorem ndc0 : (#[.bool false, .slice none 0 0, .slice none 0 0, .slice none 0 0] : Array Value) = ndc nd0.leaf ⟨none, 0, 0⟩ ⟨none, 0, 0⟩ ⟨none, 0, 0⟩ := rfl
theorem own0 (wb w : World) (b : Bool) : Own wb w ⟨none, 0, 0⟩ ⟨none, 0, 0⟩ ⟨none, 0, 0⟩ ⟨b, [], [], []⟩ := ⟨Row.nil _ _ _, Row.nil _ _ _, Row.nil _ _ _, fun j hj => by simp [Sl.blk] at hj, fun j hj => by simp [Sl.blk] at hj, fun j hj => by simp [Sl.blk] at hj, fun j hj => by simp [Sl.blk] at hj⟩
theorem equal_calls (w : World) (s t : Sl) (l m : List UInt8) (hs : Has w s 1 (bv l)) (ht : Has w t 1 (bv m)) : Calls prog 37 #[.slice s.a s.l s.c, .slice t.a t.l t.c] w fun e w' => e = .returned (.bool (decide (l = m))) ∧ w' = w := by
  refine callsRet (W37 (Q := fun v w' => v = .bool (decide (l = m)) ∧ w' = w) ?_) (fun v w' ⟨h, h'⟩ => ⟨by rw [h], h'⟩)
  unfold F37
  refine runT_str un22 un5 un9 hs (runT_str un22 un5 un9 ht ⟨?_, rfl⟩)
  rw [eqB]
  congr 1
  rw [decide_eq_decide]
  constructor
  · intro h
    have := congrArg (fun s : ByteArray => s.data.toList) h
    simpa [str] using this
  · intro h; rw [h]
theorem body33 : hasBody prog 33 = true := by kernel_rfl
theorem body34 : hasBody prog 34 = true := by kernel_rfl
/-- The program's Decode at work. -/
structure Dp (wb w : World) (b5 b4 kr : Nat) (k v d : Sl) (s : Nd × Rd) : Prop where
  np : Np wb w b5 28 k v d s.1
  ptr : Blk w b4 #[.pointer (some ⟨kr, 0, none⟩)] 57
  rd : RdP w kr s.2
  hb4 : b4 < wb.heap.size
  hkr : kr < wb.heap.size
  ne : b4 ≠ kr
  fr : Frm (fun j => j = kr) wb w
theorem Dp.key {wb w : World} {b5 b4 kr : Nat} {k v d : Sl} {n : Nd} {r : Rd} (h : Dp wb w b5 b4 kr k v d (n, r)) (hl : n.keys.length ≤ 1000000) {K : World → Prop} (hk : ∀ w' k', Dp wb w' b5 b4 kr k' v d (⟨n.leaf, n.keys ++ [str (strR 32 r).1], n.vals, n.kids⟩, (strR 32 r).2) → K w') :
    ∃ S : World → Prop, S w.drew ∧ ∃ t32 : Sl, (∀ w', S w' → Ld w' ((⟨b5, 0, none⟩ : Addr).add 1) (.slice t32.a t32.l t32.c)) ∧ ∃ t33 : Option Addr, (∀ w', S w' → Ld w' (⟨b4, 0, none⟩ : Addr) (.pointer t33)) ∧
      Calls prog 35 #[.pointer t33, .int .i64 32] w.drew fun en w1 => ∃ t34 : ByteArray, en = .returned (.string t34) ∧ S w1 ∧ RunT prog .slice (Instr.buildSlice 22 1 #[(0, .string t34)]) w1 fun (t35 : Sl) w2 => S w2 ∧
      RunT prog .slice (Builtin.append_ #[22, 22] 22 #[.slice t32.a t32.l t32.c, .slice t35.a t35.l t35.c]) w2 fun (t36 : Sl) w3 => Wr w3 ((⟨b5, 0, none⟩ : Addr).add 1) ∧ ∀ w4, w4 = w3.setCell ((⟨b5, 0, none⟩ : Addr).add 1) (.slice t36.a t36.l t36.c) → K w4 := by
  have hkr := h.hkr
  have hb4 := h.hb4
  have hz := h.fr.size
  refine ⟨fun w' => Bk w' b5 28 k v d n ∧ Blk w' b4 #[.pointer (some ⟨kr, 0, none⟩)] 57, ⟨h.np.bk.drew, h.ptr.drew⟩, k, fun w' h => h.1.l1, some ⟨kr, 0, none⟩, fun w' h => h.2.ld rfl, (str_read w.drew (some ⟨kr, 0, none⟩) r 32 (.inr ⟨kr, rfl, h.rd.mod (frm_drew w (F := none_)) (fun h => h)⟩)).mono ?_⟩
  rintro _ w1 ⟨rfl, hrd, f1⟩
  have f1 : Frm (fun j => j = kr) w w1 := Frm.ofDrew (f1.mono fun j _ e => by simpa [Of] using e.symm)
  have z1 := f1.size
  have hn1 := h.np.mod f1 (fun j hj e => by omega)
  have hp1 := h.ptr.mod f1 h.ne
  refine ⟨_, rfl, ⟨hn1.bk, hp1⟩, hn1.pushK (by omega) _ hl (S := fun w' => Bk w' b5 28 k v d n ∧ Blk w' b4 #[.pointer (some ⟨kr, 0, none⟩)] 57) (fun w' f => ⟨hn1.bk.mod f, hp1.mod f (fun h => h)⟩) ?_⟩
  intro w4 k' F hn4 f4 hF
  rcases hrd with ⟨e, _⟩ | ⟨b, e, hrd⟩
  · cases e
  cases e
  exact hk w4 k' ⟨hn4, hp1.mod f4 (fun e => by have := hF _ e; omega), hrd.mod f4 (fun e => by have := hF _ e; omega), hb4, hkr, h.ne, (h.fr.trans f1 (fun _ _ h => h) (fun _ _ h => h)).trans f4 (fun _ _ h => h) (fun j hj e => by have := hF j e; omega)⟩
theorem Dp.value {wb w : World} {b5 b4 kr : Nat} {k v d : Sl} {n : Nd} {r : Rd} (h : Dp wb w b5 b4 kr k v d (n, r)) (hl : n.vals.length ≤ 1000000) {R : Value → World → Prop} (hk : ∀ w' v', Dp wb w' b5 b4 kr k v' d (⟨n.leaf, n.keys, n.vals ++ [str (strR 64 r).1], n.kids⟩, (strR 64 r).2) → R (.tuple #[]) w') :
    CallV prog (.func (.func 34) #[] #[.pointer (some (⟨b5, 0, none⟩ : Addr)), .pointer (some (⟨b4, 0, none⟩ : Addr))]) #[] w R := by
  have hkr := h.hkr
  have hb4 := h.hb4
  have hz := h.fr.size
  refine callV_of body34 (W34 (x0 := ⟨b5, 0, none⟩) (x1 := ⟨b4, 0, none⟩) ?_)
  unfold F34
  refine ⟨fun w' => Bk w' b5 28 k v d n ∧ Blk w' b4 #[.pointer (some ⟨kr, 0, none⟩)] 57, ⟨h.np.bk.drew, h.ptr.drew⟩, v, fun w' h => h.1.l2, some ⟨kr, 0, none⟩, fun w' h => h.2.ld rfl, (str_read w.drew (some ⟨kr, 0, none⟩) r 64 (.inr ⟨kr, rfl, h.rd.mod (frm_drew w (F := none_)) (fun h => h)⟩)).mono ?_⟩
  rintro _ w1 ⟨rfl, hrd, f1⟩
  have f1 : Frm (fun j => j = kr) w w1 := Frm.ofDrew (f1.mono fun j _ e => by simpa [Of] using e.symm)
  have z1 := f1.size
  have hn1 := h.np.mod f1 (fun j hj e => by omega)
  have hp1 := h.ptr.mod f1 h.ne
  refine ⟨_, rfl, ⟨hn1.bk, hp1⟩, hn1.pushV (by omega) _ hl (S := fun w' => Bk w' b5 28 k v d n ∧ Blk w' b4 #[.pointer (some ⟨kr, 0, none⟩)] 57) (fun w' f => ⟨hn1.bk.mod f, hp1.mod f (fun h => h)⟩) ?_⟩
  intro w4 k' F hn4 f4 hF
  rcases hrd with ⟨e, _⟩ | ⟨b, e, hrd⟩
  · cases e
  cases e
  exact hk w4 k' ⟨hn4, hp1.mod f4 (fun e => by have := hF _ e; omega), hrd.mod f4 (fun e => by have := hF _ e; omega), hb4, hkr, h.ne, (h.fr.trans f1 (fun _ _ h => h) (fun _ _ h => h)).trans f4 (fun _ _ h => h) (fun j hj e => by have := hF j e; omega)⟩
theorem Dp.kid {wb w : World} {b5 b4 kr : Nat} {k v d : Sl} {n : Nd} {r : Rd} (h : Dp wb w b5 b4 kr k v d (n, r)) (hl : n.kids.length ≤ 1000000) {R : Value → World → Prop} (hk : ∀ w' d', Dp wb w' b5 b4 kr k v d' (⟨n.leaf, n.keys, n.vals, n.kids ++ [(countR 32768 r).1]⟩, (countR 32768 r).2) → R (.tuple #[]) w') :
    CallV prog (.func (.func 33) #[] #[.pointer (some (⟨b5, 0, none⟩ : Addr)), .pointer (some (⟨b4, 0, none⟩ : Addr))]) #[] w R := by
  have hkr := h.hkr
  have hb4 := h.hb4
  have hz := h.fr.size
  refine callV_of body33 (W33 (x0 := ⟨b5, 0, none⟩) (x1 := ⟨b4, 0, none⟩) ?_)
  unfold F33
  refine ⟨fun w' => Bk w' b5 28 k v d n ∧ Blk w' b4 #[.pointer (some ⟨kr, 0, none⟩)] 57, ⟨h.np.bk.drew, h.ptr.drew⟩, d, fun w' h => h.1.l3, some ⟨kr, 0, none⟩, fun w' h => h.2.ld rfl, (count_read w.drew (some ⟨kr, 0, none⟩) r 32768 (.inr ⟨kr, rfl, h.rd.mod (frm_drew w (F := none_)) (fun h => h)⟩)).mono ?_⟩
  rintro _ w1 ⟨rfl, hrd, f1⟩
  have f1 : Frm (fun j => j = kr) w w1 := Frm.ofDrew (f1.mono fun j _ e => by simpa [Of] using e.symm)
  have z1 := f1.size
  have hn1 := h.np.mod f1 (fun j hj e => by omega)
  have hp1 := h.ptr.mod f1 h.ne
  refine ⟨_, rfl, ⟨hn1.bk, hp1⟩, hn1.pushD (by omega) _ hl (S := fun w' => Bk w' b5 28 k v d n ∧ Blk w' b4 #[.pointer (some ⟨kr, 0, none⟩)] 57) (fun w' f => ⟨hn1.bk.mod f, hp1.mod f (fun h => h)⟩) ?_⟩
  intro w4 k' F hn4 f4 hF
  rcases hrd with ⟨e, _⟩ | ⟨b, e, hrd⟩
  · cases e
  cases e
  exact hk w4 k' ⟨hn4, hp1.mod f4 (fun e => by have := hF _ e; omega), hrd.mod f4 (fun e => by have := hF _ e; omega), hb4, hkr, h.ne, (h.fr.trans f1 (fun _ _ h => h) (fun _ _ h => h)).trans f4 (fun _ _ h => h) (fun j hj e => by have := hF j e; omega)⟩
end Go.Proofs.Ytedkaegdfdcdaaa
