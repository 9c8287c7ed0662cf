/- A strings.Builder of one's own; prefixes; whether a secret may still come. -/
import Derived.Test.YtcnjopheoeeggaaG
import Derived.Test.YtcnjopheoeeggaaF
import Derived.Test.YtcnjopheoeeggaaT
import Derived.Lib.UnsafeStr
import Derived.Lib.Builder
import Derived.Laws.Externs
set_option linter.unusedVariables false
set_option linter.unusedSimpArgs false
namespace Go.Proofs.Ytcnjopheoeeggaa
open Go Go.Proofs.YtcnjopheoeeggaaV
theorem st30 : SlT prog 30 5 1 1 (.int .u8 0) := ⟨by kernel_rfl, by kernel_rfl, rfl, by decide⟩
theorem st22 : SlT prog 22 9 1 16 (.string ⟨#[]⟩) := ⟨by kernel_rfl, by kernel_rfl, rfl, by decide⟩
theorem un9 : prog.underlying 9 = some .string := by kernel_rfl
theorem un5 : prog.underlying 5 = some (.int .u8) := by kernel_rfl
theorem un30 : prog.underlying 30 = some (.slice 5) := by kernel_rfl
theorem un51 : prog.underlying 51 = some (.pointer 53) := by kernel_rfl
theorem un64 : prog.underlying 64 = some .unsafePointer := by kernel_rfl
theorem un66 : prog.underlying 66 = some (.pointer 5) := by kernel_rfl
theorem sz53 : (prog.info? 53).map (fun j => j.size) = some 2 := by kernel_rfl
theorem lies53 : liesAt prog prog.depth 55 (2 / prog.cellsOf 55) 0 53 1 = true := by kernel_rfl
theorem ce5 : prog.cellsOf 5 = 1 := by kernel_rfl
theorem callV_of {P : Program} {f : FuncId} {first args captured : Array Value} {w : World} {R : Value → World → Prop} (hb : hasBody P f = true) (h : Calls P f ((first ++ args) ++ captured) w fun en w' => ∃ v, en = .returned v ∧ R v w') :
    CallV P (.func (.func f) first captured) args w R := by
  unfold CallV
  simp only [hb]
  exact h
theorem nil_eql51 (i : Nat) : BinIs prog .eql 51 (.tmp i) (.const (.pointer none)) (.pointer none) (.pointer none) true := fun w => by kernel_rfl
theorem some_eql51 (i b : Nat) : BinIs prog .eql 51 (.tmp i) (.const (.pointer none)) (.pointer (some ⟨b, 0, none⟩)) (.pointer none) false := fun w => by kernel_rfl
theorem nil_eql31 (i : Nat) : BinIs prog .eql 31 (.tmp i) (.const (.pointer none)) (.pointer none) (.pointer none) true := fun w => by kernel_rfl
theorem some_eql31 (i b : Nat) : BinIs prog .eql 31 (.tmp i) (.const (.pointer none)) (.pointer (some ⟨b, 0, none⟩)) (.pointer none) false := fun w => by kernel_rfl
theorem some_sl22 (i : Nat) (a : Addr) (l c : Nat) : BinIs prog .eql 22 (.tmp i) (.const (.slice none 0 0)) (.slice (some a) l c) (.slice none 0 0) false := fun w => by kernel_rfl
theorem none_sl22 (i : Nat) (l c : Nat) : BinIs prog .eql 22 (.tmp i) (.const (.slice none 0 0)) (.slice none l c) (.slice none 0 0) true := fun w => by kernel_rfl
theorem bool_neq (i j : Nat) (a b : Bool) : BinIs prog .neq 4 (.tmp i) (.tmp j) (.bool a) (.bool b) (a != b) := fun w => by cases a <;> cases b <;> kernel_rfl
theorem noEscape (x : Value) (w : World) : (callFunc 34 #[x]).run prog w = .ok (.value x) w := by
  have h : prog.funcs[34]? = some Try.f34 := by kernel_rfl
  rw [run_callFunc_extern h (by kernel_rfl) (by kernel_rfl) (by kernel_rfl) (e := Extern.AbiNoEscape.same) (by kernel_rfl)]
  rfl
theorem check_calls (w : World) (o : Nat) (pa : Option Addr) (v : Value) (h : Blk w o #[.pointer pa, v] 55) (hpa : pa = none ∨ pa = some ⟨o, 0, none⟩) : Calls prog 31 #[.pointer (some ⟨o, 0, none⟩)] w fun e w' =>
    e = .returned (.tuple #[]) ∧ Blk w' o #[.pointer (some ⟨o, 0, none⟩), v] 55 ∧ Frm (fun k => k = o) w w' := by
  refine callsRet (W31 (Q := fun v' w' => v' = .tuple #[] ∧ Blk w' o #[.pointer (some ⟨o, 0, none⟩), v] 55 ∧ Frm (fun k => k = o) w w') ?_) (fun v' w' ⟨h, h'⟩ => ⟨by rw [h], h'⟩)
  unfold F31
  obtain ⟨j, hj, hjs⟩ := Option.map_eq_some_iff.1 sz53
  have hsh : w.shape? o = some (55, 2) := by
    have h' : w.heap[o]? = some (.cells #[.pointer pa, v] 55 (0, 0)) := h
    unfold World.shape?; rw [h']; rfl
  refine ⟨_, rfl, pa, by rw [addr_add]; exact h.ld rfl, ?_⟩
  rcases hpa with rfl | rfl
  · refine ⟨_, nil_eql51 _, IfB.t rfl ?_⟩
    have hr := Lib.run_to_unsafe (P := prog) w ⟨o, 0, none⟩ un51 un64 hj (by rw [hjs]; decide) hsh (Nat.zero_lt_succ 1)
    unfold RunT
    rw [hr]
    refine ⟨_, rfl, RunN.value (noEscape _ w) ⟨_, rfl, ?_⟩⟩
    have hr2 := Lib.run_from_unsafe (P := prog) w ⟨o, 0, none⟩ un64 un51 hj hsh lies53
    rw [hr2]
    refine ⟨some ⟨o, 0, none⟩, rfl, _, rfl, by rw [addr_add]; exact h.wr (show 0 < 2 by decide), ?_⟩
    rintro w1 rfl
    rw [addr_add]
    exact ⟨rfl, h.set 0 _, mod_setCell (a := ⟨o, 0 + 0, none⟩)⟩
  · refine ⟨_, some_eql51 _ o, IfB.f rfl ⟨_, rfl, _, by rw [addr_add]; exact h.ld rfl, ?_⟩⟩
    have hr := Lib.run_neq_ptr_same (P := prog) w (tp := 51) ⟨o, 0, none⟩ un51 hj
    have hg : (eqGuard .neq 51 (.tmp 17) (.tmp 18) (.pointer (some ⟨o, 0, none⟩)) (.pointer (some ⟨o, 0, none⟩))).run prog w = .ok () w := by simp [eqGuard]
    unfold RunT
    rw [Sem.run_bind, hg, Result.andThen_ok, hr]
    exact ⟨false, rfl, IfB.f rfl ⟨rfl, h, Frm.refl _ _⟩⟩
theorem runT_appendStrN {P : Program} {t u ty E : TypeId} (T : SlT P t E 1 1 (.int .u8 0)) (hu : P.underlying u = some .string) {w : World} (x : ByteArray) (h0 : 0 < x.size) (hb : x.size ≤ 140737488355328) {K : Sl → World → Prop}
    (hk : ∀ s' w', Row w' s' E 1 (bv x.data.toList) → s'.l = x.size → s'.blk = some w.heap.size → Frm none_ w w' → K s' w') :
    RunT P .slice (Builtin.append_ #[t, u] ty #[.slice none 0 0, .string x]) w K := by
  obtain ⟨i, hi, hz, hsz, hby⟩ := T.info
  unfold RunT
  have hr := run_append_nil_string (P := P) w t u ty E i (.int .u8 0) T.und hu hi hz x h0 (by omega) (by rw [hby]; omega)
  rw [hr]
  have hgl := grownCap_ge w x.size 0 E
  have hgm := grownCap_le_maxLen w x.size 0 E (by simp only [maxLen]; omega)
  refine ⟨⟨some ⟨w.heap.size, 0, none⟩, x.size, grownCap w x.size 0 E⟩, rfl, hk _ _ ?_ rfl rfl ?_⟩
  · have hB := NewB.blk (w := w.drew) (cs := x.data.map (fun b => Value.int .u8 b.toNat) ++ Builtin.zeroCells (Value.int .u8 0).cells (grownCap w x.size 0 E - x.size)) (T := E) ⟨rfl, rfl⟩
    have hz1 : (Value.int IntKind.u8 0).cells.size = 1 := rfl
    have hds : x.data.size = x.size := rfl
    have := Row.mk (n := x.size) (sz := 1) hB hgl hgm (by simp only [Array.size_append, Array.size_map, size_zeroCells, hz1, hds]; omega)
    have e : ((x.data.map (fun b => Value.int .u8 b.toNat) ++ Builtin.zeroCells (Value.int .u8 0).cells (grownCap w x.size 0 E - x.size)).toList.take (x.size * 1)) = bv x.data.toList := by
      have hl : (bv x.data.toList).length = x.size * 1 := by rw [bv_length, Array.length_toList, Nat.mul_one]; rfl
      rw [← hl, Array.toList_append, Array.toList_map]
      exact List.take_left
    rw [e] at this
    exact this
  · exact (NewB.mod (w := w.drew) ⟨rfl, rfl⟩ _).ofDrew
/-- A builder that holds l; its bytes lie in what was made since w0. -/
def Bd (w0 w : World) (o : Nat) (l : List UInt8) : Prop := ∃ (s : Sl) (pa : Option Addr), Blk w o #[.pointer pa, .slice s.a s.l s.c] 55 ∧ (pa = none ∨ pa = some ⟨o, 0, none⟩) ∧ Row w s 5 1 (bv l) ∧ (s = ⟨none, 0, 0⟩ ∨ l ≠ []) ∧ (∀ k, s.blk = some k → w0.heap.size ≤ k)
/-- What a builder's calls may turn. -/
def Up (w0 : World) : Nat → Prop := fun k => w0.heap.size ≤ k
theorem Bd.mod {w0 w w' : World} {F : Nat → Prop} {o : Nat} {l : List UInt8} (h : Bd w0 w o l) (f : Frm F w w') (ho : ¬ F o) (hF : ∀ k, w0.heap.size ≤ k → ¬ F k) : Bd w0 w' o l := by
  obtain ⟨s, pa, hB, hp, hr, hn, hs⟩ := h
  exact ⟨s, pa, hB.mod f ho, hp, hr.mod f (fun k hk => hF k (hs k hk)), hn, hs⟩
theorem Bd.fn {w0 w w' : World} {o : Nat} {l : List UInt8} (h : Bd w0 w o l) (f : Frm none_ w w') : Bd w0 w' o l := h.mod f (fun h => h) (fun _ _ h => h)
theorem wstr_calls (w0 w : World) (o : Nat) (l : List UInt8) (x : ByteArray) (hx : 0 < x.size) (h : Bd w0 w o l) (h0 : w0.heap.size ≤ w.heap.size) (ho : w0.heap.size ≤ o) (hb : l.length + x.size ≤ 140737488355328) : Calls prog 26 #[.pointer (some ⟨o, 0, none⟩), .string x] w fun e w' =>
    e = .returned (.tuple #[.int .i64 (x.size : Int), .nilIface]) ∧ Bd w0 w' o (l ++ x.data.toList) ∧ ∃ s : Sl, (∀ k, s.blk = some k → w0.heap.size ≤ k) ∧ (∃ pa, Blk w o #[.pointer pa, .slice s.a s.l s.c] 55) ∧ Row w s 5 1 (bv l) ∧ Frm (fun k => k = o ∨ s.blk = some k) w w' := by
  refine callsRet (W26 (Q := fun v w' => v = .tuple #[.int .i64 (x.size : Int), .nilIface] ∧ Bd w0 w' o (l ++ x.data.toList) ∧ ∃ s : Sl, (∀ k, s.blk = some k → w0.heap.size ≤ k) ∧ (∃ pa, Blk w o #[.pointer pa, .slice s.a s.l s.c] 55) ∧ Row w s 5 1 (bv l) ∧ Frm (fun k => k = o ∨ s.blk = some k) w w') ?_) (fun v w' ⟨h, h'⟩ => ⟨by rw [h], h'⟩)
  unfold F26
  obtain ⟨s, pa, hB, hp, hr, hn, hs⟩ := h
  refine (check_calls w o pa _ hB hp).mono ?_
  rintro _ w1 ⟨rfl, hB1, f1⟩
  have hne : ∀ k, s.blk = some k → ¬ k = o := fun k hk e => hr.g.blkNeB hB.g (by decide) (by rw [hk, e])
  have hr1 := hr.mod f1 hne
  have hl : s.l = l.length := by have := hr.len; rw [bv_length] at this; omega
  have hxl : x.data.toList.length = x.size := Array.length_toList
  have hxne : l ++ x.data.toList ≠ [] := by
    intro e
    have h1 := (List.append_eq_nil_iff.1 e).2
    rw [h1] at hxl
    simp at hxl
    omega
  refine ⟨rfl, _, rfl, s, by rw [addr_add]; exact hB1.ld rfl, ?_⟩
  have fin : ∀ (t : Sl) (w2 : World), Row w2 t 5 1 (bv (l ++ x.data.toList)) → (∀ k, t.blk = some k → s.blk = some k ∨ k = w1.heap.size) → Frm (fun k => s.blk = some k) w1 w2 →
      ∃ p15, (some ⟨o, 0, none⟩ : Option Addr) = some p15 ∧ Wr w2 (p15.add 1) ∧ ∀ w3, w3 = w2.setCell (p15.add 1) (.slice t.a t.l t.c) → ((Value.tuple #[.int .i64 (x.size : Int), .nilIface]) = .tuple #[.int .i64 (x.size : Int), .nilIface] ∧ Bd w0 w3 o (l ++ x.data.toList) ∧ ∃ s : Sl, (∀ k, s.blk = some k → w0.heap.size ≤ k) ∧ (∃ pa, Blk w o #[.pointer pa, .slice s.a s.l s.c] 55) ∧ Row w s 5 1 (bv l) ∧ Frm (fun k => k = o ∨ s.blk = some k) w w3) := by
    intro t w2 hr2 ht f2
    have hB2 := hB1.mod f2 (fun hk => hne o hk rfl)
    refine ⟨_, rfl, by rw [addr_add]; exact hB2.wr (show 1 < 2 by decide), ?_⟩
    rintro w3 rfl
    rw [addr_add]
    have f3 : Frm (fun k => k = o) w2 (w2.setCell ⟨o, 0 + 1, none⟩ (.slice t.a t.l t.c)) := mod_setCell (a := ⟨o, 0 + 1, none⟩)
    have z1 := f1.size
    refine ⟨rfl, ⟨t, _, hB2.set 1 _, .inr rfl, hr2.mod f3 (fun k hk e => hr2.g.blkNeB hB2.g (by decide) (by rw [hk, e])), .inr hxne, ?_⟩, s, hs, ⟨pa, hB⟩, hr, ?_⟩
    · intro k hk
      rcases ht k hk with h | h
      · exact hs k h
      · omega
    · exact (f1.trans f2 (fun _ _ h => .inl h) (fun _ _ h => .inr h) (H := fun k => k = o ∨ s.blk = some k)).trans f3 (fun _ _ h => h) (fun _ _ h => .inl h)
  rcases hn with hnil | hnl
  · subst hnil
    have hl0 : l = [] := List.eq_nil_of_length_eq_zero hl.symm
    subst hl0
    refine runT_appendStrN st30 un9 x hx (by omega) ?_
    intro t w2 hr2 hl2 hb2 f2
    exact fin t w2 (by simpa using hr2) (fun k hk => by rw [hb2] at hk; simp at hk; exact .inr hk.symm) f2.none
  · have hsb : ∃ g, s.blk = some g := by
      rcases hr1.cases with ⟨rfl, e⟩ | ⟨g, _, ha, _⟩
      · have := congrArg List.length e; rw [bv_length] at this
        exact absurd (List.eq_nil_of_length_eq_zero (by simpa using this)) hnl
      · exact ⟨g, by simp [Sl.blk, ha]⟩
    refine runT_appendStr st30 un9 hr1 hsb x (by omega) ?_
    intro t w2 hr2 hl2 hn2 f2
    rw [← bv_append] at hr2
    exact fin t w2 hr2 (fun k hk => hn2.cases hk) f2
theorem wbyte_calls (w0 w : World) (o : Nat) (l : List UInt8) (c : UInt8) (h : Bd w0 w o l) (h0 : w0.heap.size ≤ w.heap.size) (ho : w0.heap.size ≤ o) (hb : l.length + 1 ≤ 140737488355328) : Calls prog 27 #[.pointer (some ⟨o, 0, none⟩), .int .u8 (c.toNat : Int)] w fun e w' =>
    e = .returned .nilIface ∧ Bd w0 w' o (l ++ [c]) ∧ ∃ s : Sl, (∀ k, s.blk = some k → w0.heap.size ≤ k) ∧ (∃ pa, Blk w o #[.pointer pa, .slice s.a s.l s.c] 55) ∧ Row w s 5 1 (bv l) ∧ Frm (fun k => k = o ∨ s.blk = some k) w w' := by
  refine callsRet (W27 (Q := fun v w' => v = .nilIface ∧ Bd w0 w' o (l ++ [c]) ∧ ∃ s : Sl, (∀ k, s.blk = some k → w0.heap.size ≤ k) ∧ (∃ pa, Blk w o #[.pointer pa, .slice s.a s.l s.c] 55) ∧ Row w s 5 1 (bv l) ∧ Frm (fun k => k = o ∨ s.blk = some k) w w') ?_) (fun v w' ⟨h, h'⟩ => ⟨by rw [h], h'⟩)
  unfold F27
  obtain ⟨s, pa, hB, hp, hr, hn, hs⟩ := h
  refine (check_calls w o pa _ hB hp).mono ?_
  rintro _ w1 ⟨rfl, hB1, f1⟩
  have hne : ∀ k, s.blk = some k → ¬ k = o := fun k hk e => hr.g.blkNeB hB.g (by decide) (by rw [hk, e])
  have hr1 := hr.mod f1 hne
  have hl : s.l = l.length := by have := hr.len; rw [bv_length] at this; omega
  refine ⟨rfl, _, rfl, s, by rw [addr_add]; exact hB1.ld rfl, ?_⟩
  refine runT_lit1 st30 (by decide) rfl ?_
  intro w1b hr1b f1b z1b
  have hr1' := hr1.mod f1b (fun _ _ h => h)
  refine runT_append st30 hr1' hr1b.has (by intro u hu; simp [Value.cells] at hu; subst hu; rfl) (by simp only; omega) (by simp only [maxLen]; omega) ?_
  intro t w2 hr2 hl2 hn2 f2
  have e2 : bv l ++ (Value.int .u8 (c.toNat : Int)).cells.toList = bv (l ++ [c]) := by rw [bv_append]; rfl
  rw [e2] at hr2
  have hB2 := (hB1.mod f1b (fun h => h)).mod f2 (fun hk => hne o hk rfl)
  refine ⟨_, rfl, by rw [addr_add]; exact hB2.wr (show 1 < 2 by decide), ?_⟩
  rintro w3 rfl
  rw [addr_add]
  have f3 : Frm (fun k => k = o) w2 (w2.setCell ⟨o, 0 + 1, none⟩ (.slice t.a t.l t.c)) := mod_setCell (a := ⟨o, 0 + 1, none⟩)
  have z1 := f1.size
  refine ⟨rfl, ⟨t, _, hB2.set 1 _, .inr rfl, hr2.mod f3 (fun k hk e => hr2.g.blkNeB hB2.g (by decide) (by rw [hk, e])), .inr (by simp), ?_⟩, s, hs, ⟨pa, hB⟩, hr, ?_⟩
  · intro k hk
    rcases hn2.cases hk with h | h
    · exact hs k h
    · omega
  · exact ((f1.trans f1b (fun _ _ h => .inl h) (fun _ _ h => h.elim) (H := fun k => k = o ∨ s.blk = some k)).trans f2 (fun _ _ h => h) (fun _ _ h => .inr h)).trans f3 (fun _ _ h => h) (fun _ _ h => .inl h)
theorem mod_freeze (w : World) (g n : Nat) : Frm (fun k => k = g) w (w.freeze ⟨g, 0, none⟩ n) := by
  unfold World.freeze
  split
  · exact Frm.refl _ _
  · refine ⟨rfl, rfl, rfl, by simp, fun b _ hb => ?_⟩
    simp only [Array.getElem?_modify]
    rw [if_neg (fun e => hb e.symm)]
theorem string_calls (w0 w : World) (o : Nat) (l : List UInt8) (h : Bd w0 w o l) : Calls prog 32 #[.pointer (some ⟨o, 0, none⟩)] w fun e w' =>
    e = .returned (.string (str l)) ∧ (∃ v pa, Blk w' o #[.pointer pa, v] 55) ∧ ∃ s : Sl, Row w s 5 1 (bv l) ∧ (∀ k, s.blk = some k → w0.heap.size ≤ k) ∧ Frm (fun k => s.blk = some k) w w' := by
  refine callsRet (W32 (Q := fun v w' => v = .string (str l) ∧ (∃ v pa, Blk w' o #[.pointer pa, v] 55) ∧ ∃ s : Sl, Row w s 5 1 (bv l) ∧ (∀ k, s.blk = some k → w0.heap.size ≤ k) ∧ Frm (fun k => s.blk = some k) w w') ?_) (fun v w' ⟨h, h'⟩ => ⟨by rw [h], h'⟩)
  unfold F32
  obtain ⟨s, pa, hB, hp, hr, hn, hs⟩ := h
  have hne : ∀ k, s.blk = some k → ¬ k = o := fun k hk e => hr.g.blkNeB hB.g (by decide) (by rw [hk, e])
  have hl : s.l = l.length := by have := hr.len; rw [bv_length] at this; omega
  have fd : Frm none_ w w.drew := (Frm.refl _ _).drew
  refine ⟨fun w' => Frm none_ w w', fd, _, rfl, s, fun w' f => by rw [addr_add]; exact (hB.mod f (fun h => h)).ld rfl, _, rfl, s, fun w' f => by rw [addr_add]; exact (hB.mod f (fun h => h)).ld rfl, ?_⟩
  by_cases hl0 : l = []
  · subst hl0
    have hs0 : s = ⟨none, 0, 0⟩ := hn.resolve_right (by simp)
    subst hs0
    unfold RunT
    rw [Lib.run_unsafeSliceData_nil]
    refine ⟨none, rfl, fd, ?_⟩
    have := Lib.run_unsafeString_none (P := prog) w.drew 66 3 9 none
    simp only
    rw [show (((0 : Nat) : Nat) : Int) = 0 from rfl, this]
    exact ⟨ByteArray.empty, rfl, rfl, ⟨_, pa, hB⟩, ⟨none, 0, 0⟩, hr, hs, fd.none⟩
  · rcases hr.cases with ⟨rfl, e⟩ | ⟨g, cur, ha, hBg, hlc, hcm, hcs, htake⟩
    · have := congrArg List.length e; rw [bv_length] at this
      exact absurd (List.eq_nil_of_length_eq_zero (by simpa using this)) hl0
    have hlp : 0 < l.length := by
      cases l with
      | nil => exact absurd rfl hl0
      | cons => simp
    have hsg : s.blk = some g := by simp [Sl.blk, ha]
    have hBg' : w.drew.heap[g]? = some (.cells cur 5 (0, 0)) := hBg
    have hUS := Lib.run_unsafeString_row (P := prog) w.drew 66 3 9 5 un66 ce5 g cur.size (by unfold World.shape?; rw [hBg']) l hl0 (by omega) (by simp only [maxLen] at hcm; omega) (by
      intro j x hx
      obtain ⟨a, ha', hc⟩ := hr.has.get j (.int .u8 (x.toNat : Int)) (by simp [bv, hx])
      rw [ha] at ha'; cases ha'; exact hc)
    unfold RunT
    rw [ha, Lib.run_unsafeSliceData_row _ _ _ _ _ _ (by omega)]
    refine ⟨some ⟨g, 0, none⟩, rfl, fd, ?_⟩
    rw [hl, hUS]
    have ff := mod_freeze w.drew g l.length
    exact ⟨str l, rfl, rfl, ⟨_, pa, hB.mod (fd.none.trans ff (fun _ _ h => h) (fun _ _ h => h) (H := fun k => k = g)) (fun e => hne g hsg e.symm)⟩, s, hr, hs, (fd.none (F := fun k => s.blk = some k)).trans ff (fun _ _ h => h) (fun k _ hk => by have hk : k = g := hk; subst hk; exact hsg)⟩
theorem reset_calls (w : World) (o : Nat) (pa : Option Addr) (v : Value) (h : Blk w o #[.pointer pa, v] 55) : Calls prog 33 #[.pointer (some ⟨o, 0, none⟩)] w fun e w' => e = .returned (.tuple #[]) ∧ Blk w' o #[.pointer none, .slice none 0 0] 55 ∧ Frm (fun k => k = o) w w' := by
  refine callsRet (W33 (Q := fun v w' => v = .tuple #[] ∧ Blk w' o #[.pointer none, .slice none 0 0] 55 ∧ Frm (fun k => k = o) w w') ?_) (fun v w' ⟨h, h'⟩ => ⟨by rw [h], h'⟩)
  unfold F33
  refine ⟨_, rfl, by rw [addr_add]; exact h.wr (show 0 < 2 by decide), ?_⟩
  rintro w1 rfl
  rw [addr_add]
  have h1 := h.set 0 (.pointer none)
  refine ⟨_, rfl, by rw [addr_add]; exact h1.wr (show 1 < 2 by decide), ?_⟩
  rintro w2 rfl
  rw [addr_add]
  exact ⟨rfl, h1.set 1 _, (mod_setCell (a := ⟨o, 0 + 0, none⟩)).trans (mod_setCell (a := ⟨o, 0 + 1, none⟩)) (fun _ _ h => h) (fun _ _ h => h)⟩
theorem take_calls (w0 w : World) (o : Nat) (l : List UInt8) (h : Bd w0 w o l) : Calls prog 28 #[.pointer (some ⟨o, 0, none⟩)] w fun e w' =>
    e = .returned (.string (str l)) ∧ Blk w' o #[.pointer none, .slice none 0 0] 55 ∧ ∃ s : Sl, Row w s 5 1 (bv l) ∧ (∀ k, s.blk = some k → w0.heap.size ≤ k) ∧ Frm (fun k => k = o ∨ s.blk = some k) w w' := by
  refine callsRet (W28 (Q := fun v w' => v = .string (str l) ∧ Blk w' o #[.pointer none, .slice none 0 0] 55 ∧ ∃ s : Sl, Row w s 5 1 (bv l) ∧ (∀ k, s.blk = some k → w0.heap.size ≤ k) ∧ Frm (fun k => k = o ∨ s.blk = some k) w w') ?_) (fun v w' ⟨h, h'⟩ => ⟨by rw [h], h'⟩)
  unfold F28
  refine ⟨_, rfl, ?_⟩
  rw [addr_add]
  refine (string_calls w0 w o l h).mono ?_
  rintro _ w1 ⟨rfl, ⟨v, pa, hB⟩, s, hr, hs, f1⟩
  refine ⟨_, rfl, _, rfl, ?_⟩
  rw [addr_add]
  refine (reset_calls w1 o pa v hB).mono ?_
  rintro _ w2 ⟨rfl, hB2, f2⟩
  exact ⟨rfl, rfl, hB2, s, hr, hs, f1.trans f2 (fun _ _ h => .inr h) (fun _ _ h => .inl h)⟩
theorem ext_list (s : ByteArray) (a b : Nat) : (s.extract a b).data.toList = (s.data.toList.drop a).take (b - a) := by
  rw [ByteArray.data_extract, Array.toList_extract, List.extract_eq_take_drop]
theorem pre_take (x y : ByteArray) (h : y.size ≤ x.size) : ((x.extract 0 y.size).toList == y.toList) = y.data.toList.isPrefixOf x.data.toList := by
  have hy : y.data.toList.length = y.size := Array.length_toList
  rw [Bool.eq_iff_iff, str_eqIff, List.isPrefixOf_iff_prefix, List.prefix_iff_eq_take]
  have e := ext_list x 0 y.size
  rw [List.drop_zero, Nat.sub_zero] at e
  rw [hy, ← e]
  constructor
  · intro h; rw [h]
  · intro h
    have h1 := congrArg str h.symm
    rwa [str_list, str_list] at h1
theorem pre_short (x y : ByteArray) (h : ¬ y.size ≤ x.size) : y.data.toList.isPrefixOf x.data.toList = false := by
  have hy : y.data.toList.length = y.size := Array.length_toList
  have hx : x.data.toList.length = x.size := Array.length_toList
  cases hb : y.data.toList.isPrefixOf x.data.toList
  · rfl
  · have := (List.isPrefixOf_iff_prefix.1 hb).length_le; omega
theorem hasp_calls (w : World) (x y : ByteArray) : Calls prog 25 #[.string x, .string y] w fun e w' => e = .returned (.bool (y.data.toList.isPrefixOf x.data.toList)) ∧ w = w' := by
  have h30 : Calls prog 30 #[.string x, .string y] w fun e w' => e = .returned (.bool (y.data.toList.isPrefixOf x.data.toList)) ∧ w = w' := by
    refine callsRet (W30 (Q := fun v w' => v = .bool (y.data.toList.isPrefixOf x.data.toList) ∧ w = w') ?_) (fun v w' ⟨h, h'⟩ => ⟨by rw [h], h'⟩)
    unfold F30
    refine IfB.intro (fun h => ?_) (fun h => ?_)
    · have h := of_decide_eq_true h
      refine ⟨⟨by omega, by omega⟩, ?_, rfl⟩
      rw [Int.toNat_natCast, pre_take x y (by omega)]
    · have h := of_decide_eq_false h
      exact ⟨by rw [pre_short x y (by omega)], rfl⟩
  refine callsRet (W25 (Q := fun v w' => v = .bool (y.data.toList.isPrefixOf x.data.toList) ∧ w = w') ?_) (fun v w' ⟨h, h'⟩ => ⟨by rw [h], h'⟩)
  unfold F25
  refine h30.mono ?_
  rintro _ _ ⟨rfl, rfl⟩
  exact ⟨_, rfl, rfl, rfl⟩
theorem begins_calls (w : World) (x y : ByteArray) : Calls prog 22 #[.string x, .string y] w fun e w' => e = .returned (.bool (y.data.toList.isPrefixOf x.data.toList)) ∧ w = w' := by
  refine callsRet (W22 (Q := fun v w' => v = .bool (y.data.toList.isPrefixOf x.data.toList) ∧ w = w') ?_) (fun v w' ⟨h, h'⟩ => ⟨by rw [h], h'⟩)
  unfold F22
  refine IfB.intro (fun h => ?_) (fun h => ?_)
  · have h := of_decide_eq_true h
    refine ⟨⟨by omega, by omega⟩, ?_, rfl⟩
    rw [Int.toNat_natCast, pre_take x y (by omega)]
  · have h := of_decide_eq_false h
    exact ⟨by rw [pre_short x y (by omega)], rfl⟩
end Go.Proofs.Ytcnjopheoeeggaa
