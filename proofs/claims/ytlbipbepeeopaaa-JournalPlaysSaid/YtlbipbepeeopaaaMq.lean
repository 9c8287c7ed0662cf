/- Maps of ints to strings: looking up, writing, ranging. -/
import Derived.Test.YtlbipbepeeopaaaCuts
set_option linter.unusedVariables false
set_option linter.unusedSimpArgs false
set_option maxRecDepth 20000
namespace Go.Proofs.Ytlbipbepeeopaaa
open Go Go.Proofs.YtlbipbepeeopaaaV
abbrev Ent := Int × ByteArray × Nat
def mkE (e : Ent) : MapEntry := ⟨.int .i64 e.1, .string e.2.1, e.2.2⟩
def lk : List Ent → Int → Option ByteArray
  | [], _ => none
  | e :: r, i => if e.1 = i then some e.2.1 else lk r i
def fI : List Ent → Int → Nat → Option (Nat × ByteArray)
  | [], _, _ => none
  | e :: r, k, i => if e.1 = k then some (i, e.2.1) else fI r k (i + 1)
def putL : List Ent → Int → ByteArray → Nat → List Ent
  | [], k, s, c => [(k, s, c)]
  | e :: r, k, s, c => if e.1 = k then (k, s, e.2.2) :: r else e :: putL r k s c
theorem intKeys_mk (l : List Ent) : IntKeys (l.map mkE) := fun e he => by obtain ⟨x, _, rfl⟩ := List.mem_map.1 he; exact ⟨_, rfl⟩
theorem findI_mk (k : Int) : ∀ (l : List Ent) (i : Nat), findI k (l.map mkE) i = (fI l k i).map fun p => (p.1, Value.string p.2)
  | [], i => rfl
  | e :: r, i => by
    rw [List.map_cons, findI, fI]
    simp only [mkE]
    by_cases h : e.1 = k
    · simp [h]
    · simp only [if_neg h]
      exact findI_mk k r (i + 1)
theorem lk_fI (k : Int) : ∀ (l : List Ent) (i : Nat), lk l k = (fI l k i).map (·.2)
  | [], i => rfl
  | e :: r, i => by
    rw [lk, fI]
    by_cases h : e.1 = k
    · simp [h]
    · simp only [if_neg h]
      exact lk_fI k r (i + 1)
theorem lk_putL (k : Int) (s : ByteArray) (c : Nat) (i : Int) : ∀ l, lk (putL l k s c) i = if i = k then some s else lk l i
  | [] => by
    rw [putL, lk, lk]
    by_cases h : i = k
    · simp [h]
    · simp [h, Ne.symm h, lk]
  | e :: r => by
    rw [putL]
    by_cases h : e.1 = k
    · rw [if_pos h, lk, lk]
      by_cases hi : i = k
      · simp [hi]
      · rw [if_neg (fun h => hi h.symm), if_neg hi, h, if_neg (fun h => hi h.symm)]
    · rw [if_neg h, lk, lk, lk_putL k s c i r]
      by_cases hi : i = k
      · subst hi
        simp [h]
      · simp [hi]
theorem lk_none {l : List Ent} {k : Int} : lk l k = none ↔ k ∉ l.map (·.1) := by
  induction l with
  | nil => simp [lk]
  | cons e r ih =>
    rw [lk]
    by_cases h : e.1 = k
    · simp [h]
    · rw [if_neg h, ih]
      simp [Ne.symm h]
theorem lk_mem {l : List Ent} (hn : (l.map (·.1)).Nodup) {e : Ent} (he : e ∈ l) : lk l e.1 = some e.2.1 := by
  induction l with
  | nil => simp at he
  | cons x r ih =>
    rw [List.map_cons, List.nodup_cons] at hn
    rw [lk]
    rcases List.mem_cons.1 he with rfl | he
    · rw [if_pos rfl]
    · rw [if_neg (fun h => hn.1 (by rw [h]; exact List.mem_map_of_mem he))]
      exact ih hn.2 he
theorem lk_some {l : List Ent} {k : Int} {s : ByteArray} (h : lk l k = some s) : ∃ e ∈ l, e.1 = k ∧ e.2.1 = s := by
  induction l with
  | nil => simp [lk] at h
  | cons e r ih =>
    rw [lk] at h
    by_cases hk : e.1 = k
    · rw [if_pos hk] at h
      exact ⟨e, by simp, hk, Option.some.inj h⟩
    · rw [if_neg hk] at h
      obtain ⟨x, h1, h2⟩ := ih h
      exact ⟨x, by simp [h1], h2⟩
theorem putL_key (k : Int) (s : ByteArray) (c : Nat) : ∀ l, (putL l k s c).map (·.1) = if k ∈ l.map (·.1) then l.map (·.1) else l.map (·.1) ++ [k]
  | [] => by simp [putL]
  | e :: r => by
    rw [putL]
    by_cases h : e.1 = k
    · rw [if_pos h]
      simp [h]
    · rw [if_neg h, List.map_cons, putL_key k s c r]
      by_cases h2 : k ∈ r.map (·.1)
      · rw [if_pos h2, if_pos (by simp only [List.map_cons]; exact List.mem_cons_of_mem _ h2)]
        rfl
      · rw [if_neg h2, if_neg (by simp only [List.map_cons, List.mem_cons]; exact fun h3 => h3.elim (fun h4 => h h4.symm) h2)]
        rfl
theorem putL_born (k : Int) (s : ByteArray) (c : Nat) : ∀ l, (putL l k s c).map (·.2.2) = if k ∈ l.map (·.1) then l.map (·.2.2) else l.map (·.2.2) ++ [c]
  | [] => by simp [putL]
  | e :: r => by
    rw [putL]
    by_cases h : e.1 = k
    · rw [if_pos h]
      simp [h]
    · rw [if_neg h, List.map_cons, putL_born k s c r]
      by_cases h2 : k ∈ r.map (·.1)
      · rw [if_pos h2, if_pos (by simp only [List.map_cons]; exact List.mem_cons_of_mem _ h2)]
        rfl
      · rw [if_neg h2, if_neg (by simp only [List.map_cons, List.mem_cons]; exact fun h3 => h3.elim (fun h4 => h h4.symm) h2)]
        rfl
/-- A map of ints to strings, in the block m. -/
structure SMap (w : World) (m : Nat) (l : List Ent) : Prop where
  ex : ∃ clock, w.heap[m]? = some (.map (l.map mkE).toArray clock) ∧ ∀ b ∈ l.map (·.2.2), b < clock
  kn : (l.map (·.1)).Nodup
  bn : (l.map (·.2.2)).Nodup
theorem SMap.lt {w : World} {m : Nat} {l : List Ent} (h : SMap w m l) : m < w.heap.size := by
  obtain ⟨c, h, _⟩ := h.ex
  exact (Array.getElem?_eq_some_iff.1 h).1
theorem SMap.mod {F : Nat → Prop} {w w' : World} {m : Nat} {l : List Ent} (h : SMap w m l) (hm : Frm F w w') (hn : ¬ F m) : SMap w' m l :=
  ⟨by rw [hm.same m h.lt hn]; exact h.ex, h.kn, h.bn⟩
theorem SMap.new {w : World} {K : Value → World → Prop} (hk : ∀ w', SMap w' w.heap.size [] → Frm none_ w w' → w'.heap.size = w.heap.size + 1 → K (.map (some w.heap.size)) w') :
    RunT prog .val (Instr.makeMap 77 none) w K :=
  runT_makeMap fun w' h hf hs => hk w' ⟨⟨0, by simpa using h, by simp⟩, by simp, by simp⟩ hf hs
theorem SMap.look {w : World} {m : Nat} {l : List Ent} (h : SMap w m l) (k : Int) {K : Value → World → Prop} (hk : K (.tuple #[.string ((lk l k).getD ⟨#[]⟩), .bool (lk l k).isSome]) w) :
    RunT prog .val (Instr.lookup 77 (.map (some m)) (.int .i64 k) true) w K := by
  obtain ⟨c, hb, _⟩ := h.ex
  have hf := MapKept.run_findKey (P := prog) (w := w) (kt := 3) un3 (findNow_int k (l.map mkE) 0 (intKeys_mk l))
  rw [findI_mk] at hf
  have hg := MapKept.run_getObj_map (P := prog) hb
  unfold RunT
  have hr : (Instr.lookup 77 (.map (some m)) (.int .i64 k) true).run prog w = .ok (.tuple #[.string ((lk l k).getD ⟨#[]⟩), .bool (lk l k).isSome]) w := by
    simp only [Instr.lookup, Sem.run_bind, run_underlying un77, Result.andThen_ok, hg, Sem.run_pure, checkKey_int, List.toList_toArray, hf]
    rw [lk_fI k l 0]
    cases fI l k 0 with
    | none => simp [zero9]
    | some p => simp
  rw [hr]
  exact ⟨_, rfl, hk⟩
theorem fI_modify (k : Int) (s : ByteArray) (c : Nat) : ∀ (l : List Ent) (i0 i : Nat) (v : ByteArray), fI l k i0 = some (i, v) → i0 ≤ i ∧ i - i0 < l.length ∧ (l.map mkE).modify (i - i0) (fun e => { e with key := .int .i64 k, val := .string s }) = (putL l k s c).map mkE ∧ (((l.map mkE)[i - i0]?).map (·.key)).getD (.int .i64 k) = .int .i64 k
  | [], i0, i, v, h => by simp [fI] at h
  | e :: r, i0, i, v, h => by
    rw [fI] at h
    by_cases hk : e.1 = k
    · rw [if_pos hk] at h
      simp only [Option.some.injEq, Prod.mk.injEq] at h
      obtain ⟨rfl, rfl⟩ := h
      refine ⟨Nat.le_refl _, by simp, ?_, ?_⟩
      · rw [Nat.sub_self, putL, if_pos hk]
        simp [mkE]
      · rw [Nat.sub_self]; simp [mkE, hk]
    · rw [if_neg hk] at h
      obtain ⟨h1, h2, h3, h4⟩ := fI_modify k s c r (i0 + 1) i v h
      have e1 : i - i0 = (i - (i0 + 1)) + 1 := by omega
      refine ⟨by omega, by rw [List.length_cons]; omega, ?_, ?_⟩
      · rw [e1, putL, if_neg hk, List.map_cons, List.modify_succ_cons, h3, List.map_cons]
      · rw [e1, List.map_cons, List.getElem?_cons_succ]; exact h4
theorem putL_new {l : List Ent} {k : Int} (h : lk l k = none) (s : ByteArray) (c : Nat) : putL l k s c = l ++ [(k, s, c)] := by
  induction l with
  | nil => rfl
  | cons e r ih =>
    rw [lk] at h
    by_cases hk : e.1 = k
    · rw [if_pos hk] at h; cases h
    · rw [if_neg hk] at h
      rw [putL, if_neg hk, ih h]; rfl
theorem SMap.put {w : World} {m : Nat} {l : List Ent} (h : SMap w m l) (k : Int) (s : ByteArray) {K : World → Prop} (hk : ∀ w' l', SMap w' m l' → (∀ i, lk l' i = if i = k then some s else lk l i) → Frm (fun j => j = m) w w' → w'.heap.size = w.heap.size → K w') :
    RunU prog (Instr.mapUpdate 77 (.map (some m)) (.int .i64 k) (.string s)) w K := by
  obtain ⟨c, hb, hc⟩ := h.ex
  have hlt := h.lt
  have hf := MapKept.run_findKey (P := prog) (w := w) (kt := 3) un3 (findNow_int k (l.map mkE) 0 (intKeys_mk l))
  rw [findI_mk] at hf
  have hg := MapKept.run_getObj_map (P := prog) hb
  have hset : ∀ (es : Array MapEntry) (c' : Nat), (setObj m (.map es c')).run prog w = .ok () (ChangeMaps.setBlock w m (.map es c')) := fun es c' => by simp [setObj, Sem.run, hb, ChangeMaps.setBlock]
  have hat : ∀ (o : Obj), (ChangeMaps.setBlock w m o).heap[m]? = some o := fun o => by unfold ChangeMaps.setBlock; simp [hlt]
  have hss : ∀ (o : Obj), (ChangeMaps.setBlock w m o).heap.size = w.heap.size := fun o => by unfold ChangeMaps.setBlock; simp
  unfold RunU
  cases hi : fI l k 0 with
  | none =>
    have hln : lk l k = none := by rw [lk_fI k l 0, hi]; rfl
    have hkn := lk_none.1 hln
    rw [hi] at hf
    have hr : (Instr.mapUpdate 77 (.map (some m)) (.int .i64 k) (.string s)).run prog w = .ok () (ChangeMaps.setBlock w m (.map (((l.map mkE).toArray).push ⟨.int .i64 k, .string s, c⟩) (c + 1))) := by
      simp only [Instr.mapUpdate, Sem.run_bind, run_underlying un77, Result.andThen_ok, hg, Sem.run_pure, checkKey_int, List.toList_toArray, hf, Option.map_none, hset]
    rw [hr]
    have e : ((l.map mkE).toArray).push ⟨.int .i64 k, .string s, c⟩ = ((putL l k s c).map mkE).toArray := by
      rw [putL_new hln, List.map_append, List.push_toArray]; rfl
    rw [e]
    refine hk _ (putL l k s c) ⟨⟨c + 1, hat _, ?_⟩, ?_, ?_⟩ (fun i => lk_putL k s c i l) (setBlock_mod w m _) (hss _)
    · intro b hb'
      rw [putL_born, if_neg hkn] at hb'
      rcases List.mem_append.1 hb' with h' | h'
      · have := hc b h'; omega
      · rw [List.mem_singleton] at h'; omega
    · rw [putL_key, if_neg hkn, List.nodup_append]
      refine ⟨h.kn, by simp, fun a ha b hb' hab => ?_⟩
      rw [List.mem_singleton] at hb'
      subst hab hb'
      exact hkn ha
    · rw [putL_born, if_neg hkn, List.nodup_append]
      refine ⟨h.bn, by simp, fun a ha b hb' hab => ?_⟩
      rw [List.mem_singleton] at hb'
      have := hc a ha
      omega
  | some p =>
    obtain ⟨i, v⟩ := p
    rw [hi] at hf
    obtain ⟨_, h2, h3, h4⟩ := fI_modify k s c l 0 i v hi
    rw [Nat.sub_zero] at h2 h3 h4
    have hkn : k ∈ l.map (·.1) := by
      apply Decidable.byContradiction
      intro hc
      have := lk_none.2 hc
      rw [lk_fI k l 0, hi] at this
      cases this
    have hr : (Instr.mapUpdate 77 (.map (some m)) (.int .i64 k) (.string s)).run prog w = .ok () (ChangeMaps.setBlock w m (.map ((putL l k s c).map mkE).toArray c)) := by
      have hks : (Instr.keyThatStays (.int .i64 k) (.int .i64 k)).run prog w = .ok (.int .i64 k) w := by
        have : Instr.sameBits 10000 (.int .i64 k) (.int .i64 k) = true := by simp [Instr.sameBits]
        unfold Instr.keyThatStays
        rw [if_pos this]; rfl
      have hgk : (((l.map mkE).toArray[i]?).map (·.key)).getD (.int .i64 k) = .int .i64 k := by simpa using h4
      have hmd : ((l.map mkE).toArray).modify i (fun e => { e with key := .int .i64 k, val := .string s }) = ((putL l k s c).map mkE).toArray := by
        rw [← h3]; simp
      simp only [Instr.mapUpdate, Sem.run_bind, run_underlying un77, Result.andThen_ok, hg, Sem.run_pure, checkKey_int, List.toList_toArray, hf, Option.map_some, hgk, hks, hmd, hset]
    rw [hr]
    refine hk _ (putL l k s c) ⟨⟨c, hat _, ?_⟩, ?_, ?_⟩ (fun i => lk_putL k s c i l) (setBlock_mod w m _) (hss _)
    · rw [putL_born, if_pos hkn]; exact hc
    · rw [putL_key, if_pos hkn]; exact h.kn
    · rw [putL_born, if_pos hkn]; exact h.bn
/-- An iterator, in the block r, over the map in the block m; it has told the entries of these stamps. -/
structure Iter (w : World) (r m : Nat) (l : List Ent) (seen : Array Nat) : Prop where
  ex : ∃ since c0 clock, w.heap[r]? = some (.mapIter (some m) since seen c0) ∧ w.heap[m]? = some (.map (l.map mkE).toArray clock) ∧ (∀ b ∈ l.map (·.2.2), b < since) ∧ since ≤ c0 ∧ since ≤ clock
def left (l : List Ent) (seen : Array Nat) : Nat := (leftOf (l.map mkE).toArray seen).size
theorem Iter.lt {w : World} {r m : Nat} {l : List Ent} {seen : Array Nat} (h : Iter w r m l seen) : r < w.heap.size ∧ m < w.heap.size := by
  obtain ⟨_, _, _, h1, h2, _⟩ := h.ex
  exact ⟨(Array.getElem?_eq_some_iff.1 h1).1, (Array.getElem?_eq_some_iff.1 h2).1⟩
theorem Iter.mod {F : Nat → Prop} {w w' : World} {r m : Nat} {l : List Ent} {seen : Array Nat} (h : Iter w r m l seen) (hm : Frm F w w') (hr : ¬ F r) (hb : ¬ F m) : Iter w' r m l seen := by
  have hl := h.lt
  exact ⟨by rw [hm.same r hl.1 hr, hm.same m hl.2 hb]; exact h.ex⟩
theorem SMap.range {w : World} {m : Nat} {l : List Ent} (h : SMap w m l) {K : Value → World → Prop} (hk : ∀ w', Iter w' w.heap.size m l #[] → Frm none_ w w' → w'.heap.size = w.heap.size + 1 → K (.pointer (some ⟨w.heap.size, 0, none⟩)) w') :
    RunT prog .val (Instr.range 77 (.map (some m))) w K := by
  obtain ⟨c, hb, hc⟩ := h.ex
  have hlt := h.lt
  unfold RunT
  rw [run_range_map (P := prog) w 77 3 9 m _ c un77 hb]
  refine ⟨_, rfl, hk _ ⟨c, c, c, Go.heap_alloc_new w _, ?_, hc, Nat.le_refl _, Nat.le_refl _⟩ (NewB.mod ⟨rfl, rfl⟩ none_) (by simp)⟩
  rw [Go.heap_alloc_old w _ hlt]
  exact hb
theorem Iter.next {w : World} {r m : Nat} {l : List Ent} {seen : Array Nat} (h : Iter w r m l seen) (hn : (l.map (·.2.2)).Nodup) {K : Value → World → Prop} (hdone : (∀ e ∈ l, seen.contains e.2.2 = true) → K (.tuple #[.bool false]) w)
    (hmore : ∀ e ∈ l, ∀ w', Iter w' r m l (seen.push e.2.2) → Frm (fun k => k = r) w w' → left l (seen.push e.2.2) < left l seen →
      (Instr.entry (.pointer (some ⟨r, 0, none⟩))).run prog w' = .ok (.tuple #[.int .i64 e.1, .string e.2.1]) w' → K (.tuple #[.bool true, .int .i64 e.1, .string e.2.1]) w') :
    RunT prog .val (Instr.next (.pointer (some ⟨r, 0, none⟩)) false 0) w K := by
  obtain ⟨since, c0, clock, hr, hb, hs, h1, h2⟩ := h.ex
  have hlt := h.lt
  have hold : ∀ x ∈ ((l.map mkE).toArray).toList, x.born < since := by
    intro x hx
    rw [List.toList_toArray] at hx
    obtain ⟨e, he, rfl⟩ := List.mem_map.1 hx
    exact hs _ (List.mem_map_of_mem he)
  have hnd : ((((l.map mkE).toArray).toList).map (·.born)).Nodup := by
    rw [List.toList_toArray, List.map_map]
    exact hn
  have hrm : m ≠ r := by
    rintro rfl
    rw [hr] at hb
    cases hb
  unfold RunT
  rcases run_next_at (P := prog) w 0 r m since c0 seen _ clock hr hb hold h1 with ⟨h0, hrun⟩ | ⟨x, hx, w1, hw1, hrun⟩
  · rw [hrun]
    refine ⟨_, rfl, hdone fun e he => ?_⟩
    have := all_seen _ seen h0 (mkE e) (by rw [List.toList_toArray]; exact List.mem_map_of_mem he)
    exact this
  · rw [hrun]
    have hxl := (mem_left hx).1
    rw [List.toList_toArray] at hxl
    obtain ⟨e, he, rfl⟩ := List.mem_map.1 hxl
    have hlt1 : r < w1.heap.size ∧ w1.heap[m]? = some (.map (l.map mkE).toArray clock) := by
      rcases hw1 with rfl | rfl
      · exact ⟨hlt.1, hb⟩
      · exact ⟨hlt.1, hb⟩
    have hF : Frm (fun k => k = r) w (ChangeMaps.setBlock w1 r (.mapIter (some m) since (seen.push (mkE e).born) clock)) := by
      have := setBlock_mod w1 r (.mapIter (some m) since (seen.push (mkE e).born) clock)
      rcases hw1 with rfl | rfl
      · exact this
      · exact this.ofDrew
    have hr2 : (ChangeMaps.setBlock w1 r (.mapIter (some m) since (seen.push (mkE e).born) clock)).heap[r]? = some (.mapIter (some m) since (seen.push (mkE e).born) clock) := by
      unfold ChangeMaps.setBlock; simp [hlt1.1]
    have hb2 : (ChangeMaps.setBlock w1 r (.mapIter (some m) since (seen.push (mkE e).born) clock)).heap[m]? = some (.map (l.map mkE).toArray clock) := by
      unfold ChangeMaps.setBlock
      simp only [Array.getElem?_setIfInBounds_ne (Ne.symm hrm)]
      exact hlt1.2
    refine ⟨_, rfl, hmore e he _ ⟨since, clock, clock, hr2, hb2, hs, h2, h2⟩ hF ?_ ?_⟩
    · exact left_shrinks _ seen (mkE e) hx
    · exact run_entry_at (P := prog) _ r m since seen _ clock (mkE e) hr2 hb2 (by rw [List.toList_toArray]; exact List.mem_map_of_mem he) hnd
theorem runT_entry {w : World} {r : Nat} {k v : Value} (h : (Instr.entry (.pointer (some ⟨r, 0, none⟩))).run prog w = .ok (.tuple #[k, v]) w) {K : Value → World → Prop} (hk : K (.tuple #[k, v]) w) : RunT prog .val (Instr.entry (.pointer (some ⟨r, 0, none⟩))) w K := by
  unfold RunT
  rw [h]
  exact ⟨_, rfl, hk⟩
end Go.Proofs.Ytlbipbepeeopaaa
