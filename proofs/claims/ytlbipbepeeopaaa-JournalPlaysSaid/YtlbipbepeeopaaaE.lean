/- More memory words: literals of several elements, bytes of a text, a slice turned to its own type. -/
import Derived.Test.YtlbipbepeeopaaaD
import Derived.Lib.ConvBytes
import Derived.Laws.IdiomStrings
import Derived.Laws.CopyRow
set_option linter.unusedVariables false
set_option linter.unusedSimpArgs false
namespace Go.Proofs.YtlbipbepeeopaaaV
open Go
section
variable {P : Program}
/-- A literal of n elements; its cells are told by the filling itself. -/
theorem runT_lit {t E : TypeId} {sz bytes : Nat} {z : Value} (T : SlT P t E sz bytes z) {n : Nat} {parts : Array (Nat × Value)} {cells : Array Value} (hn : 0 < n) (hbig : n * sz ≤ 16777216)
    (hf : Instr.fill (fun i => some (i * sz, sz)) ((Array.range (n * sz)).map fun j => z.cells[j % z.cells.size]!) parts.toList = some cells) (hcs : cells.size = n * sz) {w : World} {K : Sl → World → Prop}
    (hk : ∀ w', Row w' ⟨some ⟨w.heap.size, 0, Option.none⟩, n, n⟩ E sz cells.toList → Frm none_ w w' → w'.heap.size = w.heap.size + 1 → K ⟨some ⟨w.heap.size, 0, Option.none⟩, n, n⟩ w') :
    RunT P .slice (Instr.buildSlice t n parts) w K := by
  obtain ⟨i, hi, hz, hsz, hby⟩ := T.info
  unfold RunT
  have hp := T.pos
  have hr : (Instr.buildSlice t n parts).run P w = .ok (.slice (some ⟨w.heap.size, 0, Option.none⟩) n n) (w.alloc (.cells cells E)) := by
    have hne : ¬ n * sz > 2 ^ 24 := by omega
    have hne0 : ¬ n * sz = 0 := by
      intro h
      rcases Nat.mul_eq_zero.1 h with h | h <;> omega
    simp only [Instr.buildSlice, Sem.run_bind, run_underlying T.und, Result.andThen_ok, run_size hi, hsz]
    rw [if_neg hne, if_neg hne0]
    have hzv : (zeroValue E).run P w = .ok z w := by simp [zeroValue, typeInfo, Sem.run_bind, hi, hz]
    simp only [Sem.run_bind, hzv, Sem.run_pure, Result.andThen_ok, hf]
    rw [run_new]
    rfl
  rw [hr]
  have hnz : n ≤ n * sz := Nat.le_mul_of_pos_right n hp
  refine ⟨⟨some ⟨w.heap.size, 0, Option.none⟩, n, n⟩, rfl, hk _ ?_ ?_ (by simp)⟩
  · have hB : Blk (w.alloc (.cells cells E)) w.heap.size cells E := heap_alloc_new w _
    have := Row.mk (n := n) hB (Nat.le_refl n) (by simp only [maxLen]; omega) hcs
    rwa [List.take_of_length_le (by simp [hcs])] at this
  · exact NewB.mod ⟨rfl, rfl⟩ none_
/-- []byte(s) -/
theorem runT_bytes {src dst e : TypeId} (hs : P.underlying src = some .string) (hd : P.underlying dst = some (.slice e)) (he : P.underlying e = some (.int .u8)) {w : World} {s : ByteArray} {K : Sl → World → Prop}
    (hk : ∀ w' c, Has w' ⟨some ⟨w.heap.size, 0, Option.none⟩, s.size, c⟩ 1 (bv s.data.toList) → s.size ≤ c → Frm none_ w w' → w'.heap.size = w.heap.size + 1 → K ⟨some ⟨w.heap.size, 0, Option.none⟩, s.size, c⟩ w') :
    RunT P .slice (convert src dst (.string s)) w K := by
  unfold RunT
  rw [Lib.run_convert_string_bytes (P := P) w src dst e s hs hd he]
  refine ⟨⟨some ⟨w.heap.size, 0, Option.none⟩, s.size, grownCap w s.size 0 e⟩, rfl, hk _ _ ⟨?_, ?_⟩ (grownCap_ge w s.size 0 e) ⟨rfl, rfl, rfl, ?_, ?_⟩ (Lib.bytesWorld_size _ _ _)⟩
  · rw [bv_length, Nat.mul_one]; exact Array.length_toList
  · intro j u hu
    have hj : j < s.size := by
      have := (List.getElem?_eq_some_iff.1 hu).1
      rw [bv_length, Array.length_toList] at this
      exact this
    refine ⟨_, rfl, ?_⟩
    rw [addr_add, Nat.zero_add, Lib.bytesWorld_cell w e s j hj]
    rw [← hu]
    have hj' : j < s.data.toList.length := by rw [Array.length_toList]; exact hj
    simp [bv, List.getElem?_map, List.getElem?_eq_getElem hj']
  · rw [Lib.bytesWorld_size]; omega
  · intro b hb _; exact Lib.bytesWorld_at_old w e s b hb
end
/-- Bytes of a constant text: the literal's row is marked; no cell of it turns. -/
theorem runT_mark {P : Program} {t e : TypeId} (ht : P.underlying t = some (.slice e)) (he : P.underlying e = some (.int .u8)) {w : World} {g l c : Nat} {cur : Array Value} {E : TypeId} (hB : Blk w g cur E) {K : Sl → World → Prop}
    (hk : ∀ w', (∀ a, w'.cell? a = w.cell? a) → Frm (fun b => b = g) w w' → w'.heap.size = w.heap.size → K ⟨some ⟨g, 0, Option.none⟩, l, c⟩ w') :
    RunT P .slice (convert t t (.slice (some ⟨g, 0, Option.none⟩) l c)) w K := by
  unfold RunT
  have hB' : w.heap[g]? = some (.cells cur E (0, 0)) := hB
  have hsh : w.shape? g = some (E, cur.size) := by unfold World.shape?; rw [hB']
  have hr : (convert t t (.slice (some ⟨g, 0, Option.none⟩) l c)).run P w = .ok (.slice (some ⟨g, 0, Option.none⟩) l c) (w.freeze ⟨g, cur.size, Option.none⟩ 1) := by
    simp [convert, run_underlying ht, run_underlying he, markStringish, hsh]
  rw [hr]
  have h1 : (w.freeze ⟨g, cur.size, Option.none⟩ 1).heap[g]? = some (.cells cur E (cur.size, cur.size + 1)) := by
    simp [World.freeze, Array.getElem?_modify, hB']
  have h2 : ∀ b, b ≠ g → (w.freeze ⟨g, cur.size, Option.none⟩ 1).heap[b]? = w.heap[b]? := by
    intro b hb
    simp [World.freeze, Array.getElem?_modify, Ne.symm hb]
  have hs : (w.freeze ⟨g, cur.size, Option.none⟩ 1).heap.size = w.heap.size := by simp [World.freeze]
  refine ⟨⟨some ⟨g, 0, Option.none⟩, l, c⟩, rfl, hk _ ?_ ⟨rfl, rfl, rfl, by omega, fun b _ hb => h2 b hb⟩ hs⟩
  intro a
  unfold World.cell?
  by_cases ha : a.block = g
  · rw [ha, h1, hB']
  · rw [h2 _ ha]
theorem Has.cells {w w' : World} {s : Sl} {sz : Nat} {cs : List Value} (h : Has w s sz cs) (hc : ∀ a, w'.cell? a = w.cell? a) : Has w' s sz cs :=
  ⟨h.len, fun j u hu => by obtain ⟨a, ha, h1⟩ := h.get j u hu; exact ⟨a, ha, by rw [hc]; exact h1⟩⟩
theorem runT_markRow {P : Program} {t e : TypeId} (ht : P.underlying t = some (.slice e)) (he : P.underlying e = some (.int .u8)) {w : World} {s : Sl} {E : TypeId} {sz : Nat} {cs : List Value} (hr : Row w s E sz cs) {g : Nat} (hg : s.a = some ⟨g, 0, Option.none⟩) {K : Sl → World → Prop}
    (hk : ∀ w', Has w' s sz cs → Frm (fun b => b = g) w w' → w'.heap.size = w.heap.size → K s w') : RunT P .slice (convert t t (.slice s.a s.l s.c)) w K := by
  rcases hr.cases with ⟨rfl, _⟩ | ⟨g', cur, ha, hB, _⟩
  · simp at hg
  · rw [hg] at ha; cases ha
    have hh := hr.has
    obtain ⟨sa, sl, sc⟩ := s
    subst hg
    exact runT_mark ht he hB (fun w' hc hm hs => hk w' (hh.cells hc) hm hs)
/-- copy, into a row of one's own, from place o on. -/
theorem runT_copy {P : Program} {dT sT ty E : TypeId} {sz bytes : Nat} {z : Value} (T : SlT P dT E sz bytes z) {w : World} {g o dLen dCap : Nat} {cur : Array Value} {E' : TypeId} (hB : Blk w g cur E') {a : Addr} {sLen sCap : Nat} {cs : List Value}
    (hx : Has w ⟨some a, sLen, sCap⟩ sz cs) (hfit : o + Nat.min sLen dLen * sz ≤ cur.size) (h1 : ∀ v ∈ cs, v.oneCell' = true) {K : Int → World → Prop}
    (hk : ∀ w', Blk w' g (cur.toList.take o ++ cs.take (Nat.min sLen dLen * sz) ++ cur.toList.drop (o + Nat.min sLen dLen * sz)).toArray E' → Frm (fun b => b = g) w w' → w'.heap.size = w.heap.size → K (Nat.min sLen dLen : Int) w') :
    RunT P (.int .i64) (Builtin.copy_ #[dT, sT] ty #[.slice (some ⟨g, o, Option.none⟩) dLen dCap, .slice (some a) sLen sCap]) w K := by
  obtain ⟨i, hi, hz, hsz, hby⟩ := T.info
  have hcl := hx.len
  have hml : Nat.min sLen dLen ≤ sLen := Nat.min_le_left _ _
  have hn : (cs.take (Nat.min sLen dLen * sz)).length = Nat.min sLen dLen * sz := by
    rw [List.length_take, hcl]; exact Nat.min_eq_left (Nat.mul_le_mul_right _ hml)
  have hl := run_loadCells_list (P := P) w a (cs.take (Nat.min sLen dLen * sz)) (fun j v hv => by
    rw [List.getElem?_take] at hv
    split at hv
    · obtain ⟨a', ha', hc⟩ := hx.get j v hv
      cases ha'
      exact hc
    · cases hv)
  rw [hn] at hl
  have hst := run_storeCells_at P g o E' (cs.take (Nat.min sLen dLen * sz)) 0 cur w hB (by rw [hn]; simpa using hfit) (fun v hv => h1 v (List.mem_of_mem_take hv))
  rw [hn] at hst
  have hr : (Builtin.copy_ #[dT, sT] ty #[.slice (some ⟨g, o, Option.none⟩) dLen dCap, .slice (some a) sLen sCap]).run P w =
      .ok (goInt (Nat.min sLen dLen)) (w.setRow g (cur.toList.take o ++ cs.take (Nat.min sLen dLen * sz) ++ cur.toList.drop (o + Nat.min sLen dLen * sz)).toArray) := by
    simp [Builtin.copy_, run_underlying T.und, Builtin.lenOf, Builtin.firstCells, sizeOf, typeInfo, hi, hsz, hl]
    simpa using congrArg (fun r => r.andThen fun _ w' => Result.ok (goInt (Nat.min sLen dLen)) w') hst
  unfold RunT
  rw [hr]
  refine ⟨(Nat.min sLen dLen : Int), rfl, hk _ (setRow_heap w g cur _ E' _ hB) (mod_setRow w g _) (by simp)⟩
end Go.Proofs.YtlbipbepeeopaaaV
