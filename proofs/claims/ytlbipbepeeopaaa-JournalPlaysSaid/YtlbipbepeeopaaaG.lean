/- A row of one's own, said wider: its block may be longer than the row's capacity, and may bear a mark outside its cells. -/
import Derived.Test.YtlbipbepeeopaaaE
import Derived.ArgAppend
set_option linter.unusedVariables false
set_option linter.unusedSimpArgs false
namespace Go.Proofs.YtlbipbepeeopaaaV
open Go
def BlkG (w : World) (b : Nat) (cs : Array Value) (T : TypeId) : Prop := ∃ fr : Nat × Nat, w.heap[b]? = some (.cells cs T fr) ∧ (fr = (0, 0) ∨ cs.size ≤ fr.1)
theorem Blk.g {w : World} {b : Nat} {cs : Array Value} {T : TypeId} (h : Blk w b cs T) : BlkG w b cs T := ⟨_, h, .inl rfl⟩
theorem BlkG.lt {w : World} {b : Nat} {cs : Array Value} {T : TypeId} (h : BlkG w b cs T) : b < w.heap.size := by obtain ⟨_, h, _⟩ := h; exact (Array.getElem?_eq_some_iff.1 h).1
theorem BlkG.mod {F : Nat → Prop} {w w' : World} {b : Nat} {cs : Array Value} {T : TypeId} (h : BlkG w b cs T) (hm : Frm F w w') (hn : ¬ F b) : BlkG w' b cs T := by
  have hl := h.lt
  obtain ⟨fr, h, hf⟩ := h
  exact ⟨fr, (hm.same b hl hn).trans h, hf⟩
theorem BlkG.cell {w : World} {b : Nat} {cs : Array Value} {T : TypeId} (h : BlkG w b cs T) (j : Nat) : w.cell? ⟨b, j, Option.none⟩ = cs[j]? := by
  obtain ⟨fr, h, _⟩ := h; exact cell_of_row w b j cs T fr h
theorem BlkG.ld {w : World} {b : Nat} {cs : Array Value} {T : TypeId} (h : BlkG w b cs T) {j : Nat} {v : Value} (hv : cs[j]? = some v) : Ld w ⟨b, j, Option.none⟩ v := (h.cell j).trans hv
theorem BlkG.wr {w : World} {b : Nat} {cs : Array Value} {T : TypeId} (h : BlkG w b cs T) {j : Nat} (hj : j < cs.size) : Wr w ⟨b, j, Option.none⟩ := by
  refine ⟨⟨cs[j], h.ld (by simp [hj])⟩, ?_⟩
  obtain ⟨⟨lo, hi⟩, h, hf⟩ := h
  unfold World.frozen?
  simp only [h]
  rcases hf with hf | hf
  · simp at hf; obtain ⟨rfl, rfl⟩ := hf; simp
  · have hf : cs.size ≤ lo := hf
    have : ¬ lo ≤ j := by omega
    simp [this]
theorem BlkG.set {w : World} {b : Nat} {cs : Array Value} {T : TypeId} (h : BlkG w b cs T) (j : Nat) (v : Value) : BlkG (w.setCell ⟨b, j, Option.none⟩ v) b (cs.setIfInBounds j v) T := by
  have hl := h.lt
  obtain ⟨fr, h, hf⟩ := h
  refine ⟨fr, ?_, by simpa using hf⟩
  unfold World.setCell
  simp [Array.getElem?_modify, h]
theorem BlkG.setAt {vs : List Value} : ∀ {w : World} {b o i : Nat} {cs : Array Value} {T : TypeId}, BlkG w b cs T → BlkG (setAt w ⟨b, o, Option.none⟩ vs i) b (setList cs (o + i) vs) T := by
  induction vs with
  | nil => intro w b o i cs T h; exact h
  | cons v r ih =>
    intro w b o i cs T h
    simp only [YtlbipbepeeopaaaV.setAt, setList, addr_add]
    have := ih (o := o) (i := i + 1) (h.set (o + i) v)
    rwa [← Nat.add_assoc] at this
theorem setList_toList (vs : List Value) (cs : Array Value) (o : Nat) (h : o + vs.length ≤ cs.size) : (setList cs o vs).toList = cs.toList.take o ++ vs ++ cs.toList.drop (o + vs.length) := by
  apply List.ext_getElem?
  intro i
  rw [Array.getElem?_toList, setList_get vs cs o i h]
  have hl : cs.toList.length = cs.size := Array.length_toList
  by_cases h1 : i < o
  · rw [if_neg (by omega), List.append_assoc, List.getElem?_append_left (by rw [List.length_take]; omega), List.getElem?_take, if_pos h1, Array.getElem?_toList]
  · by_cases h2 : i < o + vs.length
    · rw [if_pos (by omega), List.getElem?_append_left (by simp only [List.length_append, List.length_take]; omega), List.getElem?_append_right (by rw [List.length_take]; omega), List.length_take, Nat.min_eq_left (by omega)]
    · rw [if_neg (by omega), List.getElem?_append_right (by simp only [List.length_append, List.length_take]; omega), List.getElem?_drop, Array.getElem?_toList]
      congr 1
      simp only [List.length_append, List.length_take]; omega
def RowG (w : World) (s : Sl) (E : TypeId) (sz : Nat) (cs : List Value) : Prop :=
  cs.length = s.l * sz ∧ (s = ⟨Option.none, 0, 0⟩ ∨ ∃ g cur, s.a = some ⟨g, 0, Option.none⟩ ∧ BlkG w g cur E ∧ s.l ≤ s.c ∧ s.c ≤ maxLen ∧ s.c * sz ≤ cur.size ∧ cur.toList.take (s.l * sz) = cs)
theorem Row.g {w : World} {s : Sl} {E : TypeId} {sz : Nat} {cs : List Value} (h : Row w s E sz cs) : RowG w s E sz cs := by
  refine ⟨h.len, ?_⟩
  rcases h.cases with ⟨rfl, _⟩ | ⟨g, cur, ha, hB, h1, h2, h3, h4⟩
  · exact .inl rfl
  · exact .inr ⟨g, cur, ha, hB.g, h1, h2, by omega, h4⟩
theorem RowG.len {w : World} {s : Sl} {E : TypeId} {sz : Nat} {cs : List Value} (h : RowG w s E sz cs) : cs.length = s.l * sz := h.1
theorem RowG.nil (w : World) (E : TypeId) (sz : Nat) : RowG w ⟨Option.none, 0, 0⟩ E sz [] := (Row.nil w E sz).g
theorem RowG.mk {w : World} {g n c : Nat} {cur : Array Value} {E : TypeId} {sz : Nat} (hb : BlkG w g cur E) (h1 : n ≤ c) (h2 : c ≤ maxLen) (h3 : c * sz ≤ cur.size) : RowG w ⟨some ⟨g, 0, Option.none⟩, n, c⟩ E sz (cur.toList.take (n * sz)) :=
  ⟨by rw [List.length_take, Array.length_toList]; have := Nat.mul_le_mul_right sz h1; simp only; omega, .inr ⟨g, cur, rfl, hb, h1, h2, h3, rfl⟩⟩
theorem RowG.lt {w : World} {s : Sl} {E : TypeId} {sz : Nat} {cs : List Value} (h : RowG w s E sz cs) : ∀ b, s.blk = some b → b < w.heap.size := by
  intro b hb
  rcases h.2 with rfl | ⟨g, cur, ha, hB, _⟩
  · simp [Sl.blk] at hb
  · simp [Sl.blk, ha] at hb; subst hb; exact hB.lt
theorem RowG.mod {F : Nat → Prop} {w w' : World} {s : Sl} {E : TypeId} {sz : Nat} {cs : List Value} (h : RowG w s E sz cs) (hm : Frm F w w') (hn : ∀ b, s.blk = some b → ¬ F b) : RowG w' s E sz cs := by
  rcases h.2 with h2 | ⟨g, cur, h1, hB, h3⟩
  · exact ⟨h.1, .inl h2⟩
  · exact ⟨h.1, .inr ⟨g, cur, h1, hB.mod hm (hn g (by simp [Sl.blk, h1])), h3⟩⟩
theorem RowG.has {w : World} {s : Sl} {E : TypeId} {sz : Nat} {cs : List Value} (h : RowG w s E sz cs) : Has w s sz cs := by
  refine ⟨h.1, fun j u hu => ?_⟩
  rcases h.2 with rfl | ⟨g, cur, ha, hB, h1, h2, h3, rfl⟩
  · have := h.1; simp at this; subst this; simp at hu
  · refine ⟨_, ha, ?_⟩
    rw [addr_add, Nat.zero_add, hB.cell]
    have hlt := (List.getElem?_eq_some_iff.1 hu).1
    simp only [List.length_take, Array.length_toList] at hlt
    rw [List.getElem?_take] at hu
    rw [if_pos (by omega)] at hu
    simpa using hu
theorem RowG.wr {w : World} {s : Sl} {E : TypeId} {sz : Nat} {cs : List Value} (h : RowG w s E sz cs) {j : Nat} (hj : j < cs.length) : ∃ g, s.a = some ⟨g, 0, Option.none⟩ ∧ Wr w ⟨g, j, Option.none⟩ ∧ ∀ v, RowG (w.setCell ⟨g, j, Option.none⟩ v) s E sz (cs.set j v) := by
  rcases h.2 with rfl | ⟨g, cur, ha, hB, h1, h2, h3, h4⟩
  · have := h.1; simp at this; subst this; simp at hj
  · have hl := h.len
    have hjc : j < cur.size := by
      have := Nat.mul_le_mul_right sz h1
      omega
    refine ⟨g, ha, hB.wr hjc, fun v => ?_⟩
    have hB' := hB.set j v
    have := RowG.mk (n := s.l) (sz := sz) hB' h1 h2 (by simpa using h3)
    have he : (⟨some ⟨g, 0, Option.none⟩, s.l, s.c⟩ : Sl) = s := by cases s; simp_all
    rw [he] at this
    have hcs : (cur.setIfInBounds j v).toList.take (s.l * sz) = cs.set j v := by
      rw [← h4, Array.toList_setIfInBounds, List.take_set]
    rwa [hcs] at this
/-- The head of a row, its capacity cut. -/
theorem RowG.cut {w : World} {s : Sl} {E : TypeId} {sz : Nat} {cs : List Value} (h : RowG w s E sz cs) {k c : Nat} (hk : k ≤ s.l) (hc : k ≤ c) (hcs : c ≤ s.c) : RowG w ⟨s.a, k, c⟩ E sz (cs.take (k * sz)) := by
  have hkm := Nat.mul_le_mul_right sz hk
  have hcm := Nat.mul_le_mul_right sz hcs
  rcases h.2 with rfl | ⟨g, cur, ha, hB, h1, h2, h3, h4⟩
  · simp at hk hcs
    subst hk hcs
    have := h.1
    simp at this
    subst this
    simpa using RowG.nil w E sz
  · have := RowG.mk (n := k) (c := c) (sz := sz) hB hc (by omega) (by omega)
    rw [ha]
    have e : cs.take (k * sz) = cur.toList.take (k * sz) := by rw [← h4, List.take_take, Nat.min_eq_left hkm]
    rw [e]; exact this
theorem RowG.blkNe {w : World} {s t : Sl} {E E' : TypeId} {sz sz' : Nat} {cs cs' : List Value} (h : RowG w s E sz cs) (h' : RowG w t E' sz' cs') (hE : E ≠ E') : ∀ k, s.blk = some k → t.blk ≠ some k := by
  intro k hk hk'
  rcases h.2 with rfl | ⟨g, cur, ha, ⟨fr, hB, _⟩, _⟩
  · simp [Sl.blk] at hk
  · rcases h'.2 with rfl | ⟨g', cur', ha', ⟨fr', hB', _⟩, _⟩
    · simp [Sl.blk] at hk'
    · simp [Sl.blk, ha] at hk
      simp [Sl.blk, ha'] at hk'
      subst hk hk'
      rw [hB] at hB'
      simp only [Option.some.injEq, Obj.cells.injEq] at hB'
      exact hE hB'.2.1
theorem RowG.blkNeB {w : World} {s : Sl} {E E' : TypeId} {sz b : Nat} {cs : List Value} {bs : Array Value} (h : RowG w s E sz cs) (h' : BlkG w b bs E') (hE : E ≠ E') : s.blk ≠ some b := by
  intro hk
  rcases h.2 with rfl | ⟨g, cur, ha, ⟨fr, hB, _⟩, _⟩
  · simp [Sl.blk] at hk
  · obtain ⟨fr', hB', _⟩ := h'
    simp [Sl.blk, ha] at hk
    subst hk
    rw [hB] at hB'
    simp only [Option.some.injEq, Obj.cells.injEq] at hB'
    exact hE hB'.2.1
section
variable {P : Program}
theorem runT_appendG {t ty E : TypeId} {sz bytes : Nat} {z : Value} (T : SlT P t E sz bytes z) {w : World} {s x : Sl} {cs news : List Value} (h : RowG w s E sz cs) (hx : Has w x sz news) (h1 : ∀ u ∈ news, u.oneCell' = true)
    (hb : (s.l + x.l) * bytes ≤ 140737488355328) (hm : s.l + x.l ≤ maxLen) {K : Sl → World → Prop}
    (hk : ∀ s' w', RowG w' s' E sz (cs ++ news) → s'.l = s.l + x.l → Near w s s' → Frm (fun b => s.blk = some b) w w' → K s' w') :
    RunT P .slice (Builtin.append_ #[t, t] ty #[.slice s.a s.l s.c, .slice x.a x.l x.c]) w K := by
  rcases h.2 with rfl | ⟨g, cur, ha, hB, hlc, hcm, hcs, htake⟩
  · have hn : cs = [] := by have := h.1; simpa using this
    subst hn
    exact runT_append T (Row.nil w E sz) hx h1 hb hm (fun s' w' hr hl hn hm => hk s' w' hr.g hl hn hm)
  obtain ⟨i, hi, hz, hsz, hby⟩ := T.info
  have hsb : s.blk = some g := by simp [Sl.blk, ha]
  have hpos := T.pos
  unfold RunT
  cases hxa : x.a with
  | none =>
    have hn : news = [] := by
      cases news with
      | nil => rfl
      | cons u r =>
        obtain ⟨a', ha', _⟩ := hx.get 0 u rfl
        rw [hxa] at ha'; cases ha'
    have hl : x.l = 0 := by
      have := hx.len
      rw [hn, List.length_nil] at this
      rcases Nat.mul_eq_zero.1 this.symm with h | h
      · exact h
      · omega
    subst hn
    have hxc : (Builtin.append_ #[t, t] ty #[.slice s.a s.l s.c, .slice Option.none x.l x.c]).run P w = .ok s.val w := by
      rw [hl]
      simp [Builtin.append_, run_underlying T.und, sizeOf, typeInfo, hi, Builtin.lenOf, Builtin.firstCells, hlc, ha, storeCells, Sl.val]
    rw [hxc]
    refine ⟨s, rfl, hk s w ?_ (by omega) (.inl rfl) (Frm.refl _ _)⟩
    rw [List.append_nil]; exact h
  | some a =>
    have hnews : ∀ j u, news[j]? = some u → w.cell? (a.add j) = some u := fun j u hu => by
      obtain ⟨a', ha', hc⟩ := hx.get j u hu
      rw [hxa] at ha'; cases ha'; exact hc
    by_cases hroom : s.l + x.l ≤ s.c
    · have hnl := hx.len
      have hfit : s.l * sz + news.length ≤ cur.size := by
        rw [hnl, ← Nat.add_mul]
        exact Nat.le_trans (Nat.mul_le_mul_right _ hroom) hcs
      have hf := run_firstCells_some (P := P) w i.size x.l a x.l x.c news (by rw [hsz]; exact hnl) hnews
      have hst := run_storeCells (P := P) (a := ⟨g, s.l * sz, Option.none⟩) news w 0 h1 (fun j hj => by rw [addr_add]; exact hB.wr (by omega))
      have hr : (Builtin.append_ #[t, t] ty #[.slice s.a s.l s.c, .slice (some a) x.l x.c]).run P w = .ok (.slice (some ⟨g, 0, Option.none⟩) (s.l + x.l) s.c) (setAt w ⟨g, s.l * sz, Option.none⟩ news 0) := by
        rw [ha]
        rw [hsz] at hf
        simp [Builtin.append_, run_underlying T.und, sizeOf, typeInfo, hi, hsz, Builtin.lenOf, hroom, hf, addr_add, hst]
      rw [hr]
      have hB2 := hB.setAt (o := s.l * sz) (i := 0) (vs := news)
      rw [Nat.add_zero] at hB2
      refine ⟨⟨some ⟨g, 0, Option.none⟩, s.l + x.l, s.c⟩, rfl, hk _ _ ?_ rfl (.inl (by rw [hsb]; rfl)) (mod_setAt.mono fun k _ hk => by rw [hk]; exact hsb)⟩
      have hrow := RowG.mk (n := s.l + x.l) (c := s.c) (sz := sz) hB2 hroom hcm (by rw [setList_size]; exact hcs)
      have e : (setList cur (s.l * sz) news).toList.take ((s.l + x.l) * sz) = cs ++ news := by
        rw [setList_toList _ _ _ hfit, ← htake, Nat.add_mul, ← hnl]
        have hlt : (cur.toList.take (s.l * sz) ++ news).length = s.l * sz + news.length := by
          rw [List.length_append, List.length_take, Array.length_toList, Nat.min_eq_left (by omega)]
        rw [← hlt]; exact List.take_left
      rw [e] at hrow
      exact hrow
    · have hhas := h.has
      obtain ⟨v', w', hr, hown, hg⟩ := run_append_arg_grows (P := P) w t ty E i z sz bytes T.und hi hz hsz hby T.zc T.pos ⟨g, 0, Option.none⟩ s.l s.c cs h.len (fun j u hu => by
        obtain ⟨a', ha', hc⟩ := hhas.get j u hu
        rw [ha] at ha'; cases ha'; exact hc) a x.l x.c news hx.len hnews (by omega) hm hb
      rw [ha, hr]
      obtain ⟨hln, hcase⟩ := hown
      rcases hcase with ⟨rfl, h0⟩ | ⟨g2, cap, cur2, rfl, hge, hB2, h5, h6, h7, h8⟩
      · omega
      · have hB2' : Blk w' g2 cur2 E := hB2
        have hsz2 : g2 = w.heap.size ∨ True := .inr trivial
        refine ⟨⟨some ⟨g2, 0, Option.none⟩, s.l + x.l, cap⟩, rfl, hk _ _ ?_ rfl ?_ ?_⟩
        · have := Row.mk (n := s.l + x.l) (c := cap) (sz := sz) hB2' h5 h6 h7
          rw [h8] at this
          exact this.g
        · right
          simp only [Sl.blk, Option.map_some]
          have hr2 := run_append_grow (P := P) w t ty E i z T.und hi hz ⟨g, 0, Option.none⟩ s.l s.c cs (by rw [hsz]; exact h.len) (fun j u hu => by
            obtain ⟨a', ha', hc⟩ := hhas.get j u hu
            rw [ha] at ha'; cases ha'; exact hc) a x.l x.c news (by rw [hsz]; exact hx.len) hnews (by omega) (by simp only [maxLen] at hm; omega) (growslice_fits (by omega) (by rw [hby]; exact hb))
          rw [hr] at hr2
          simp only [Result.ok.injEq, Value.slice.injEq, Option.some.injEq, Addr.mk.injEq] at hr2
          rw [hr2.1.1.1]
        · exact (mod_grown hg).mono fun b _ hb => by cases hb
/-- []byte(s), its row. -/
theorem runT_bytesG {src dst e : TypeId} (hs : P.underlying src = some .string) (hd : P.underlying dst = some (.slice e)) (he : P.underlying e = some (.int .u8)) {w : World} {s : ByteArray} (hm : s.size ≤ maxLen) {K : Sl → World → Prop}
    (hk : ∀ w' c, RowG w' ⟨some ⟨w.heap.size, 0, Option.none⟩, s.size, c⟩ e 1 (bv s.data.toList) → Frm none_ w w' → w'.heap.size = w.heap.size + 1 → K ⟨some ⟨w.heap.size, 0, Option.none⟩, s.size, c⟩ w') :
    RunT P .slice (convert src dst (.string s)) w K := by
  unfold RunT
  rw [Lib.run_convert_string_bytes (P := P) w src dst e s hs hd he]
  have hge := grownCap_ge w s.size 0 e
  have hle := grownCap_le_maxLen w s.size 0 e hm
  have hds : s.data.size = s.size := rfl
  have hcz : (Lib.bytesCells w e s).size = grownCap w s.size 0 e := by
    simp only [Lib.bytesCells, Array.size_append, Array.size_map, Array.size_replicate]; omega
  refine ⟨⟨some ⟨w.heap.size, 0, Option.none⟩, s.size, grownCap w s.size 0 e⟩, rfl, hk _ _ ?_ ⟨rfl, rfl, rfl, ?_, ?_⟩ (Lib.bytesWorld_size _ _ _)⟩
  · have hB : BlkG (Lib.bytesWorld w e s) w.heap.size (Lib.bytesCells w e s) e := ⟨_, Lib.bytesWorld_at_new w e s, .inr (Nat.le_refl _)⟩
    have := RowG.mk (n := s.size) (c := grownCap w s.size 0 e) (sz := 1) hB hge hle (by omega)
    have e2 : (Lib.bytesCells w e s).toList.take (s.size * 1) = bv s.data.toList := by
      have hl : (bv s.data.toList).length = s.size * 1 := by rw [bv_length, Array.length_toList, Nat.mul_one]; rfl
      rw [← hl]
      simp only [Lib.bytesCells, Array.toList_append, Array.toList_map]
      exact List.take_left
    rw [e2] at this
    exact this
  · rw [Lib.bytesWorld_size]; omega
  · intro b hb _; exact Lib.bytesWorld_at_old w e s b hb
/-- copy, into a row of one's own, from place o on. -/
theorem runT_copyG {dT sT ty E : TypeId} {sz bytes : Nat} {z : Value} (T : SlT P dT E sz bytes z) {w : World} {g o dLen dCap : Nat} {cur : Array Value} {E' : TypeId} (hB : BlkG w g cur E') {a : Addr} {sLen sCap : Nat} {cs : List Value}
    (hx : Has w ⟨some a, sLen, sCap⟩ sz cs) (hfit : o + Nat.min sLen dLen * sz ≤ cur.size) (h1 : ∀ v ∈ cs, v.oneCell' = true) {K : Int → World → Prop}
    (hk : ∀ w', BlkG w' g (setList cur o (cs.take (Nat.min sLen dLen * sz))) E' → Frm (fun b => b = g) w w' → K (Nat.min sLen dLen : Int) w') :
    RunT P (.int .i64) (Builtin.copy_ #[dT, sT] ty #[.slice (some ⟨g, o, Option.none⟩) dLen dCap, .slice (some a) sLen sCap]) w K := by
  obtain ⟨i, hi, hz, hsz, hby⟩ := T.info
  have hcl := hx.len
  have hml : Nat.min sLen dLen ≤ sLen := Nat.min_le_left _ _
  have hn : (cs.take (Nat.min sLen dLen * sz)).length = Nat.min sLen dLen * sz := by
    rw [List.length_take, hcl]; exact Nat.min_eq_left (Nat.mul_le_mul_right _ hml)
  have hl := run_loadCells_list (P := P) w a (cs.take (Nat.min sLen dLen * sz)) (fun j v hv => by
    rw [List.getElem?_take] at hv
    split at hv
    · obtain ⟨a', ha', hc⟩ := hx.get j v hv
      cases ha'
      exact hc
    · cases hv)
  rw [hn] at hl
  have hst := run_storeCells (P := P) (a := ⟨g, o, Option.none⟩) (cs.take (Nat.min sLen dLen * sz)) w 0 (fun v hv => h1 v (List.mem_of_mem_take hv)) (fun j hj => by rw [addr_add]; exact hB.wr (by omega))
  have hr : (Builtin.copy_ #[dT, sT] ty #[.slice (some ⟨g, o, Option.none⟩) dLen dCap, .slice (some a) sLen sCap]).run P w =
      .ok (goInt (Nat.min sLen dLen)) (setAt w ⟨g, o, Option.none⟩ (cs.take (Nat.min sLen dLen * sz)) 0) := by
    simp [Builtin.copy_, run_underlying T.und, Builtin.lenOf, Builtin.firstCells, sizeOf, typeInfo, hi, hsz, hl]
    simpa using congrArg (fun r => r.andThen fun _ w' => Result.ok (goInt (Nat.min sLen dLen)) w') hst
  unfold RunT
  rw [hr]
  have hB2 := hB.setAt (o := o) (i := 0) (vs := cs.take (Nat.min sLen dLen * sz))
  rw [Nat.add_zero] at hB2
  exact ⟨(Nat.min sLen dLen : Int), rfl, hk _ hB2 (mod_setAt (a := ⟨g, o, Option.none⟩))⟩
end
/-! ### more words -/
theorem fmTake {α β : Type} {f : α → List β} {sz : Nat} : ∀ {l : List α}, (∀ a ∈ l, (f a).length = sz) → ∀ i, (l.flatMap f).take (i * sz) = (l.take i).flatMap f
  | [], _, i => by simp
  | a :: r, hl, 0 => by simp
  | a :: r, hl, i + 1 => by
    have ha := hl a (by simp)
    rw [List.flatMap_cons, List.take_succ_cons, List.flatMap_cons, Nat.add_mul, Nat.one_mul, Nat.add_comm, List.take_append, List.take_of_length_le (by omega), ha, Nat.add_sub_cancel_left, fmTake (fun x hx => hl x (by simp [hx]))]
theorem fmDrop {α β : Type} {f : α → List β} {sz : Nat} : ∀ {l : List α}, (∀ a ∈ l, (f a).length = sz) → ∀ i, (l.flatMap f).drop (i * sz) = (l.drop i).flatMap f
  | [], _, i => by simp
  | a :: r, hl, 0 => by simp
  | a :: r, hl, i + 1 => by
    have ha := hl a (by simp)
    rw [List.flatMap_cons, List.drop_succ_cons, Nat.add_mul, Nat.one_mul, Nat.add_comm, ← List.drop_drop, ← ha, List.drop_left, ha, fmDrop (fun x hx => hl x (by simp [hx]))]
theorem fmSet {α β : Type} {f : α → List β} {sz : Nat} {l : List α} (hl : ∀ a ∈ l, (f a).length = sz) {i : Nat} (hi : i < l.length) (b : α) :
    (l.set i b).flatMap f = (l.flatMap f).take (i * sz) ++ f b ++ (l.flatMap f).drop (i * sz + sz) := by
  rw [fmTake hl, show i * sz + sz = (i + 1) * sz by rw [Nat.add_mul, Nat.one_mul], fmDrop hl, List.set_eq_take_append_cons_drop, if_pos hi, List.flatMap_append, List.flatMap_cons, List.append_assoc]
/-- The end of a slice, from a place on. -/
theorem Has.cut {w : World} {s : Sl} {sz : Nat} {cs : List Value} (h : Has w s sz cs) (i : Nat) (hi : i ≤ s.l) (hlc : s.l ≤ s.c) : Has w ⟨slA s.a i s.c sz, s.l - i, s.c - i⟩ sz (cs.drop (i * sz)) := by
  have hl := h.len
  constructor
  · rw [List.length_drop, hl]
    show s.l * sz - i * sz = (s.l - i) * sz
    rw [Nat.sub_mul]
  · intro j u hu
    rw [List.getElem?_drop] at hu
    obtain ⟨a, ha, hc⟩ := h.get _ _ hu
    have hj := (List.getElem?_eq_some_iff.1 hu).1
    show ∃ a', slA s.a i s.c sz = some a' ∧ _
    unfold slA
    by_cases hic : s.c = i
    · exfalso
      have : s.l = i := by omega
      rw [hl, this] at hj
      omega
    · rw [if_neg hic, ha]
      exact ⟨_, rfl, by rw [add_add]; exact hc⟩
/-- The head of a slice, up to a place. -/
theorem Has.head {w : World} {s : Sl} {sz : Nat} {cs : List Value} (h : Has w s sz cs) (n c : Nat) (hn : n ≤ s.l) : Has w ⟨s.a, n, c⟩ sz (cs.take (n * sz)) := by
  have hl := h.len
  constructor
  · rw [List.length_take, hl]
    exact Nat.min_eq_left (Nat.mul_le_mul_right _ hn)
  · intro j u hu
    rw [List.getElem?_take] at hu
    split at hu
    · exact h.get j u hu
    · cases hu
theorem bv_drop (l : List UInt8) (n : Nat) : (bv l).drop (n * 1) = bv (l.drop n) := by rw [Nat.mul_one]; unfold bv; rw [List.map_drop]
theorem bv_take (l : List UInt8) (n : Nat) : (bv l).take (n * 1) = bv (l.take n) := by rw [Nat.mul_one]; unfold bv; rw [List.map_take]
theorem slA_zero (a : Option Addr) (c sz : Nat) : slA a 0 c sz = a := by
  unfold slA
  split
  · rfl
  · cases a with
    | none => rfl
    | some a => rw [Nat.zero_mul, Option.map_some, add_zero]
theorem slA_blk (a : Option Addr) (i c sz : Nat) : (slA a i c sz).map (·.block) = a.map (·.block) := by
  unfold slA
  split
  · rfl
  · cases a with
    | none => rfl
    | some a => simp [add_block]
/-- A block written whole. -/
theorem Blk.setW {w1 : World} {b : Nat} {z vs : Array Value} {T : TypeId} {n : Nat} {Φ : World → Prop} (hB : Blk w1 b z T) (hz : z.size = n) (hv : vs.size = n) (h1 : ∀ u, u ∈ vs.toList → u.oneCell' = true)
    (K : ∀ w2, Blk w2 b vs T → Frm (fun k => k = b) w1 w2 → Φ w2) : vs.size = n ∧ (∀ u, u ∈ vs.toList → u.oneCell' = true) ∧ WrA w1 (⟨b, 0, Option.none⟩ : Addr) n ∧ ∀ w2, w2 = YtlbipbepeeopaaaV.setAt w1 (⟨b, 0, Option.none⟩ : Addr) vs.toList 0 → Φ w2 := by
  refine ⟨hv, h1, hB.wrA (by omega), ?_⟩
  rintro w2 rfl
  have h2 := hB.setAt (o := 0) (i := 0) (vs := vs.toList)
  have e : setList z (0 + 0) vs.toList = vs := by rw [Nat.add_zero, setList_all _ _ (by rw [Array.length_toList]; omega), Array.toArray_toList]
  rw [e] at h2
  exact K _ h2 (mod_setAt (a := ⟨b, 0, Option.none⟩))
/-- A part of a block, read. -/
theorem Blk.part {w : World} {b o n : Nat} {cs vs : Array Value} {T : TypeId} (h : Blk w b cs T) (hv : vs = cs.extract o (o + n)) (hn : o + n ≤ cs.size) : LdA w ⟨b, o, Option.none⟩ n vs := by
  subst hv
  refine ⟨by simp; omega, fun j u hu => ?_⟩
  rw [addr_add]
  refine h.ld ?_
  have hj := (Array.getElem?_eq_some_iff.1 hu).1
  simp at hj
  rw [Array.getElem?_extract] at hu
  rw [if_pos (by omega)] at hu
  exact hu
theorem str_eqIff (s t : ByteArray) : (s.toList == t.toList) = true ↔ s = t := by
  rw [str_beq, decide_eq_true_iff]
  constructor
  · intro h
    obtain ⟨⟨a⟩⟩ := s
    obtain ⟨⟨b⟩⟩ := t
    simp at h
    subst h
    rfl
  · rintro rfl; rfl
theorem Frm.n {a b c : World} (h : Frm none_ a b) (k : Frm none_ b c) : Frm none_ a c := h.trans k (fun _ _ h => h) (fun _ _ h => h)
theorem Frm.b {a b c : World} {g : Nat} (h : Frm none_ a b) (k : Frm (fun k => k = g) b c) (hg : a.heap.size ≤ g) : Frm none_ a c := h.trans k (fun _ _ h => h) (fun x hx he => by have he : x = g := he; omega)
theorem wrap64 (e : Int) (h : -9223372036854775808 ≤ e ∧ e ≤ 9223372036854775807) : IntKind.wrap .i64 e = e := by rw [IntKind.wrap_i64]; omega
theorem iNe {a b : Int} (h : (a != b) = true) : ¬ a = b := by simpa using h
theorem iEq {a b : Int} (h : (a != b) = false) : a = b := by simpa using h
theorem callsRet {P : Program} {f : FuncId} {args : Array Value} {w : World} {R : Value → World → Prop} {R' : Ending → World → Prop} (h : Calls P f args w fun en w' => ∃ v, en = .returned v ∧ R v w')
    (hr : ∀ v w', R v w' → R' (.returned v) w') : Calls P f args w R' := h.mono fun en w' ⟨v, he, hR⟩ => by subst he; exact hr v w' hR
end Go.Proofs.YtlbipbepeeopaaaV
