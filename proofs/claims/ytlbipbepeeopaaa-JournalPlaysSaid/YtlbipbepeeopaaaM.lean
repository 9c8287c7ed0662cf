/- Memory words: frames, blocks, rows, slices; what the builtins do to them. -/
import Derived.Test.YtlbipbepeeopaaaV
import Derived.Maps.AppendAt
import Derived.Laws.OwnMore
import Derived.Laws.BytesArg
import Derived.Lib.AppendStr
set_option linter.unusedVariables false
set_option linter.unusedSimpArgs false
namespace Go.Proofs.YtlbipbepeeopaaaV
open Go

/-! ### 1. Addresses -/
theorem addr_add (b o n : Nat) : (⟨b, o, none⟩ : Addr).add n = ⟨b, o + n, none⟩ := by
  unfold Addr.add; split
  · rename_i h; subst h; rfl
  · rfl
theorem add_add (a : Addr) (m n : Nat) : (a.add m).add n = a.add (m + n) := by
  unfold Addr.add
  by_cases h1 : m = 0 <;> by_cases h2 : n = 0 <;> simp [h1, h2, Nat.add_assoc]
theorem add_zero (a : Addr) : a.add 0 = a := by simp [Addr.add]
theorem add_block (a : Addr) (n : Nat) : (a.add n).block = a.block := by unfold Addr.add; split <;> rfl

/-! ### 2. What a piece of code may have turned: the blocks in F, and what is new -/
structure Frm (F : Nat → Prop) (w w' : World) : Prop where
  os : w'.os = w.os
  tape : w'.tape = w.tape
  output : w'.output = w.output
  size : w.heap.size ≤ w'.heap.size
  same : ∀ b, b < w.heap.size → ¬ F b → w'.heap[b]? = w.heap[b]?
def none_ : Nat → Prop := fun _ => False
theorem Frm.refl (F : Nat → Prop) (w : World) : Frm F w w := ⟨rfl, rfl, rfl, Nat.le_refl _, fun _ _ _ => rfl⟩
theorem Frm.trans {F G H : Nat → Prop} {a b c : World} (h : Frm F a b) (k : Frm G b c) (hF : ∀ x, x < a.heap.size → F x → H x) (hG : ∀ x, x < a.heap.size → G x → H x) : Frm H a c :=
  ⟨k.os.trans h.os, k.tape.trans h.tape, k.output.trans h.output, Nat.le_trans h.size k.size, fun x hx hn =>
    (k.same x (Nat.lt_of_lt_of_le hx h.size) (fun hg => hn (hG x hx hg))).trans (h.same x hx (fun hf => hn (hF x hx hf)))⟩
theorem Frm.mono {F G : Nat → Prop} {a b : World} (h : Frm F a b) (hF : ∀ x, x < a.heap.size → F x → G x) : Frm G a b := ⟨h.os, h.tape, h.output, h.size, fun x hx hn => h.same x hx fun hf => hn (hF x hx hf)⟩
theorem Frm.drew {F : Nat → Prop} {a b : World} (h : Frm F a b) : Frm F a b.drew := ⟨h.os, h.tape, h.output, h.size, h.same⟩
theorem Frm.ofDrew {F : Nat → Prop} {a b : World} (h : Frm F a.drew b) : Frm F a b := ⟨h.os, h.tape, h.output, h.size, h.same⟩
theorem Frm.below {F : Nat → Prop} {W w : World} (h : Frm F W w) (hF : ∀ x, x < W.heap.size → ¬ F x) : RowKit.Below W.heap.size W w := ⟨h.os, h.tape, h.output, h.size, fun x hx => h.same x hx (hF x hx)⟩
theorem Frm.cell {F : Nat → Prop} {w w' : World} (h : Frm F w w') {a : Addr} {v : Value} (hc : w.cell? a = some v) (hn : ¬ F a.block) : w'.cell? a = some v := by
  have hlt := block_lt_of_cell hc
  rw [World.cell?_of_block (h.same a.block hlt hn)]
  exact hc
theorem Frm.none {F : Nat → Prop} {w w' : World} (h : Frm none_ w w') : Frm F w w' := h.mono fun _ _ hf => hf.elim

/-! ### 3. Blocks -/
def Blk (w : World) (b : Nat) (cs : Array Value) (T : TypeId) : Prop := w.heap[b]? = some (.cells cs T (0, 0))
theorem Blk.lt {w : World} {b : Nat} {cs : Array Value} {T : TypeId} (h : Blk w b cs T) : b < w.heap.size := (Array.getElem?_eq_some_iff.1 h).1
theorem Blk.drew {w : World} {b : Nat} {cs : Array Value} {T : TypeId} (h : Blk w b cs T) : Blk w.drew b cs T := h
theorem Blk.mod {F : Nat → Prop} {w w' : World} {b : Nat} {cs : Array Value} {T : TypeId} (h : Blk w b cs T) (hm : Frm F w w') (hn : ¬ F b) : Blk w' b cs T := (hm.same b h.lt hn).trans h
theorem Blk.cell {w : World} {b : Nat} {cs : Array Value} {T : TypeId} (h : Blk w b cs T) (j : Nat) : w.cell? ⟨b, j, Option.none⟩ = cs[j]? := cell_of_row w b j cs T (0, 0) h
theorem Blk.ld {w : World} {b : Nat} {cs : Array Value} {T : TypeId} (h : Blk w b cs T) {j : Nat} {v : Value} (hv : cs[j]? = some v) : Ld w ⟨b, j, Option.none⟩ v := (h.cell j).trans hv
theorem Blk.ldA {w : World} {b : Nat} {cs : Array Value} {T : TypeId} (h : Blk w b cs T) {n : Nat} (hn : cs.size = n) : LdA w ⟨b, 0, Option.none⟩ n cs := ⟨hn, fun j u hu => by rw [addr_add, Nat.zero_add]; exact h.ld hu⟩
theorem Blk.wr {w : World} {b : Nat} {cs : Array Value} {T : TypeId} (h : Blk w b cs T) {j : Nat} (hj : j < cs.size) : Wr w ⟨b, j, Option.none⟩ := ⟨⟨cs[j], h.ld (by simp [hj])⟩, frozen_of_row w b j cs T h⟩
theorem Blk.wrA {w : World} {b : Nat} {cs : Array Value} {T : TypeId} (h : Blk w b cs T) {o n : Nat} (hj : o + n ≤ cs.size) : WrA w ⟨b, o, Option.none⟩ n := fun j hj' => by rw [addr_add]; exact h.wr (by omega)
theorem NewB.blk {w w1 : World} {cs : Array Value} {T : TypeId} {b : Nat} (h : NewB w (.cells cs T) b w1) : Blk w1 b cs T := by
  obtain ⟨rfl, rfl⟩ := h; exact heap_alloc_new w _
theorem NewB.mod {w w1 : World} {o : Obj} {b : Nat} (h : NewB w o b w1) (F : Nat → Prop) : Frm F w w1 := by
  obtain ⟨rfl, rfl⟩ := h
  exact ⟨rfl, rfl, rfl, by simp, fun x hx _ => RowKit.Below.heap_alloc w o x hx⟩
theorem NewB.size {w w1 : World} {o : Obj} {b : Nat} (h : NewB w o b w1) : w1.heap.size = w.heap.size + 1 := by
  obtain ⟨rfl, rfl⟩ := h; simp
theorem mod_setCell {w : World} {a : Addr} {v : Value} : Frm (fun b => b = a.block) w (w.setCell a v) :=
  ⟨rfl, rfl, rfl, by simp [World.setCell], fun b _ hn => heap_setCell_other w a b v hn⟩
theorem Blk.set {w : World} {b : Nat} {cs : Array Value} {T : TypeId} (h : Blk w b cs T) (j : Nat) (v : Value) : Blk (w.setCell ⟨b, j, Option.none⟩ v) b (cs.setIfInBounds j v) T := heap_setCell_same w b j cs T v h
/-- cells written one behind the other -/
def setList (cs : Array Value) (o : Nat) : List Value → Array Value
  | [] => cs
  | v :: r => setList (cs.setIfInBounds o v) (o + 1) r
theorem Blk.setAt {vs : List Value} : ∀ {w : World} {b o i : Nat} {cs : Array Value} {T : TypeId}, Blk w b cs T → Blk (setAt w ⟨b, o, Option.none⟩ vs i) b (setList cs (o + i) vs) T := by
  induction vs with
  | nil => intro w b o i cs T h; exact h
  | cons v r ih =>
    intro w b o i cs T h
    simp only [YtlbipbepeeopaaaV.setAt, setList, addr_add]
    have := ih (o := o) (i := i + 1) (h.set (o + i) v)
    rwa [← Nat.add_assoc] at this
theorem mod_setAt {vs : List Value} : ∀ {w : World} {a : Addr} {i : Nat}, Frm (fun b => b = a.block) w (setAt w a vs i) := by
  induction vs with
  | nil => intro w a i; exact Frm.refl _ _
  | cons v r ih =>
    intro w a i
    have h1 : Frm (fun b => b = a.block) w (w.setCell (a.add i) v) := (mod_setCell (a := a.add i)).mono fun x _ hx => by rw [hx, add_block]
    exact h1.trans ih (fun _ _ h => h) (fun _ _ h => h)
theorem setList_size (vs : List Value) : ∀ (cs : Array Value) (o : Nat), (setList cs o vs).size = cs.size := by
  induction vs with
  | nil => intro cs o; rfl
  | cons v r ih => intro cs o; simp [setList, ih]
theorem setList_get (vs : List Value) : ∀ (cs : Array Value) (o i : Nat), o + vs.length ≤ cs.size → (setList cs o vs)[i]? = if o ≤ i ∧ i < o + vs.length then vs[i - o]? else cs[i]? := by
  induction vs with
  | nil => intro cs o i _; simp only [setList, List.length_nil]; rw [if_neg (by omega)]
  | cons v r ih =>
    intro cs o i h
    simp only [List.length_cons] at h ⊢
    simp only [setList]
    rw [ih _ _ _ (by simp; omega)]
    by_cases hi : i = o
    · subst hi
      rw [if_neg (by omega), if_pos (by omega), Array.getElem?_setIfInBounds_self_of_lt (by omega)]
      simp
    · rw [Array.getElem?_setIfInBounds_ne (Ne.symm hi)]
      by_cases h2 : o ≤ i ∧ i < o + (r.length + 1)
      · rw [if_pos (by omega), if_pos h2, show i - o = (i - (o + 1)) + 1 by omega, List.getElem?_cons_succ]
      · rw [if_neg (by omega), if_neg h2]
theorem setList_all (vs : List Value) (cs : Array Value) (h : vs.length = cs.size) : setList cs 0 vs = vs.toArray := by
  apply Array.ext_getElem?
  intro i
  rw [setList_get vs cs 0 i (by omega)]
  by_cases hi : i < vs.length
  · rw [if_pos (by omega)]; simp
  · rw [if_neg (by omega), Array.getElem?_eq_none (by omega), Array.getElem?_eq_none (by simp; omega)]

/-! ### 4. Slices: what they hold -/
def Sl.blk (s : Sl) : Option Nat := s.a.map (·.block)
/-- The slice reads as these cells. -/
structure Has (w : World) (s : Sl) (sz : Nat) (cs : List Value) : Prop where
  len : cs.length = s.l * sz
  get : ∀ j u, cs[j]? = some u → ∃ a, s.a = some a ∧ w.cell? (a.add j) = some u
theorem Has.mod {F : Nat → Prop} {w w' : World} {s : Sl} {sz : Nat} {cs : List Value} (h : Has w s sz cs) (hm : Frm F w w') (hn : ∀ b, s.blk = some b → ¬ F b) : Has w' s sz cs :=
  ⟨h.len, fun j u hu => by
    obtain ⟨a, ha, hc⟩ := h.get j u hu
    exact ⟨a, ha, hm.cell hc (by rw [add_block]; exact hn _ (by simp [Sl.blk, ha]))⟩⟩
theorem Has.drew {w : World} {s : Sl} {sz : Nat} {cs : List Value} (h : Has w s sz cs) : Has w.drew s sz cs := ⟨h.len, h.get⟩
theorem Has.nil (w : World) (sz : Nat) (s : Sl) (h : s.l = 0) : Has w s sz [] := ⟨by simp [h], by simp⟩
theorem Has.ex {w : World} {s : Sl} {sz : Nat} {cs : List Value} (h : Has w s sz cs) {j : Nat} (hj : j < cs.length) : ∃ p, s.a = some p ∧ Ld w (p.add j) cs[j] := by
  obtain ⟨a, ha, hc⟩ := h.get j cs[j] (by simp [hj])
  exact ⟨a, ha, hc⟩
/-- An element of one cell. -/
theorem Has.at1 {w : World} {s : Sl} {cs : List Value} (h : Has w s 1 cs) {i : Int} (h0 : 0 ≤ i) (h1 : i < s.l) : ∃ p v, s.a = some p ∧ cs[i.toNat]? = some v ∧ Ld w (p.add (i.toNat * 1)) v := by
  have hl := h.len
  have hj : i.toNat < cs.length := by omega
  obtain ⟨p, hp, hl⟩ := h.ex hj
  exact ⟨p, cs[i.toNat], hp, by simp [hj], by rw [Nat.mul_one]; exact hl⟩
/-- A row of the call's own: at the head of a block, not frozen. -/
def Row (w : World) (s : Sl) (E : TypeId) (sz : Nat) (cs : List Value) : Prop := w.ownsRow 0 E sz s.val s.l cs
theorem Row.len {w : World} {s : Sl} {E : TypeId} {sz : Nat} {cs : List Value} (h : Row w s E sz cs) : cs.length = s.l * sz := h.1
theorem Row.cases {w : World} {s : Sl} {E : TypeId} {sz : Nat} {cs : List Value} (h : Row w s E sz cs) : (s = ⟨Option.none, 0, 0⟩ ∧ cs = []) ∨ ∃ g cur, s.a = some ⟨g, 0, Option.none⟩ ∧ Blk w g cur E ∧ s.l ≤ s.c ∧ s.c ≤ maxLen ∧ cur.size = s.c * sz ∧ cur.toList.take (s.l * sz) = cs := by
  obtain ⟨sa, sl, sc⟩ := s
  rcases h.2 with ⟨h1, h2⟩ | ⟨g, cap, cur, h1, _, h2, h3, h4, h5, h6⟩
  · simp only [Sl.val, Value.slice.injEq] at h1
    obtain ⟨rfl, rfl, rfl⟩ := h1
    have := h.1
    exact .inl ⟨rfl, List.eq_nil_of_length_eq_zero (by simpa using this)⟩
  · simp only [Sl.val, Value.slice.injEq] at h1
    obtain ⟨rfl, _, rfl⟩ := h1
    exact .inr ⟨g, cur, rfl, h2, h3, h4, h5, h6⟩
theorem Row.nil (w : World) (E : TypeId) (sz : Nat) : Row w ⟨Option.none, 0, 0⟩ E sz [] := ⟨by simp, .inl ⟨rfl, rfl⟩⟩
theorem Row.mk {w : World} {g n c : Nat} {cur : Array Value} {E : TypeId} {sz : Nat} (hb : Blk w g cur E) (h1 : n ≤ c) (h2 : c ≤ maxLen) (h3 : cur.size = c * sz) : Row w ⟨some ⟨g, 0, Option.none⟩, n, c⟩ E sz (cur.toList.take (n * sz)) :=
  ⟨by rw [List.length_take, Array.length_toList, h3]; exact Nat.min_eq_left (Nat.mul_le_mul_right _ h1), .inr ⟨g, c, cur, rfl, Nat.zero_le _, hb, h1, h2, h3, rfl⟩⟩
theorem Row.lt {w : World} {s : Sl} {E : TypeId} {sz : Nat} {cs : List Value} (h : Row w s E sz cs) : ∀ b, s.blk = some b → b < w.heap.size := by
  intro b hb
  rcases h.cases with ⟨rfl, _⟩ | ⟨g, cur, ha, hB, _⟩
  · simp [Sl.blk] at hb
  · simp [Sl.blk, ha] at hb; subst hb; exact hB.lt
theorem Row.mod {F : Nat → Prop} {w w' : World} {s : Sl} {E : TypeId} {sz : Nat} {cs : List Value} (h : Row w s E sz cs) (hm : Frm F w w') (hn : ∀ b, s.blk = some b → ¬ F b) : Row w' s E sz cs := by
  rcases h.2 with h2 | ⟨g, cap, cur, h1, h0, h2, h3⟩
  · exact ⟨h.1, .inl h2⟩
  · have ha : s.a = some ⟨g, 0, Option.none⟩ := by
      have := h1; simp only [Sl.val, Value.slice.injEq] at this; exact this.1
    have hB : Blk w g cur E := h2
    exact ⟨h.1, .inr ⟨g, cap, cur, h1, h0, hB.mod hm (hn g (by simp [Sl.blk, ha])), h3⟩⟩
theorem Row.drew {w : World} {s : Sl} {E : TypeId} {sz : Nat} {cs : List Value} (h : Row w s E sz cs) : Row w.drew s E sz cs := h
theorem Row.has {w : World} {s : Sl} {E : TypeId} {sz : Nat} {cs : List Value} (h : Row w s E sz cs) : Has w s sz cs := by
  refine ⟨h.1, fun j u hu => ?_⟩
  rcases h.cases with ⟨rfl, rfl⟩ | ⟨g, cur, ha, hB, h1, h2, h3, rfl⟩
  · simp at hu
  · refine ⟨_, ha, ?_⟩
    rw [addr_add, Nat.zero_add, hB.cell]
    have hlt := (List.getElem?_eq_some_iff.1 hu).1
    simp only [List.length_take, Array.length_toList] at hlt
    rw [List.getElem?_take] at hu
    rw [if_pos (by omega)] at hu
    simpa using hu
/-- Cells of a row written. -/
theorem Row.wr {w : World} {s : Sl} {E : TypeId} {sz : Nat} {cs : List Value} (h : Row w s E sz cs) {j : Nat} (hj : j < cs.length) : ∃ g, s.a = some ⟨g, 0, Option.none⟩ ∧ Wr w ⟨g, j, Option.none⟩ ∧ ∀ v, Row (w.setCell ⟨g, j, Option.none⟩ v) s E sz (cs.set j v) := by
  rcases h.cases with ⟨rfl, rfl⟩ | ⟨g, cur, ha, hB, h1, h2, h3, h4⟩
  · simp at hj
  · have hl := h.len
    have hjc : j < cur.size := by
      have := Nat.mul_le_mul_right sz h1
      omega
    refine ⟨g, ha, hB.wr hjc, fun v => ?_⟩
    have hB' := hB.set j v
    have := Row.mk (n := s.l) hB' h1 h2 (by simpa using h3)
    have he : (⟨some ⟨g, 0, Option.none⟩, s.l, s.c⟩ : Sl) = s := by cases s; simp_all
    rw [he] at this
    have hcs : (cur.setIfInBounds j v).toList.take (s.l * sz) = cs.set j v := by
      rw [← h4, Array.toList_setIfInBounds, List.take_set]
    rwa [hcs] at this

/-! ### 5. Types of slices, and what the builtins do -/
structure SlT (P : Program) (t E : TypeId) (sz bytes : Nat) (z : Value) : Prop where
  und : P.underlying t = some (.slice E)
  inf : (P.info? E).map (fun i => (i.zero, i.size, i.bytes)) = some (some z, sz, bytes)
  zc : z.cells.size = sz
  pos : 0 < sz
theorem SlT.info {P : Program} {t E : TypeId} {sz bytes : Nat} {z : Value} (T : SlT P t E sz bytes z) : ∃ i, P.info? E = some i ∧ i.zero = some z ∧ i.size = sz ∧ i.bytes = bytes := by
  obtain ⟨i, hi, h⟩ := Option.map_eq_some_iff.1 T.inf
  simp only [Prod.mk.injEq] at h
  exact ⟨i, hi, h.1, h.2.1, h.2.2⟩
theorem mod_grown {w w' : World} {row : Option Nat} (h : w.grownBy w' row) : Frm (fun b => row = some b) w w' := ⟨h.os, h.tape, h.output, h.size, fun b hb hn => h.block b hb fun he => hn he.symm⟩
theorem ownBlock_blk (s : Sl) : s.val.ownBlock = s.blk := by
  obtain ⟨sa, sl, sc⟩ := s
  cases sa <;> rfl
/-- Where a row lies behind an append: where it lay, or in a new block. -/
def Near (w : World) (s s' : Sl) : Prop := s'.blk = s.blk ∨ s'.blk = some w.heap.size
theorem Near.cases {w : World} {s s' : Sl} (h : Near w s s') {b : Nat} (hb : s'.blk = some b) : s.blk = some b ∨ b = w.heap.size := by
  rcases h with h | h
  · exact .inl (h ▸ hb)
  · right; rw [h] at hb; simpa using hb.symm
section
variable {P : Program}
theorem runT_append {t ty E : TypeId} {sz bytes : Nat} {z : Value} (T : SlT P t E sz bytes z) {w : World} {s x : Sl} {cs news : List Value} (h : Row w s E sz cs) (hx : Has w x sz news) (h1 : ∀ u ∈ news, u.oneCell' = true)
    (hb : (s.l + x.l) * bytes ≤ 140737488355328) (hm : s.l + x.l ≤ maxLen) {K : Sl → World → Prop}
    (hk : ∀ s' w', Row w' s' E sz (cs ++ news) → s'.l = s.l + x.l → Near w s s' → Frm (fun b => s.blk = some b) w w' → K s' w') :
    RunT P .slice (Builtin.append_ #[t, t] ty #[.slice s.a s.l s.c, .slice x.a x.l x.c]) w K := by
  obtain ⟨i, hi, hz, hsz, hby⟩ := T.info
  unfold RunT
  have fin : ∀ (v' : Value) (w' : World), w'.ownsRow 0 E sz v' (s.l + x.l) (cs ++ news) → w.grownBy w' s.val.ownBlock → (v'.ownBlock = s.val.ownBlock ∨ v'.ownBlock = some w.heap.size) → ∃ q : Sl, v' = Ty.slice.enc q ∧ K q w' := by
    intro v' w' hown hg hat
    obtain ⟨q, rfl, hq⟩ : ∃ q : Sl, v' = q.val ∧ q.l = s.l + x.l := by
      rcases hown.2 with ⟨rfl, h0⟩ | ⟨g, cap, cur, rfl, _⟩
      · exact ⟨⟨Option.none, 0, 0⟩, rfl, by simp; omega⟩
      · exact ⟨⟨some ⟨g, 0, Option.none⟩, s.l + x.l, cap⟩, rfl, rfl⟩
    refine ⟨q, rfl, hk q w' ?_ hq ?_ ?_⟩
    · unfold Row; rw [hq]; exact hown
    · simpa only [Near, ownBlock_blk] using hat
    · rw [ownBlock_blk] at hg; exact mod_grown hg
  cases hxa : x.a with
  | some a =>
    have hnews : ∀ j u, news[j]? = some u → w.cell? (a.add j) = some u := fun j u hu => by
      obtain ⟨a', ha', hc⟩ := hx.get j u hu
      rw [hxa] at ha'; cases ha'; exact hc
    obtain ⟨v', w', hr, hown, hg, _, hat⟩ := run_append_own_at (P := P) w 0 t ty E i z sz bytes T.und hi hz hsz hby T.zc T.pos s.val s.l cs h a x.l x.c news hx.len hnews h1 hm hb (Nat.zero_le _)
    rw [hr]
    exact fin v' w' hown hg hat
  | none =>
    have hn : news = [] := by
      cases news with
      | nil => rfl
      | cons u r =>
        obtain ⟨a', ha', _⟩ := hx.get 0 u rfl
        rw [hxa] at ha'; cases ha'
    have hl : x.l = 0 := by
      have := hx.len
      rw [hn, List.length_nil] at this
      rcases Nat.mul_eq_zero.1 this.symm with h | h
      · exact h
      · have := T.pos; omega
    subst hn
    have hxc : (Builtin.append_ #[t, t] ty #[.slice s.a s.l s.c, .slice Option.none x.l x.c]).run P w = .ok s.val w := by
      rw [hl]
      rcases h.cases with ⟨rfl, _⟩ | ⟨g, cur, ha, _, hlc, _⟩
      · simp [Builtin.append_, run_underlying T.und, sizeOf, typeInfo, hi, Builtin.lenOf, Builtin.firstCells, Sl.val]
      · simp [Builtin.append_, run_underlying T.und, sizeOf, typeInfo, hi, Builtin.lenOf, Builtin.firstCells, hlc, ha, storeCells, Sl.val]
    rw [hxc]
    refine fin _ _ ?_ (World.grownBy.refl _ _) (.inl rfl)
    rw [hl, List.append_nil]
    exact h
theorem fill_one {v : Value} {zs : Array Value} {n : Nat} (h : v.cells.size = n) (hz : zs.size = n) (place : Nat → Option (Nat × Nat)) (hp : place 0 = some (0, n)) : Instr.fill place zs [(0, v)] = some v.cells := by
  have key : ∀ (l : List Value) (k : Nat) (acc : Array Value), k + l.length ≤ acc.size → (l.zipIdx k).foldl (fun cs (p : Value × Nat) => cs.setIfInBounds (0 + p.2) p.1) acc = setList acc k l := by
    intro l
    induction l with
    | nil => intro k acc _; rfl
    | cons a r ih =>
      intro k acc hl
      simp only [List.zipIdx_cons, List.foldl_cons, setList, Nat.zero_add]
      simp only [Nat.zero_add] at ih
      exact ih _ _ (by simp at hl ⊢; omega)
  have hk := key v.cells.toList 0 zs (by simp [h, hz])
  rw [setList_all _ _ (by simp [h, hz])] at hk
  simp only [Instr.fill, hp, h, hz]
  simp only [ne_eq, not_true_eq_false, Nat.zero_add, Nat.lt_irrefl, decide_false, Bool.or_false, if_false, gt_iff_lt]
  have : v.cells.zipIdx.foldl (fun cs (p : Value × Nat) => cs.setIfInBounds (0 + p.2) p.1) zs = v.cells := by
    rw [← Array.foldl_toList, Array.toList_zipIdx, hk]
  simpa using this
/-- A literal of one element. -/
theorem runT_lit1 {t E : TypeId} {sz bytes : Nat} {z : Value} (T : SlT P t E sz bytes z) (hbig : sz ≤ 16777216) {w : World} {v : Value} (hv : v.cells.size = sz) {K : Sl → World → Prop}
    (hk : ∀ w', Row w' ⟨some ⟨w.heap.size, 0, Option.none⟩, 1, 1⟩ E sz v.cells.toList → Frm none_ w w' → w'.heap.size = w.heap.size + 1 → K ⟨some ⟨w.heap.size, 0, Option.none⟩, 1, 1⟩ w') :
    RunT P .slice (Instr.buildSlice t 1 #[(0, v)]) w K := by
  obtain ⟨i, hi, hz, hsz, hby⟩ := T.info
  unfold RunT
  have hp := T.pos
  have hf : Instr.fill (fun i => some (i * sz, sz)) ((Array.range (1 * sz)).map fun j => z.cells[j % z.cells.size]!) [(0, v)] = some v.cells := fill_one hv (by simp) _ (by simp)
  have hr : (Instr.buildSlice t 1 #[(0, v)]).run P w = .ok (.slice (some ⟨w.heap.size, 0, Option.none⟩) 1 1) (w.alloc (.cells v.cells E)) := by
    have hne : ¬ 1 * sz > 2 ^ 24 := by omega
    have hne0 : ¬ 1 * sz = 0 := by omega
    simp only [Instr.buildSlice, Sem.run_bind, run_underlying T.und, Result.andThen_ok, run_size hi, hsz]
    rw [if_neg hne, if_neg hne0]
    have hf' : Instr.fill (fun i => some (i * sz, sz)) ((Array.range sz).map fun j => z.cells[j % z.cells.size]!) [(0, v)] = some v.cells := by simpa using hf
    have hzv : (zeroValue E).run P w = .ok z w := by simp [zeroValue, typeInfo, Sem.run_bind, hi, hz]
    simp only [Sem.run_bind, hzv, Sem.run_pure, Result.andThen_ok, Nat.one_mul, hf']
    rw [run_new]
    rfl
  rw [hr]
  refine ⟨⟨some ⟨w.heap.size, 0, Option.none⟩, 1, 1⟩, rfl, hk _ ?_ ?_ (by simp)⟩
  · have hB : Blk (w.alloc (.cells v.cells E)) w.heap.size v.cells E := heap_alloc_new w _
    have := Row.mk (n := 1) hB (Nat.le_refl 1) (by decide) (by simpa using hv)
    rwa [List.take_of_length_le (by simp [hv])] at this
  · exact NewB.mod ⟨rfl, rfl⟩ none_
/-- An empty literal. -/
theorem runT_lit0 {t E : TypeId} {sz bytes : Nat} {z : Value} (T : SlT P t E sz bytes z) {w : World} {K : Sl → World → Prop}
    (hk : ∀ w', Row w' ⟨some ⟨w.heap.size, 0, Option.none⟩, 0, 0⟩ E sz [] → Frm none_ w w' → w'.heap.size = w.heap.size + 1 → K ⟨some ⟨w.heap.size, 0, Option.none⟩, 0, 0⟩ w') :
    RunT P .slice (Instr.buildSlice t 0 #[]) w K := by
  obtain ⟨i, hi, hz, hsz, hby⟩ := T.info
  unfold RunT
  have hr : (Instr.buildSlice t 0 #[]).run P w = .ok (.slice (some ⟨w.heap.size, 0, Option.none⟩) 0 0) (w.alloc (.cells #[] E)) := by
    have h0 : Array.range 0 = #[] := rfl
    simp [Instr.buildSlice, Sem.run_bind, run_underlying T.und, run_size hi, Instr.fill, run_new, h0]
  rw [hr]
  refine ⟨⟨some ⟨w.heap.size, 0, Option.none⟩, 0, 0⟩, rfl, hk _ ?_ ?_ (by simp)⟩
  · have hB : Blk (w.alloc (.cells #[] E)) w.heap.size #[] E := heap_alloc_new w _
    have := Row.mk (n := 0) (sz := sz) hB (Nat.le_refl 0) (by decide) (by simp)
    simpa using this
  · exact NewB.mod ⟨rfl, rfl⟩ none_
/-- make([]T, 0, n) -/
theorem runT_make0 {t E : TypeId} {sz bytes : Nat} {z : Value} (T : SlT P t E sz bytes z) {w : World} {kl kc : IntKind} {n : Int} (h0 : 0 ≤ n) (hb : bytes * n ≤ 281474976710656) (hm : n ≤ 9223372036854775807) {K : Sl → World → Prop}
    (hk : ∀ s w', Row w' s E sz [] → s.l = 0 → s.blk = some w.heap.size → Frm none_ w w' → w'.heap.size = w.heap.size + 1 → K s w') :
    RunT P .slice (Instr.makeSlice t (.int kl 0) (.int kc n)) w K := by
  obtain ⟨i, hi, hz, hsz, hby⟩ := T.info
  subst hby
  have hr := run_make (P := P) w t E i z T.und hi hz kl kc 0 n (Int.le_refl _) h0 hb hm
  unfold RunT
  rw [hr]
  refine ⟨⟨some ⟨w.heap.size, 0, Option.none⟩, 0, n.toNat⟩, rfl, hk _ _ ?_ rfl rfl (NewB.mod ⟨rfl, rfl⟩ none_) (by simp)⟩
  have hB : Blk (w.alloc (.cells (madeCells z.cells (n.toNat * i.size)) E)) w.heap.size (madeCells z.cells (n.toNat * i.size)) E := heap_alloc_new w _
  have := Row.mk (n := 0) (c := n.toNat) (sz := sz) hB (Nat.zero_le _) (by simp only [maxLen]; omega) (by rw [size_madeCells, hsz])
  simpa using this
/-- make([]T, n) -/
theorem runT_makeN {t E : TypeId} {sz bytes : Nat} {z : Value} (T : SlT P t E sz bytes z) {w : World} {kl kc : IntKind} {n : Int} (h0 : 0 ≤ n) (hb : bytes * n ≤ 281474976710656) (hm : n ≤ 9223372036854775807) {K : Sl → World → Prop}
    (hk : ∀ s w', Row w' s E sz (madeCells z.cells (n.toNat * sz)).toList → s.l = n.toNat → s.c = n.toNat → s.a = some ⟨w.heap.size, 0, Option.none⟩ → Frm none_ w w' → w'.heap.size = w.heap.size + 1 → K s w') :
    RunT P .slice (Instr.makeSlice t (.int kl n) (.int kc n)) w K := by
  obtain ⟨i, hi, hz, hsz, hby⟩ := T.info
  subst hby
  have hr := run_make (P := P) w t E i z T.und hi hz kl kc n n h0 (Int.le_refl _) hb hm
  unfold RunT
  rw [hr]
  refine ⟨⟨some ⟨w.heap.size, 0, Option.none⟩, n.toNat, n.toNat⟩, rfl, hk _ _ ?_ rfl rfl rfl (NewB.mod ⟨rfl, rfl⟩ none_) (by simp)⟩
  have hB : Blk (w.alloc (.cells (madeCells z.cells (n.toNat * i.size)) E)) w.heap.size (madeCells z.cells (n.toNat * i.size)) E := heap_alloc_new w _
  have := Row.mk (n := n.toNat) (c := n.toNat) (sz := sz) hB (Nat.le_refl _) (by simp only [maxLen]; omega) (by rw [size_madeCells, hsz])
  rw [List.take_of_length_le (by rw [Array.length_toList, size_madeCells, hsz]; exact Nat.le_refl _)] at this
  rw [← hsz] at this ⊢
  exact this

/-! ### 6. Bytes and strings -/
def bv (l : List UInt8) : List Value := l.map fun b => .int .u8 (b.toNat : Int)
theorem bv_length (l : List UInt8) : (bv l).length = l.length := by simp [bv]
theorem bv_append (l m : List UInt8) : bv (l ++ m) = bv l ++ bv m := by simp [bv]
theorem bv_one (l : List UInt8) : ∀ u ∈ bv l, u.oneCell' = true := by
  intro u hu
  obtain ⟨b, _, rfl⟩ := List.mem_map.1 hu
  rfl
theorem bv_get {l : List UInt8} {i : Nat} {v : Value} (h : (bv l)[i]? = some v) : ∃ b, l[i]? = some b ∧ v = .int .u8 (b.toNat : Int) := by
  simp only [bv, List.getElem?_map, Option.map_eq_some_iff] at h
  obtain ⟨b, hb, rfl⟩ := h
  exact ⟨b, hb, rfl⟩
def str (l : List UInt8) : ByteArray := ⟨l.toArray⟩
theorem str_list (s : ByteArray) : str s.data.toList = s := by cases s; rfl
theorem str_size (l : List UInt8) : (str l).size = l.length := rfl
theorem str_data (l : List UInt8) : (str l).data.toList = l := rfl
theorem foldl_push (l : List UInt8) : ∀ (acc : ByteArray), l.foldl (fun (s : ByteArray) b => s.push b) acc = str (acc.data.toList ++ l) := by
  induction l with
  | nil => intro acc; simp [str]
  | cons b r ih =>
    intro acc
    rw [List.foldl_cons, ih]
    simp [str, ByteArray.push]
theorem runT_str {src dst e : TypeId} (hs : P.underlying src = some (.slice e)) (he : P.underlying e = some (.int .u8)) (hd : P.underlying dst = some .string) {w : World} {s : Sl} {l : List UInt8} (h : Has w s 1 (bv l)) {K : ByteArray → World → Prop} (hk : K (str l) w) :
    RunT P .str (convert src dst (.slice s.a s.l s.c)) w K := by
  unfold RunT
  have hl : l.length = s.l := by have := h.len; rw [bv_length] at this; omega
  cases ha : s.a with
  | none =>
    have hn : l = [] := by
      cases l with
      | nil => rfl
      | cons b r =>
        obtain ⟨a, ha', _⟩ := h.get 0 _ rfl
        rw [ha] at ha'; cases ha'
    subst hn
    rw [run_convert_bytes_nil w src e hs he s.l s.c dst hd]
    exact ⟨_, rfl, hk⟩
  | some a =>
    have hr : (convert src dst (.slice (some a) s.l s.c)).run P w = .ok (.string (str l)) w := by
      rw [run_convert_bytes_string w src dst e _ s.l s.c hs he hd]
      have hcells : (loadCells a (l.map fun b => (Value.int .u8 (b.toNat : Int))).length).run P w = .ok (l.map fun b => (Value.int .u8 (b.toNat : Int))).toArray w := run_loadCells_list (P := P) w a _ (fun j v hv => by
        obtain ⟨a', ha', hc⟩ := h.get j v hv
        rw [ha] at ha'; cases ha'; exact hc)
      rw [run_bytesToString w a s.l s.c (l.map fun b => (b.toNat : Int))]
      · congr 2
        have key : ∀ (l : List UInt8) (acc : ByteArray), (l.map fun b => (b.toNat : Int)).foldl (fun (s : ByteArray) (n : Int) => s.push (UInt8.ofNat n.toNat)) acc = l.foldl (fun (s : ByteArray) b => s.push b) acc := by
          intro l
          induction l with
          | nil => intro acc; rfl
          | cons b r ih => intro acc; simp [ih]
        rw [key, foldl_push]
        simp [str]
      · have e1 : (l.map fun b => (b.toNat : Int)).map (Value.int .u8) = l.map fun b => (Value.int .u8 (b.toNat : Int)) := by simp
        rw [List.length_map] at hcells
        rw [← hl, e1]
        exact hcells
    rw [hr]
    exact ⟨_, rfl, hk⟩
theorem str_beq (s t : ByteArray) : (s.toList == t.toList) = decide (s.data.toList = t.data.toList) := by
  rw [ByteArray.toList_eq, ByteArray.toList_eq]
  by_cases h : s.data.toList = t.data.toList
  · rw [decide_eq_true h]; exact beq_iff_eq.2 h
  · rw [decide_eq_false h]; exact beq_eq_false_iff_ne.2 h
theorem str_toList (l : List UInt8) : (str l).toList = l := by rw [ByteArray.toList_eq]; rfl

theorem strCells_bv (s : ByteArray) : Lib.strCells s = bv s.data.toList := rfl
theorem mod_setRow (w : World) (g : Nat) (cs : Array Value) : Frm (fun b => b = g) w (w.setRow g cs) :=
  ⟨rfl, rfl, rfl, by simp, fun b _ hn => setRow_other w g b cs hn⟩
/-- append([]byte, s...), s a string; the row is not nil -/
theorem runT_appendStr {t u ty E : TypeId} (T : SlT P t E 1 1 (.int .u8 0)) (hu : P.underlying u = some .string) {w : World} {s : Sl} {cs : List Value} (h : Row w s E 1 cs) (hne : ∃ g, s.blk = some g) (x : ByteArray)
    (hb : s.l + x.size ≤ 140737488355328) {K : Sl → World → Prop}
    (hk : ∀ s' w', Row w' s' E 1 (cs ++ bv x.data.toList) → s'.l = s.l + x.size → Near w s s' → Frm (fun b => s.blk = some b) w w' → K s' w') :
    RunT P .slice (Builtin.append_ #[t, u] ty #[.slice s.a s.l s.c, .string x]) w K := by
  obtain ⟨i, hi, hz, hsz, hby⟩ := T.info
  unfold RunT
  rcases h.cases with ⟨rfl, _⟩ | ⟨g, cur, ha, hB, hlc, hcm, hcs, htake⟩
  · obtain ⟨g, hg⟩ := hne; simp [Sl.blk] at hg
  · have hblk : s.blk = some g := by simp [Sl.blk, ha]
    simp only [Nat.mul_one] at hcs htake
    have hxl : x.data.toList.length = x.size := Array.length_toList
    by_cases hroom : s.l + x.size ≤ s.c
    · have hr := Lib.run_append_room_string (P := P) w t u ty E i T.und hu hi hsz g s.l s.c cur hB x hroom (by omega)
      rw [ha, hr]
      refine ⟨⟨some ⟨g, 0, Option.none⟩, s.l + x.size, s.c⟩, rfl, hk _ _ ?_ rfl (.inl (by simp [Sl.blk, ha])) ?_⟩
      · have hB' : Blk (w.setRow g (cur.toList.take s.l ++ Lib.strCells x ++ cur.toList.drop (s.l + x.size)).toArray) g (cur.toList.take s.l ++ Lib.strCells x ++ cur.toList.drop (s.l + x.size)).toArray E := setRow_heap w g cur _ E _ hB
        have hlt : (cur.toList.take s.l ++ Lib.strCells x).length = s.l + x.size := by simp [Lib.strCells_length]; omega
        have := Row.mk (n := s.l + x.size) (c := s.c) (sz := 1) hB' hroom hcm (by simp [Lib.strCells_length]; omega)
        rw [Nat.mul_one] at this
        have he : ((cur.toList.take s.l ++ Lib.strCells x ++ cur.toList.drop (s.l + x.size)).toArray.toList.take (s.l + x.size)) = cs ++ bv x.data.toList := by
          rw [← htake, ← strCells_bv]
          simp only [List.toList_toArray]
          rw [← hlt]
          exact List.take_left
        rwa [he] at this
      · exact (mod_setRow w g _).mono fun b _ hb => by rw [hb]; exact hblk
    · have hgl := grownCap_ge w (s.l + x.size) s.c E
      have hgm := grownCap_le_maxLen w (s.l + x.size) s.c E (by simp only [maxLen]; omega)
      have hcl : cs.length = s.l := by have := h.len; omega
      have hhas := h.has
      have hfit : Builtin.nextslicecap (s.l + x.size) s.c * i.bytes ≤ 281474976710656 := by
        rw [hby]
        have := nextslicecap_le (need := s.l + x.size) (old := s.c) (by omega)
        omega
      have hr := Lib.run_append_grow_string (P := P) w t u ty E i (.int .u8 0) T.und hu hi hz ⟨g, 0, Option.none⟩ s.l s.c cs (by rw [hsz]; omega) (fun j v hv => by
        obtain ⟨a, ha', hc⟩ := hhas.get j v hv
        rw [ha] at ha'; cases ha'; exact hc) x (by omega) (by omega) hfit
      rw [ha, hr]
      refine ⟨⟨some ⟨w.heap.size, 0, Option.none⟩, s.l + x.size, grownCap w (s.l + x.size) s.c E⟩, rfl, hk _ _ ?_ rfl (.inr rfl) ?_⟩
      · have hB' := NewB.blk (w := w.drew) (cs := cs.toArray ++ (Lib.strCells x).toArray ++ Builtin.zeroCells (Value.int .u8 0).cells (grownCap w (s.l + x.size) s.c E - (s.l + x.size))) (T := E) ⟨rfl, rfl⟩
        have hz1 : (Value.int IntKind.u8 0).cells.size = 1 := rfl
        have hlt : (cs ++ Lib.strCells x).length = s.l + x.size := by simp [Lib.strCells_length]; omega
        have := Row.mk (n := s.l + x.size) (sz := 1) hB' hgl hgm (by simp only [Array.size_append, List.size_toArray, size_zeroCells, hz1, hcl, Lib.strCells_length]; omega)
        rw [Nat.mul_one] at this
        have he : ((cs.toArray ++ (Lib.strCells x).toArray ++ Builtin.zeroCells (Value.int .u8 0).cells (grownCap w (s.l + x.size) s.c E - (s.l + x.size))).toList.take (s.l + x.size)) = cs ++ bv x.data.toList := by
          simp only [Array.toList_append]
          rw [← hlt, ← strCells_bv]
          exact List.take_left
        rwa [he] at this
      · exact (NewB.mod (w := w.drew) ⟨rfl, rfl⟩ _).ofDrew
end
end Go.Proofs.YtlbipbepeeopaaaV
