/- The heap in memory: what heap.Push and heap.Pop do to it. -/
import Derived.Test.YtjpcbggodhfabaaH
import Derived.Test.YtjpcbggodhfabaaF2
set_option linter.unusedVariables false
set_option linter.unusedSimpArgs false
namespace Go.Proofs.Ytjpcbggodhfabaa
open Go Go.Proofs.YtjpcbggodhfabaaV
def hv (b : Nat) : Value := .iface 36 (.pointer (some ⟨b, 0, none⟩))
theorem st37 : SlT prog 37 3 1 8 (.int .i64 0) := ⟨by kernel_rfl, by kernel_rfl, rfl, by decide⟩
structure Hw (w : World) (b : Nat) (s : Sl) (l : List Int) : Prop where
  blk : Blk w b #[slv s] 39
  row : RowG w s 3 1 (iv l)
theorem Hw.len {w : World} {b : Nat} {s : Sl} {l : List Int} (h : Hw w b s l) : s.l = l.length := has_iv h.row.has
theorem Hw.mod {F : Nat → Prop} {w w' : World} {b : Nat} {s : Sl} {l : List Int} (h : Hw w b s l) (f : Frm F w w') (hb : ¬ F b) (hs : ∀ k, s.blk = some k → ¬ F k) : Hw w' b s l := ⟨h.blk.mod f hb, h.row.mod f hs⟩
theorem Hw.ne {w : World} {b : Nat} {s : Sl} {l : List Int} (h : Hw w b s l) : s.blk ≠ some b := h.row.blkNeB h.blk.g (by decide)
theorem load_run {w : World} {a : Addr} {v : Value} (h : Ld w a v) : (load a).run prog w = .ok v w := by
  have h : w.cell? a = some v := h
  simp [load, Sem.run, h]
theorem cf28 (args : Array Value) (w : World) : (callFunc 28 args).run prog w = .ok (.enter 28 args) w := by kernel_rfl
theorem cf55 (args : Array Value) (w : World) : (callFunc 55 args).run prog w = .ok (.enter 55 args) w := by kernel_rfl
theorem cf59 (args : Array Value) (w : World) : (callFunc 59 args).run prog w = .ok (.enter 59 args) w := by kernel_rfl
theorem meth28 (b : Nat) (w : World) : (method (prog.types.size + Made.depth) 36 (.pointer (some ⟨b, 0, none⟩)) "Len").run prog w = (do pure ((28 : FuncId), ← load ⟨b, 0, none⟩) : Sem (FuncId × Value)).run prog w := by kernel_rfl
theorem meth55 (b : Nat) (w : World) : (method (prog.types.size + Made.depth) 36 (.pointer (some ⟨b, 0, none⟩)) "Less").run prog w = (do pure ((55 : FuncId), ← load ⟨b, 0, none⟩) : Sem (FuncId × Value)).run prog w := by kernel_rfl
theorem meth59 (b : Nat) (w : World) : (method (prog.types.size + Made.depth) 36 (.pointer (some ⟨b, 0, none⟩)) "Swap").run prog w = (do pure ((59 : FuncId), ← load ⟨b, 0, none⟩) : Sem (FuncId × Value)).run prog w := by kernel_rfl
theorem cm28 {b : Nat} {w : World} {v : Value} (h : Ld w ⟨b, 0, none⟩ v) (args : Array Value) : (callMethod (hv b) "Len" args).run prog w = .ok (.enter 28 (#[v] ++ args)) w := by
  simp only [callMethod, hv, Sem.run_bind, run_program, Result.andThen_ok, meth28, load_run h, Sem.run_pure, cf28]
theorem cm55 {b : Nat} {w : World} {v : Value} (h : Ld w ⟨b, 0, none⟩ v) (args : Array Value) : (callMethod (hv b) "Less" args).run prog w = .ok (.enter 55 (#[v] ++ args)) w := by
  simp only [callMethod, hv, Sem.run_bind, run_program, Result.andThen_ok, meth55, load_run h, Sem.run_pure, cf55]
theorem cm59 {b : Nat} {w : World} {v : Value} (h : Ld w ⟨b, 0, none⟩ v) (args : Array Value) : (callMethod (hv b) "Swap" args).run prog w = .ok (.enter 59 (#[v] ++ args)) w := by
  simp only [callMethod, hv, Sem.run_bind, run_program, Result.andThen_ok, meth59, load_run h, Sem.run_pure, cf59]
theorem cm57 (b : Nat) (w : World) (x : Value) : (callMethod (hv b) "Push" #[x]).run prog w = .ok (.enter 57 #[.pointer (some ⟨b, 0, none⟩), x]) w := by kernel_rfl
theorem cm56 (b : Nat) (w : World) : (callMethod (hv b) "Pop" #[]).run prog w = .ok (.enter 56 #[.pointer (some ⟨b, 0, none⟩)]) w := by kernel_rfl
theorem mk3 (v : Value) (w : World) : (Instr.makeInterface 3 v).run prog w = .ok (.iface 3 v) w := by kernel_rfl
theorem mk36 (v : Value) (w : World) : (Instr.makeInterface 36 v).run prog w = .ok (.iface 36 v) w := by kernel_rfl
theorem ta3 (v : Value) (w : World) : (Instr.typeAssert (.iface 3 v) 20 3 false).run prog w = .ok v w := by kernel_rfl
theorem runT_mk3 {v : Value} {w : World} {K : Value → World → Prop} (h : K (.iface 3 v) w) : RunT prog .val (Instr.makeInterface 3 v) w K := by
  unfold RunT; rw [mk3]; exact ⟨_, rfl, h⟩
theorem runT_mk36 {v : Value} {w : World} {K : Value → World → Prop} (h : K (.iface 36 v) w) : RunT prog .val (Instr.makeInterface 36 v) w K := by
  unfold RunT; rw [mk36]; exact ⟨_, rfl, h⟩
theorem runT_ta3 {v : Value} {w : World} {K : Value → World → Prop} (h : K v w) : RunT prog .val (Instr.typeAssert (.iface 3 v) 20 3 false) w K := by
  unfold RunT; rw [ta3]; exact ⟨_, rfl, h⟩
theorem Hw.ld {w : World} {b : Nat} {s : Sl} {l : List Int} (h : Hw w b s l) : Ld w ⟨b, 0, none⟩ (.slice s.a s.l s.c) := h.blk.ld rfl
theorem len_run {w : World} {b : Nat} {s : Sl} {l : List Int} (h : Hw w b s l) {K : Value → World → Prop} (hk : K (.int .i64 (l.length : Int)) w) : RunN prog (callMethod (hv b) "Len" #[]) w K := by
  refine RunN.enter (cm28 h.ld #[]) ?_
  refine (W28 (x0 := s) (Q := K) ?_)
  unfold F28
  rw [h.len]; exact hk
theorem Hw.at {w : World} {b : Nat} {s : Sl} {l : List Int} (h : Hw w b s l) {i : Nat} (hi : i < l.length) : ∃ q, s.a = some q ∧ Ld w (q.add (i * 1)) (.int .i64 (ge l i)) := by
  have hl := h.len
  obtain ⟨q, n, hq, hn, hld⟩ := has_at h.row.has (i := i) (by omega)
  rw [ge_get hi] at hn; cases hn
  exact ⟨q, hq, hld⟩
theorem less_run {w : World} {b : Nat} {s : Sl} {l : List Int} (h : Hw w b s l) {i j : Nat} (hi : i < l.length) (hj : j < l.length) {K : Value → World → Prop} (hk : K (.bool (decide (ge l i < ge l j))) w.drew) :
    RunN prog (callMethod (hv b) "Less" #[.int .i64 (i : Int), .int .i64 (j : Int)]) w K := by
  refine RunN.enter (cm55 h.ld _) ?_
  refine (W55 (x0 := s) (x1 := (i : Int)) (x2 := (j : Int)) (Q := K) ?_)
  unfold F55
  have hl := h.len
  have h' : Hw w.drew b s l := ⟨h.blk.drew, h.row⟩
  obtain ⟨q, hq, h1⟩ := h'.at hi
  obtain ⟨q', hq', h2⟩ := h'.at hj
  exact ⟨q, hq, by omega, by omega, _, by rw [Int.toNat_natCast]; exact h1, q', hq', by omega, by omega, _, by rw [Int.toNat_natCast]; exact h2, hk⟩
theorem iv_set (l : List Int) (j : Nat) (v : Int) : (iv l).set j (.int .i64 v) = iv (l.set j v) := by simp [iv, List.map_set]
theorem swap_run {w : World} {b : Nat} {s : Sl} {l : List Int} (h : Hw w b s l) {i j : Nat} (hi : i < l.length) (hj : j < l.length) {K : Value → World → Prop} (hk : ∀ w', Hw w' b s (sw l i j) → Frm (fun k => s.blk = some k) w w' → K (.tuple #[]) w') :
    RunN prog (callMethod (hv b) "Swap" #[.int .i64 (i : Int), .int .i64 (j : Int)]) w K := by
  refine RunN.enter (cm59 h.ld _) ?_
  refine (W59 (x0 := s) (x1 := (i : Int)) (x2 := (j : Int)) (Q := K) ?_)
  unfold F59
  have hl := h.len
  have hne := h.ne
  have h' : Hw w.drew b s l := ⟨h.blk.drew, h.row⟩
  obtain ⟨q, hq, h1⟩ := h'.at hi
  obtain ⟨q', hq', h2⟩ := h'.at hj
  obtain ⟨g, hg, hwr, hset⟩ := h'.row.wr (j := i) (by rw [iv_len]; exact hi)
  have hgb : s.blk = some g := by simp [Sl.blk, hg]
  have hr1 := hset (.int .i64 (ge l j))
  rw [iv_set] at hr1
  obtain ⟨g', hg', hwr2, hset2⟩ := hr1.wr (j := j) (by rw [iv_len, List.length_set]; exact hj)
  rw [hg] at hg'; cases hg'
  have hr2 := hset2 (.int .i64 (ge l i))
  rw [iv_set] at hr2
  have e1 : (⟨g, 0, none⟩ : Addr).add ((i : Int).toNat * 1) = ⟨g, i, none⟩ := by rw [addr_add]; simp
  have e2 : (⟨g, 0, none⟩ : Addr).add ((j : Int).toNat * 1) = ⟨g, j, none⟩ := by rw [addr_add]; simp
  refine ⟨fun w' => w' = w.drew, rfl, q', hq', by omega, by omega, ge l j, ?_, q, hq, by omega, by omega, ge l i, ?_, _, hg, by omega, by omega, by rw [e1]; exact hwr, ?_⟩
  · rintro w' rfl; rw [Int.toNat_natCast]; exact h2
  · rintro w' rfl; rw [Int.toNat_natCast]; exact h1
  rintro w1 rfl
  refine ⟨_, hg, by omega, by omega, by rw [e1, e2]; exact hwr2, ?_⟩
  rintro w2 rfl
  rw [e1, e2]
  have f1 : Frm (fun k => s.blk = some k) w ((w.drew.setCell ⟨g, i, none⟩ (.int .i64 (ge l j))).setCell ⟨g, j, none⟩ (.int .i64 (ge l i))) :=
    Frm.ofDrew ((mod_setCell (a := ⟨g, i, none⟩)).trans (mod_setCell (a := ⟨g, j, none⟩)) (fun x _ he => by have he : x = g := he; rw [he]; exact hgb) (fun x _ he => by have he : x = g := he; rw [he]; exact hgb))
  exact hk _ ⟨h.blk.mod f1 hne, hr2⟩ f1
theorem par (j : Nat) (hj : j ≤ 1000000000) : IntKind.wrap .i64 (Int.tdiv (IntKind.wrap .i64 ((j : Int) - 1)) 2) = (((j - 1) / 2 : Nat) : Int) := by
  rw [wrap64 ((j : Int) - 1) (by omega)]
  by_cases h : j = 0
  · subst h; decide
  · rw [Int.tdiv_eq_ediv_of_nonneg (by omega), wrap64 _ (by omega)]
    omega
theorem up_calls (w : World) (b : Nat) (s : Sl) (l : List Int) (h : Hw w b s l) (j : Nat) (inv : UpI l l.length j) (hj : j < l.length) (hb : l.length ≤ 100000000) : Calls prog 34 #[hv b, .int .i64 (j : Int)] w fun en w' =>
    en = .returned (.tuple #[]) ∧ ∃ l', l'.Perm l ∧ HP l' l'.length ∧ Hw w' b s l' ∧ Frm (fun k => s.blk = some k) w w' := by
  refine callsRet (W34 (Q := fun v w' => v = .tuple #[] ∧ ∃ l', l'.Perm l ∧ HP l' l'.length ∧ Hw w' b s l' ∧ Frm (fun k => s.blk = some k) w w') ?_) (fun v w' ⟨h, h'⟩ => ⟨by rw [h], h'⟩)
  unfold F34
  refine ⟨fun n x w' => ∃ (j : Nat) (l' : List Int), x = (j : Int) ∧ n = j ∧ l'.Perm l ∧ UpI l' l.length j ∧ j < l.length ∧ Hw w' b s l' ∧ Frm (fun k => s.blk = some k) w w', j, ⟨j, l, rfl, rfl, List.Perm.refl _, inv, hj, h, Frm.refl _ _⟩, ?_⟩
  clear inv hj h j
  rintro j u x w1 ⟨j', l', rfl, rfl, hp, inv, hj, h, f1⟩
  have hpl := hp.length_eq
  rw [par j (by omega)]
  refine ⟨by decide, IfB.intro (fun hc => ?_) (fun hc => ?_)⟩
  · have hc := eq_of_beq hc
    have h0 : j = 0 := by omega
    subst h0
    exact ⟨rfl, l', hp, by rw [hpl]; exact inv.done0, h, f1⟩
  · have hc := ne_of_beq_false hc
    refine less_run h (by omega) (by omega) ⟨_, rfl, IfB.intro (fun hd => ?_) (fun hd => ?_)⟩
    · have hd : ¬ ge l' j < ge l' ((j - 1) / 2) := by simpa using hd
      exact ⟨rfl, l', hp, by rw [hpl]; exact inv.done (by omega), ⟨h.blk.drew, h.row⟩, f1.drew⟩
    · have hd : ge l' j < ge l' ((j - 1) / 2) := by simpa using hd
      refine swap_run (w := w1.drew) ⟨h.blk.drew, h.row⟩ (i := (j - 1) / 2) (j := j) (by omega) (by omega) ?_
      intro w2 h2 f2
      exact ⟨rfl, (j - 1) / 2, by omega, (j - 1) / 2, _, rfl, rfl, (sw_perm (by omega) (by omega)).trans hp, inv.step (by omega) (by omega) hj hd, by omega, h2, f1.drew.trans f2 (fun _ _ h => h) (fun _ _ h => h)⟩
theorem down_calls (w : World) (b : Nat) (s : Sl) (l : List Int) (h : Hw w b s l) (n : Nat) (inv : DnI l n 0) (hn : n ≤ l.length) (hb : l.length ≤ 100000000) : Calls prog 35 #[hv b, .int .i64 0, .int .i64 (n : Int)] w fun en w' =>
    ∃ t : Bool, en = .returned (.bool t) ∧ ∃ l', l'.Perm l ∧ HP l' n ∧ (∀ k, n ≤ k → ge l' k = ge l k) ∧ Hw w' b s l' ∧ Frm (fun k => s.blk = some k) w w' := by
  refine callsRet (W35 (Q := fun v w' => ∃ t : Bool, v = .bool t ∧ ∃ l', l'.Perm l ∧ HP l' n ∧ (∀ k, n ≤ k → ge l' k = ge l k) ∧ Hw w' b s l' ∧ Frm (fun k => s.blk = some k) w w') ?_) (fun v w' ⟨t, h, h'⟩ => ⟨t, by rw [h], h'⟩)
  unfold F35
  refine ⟨fun m x w' => ∃ (i : Nat) (l' : List Int), x = (i : Int) ∧ m = n - i ∧ l'.Perm l ∧ DnI l' n i ∧ i ≤ n ∧ (∀ k, n ≤ k → ge l' k = ge l k) ∧ Hw w' b s l' ∧ Frm (fun k => s.blk = some k) w w', n, ⟨0, l, rfl, by omega, List.Perm.refl _, inv, by omega, fun _ _ => rfl, h, Frm.refl _ _⟩, ?_⟩
  clear inv h
  rintro m u x w1 ⟨i, l', rfl, rfl, hp, inv, hi, hk, h, f1⟩
  have hpl := hp.length_eq
  have e1 : IntKind.wrap .i64 ((IntKind.wrap .i64 ((2 : Int) * (i : Int))) + 1) = ((2 * i + 1 : Nat) : Int) := by
    rw [wrap64 ((2 : Int) * (i : Int)) (by omega), wrap64 _ (by omega)]; omega
  have e2 : IntKind.wrap .i64 (((2 * i + 1 : Nat) : Int) + 1) = ((2 * i + 2 : Nat) : Int) := by rw [wrap64 _ (by omega)]; omega
  rw [e1, e2]
  refine IfB.intro (fun hc => ?_) (fun hc => ?_)
  · have hc := of_decide_eq_true hc
    exact ⟨_, rfl, l', hp, inv.leaf (by omega), hk, h, f1⟩
  have hc := of_decide_eq_false hc
  refine IfB.f (decide_eq_false (by omega)) ?_
  -- the last part, for the lesser child
  have last : ∀ (w2 : World) (c : Nat), (c = 2 * i + 1 ∨ c = 2 * i + 2) → c < n → (∀ d, d = 2 * i + 1 ∨ d = 2 * i + 2 → d < n → ge l' c ≤ ge l' d) → Hw w2 b s l' → Frm (fun k => s.blk = some k) w w2 →
      RunN prog (callMethod (hv b) "Less" #[.int .i64 (c : Int), .int .i64 (i : Int)]) w2 fun v38 w3 => ∃ t38 : Bool, v38 = .bool t38 ∧ IfB (!t38) (∃ t : Bool, (Value.bool (decide ((i : Int) > 0))) = .bool t ∧ ∃ l', l'.Perm l ∧ HP l' n ∧ (∀ k, n ≤ k → ge l' k = ge l k) ∧ Hw w3 b s l' ∧ Frm (fun k => s.blk = some k) w w3)
        (RunN prog (callMethod (hv b) "Swap" #[.int .i64 (i : Int), .int .i64 (c : Int)]) w3 fun v43 w4 => v43 = .tuple #[] ∧ ∃ n', n' < n - i ∧ ∃ (i' : Nat) (l' : List Int), (c : Int) = (i' : Int) ∧ n' = n - i' ∧ l'.Perm l ∧ DnI l' n i' ∧ i' ≤ n ∧ (∀ k, n ≤ k → ge l' k = ge l k) ∧ Hw w4 b s l' ∧ Frm (fun k => s.blk = some k) w w4) := by
    intro w2 c hcc hcn ho h2 f2
    refine less_run h2 (by omega) (by omega) ⟨_, rfl, IfB.intro (fun hd => ?_) (fun hd => ?_)⟩
    · have hd : ¬ ge l' c < ge l' i := by simpa using hd
      exact ⟨_, rfl, l', hp, inv.done (fun d hd1 hd2 => by have := ho d hd1 hd2; omega), hk, ⟨h2.blk.drew, h2.row⟩, f2.drew⟩
    · have hd : ge l' c < ge l' i := by simpa using hd
      refine swap_run (w := w2.drew) ⟨h2.blk.drew, h2.row⟩ (i := i) (j := c) (by omega) (by omega) ?_
      intro w4 h4 f4
      exact ⟨rfl, n - c, by omega, c, _, rfl, rfl, (sw_perm (by omega) (by omega)).trans hp, inv.step (by omega) hcc hcn hd ho, by omega, fun k hk' => by
        rw [sw_get (by omega) (by omega), if_neg (by omega), if_neg (by omega)]; exact hk k hk', h4, f2.drew.trans f4 (fun _ _ h => h) (fun _ _ h => h)⟩
  refine IfB.intro (fun hd => ?_) (fun hd => ?_)
  · have hd := of_decide_eq_true hd
    refine less_run h (i := 2 * i + 2) (j := 2 * i + 1) (by omega) (by omega) ⟨_, rfl, IfB.intro (fun he => ?_) (fun he => ?_)⟩
    · have he := of_decide_eq_true he
      exact last _ (2 * i + 2) (.inr rfl) (by omega) (fun d hd1 hd2 => by rcases hd1 with rfl | rfl <;> omega) ⟨h.blk.drew, h.row⟩ f1.drew
    · have he := of_decide_eq_false he
      exact last _ (2 * i + 1) (.inl rfl) (by omega) (fun d hd1 hd2 => by rcases hd1 with rfl | rfl <;> omega) ⟨h.blk.drew, h.row⟩ f1.drew
  · have hd := of_decide_eq_false hd
    exact last _ (2 * i + 1) (.inl rfl) (by omega) (fun d hd1 hd2 => by rcases hd1 with rfl | rfl <;> omega) h f1
theorem push37 {w : World} {s : Sl} {l : List Int} (n : Int) (h : RowG w s 3 1 (iv l)) (hb : l.length ≤ 1000000) {S : World → Prop} (hS : ∀ w', Frm none_ w w' → S w') {K : Sl → World → Prop}
    (hk : ∀ s' w', RowG w' s' 3 1 (iv (l ++ [n])) → (∀ k, s'.blk = some k → s.blk = some k ∨ w.heap.size ≤ k) → Frm (fun b => s.blk = some b) w w' → K s' w') :
    RunT prog .slice (Instr.buildSlice 37 1 #[(0, .int .i64 n)]) w fun (t : Sl) w1 => S w1 ∧ RunT prog .slice (Builtin.append_ #[37, 37] 37 #[.slice s.a s.l s.c, .slice t.a t.l t.c]) w1 fun (t' : Sl) w2 => K t' w2 := by
  refine runT_lit1 st37 (by decide) rfl ?_
  intro w1 hr1 f1 z1
  have hl := has_iv h.has
  refine ⟨hS _ f1, runT_appendG st37 (h.mod f1 (fun _ _ h => h)) hr1.has (by intro u hu; simp [Value.cells] at hu; subst hu; rfl) (by simp only; omega) (by simp only [maxLen]; omega) ?_⟩
  intro s' w2 hr2 hl2 hn2 f2
  have e : iv l ++ (Value.int .i64 n).cells.toList = iv (l ++ [n]) := by simp [iv, Value.cells]
  rw [e] at hr2
  refine hk s' w2 hr2 (fun k hk => ?_) (f1.trans f2 (fun _ _ h => h.elim) (fun _ _ h => h))
  rcases hn2.cases hk with h | h
  · exact .inl h
  · right; omega
theorem push_calls (w : World) (b : Nat) (s : Sl) (l : List Int) (h : Hw w b s l) (hp : HP l l.length) (x : Int) (hb : l.length ≤ 1000000) : Calls prog 27 #[hv b, .iface 3 (.int .i64 x)] w fun en w' =>
    en = .returned (.tuple #[]) ∧ ∃ s' l', l'.Perm (x :: l) ∧ HP l' l'.length ∧ Hw w' b s' l' ∧ (∀ k, s'.blk = some k → s.blk = some k ∨ w.heap.size ≤ k) ∧ Frm (fun k => k = b ∨ s.blk = some k) w w' := by
  refine callsRet (W27 (Q := fun v w' => v = .tuple #[] ∧ ∃ s' l', l'.Perm (x :: l) ∧ HP l' l'.length ∧ Hw w' b s' l' ∧ (∀ k, s'.blk = some k → s.blk = some k ∨ w.heap.size ≤ k) ∧ Frm (fun k => k = b ∨ s.blk = some k) w w') ?_) (fun v w' ⟨h, h'⟩ => ⟨by rw [h], h'⟩)
  unfold F27
  have hne := h.ne
  have hblt := h.blk.lt
  refine RunN.enter (cm57 b w _) (W57 (x0 := some ⟨b, 0, none⟩) ?_)
  unfold F57
  refine ⟨fun w' => Frm none_ w w', (Frm.refl _ _).drew, _, rfl, s, ?_, runT_ta3 ⟨x, rfl, (Frm.refl _ _).drew, push37 x h.row (w := w.drew) hb (S := fun w' => Frm none_ w w') (fun w' f => Frm.ofDrew f) ?_⟩⟩
  · intro w' f
    rw [add_zero]; exact (h.mod f (fun h => h) (fun _ _ h => h)).ld
  intro s' w2 hr2 hs2 f2
  have f2 : Frm (fun b => s.blk = some b) w w2 := Frm.ofDrew f2
  have hB2 := h.blk.mod f2 hne
  refine ⟨_, rfl, by rw [add_zero]; exact hB2.wr (by show 0 < 1; decide), ?_⟩
  rintro w3 rfl
  rw [add_zero]
  have f3 : Frm (fun k => k = b) w2 (w2.setCell ⟨b, 0, none⟩ (.slice s'.a s'.l s'.c)) := mod_setCell (a := ⟨b, 0, none⟩)
  have hB3 := hB2.set 0 (.slice s'.a s'.l s'.c)
  have hne2 : s'.blk ≠ some b := hr2.blkNeB hB2.g (by decide)
  have h3 : Hw (w2.setCell ⟨b, 0, none⟩ (.slice s'.a s'.l s'.c)) b s' (l ++ [x]) := ⟨hB3, hr2.mod f3 (fun k hk e => hne2 (by rw [hk]; exact congrArg some e))⟩
  have hl3 : (l ++ [x]).length = l.length + 1 := by simp
  refine ⟨rfl, len_run h3 ⟨_, rfl, ?_⟩⟩
  rw [hl3, wrap64 _ (by omega), show (((l.length + 1 : Nat) : Int) - 1) = (l.length : Int) by omega]
  refine (up_calls _ b s' _ h3 l.length (by rw [hl3]; exact hp.push x) (by omega) (by omega)).mono ?_
  rintro _ w4 ⟨rfl, l', hpm, hh, h4, f4⟩
  refine ⟨rfl, rfl, s', l', hpm.trans (List.perm_append_comm (l₁ := l) (l₂ := [x])), hh, h4, hs2, ?_⟩
  refine (f2.trans f3 (fun _ _ h => .inr h) (fun _ _ h => .inl h)).trans f4 (fun _ _ h => h) (fun k hk hs => ?_)
  rcases hs2 k hs with h | h
  · exact .inr h
  · have : w.drew.heap.size = w.heap.size := rfl
    omega
theorem pop_calls (w : World) (b : Nat) (s : Sl) (l : List Int) (h : Hw w b s l) (hp : HP l l.length) (h0 : 0 < l.length) (hb : l.length ≤ 1000000) : Calls prog 29 #[hv b] w fun en w' =>
    ∃ m, en = .returned (.iface 3 (.int .i64 m)) ∧ ∃ s' l', l.Perm (m :: l') ∧ (∀ y ∈ l, m ≤ y) ∧ HP l' l'.length ∧ Hw w' b s' l' ∧ s'.blk = s.blk ∧ Frm (fun k => k = b ∨ s.blk = some k) w w' := by
  refine callsRet (W29 (Q := fun v w' => ∃ m, v = .iface 3 (.int .i64 m) ∧ ∃ s' l', l.Perm (m :: l') ∧ (∀ y ∈ l, m ≤ y) ∧ HP l' l'.length ∧ Hw w' b s' l' ∧ s'.blk = s.blk ∧ Frm (fun k => k = b ∨ s.blk = some k) w w') ?_) (fun v w' ⟨m, h, h'⟩ => ⟨m, by rw [h], h'⟩)
  unfold F29
  refine len_run h ⟨_, rfl, ?_⟩
  rw [wrap64 _ (by omega), show ((l.length : Int) - 1) = ((l.length - 1 : Nat) : Int) by omega]
  refine swap_run h (i := 0) (j := l.length - 1) h0 (by omega) ?_
  intro w1 h1 f1
  have hsl := sw_len l 0 (l.length - 1)
  refine ⟨rfl, (down_calls w1 b s _ h1 (l.length - 1) (hp.pop h0) (by omega) (by omega)).mono ?_⟩
  rintro _ w2 ⟨t, rfl, l', hpm, hh, hk, h2, f2⟩
  have hlen := hpm.length_eq
  have hsp := sw_perm (l := l) (i := 0) (j := l.length - 1) h0 (by omega)
  have hlast : ge l' (l.length - 1) = ge l 0 := by
    rw [hk _ (Nat.le_refl _), sw_get h0 (by omega), if_pos rfl]
  have hl2 := h2.len
  have f12 : Frm (fun k => s.blk = some k) w w2 := f1.trans f2 (fun _ _ h => h) (fun _ _ h => h)
  refine ⟨t, rfl, RunN.enter (cm56 b w2) (W56 (x0 := some ⟨b, 0, none⟩) ?_)⟩
  unfold F56
  obtain ⟨q, hq, hld⟩ := h2.at (i := l.length - 1) (by omega)
  have e1 : IntKind.wrap .i64 ((s.l : Int) - 1) = ((l.length - 1 : Nat) : Int) := by rw [wrap64 _ (by omega)]; omega
  have hcap : s.l ≤ s.c := by
    rcases h2.row.2 with rfl | ⟨g, cur, ha, hB, h1, h2, h3, h4⟩
    · exact Nat.le_refl _
    · exact h1
  refine ⟨_, rfl, s, by rw [add_zero]; exact h2.ld, _, rfl, s, by rw [add_zero]; exact h2.ld, ?_⟩
  rw [e1]
  refine ⟨q, hq, by omega, by omega, ge l 0, ?_, _, rfl, s, ?_, ⟨by omega, by omega⟩, _, rfl, ?_, ?_⟩
  · rw [Int.toNat_natCast, ← hlast]; exact hld
  · rw [add_zero]; exact h2.ld
  · rw [add_zero]; exact h2.blk.wr (by show 0 < 1; decide)
  rintro w3 rfl
  rw [add_zero, slA_zero, Int.toNat_natCast, Nat.sub_zero, Nat.sub_zero]
  refine runT_mk3 ?_
  have f3 : Frm (fun k => k = b) w2 (w2.setCell ⟨b, 0, none⟩ (.slice s.a (l.length - 1) s.c)) := mod_setCell (a := ⟨b, 0, none⟩)
  have hB3 := h2.blk.set 0 (.slice s.a (l.length - 1) s.c)
  have hcut := h2.row.cut (k := l.length - 1) (c := s.c) (by omega) (by omega) (Nat.le_refl _)
  have ecut : (iv l').take ((l.length - 1) * 1) = iv (l'.take (l.length - 1)) := by rw [Nat.mul_one]; simp [iv, List.map_take]
  rw [ecut] at hcut
  have hlt : (l'.take (l.length - 1)).length = l.length - 1 := by rw [List.length_take]; omega
  have hsplit : l' = l'.take (l.length - 1) ++ [ge l 0] := by
    have e := List.take_append_drop (l.length - 1) l'
    have e2 : l'.drop (l.length - 1) = [ge l 0] := by
      rw [List.drop_eq_getElem_cons (by omega), List.drop_of_length_le (by omega)]
      rw [← hlast]; simp [ge, show l.length - 1 < l'.length by omega]
    rw [e2] at e; exact e.symm
  refine ⟨_, rfl, ge l 0, rfl, ⟨s.a, l.length - 1, s.c⟩, l'.take (l.length - 1), ?_, ?_, ?_, ⟨hB3, hcut.mod f3 (fun k hk e => h2.ne (by rw [show s.blk = some k from hk]; exact congrArg some e))⟩, rfl, f12.trans f3 (fun _ _ h => .inr h) (fun _ _ h => .inl h)⟩
  · have h1 : l.Perm l' := (hpm.trans hsp).symm
    rw [hsplit] at h1
    exact h1.trans (List.perm_append_comm (l₁ := l'.take (l.length - 1)) (l₂ := [ge l 0]))
  · intro y hy
    obtain ⟨i, hi⟩ := List.mem_iff_getElem?.1 hy
    have hil := (List.getElem?_eq_some_iff.1 hi).1
    have := hp.least i hil
    rw [ge_of hi] at this; exact this
  · rw [hlt]
    intro i hi0 hil
    have hg : ∀ k, k < l.length - 1 → ge (l'.take (l.length - 1)) k = ge l' k := fun k hk' => by
      unfold ge; rw [List.getD_eq_getElem?_getD, List.getD_eq_getElem?_getD, List.getElem?_take, if_pos hk']
    rw [hg _ (by omega), hg _ hil]
    exact hh i hi0 hil
end Go.Proofs.Ytjpcbggodhfabaa
