/- Asking a reader for a thing; the worked example; small functions of the laws. -/
import Derived.Test.YtmkennapbebbmaaQ
import Derived.Laws.StructEq
import Derived.WalkKit
set_option linter.unusedVariables false
set_option linter.unusedSimpArgs false
namespace Go.Proofs.Ytmkennapbebbmaa
open Go Go.Proofs.YtmkennapbebbmaaV
theorem told_eq0 (n m : Int) (s t : ByteArray) (w : World) : (Op.equalIn 10000 36 (.agg #[.int .i64 n, .string s]) (.agg #[.int .i64 m, .string t])).run prog w = .ok (n == m && s.toList == t.toList) w := by
  have hS : prog.underlying 36 = some (.struct (prog.fieldsOf 36)) := by kernel_rfl
  have hp : prog.stoodInHeld 36 = false := by kernel_rfl
  rw [show (10000 : Nat) = 9999 + 1 from rfl, run_equalIn_agg w 9999 36 _ _ hS hp]
  have hF : (prog.fieldsOf 36).toList = [⟨ "n", 2, 0, false, "", "bastion/bastionlaw01", 0⟩, ⟨ "s", 9, 1, false, "", "bastion/bastionlaw01", 8⟩] := by kernel_rfl
  rw [hF]
  have p1 : ∀ (xs : Array Value) (x y : Value) w, xs = #[x, y] → (part 2 xs 0 : Sem Value).run prog w = .ok x w := by rintro _ x y w rfl; kernel_rfl
  have p2 : ∀ (xs : Array Value) (x y : Value) w, xs = #[x, y] → (part 9 xs 1 : Sem Value).run prog w = .ok y w := by rintro _ x y w rfl; kernel_rfl
  have e1 : ("n" ≠ "_") = True := by decide
  have e2 : ("s" ≠ "_") = True := by decide
  simp only [Op.eqFields, e1, e2, if_true, Sem.run_bind, p1 _ _ _ _ rfl, p2 _ _ _ _ rfl, Result.andThen_ok, run_equalIn_int _ 9998 2 .i64 .i64 n m Try.underlying2, run_equalIn_string _ 9998 9 s t Try.underlying9, Sem.run_ite]
  by_cases h1 : n = m <;> by_cases h2 : s.toList = t.toList <;> simp [h1, h2]
theorem guard36 : prog.eqGuardType prog.depth 36 = false := by kernel_rfl
theorem told_eql (i j : Nat) (n m : Int) (s t : ByteArray) : BinIs prog .eql 36 (.tmp i) (.tmp j) (.agg #[.int .i64 n, .string s]) (.agg #[.int .i64 m, .string t]) (n == m && s.toList == t.toList) := by
  intro w
  simp only [Sem.run_bind, run_eqGuard_agg w .eql 36 _ _ _ _ guard36, Result.andThen_ok, run_eql_struct, told_eq0]
theorem told_neq (i j : Nat) (n m : Int) (s t : ByteArray) : BinIs prog .neq 36 (.tmp i) (.tmp j) (.agg #[.int .i64 n, .string s]) (.agg #[.int .i64 m, .string t]) (!(n == m && s.toList == t.toList)) := by
  intro w
  simp only [Sem.run_bind, run_eqGuard_agg w .neq 36 _ _ _ _ guard36, Result.andThen_ok, run_neq_struct, told_eq0]
theorem bool_eql (i j : Nat) (a b : Bool) : BinIs prog .eql 4 (.tmp i) (.tmp j) (.bool a) (.bool b) (a == b) := by
  cases a <;> cases b <;> exact fun w => by kernel_rfl
theorem bool_neq (i j : Nat) (a b : Bool) : BinIs prog .neq 4 (.tmp i) (.tmp j) (.bool a) (.bool b) (a != b) := by
  cases a <;> cases b <;> exact fun w => by kernel_rfl
theorem b36a (n : Int) : BuildIs prog 36 #[(0, .int .i64 n)] #[.int .i64 n, .string ⟨#[]⟩] := fun w => by kernel_rfl
theorem b36b (s : ByteArray) : BuildIs prog 36 #[(1, .string s)] #[.int .i64 0, .string s] := fun w => by kernel_rfl
theorem b36 : BuildIs prog 36 #[] #[.int .i64 0, .string ⟨#[]⟩] := fun w => by kernel_rfl

/-- What was told: a number, a text. -/
abbrev Told := Int × List UInt8
def toldV (x : Told) : Array Value := #[.int .i64 x.1, .string (str x.2)]
theorem toldV_neq (i j : Nat) (x y : Told) : BinIs prog .neq 36 (.tmp i) (.tmp j) (.agg (toldV x)) (.agg (toldV y)) (!decide (x = y)) := by
  have h := told_neq i j x.1 y.1 (str x.2) (str y.2)
  rw [str_toList, str_toList] at h
  have e : (x.1 == y.1 && x.2 == y.2) = decide (x = y) := by
    obtain ⟨a, b⟩ := x; obtain ⟨c, d⟩ := y
    by_cases h1 : a = c <;> by_cases h2 : b = d <;> simp [h1, h2]
  rwa [e] at h
theorem toldV_eql (i j : Nat) (x y : Told) : BinIs prog .eql 36 (.tmp i) (.tmp j) (.agg (toldV x)) (.agg (toldV y)) (decide (x = y)) := by
  have h := told_eql i j x.1 y.1 (str x.2) (str y.2)
  rw [str_toList, str_toList] at h
  have e : (x.1 == y.1 && x.2 == y.2) = decide (x = y) := by
    obtain ⟨a, b⟩ := x; obtain ⟨c, d⟩ := y
    by_cases h1 : a = c <;> by_cases h2 : b = d <;> simp [h1, h2]
  rwa [e] at h
def one (v : Bool) : Int := if v then 1 else 0
theorem one_calls (w : World) (v : Bool) : Calls prog 36 #[.bool v] w fun e w' => e = .returned (.int .i64 (one v)) ∧ w = w' := by
  refine calls_ret (W36 (Q := fun v' w' => v' = .int .i64 (one v) ∧ w = w') ?_) (fun v w' ⟨h, h'⟩ => ⟨by rw [h], h'⟩)
  unfold F36
  refine IfB.intro (fun h => ⟨by rw [h]; rfl, rfl⟩) (fun h => ⟨by rw [h]; rfl, rfl⟩)
/-- What a thing asks of a reader, what is told, and what is left. -/
def askR (t : Th) (r : Rd) : Told × Rd :=
  if t.k = 0 then (((numR r).1, []), (numR r).2) else if t.k = 1 then (((countR t.n r).1, []), (countR t.n r).2)
  else if t.k = 2 then ((0, (strR t.n r).1), (strR t.n r).2) else ((one (flagR r).1, []), (flagR r).2)
/-- The two cells written whole, and read again. -/
theorem two_cells {w : World} {b : Nat} {cs : Array Value} {T : Nat} (hB : Blk w b cs T) (hs : cs.size = 2) (u v : Value) :
    WrA w ⟨b, 0, none⟩ 2 ∧ ∀ w', w' = setAt w ⟨b, 0, none⟩ #[u, v].toList 0 → LdA w' ⟨b, 0, none⟩ 2 #[u, v] ∧ Frm (fun k => k = b) w w' := by
  refine ⟨hB.wrA (by omega), ?_⟩
  rintro w' rfl
  have h := hB.setAt (o := 0) (i := 0) (vs := #[u, v].toList)
  rw [setList_all _ _ (by rw [hs]; rfl)] at h
  exact ⟨h.ldA rfl, mod_setAt (a := (⟨b, 0, none⟩ : Addr))⟩
theorem two_blk {w : World} {b : Nat} {cs : Array Value} {T : Nat} (hB : Blk w b cs T) (hs : cs.size = 2) (x : Told) : Blk (setAt w ⟨b, 0, none⟩ (toldV x).toList 0) b (toldV x) T := by
  have h := hB.setAt (o := 0) (i := 0) (vs := (toldV x).toList)
  have e : setList cs (0 + 0) (toldV x).toList = toldV x := by
    rw [Nat.add_zero, setList_all _ _ (by rw [hs]; rfl)]
  rwa [e] at h

theorem ask_calls (w : World) (t : Th) (x : Option Addr) (r : Rd) (h : RdQ w x r) : Calls prog 16 #[.agg (tc t).toArray, .pointer x] w fun e w' => e = .returned (.agg (toldV (askR t r).1)) ∧ RdQ w' x (askR t r).2 ∧ Frm (Of x) w w' := by
  refine calls_ret (W16 (Q := fun v w' => v = .agg (toldV (askR t r).1) ∧ RdQ w' x (askR t r).2 ∧ Frm (Of x) w w') ?_) (fun v w' ⟨h, h'⟩ => ⟨by rw [h], h'⟩)
  unfold F16
  intro b2 w1 hn1 b4 w2 hn2
  have hm1 := hn1.mod none_
  have hm2 := hn2.mod none_
  have hm12 : Frm none_ w w2 := hm1.trans hm2 (fun _ _ h => h) (fun _ _ h => h)
  have hB := hn1.blk.mod hm2 (fun h => h)
  have hB4 := hn2.blk
  have hb4 : w.heap.size ≤ b4 ∧ b4 ≠ b2 := by
    have := hn1.size; have := hm1.size
    obtain ⟨h1, _⟩ := hn1
    obtain ⟨h2, _⟩ := hn2
    omega
  have h2 := h.mod hm12 (fun _ _ h => h)
  have hnx : ¬ Of x b4 := fun hx => by have := h.lt b4 hx; omega
  have l0 : Ld w2 ((⟨b2, 0, none⟩ : Addr).add 0) (.int .u8 t.k) := by rw [addr_add]; exact hB.ld rfl
  have l1 : Ld w2 ((⟨b2, 0, none⟩ : Addr).add 1) (.int .i64 t.n) := by rw [addr_add]; exact hB.ld rfl
  have fin : ∀ (w3 : World) (u v : Value) (r' : Rd), askR t r = ((askR t r).1, r') → toldV (askR t r).1 = #[u, v] → RdQ w3 x r' → Frm (Of x) w2 w3 →
      WrA w3 (⟨b4, 0, none⟩ : Addr) 2 ∧ ∀ w4, w4 = setAt w3 (⟨b4, 0, none⟩ : Addr) #[u, v].toList 0 → ∃ t4r : Array Value, LdA w4 (⟨b4, 0, none⟩ : Addr) 2 t4r ∧ (Value.agg t4r = .agg (toldV (askR t r).1) ∧ RdQ w4 x (askR t r).2 ∧ Frm (Of x) w w4) := by
    intro w3 u v r' hr hv h3 hm3
    obtain ⟨h5, h6⟩ := two_cells (hB4.mod hm3 hnx) rfl u v
    refine ⟨h5, ?_⟩
    rintro w4 rfl
    obtain ⟨h7, h8⟩ := h6 _ rfl
    refine ⟨_, h7, by rw [hv], ?_, (hm12.trans hm3 (fun _ _ h => h.elim) (fun _ _ h => h) (H := Of x)).trans h8 (fun _ _ h => h) (fun k hk he => by omega)⟩
    rw [hr]
    exact h3.mod h8 (fun k hk he => hnx (he ▸ hk))
  have one2 : ∀ (u v : Value), u.oneCell' = true → v.oneCell' = true → ∀ y, y ∈ #[u, v].toList → y.oneCell' = true := by
    intro u v hu hv y hy
    simp only [List.mem_cons, List.not_mem_nil, or_false] at hy
    rcases hy with rfl | rfl
    · exact hu
    · exact hv
  refine ⟨t.k, l0, IfB.intro (fun h => ?_) (fun h => ?_)⟩
  · have hk := eq_of_beq h
    have e : askR t r = (((numR r).1, []), (numR r).2) := by unfold askR; rw [if_pos hk]
    refine (rnum_read w2 x r h2).mono ?_
    rintro _ w3 ⟨rfl, h3, hm3⟩
    exact ⟨_, rfl, _, b36a _, rfl, one2 _ _ rfl rfl, fin w3 _ _ _ (by rw [e]) (by rw [e]; rfl) h3 hm3⟩
  · have hk := ne_of_beq_false h
    refine IfB.intro (fun h => ?_) (fun h => ?_)
    · have hk1 := eq_of_beq h
      have e : askR t r = (((countR t.n r).1, []), (countR t.n r).2) := by unfold askR; rw [if_neg hk, if_pos hk1]
      refine ⟨t.n, l1, (count_read w2 x r t.n h2).mono ?_⟩
      rintro _ w3 ⟨rfl, h3, hm3⟩
      exact ⟨_, rfl, _, b36a _, rfl, one2 _ _ rfl rfl, fin w3 _ _ _ (by rw [e]) (by rw [e]; rfl) h3 hm3⟩
    · have hk1 := ne_of_beq_false h
      refine IfB.intro (fun h => ?_) (fun h => ?_)
      · have hk2 := eq_of_beq h
        have e : askR t r = ((0, (strR t.n r).1), (strR t.n r).2) := by unfold askR; rw [if_neg hk, if_neg hk1, if_pos hk2]
        refine ⟨t.n, l1, (str_read w2 x r t.n h2).mono ?_⟩
        rintro _ w3 ⟨rfl, h3, hm3⟩
        exact ⟨_, rfl, _, b36b _, rfl, one2 _ _ rfl rfl, fin w3 _ _ _ (by rw [e]) (by rw [e]; rfl) h3 hm3⟩
      · have hk2 := ne_of_beq_false h
        have e : askR t r = ((one (flagR r).1, []), (flagR r).2) := by unfold askR; rw [if_neg hk, if_neg hk1, if_neg hk2]
        refine (flag_read w2 x r h2).mono ?_
        rintro _ w3 ⟨rfl, h3, hm3⟩
        refine ⟨_, rfl, (one_calls w3 _).mono ?_⟩
        rintro _ _ ⟨rfl, rfl⟩
        exact ⟨_, rfl, _, b36a _, rfl, one2 _ _ rfl rfl, fin w3 _ _ _ (by rw [e]) (by rw [e]; rfl) h3 hm3⟩

theorem g2 : gb 2 = [2] := gb_small (by omega)
theorem g5 : gb 5 = [5] := gb_small (by omega)
theorem g0 : gb 0 = [0] := gb_small (by omega)
theorem g300 : gb 300 = [172, 2] := by rw [gb_big (by omega), gb_small (by omega)]; rfl
theorem frmOf {w w1 w2 : World} {k : Nat} (h : Frm none_ w w1) (hk : w.heap.size ≤ k) (h2 : Frm (Of (some ⟨k, 0, none⟩)) w1 w2) : Frm none_ w w2 :=
  h.trans h2 (fun _ _ h => h) (fun x hx hf => by simp at hf; omega)
theorem works_calls (w : World) : Calls prog 24 #[] w fun e w' => e = .returned (.bool true) ∧ Frm none_ w w' := by
  refine calls_ret (W24 (Q := fun v w' => v = .bool true ∧ Frm none_ w w') ?_) (fun v w' ⟨h, h'⟩ => ⟨by rw [h], h'⟩)
  unfold F24
  have tr : ∀ {a b c : World}, Frm none_ a b → Frm none_ b c → Frm none_ a c := fun h k => h.trans k (fun _ _ h => h) (fun _ _ h => h)
  refine (count_calls w ⟨none, 0, 0⟩ [] 300 (Has.nil _ _ _ rfl) (by simp)).mono ?_
  rintro _ w1 ⟨r1, rfl, hr1, _, hm1⟩
  have e1 : ([] : List UInt8) ++ cb 300 = [172, 2] := by
    rw [List.nil_append, cb, if_neg (by omega)]; exact g300
  rw [e1] at hr1
  refine ⟨r1, rfl, (str_calls w1 r1 _ _ hr1.has (by have := hr1.len; simp [bv] at this; omega)).mono ?_⟩
  rintro _ w2 ⟨r2, rfl, hr2, _, hm2⟩
  have e2 : ([172, 2] : List UInt8) ++ sb (⟨#[110, 111]⟩ : ByteArray) = [172, 2, 2, 110, 111] := by
    have : (⟨#[110, 111]⟩ : ByteArray).size = 2 := rfl
    rw [sb, if_neg (by omega), this, g2]; rfl
  rw [e2] at hr2
  refine ⟨r2, rfl, (num_calls w2 r2 _ _ hr2.has (by omega) (by omega) (by have := hr2.len; simp [bv] at this; omega)).mono ?_⟩
  rintro _ w3 ⟨r3, rfl, hr3, _, hm3⟩
  have e3 : ([172, 2, 2, 110, 111] : List UInt8) ++ gb (zz (-3)) = [172, 2, 2, 110, 111, 5] := by
    have : zz (-3) = 5 := by decide
    rw [this, g5]; rfl
  rw [e3] at hr3
  refine ⟨r3, rfl, (flag_calls w3 r3 _ _ hr3.has (by have := hr3.len; simp [bv] at this; omega)).mono ?_⟩
  rintro _ w4 ⟨r4, rfl, hr4, _, hm4⟩
  have e4 : ([172, 2, 2, 110, 111, 5] : List UInt8) ++ fb false = [172, 2, 2, 110, 111, 5, 0] := rfl
  rw [e4] at hr4
  have hm := tr (tr (tr hm1 hm2) hm3) hm4
  refine ⟨r4, rfl, (newReader_calls w4 r4 _ hr4.has (by have := hr4.len; simp [bv] at this; omega)).mono ?_⟩
  rintro _ w5 ⟨k, rfl, hk, hR, hm5⟩
  have hk' : w.heap.size ≤ k := Nat.le_trans hm.size hk
  refine ⟨_, rfl, ?_⟩
  refine runT_str un22 un5 un9 (hr4.mod hm5 (fun _ _ h => h)).has ?_
  refine IfB.t (by rw [str_beq]; exact decide_eq_true rfl) ?_
  have h5 : RdQ w5 (some ⟨k, 0, none⟩) (some [172, 2, 2, 110, 111, 5, 0]) := .inr ⟨k, rfl, hR⟩
  have n1 : num [172, 2, 2, 110, 111, 5, 0] = some (300, 2) := by
    have := num_gb (u := 300) (by omega) [2, 110, 111, 5, 0]
    rw [g300] at this; exact this
  have n2 : num [2, 110, 111, 5, 0] = some (2, 1) := by
    have := num_gb (u := 2) (by omega) [110, 111, 5, 0]
    rw [g2] at this; exact this
  have n3 : num [5, 0] = some (5, 1) := by
    have := num_gb (u := 5) (by omega) [0]
    rw [g5] at this; exact this
  have n4 : num [0] = some (0, 1) := by
    have := num_gb (u := 0) (by omega) []
    rw [g0] at this; exact this
  refine (count_read w5 _ _ 300 h5).mono ?_
  rintro _ w6 ⟨rfl, h6, hm6⟩
  have c1 : countR 300 (some [172, 2, 2, 110, 111, 5, 0]) = (300, some [2, 110, 111, 5, 0]) := by
    have : cnt [172, 2, 2, 110, 111, 5, 0] 300 = some (300, 2) := by unfold cnt; rw [n1]; rfl
    unfold countR; simp only [this]; rfl
  rw [c1] at h6 ⊢
  refine ⟨_, rfl, IfB.t rfl ?_⟩
  refine (left_calls w6 _ _ h6).mono ?_
  rintro _ w7 ⟨rfl, hm7⟩
  have h7 := h6.mod hm7 (fun _ _ h => h)
  refine ⟨_, rfl, IfB.t rfl ?_⟩
  refine (str_read w7 _ _ 2 h7).mono ?_
  rintro _ w8 ⟨rfl, h8, hm8⟩
  have c2 : strR 2 (some [2, 110, 111, 5, 0]) = ([110, 111], some [5, 0]) := by
    have : cnt [2, 110, 111, 5, 0] 2 = some (2, 1) := by unfold cnt; rw [n2]; rfl
    unfold strR; simp only [this]; rfl
  rw [c2] at h8 ⊢
  refine ⟨_, rfl, IfB.t (by rw [str_beq]; exact decide_eq_true rfl) ?_⟩
  refine (rnum_read w8 _ _ h8).mono ?_
  rintro _ w9 ⟨rfl, h9, hm9⟩
  have c3 : numR (some [5, 0]) = (-3, some [0]) := by unfold numR; simp only [n3]; rfl
  rw [c3] at h9 ⊢
  refine ⟨_, rfl, IfB.t rfl ?_⟩
  refine (flag_read w9 _ _ h9).mono ?_
  rintro _ w10 ⟨rfl, h10, hm10⟩
  have c4 : flagR (some [0]) = (false, some []) := by
    have h1 : cnt [0] 1 = some (0, 1) := by unfold cnt; rw [n4]; rfl
    have : countR 1 (some [0]) = (0, some []) := by unfold countR; simp only [h1]; rfl
    unfold flagR; rw [this]; rfl
  rw [c4] at h10 ⊢
  refine ⟨_, rfl, IfB.t rfl ?_⟩
  refine (done_calls w10 _ _ h10).mono ?_
  rintro _ w11 ⟨rfl, hm11⟩
  refine ⟨_, rfl, rfl, ?_⟩
  have f5 := tr hm hm5
  have f6 := frmOf f5 hk' hm6
  have f7 := tr f6 hm7
  have f8 := frmOf f7 hk' hm8
  have f9 := frmOf f8 hk' hm9
  have f10 := frmOf f9 hk' hm10
  exact tr f10 hm11
end Go.Proofs.Ytmkennapbebbmaa
