/- Whose turn: those that wait, ranged over; the least of them. -/
import Derived.Test.YthgeacnemojjgaaSv
set_option linter.unusedVariables false
set_option linter.unusedSimpArgs false
set_option maxRecDepth 20000
namespace Go.Proofs.Ythgeacnemojjgaa
open Go Go.Proofs.YthgeacnemojjgaaV
theorem contains_calls (w : World) (x : Sl) (ws : List ByteArray) (nm : ByteArray) (hx : Has w x 1 (sv ws)) (hn : ws.length ≤ 1000000000000) : Calls prog 38 #[.slice x.a x.l x.c, .string nm] w fun e w' => e = .returned (.bool (ws.any fun s => decide (s = nm))) ∧ w' = w := by
  have hl := has_sv hx
  have h70 : Calls prog 70 #[.slice x.a x.l x.c, .string nm] w fun e w' => ∃ t : Int, e = .returned (.int .i64 t) ∧ decide (t ≥ 0) = (ws.any fun s => decide (s = nm)) ∧ w' = w := by
    refine calls_ret (W70 (x0 := x) (x1 := nm) (Q := fun v w' => ∃ t : Int, v = .int .i64 t ∧ decide (t ≥ 0) = (ws.any fun s => decide (s = nm)) ∧ w' = w) ?_) (fun v w' ⟨t, h, h'⟩ => ⟨t, by rw [h], h'⟩)
    unfold F70
    refine ⟨fun n i w' => ∃ j : Nat, i = (j : Int) ∧ j ≤ ws.length ∧ n = ws.length - j ∧ (∀ k s, k < j → ws[k]? = some s → s ≠ nm) ∧ w' = w, ws.length, ⟨0, rfl, by omega, rfl, by omega, rfl⟩, ?_⟩
    rintro n u i w1 ⟨j, rfl, hj, rfl, hall, e⟩
    subst e
    refine IfB.dec (fun hlt => ?_) (fun hge => ?_)
    · obtain ⟨q, t, hq, ht, hld⟩ := sv_at hx (i := j) (by omega)
      refine ⟨q, hq, by omega, by omega, t, hld, IfB.intro (fun he => ?_) (fun he => ?_)⟩
      · have := (str_eqIff _ _).1 he
        subst this
        refine ⟨_, rfl, ?_, rfl⟩
        rw [decide_eq_true (by omega)]
        exact (List.any_eq_true.2 ⟨nm, List.mem_of_getElem? ht, by simp⟩).symm
      · refine ⟨ws.length - (j + 1), by omega, j + 1, by rw [wi _ (by omega)]; omega, by omega, rfl, fun k s hk hs => ?_, rfl⟩
        by_cases hkj : k = j
        · subst hkj
          rw [ht] at hs; cases hs
          rintro rfl
          rw [(str_eqIff t t).2 rfl] at he; cases he
        · exact hall k s (by omega) hs
    · refine ⟨_, rfl, ?_, rfl⟩
      rw [decide_eq_false (by omega)]
      refine (List.any_eq_false.2 fun s hs => ?_).symm
      obtain ⟨k, hk⟩ := List.mem_iff_getElem?.1 hs
      have := (List.getElem?_eq_some_iff.1 hk).1
      simpa using hall k s (by omega) hk
  refine calls_ret (W38 (x0 := x) (x1 := nm) (Q := fun v w' => v = .bool (ws.any fun s => decide (s = nm)) ∧ w' = w) ?_) (fun v w' ⟨h, h'⟩ => ⟨by rw [h], h'⟩)
  unfold F38
  refine h70.mono ?_
  rintro _ w1 ⟨t, rfl, ht, e⟩
  exact ⟨t, rfl, by rw [ht], e⟩
/-! ### Those that wait -/
def sel (old fresh : Bool) (c : Bool) (p : Pj) : Bool := c && (p.wt && old || !p.wt && fresh)
theorem those_iter (l : Nat) (w : World) (c1 c2 c3 b : Nat) (s : Sl) (ps : List Nat) (nw : Nat → Bool) (M : List Pj) (old fresh : Bool) (J : Nat → World → Prop)
    (h1 : Ld w ⟨c1, 0, none⟩ (.pointer (some ⟨b, 0, none⟩))) (hS : Shr w b s ps nw M) (hn : M.length ≤ 100000)
    (hJ : ∀ i W, J i W → Ld W ⟨c2, 0, none⟩ (.bool old) ∧ Ld W ⟨c3, 0, none⟩ (.bool fresh) ∧ Has W s 1 (pv ps) ∧ ∀ j k p, ps[j]? = some k → M[j]? = some p → Ld W ⟨k, 3, none⟩ (.bool p.wt) ∧ Ld W ⟨k, 4, none⟩ (.bool (nw j)))
    (h0 : J 0 w) (hskip : ∀ i W p, J i W → M[i]? = some p → sel old fresh (nw i) p = false → J (i + 1) W)
    (hY : ∀ i W p k (R : Value → World → Prop), J i W → M[i]? = some p → ps[i]? = some k → sel old fresh (nw i) p = true → (∀ W', J (i + 1) W' → R (.bool true) W') → YieldI prog l #[.pointer (some ⟨k, 0, none⟩)] W R) :
    Calls prog 71 #[.func (.yield l) #[] #[], .pointer (some ⟨c1, 0, none⟩), .pointer (some ⟨c2, 0, none⟩), .pointer (some ⟨c3, 0, none⟩)] w fun e w' => e = .returned (.tuple #[]) ∧ J M.length w' := by
  refine calls_ret (W71 (x0 := .func (.yield l) #[] #[]) (x1 := ⟨c1, 0, none⟩) (x2 := ⟨c2, 0, none⟩) (x3 := ⟨c3, 0, none⟩) (Q := fun v w' => v = .tuple #[] ∧ J M.length w') ?_) (fun v w' ⟨h, h'⟩ => ⟨by rw [h], h'⟩)
  have hsl := hS.sl
  unfold F71
  refine ⟨_, h1, _, rfl, s, by rw [addr_add]; exact hS.blk.ld rfl, fun n x W => ∃ i : Nat, x = (i : Int) ∧ i ≤ M.length ∧ n = M.length - i ∧ J i W, M.length, ⟨0, rfl, by omega, rfl, h0⟩, ?_⟩
  rintro n u x w1 ⟨i, rfl, hi, rfl, hj⟩
  refine IfB.dec (fun hlt => ?_) (fun hge => ?_)
  · obtain ⟨l2, l3, hrow, hfl⟩ := hJ i w1 hj
    obtain ⟨p, hp⟩ : ∃ p, M[i]? = some p := ⟨_, List.getElem?_eq_getElem (by omega)⟩
    obtain ⟨q, v, hq, hv, hld⟩ := hrow.at1 (i := (i : Int)) (by omega) (by omega)
    rw [Int.toNat_natCast] at hv
    simp only [pv, List.getElem?_map, Option.map_eq_some_iff] at hv
    obtain ⟨k, hk, rfl⟩ := hv
    obtain ⟨f3, f4⟩ := hfl i k p hk hp
    have ew : IntKind.wrap .i64 ((i : Int) + (1 : Int)) = ((i + 1 : Nat) : Int) := by rw [wi _ (by omega)]; omega
    have nxt : ∀ W, J (i + 1) W → ([] : List Nat) = ([] : List Nat) ∧ ∃ n', n' < M.length - i ∧ ∃ i' : Nat, IntKind.wrap .i64 ((i : Int) + (1 : Int)) = (i' : Int) ∧ i' ≤ M.length ∧ n' = M.length - i' ∧ J i' W :=
      fun W h => ⟨rfl, M.length - (i + 1), by omega, i + 1, ew, by omega, rfl, h⟩
    have yes : sel old fresh (nw i) p = true → CallVI prog (.func (.yield l) #[] #[]) #[.pointer (some ⟨k, 0, none⟩)] w1 fun v42 w1_1 =>
        ∃ t42 : Bool, v42 = (.bool t42) ∧ IfB (!t42) ((Value.tuple #[] = .tuple #[] ∧ J M.length w1_1)) (([] : List Nat) = ([] : List Nat) ∧ ∃ n', n' < M.length - i ∧ ∃ i' : Nat, IntKind.wrap .i64 ((i : Int) + (1 : Int)) = (i' : Int) ∧ i' ≤ M.length ∧ n' = M.length - i' ∧ J i' w1_1) := by
      intro hsel
      exact hY i w1 p k _ hj hp hk hsel (fun W' h => ⟨true, rfl, IfB.f rfl (nxt W' h)⟩)
    have f3' : Ld w1 ((⟨k, 0, none⟩ : Addr).add 3) (.bool p.wt) := by rw [addr_add]; exact f3
    have f4' : Ld w1 ((⟨k, 0, none⟩ : Addr).add 4) (.bool (nw i)) := by rw [addr_add]; exact f4
    refine ⟨q, hq, by omega, by omega, _, hld, _, rfl, nw i, f4', ?_⟩
    have second : nw i = true → p.wt = false → ∃ p30, (some ⟨k, 0, none⟩ : Option Addr) = some p30 ∧ ∃ t32 : Bool, Ld w1 (p30.add 3) (.bool t32) ∧
        IfB (!t32) (∃ t35 : Bool, Ld w1 ⟨c3, 0, none⟩ (.bool t35) ∧ IfB t35 (CallVI prog (.func (.yield l) #[] #[]) #[.pointer (some ⟨k, 0, none⟩)] w1 fun v42 w1_1 =>
          ∃ t42 : Bool, v42 = (.bool t42) ∧ IfB (!t42) ((Value.tuple #[] = .tuple #[] ∧ J M.length w1_1)) (([] : List Nat) = ([] : List Nat) ∧ ∃ n', n' < M.length - i ∧ ∃ i' : Nat, IntKind.wrap .i64 ((i : Int) + (1 : Int)) = (i' : Int) ∧ i' ≤ M.length ∧ n' = M.length - i' ∧ J i' w1_1))
          (([] : List Nat) = ([] : List Nat) ∧ ∃ n', n' < M.length - i ∧ ∃ i' : Nat, IntKind.wrap .i64 ((i : Int) + (1 : Int)) = (i' : Int) ∧ i' ≤ M.length ∧ n' = M.length - i' ∧ J i' w1))
          (([] : List Nat) = ([] : List Nat) ∧ ∃ n', n' < M.length - i ∧ ∃ i' : Nat, IntKind.wrap .i64 ((i : Int) + (1 : Int)) = (i' : Int) ∧ i' ≤ M.length ∧ n' = M.length - i' ∧ J i' w1) := by
      intro hc hw
      refine ⟨_, rfl, _, f3', IfB.t (by rw [hw]; rfl) ⟨_, l3, ?_⟩⟩
      cases hf : fresh with
      | true => exact IfB.t rfl (yes (by simp [sel, hc, hw, hf]))
      | false => exact IfB.f rfl (nxt _ (hskip i w1 p hj hp (by simp [sel, hc, hw, hf])))
    cases hc : nw i with
    | false => exact IfB.f rfl (nxt _ (hskip i w1 p hj hp (by simp [sel, hc])))
    | true =>
      refine IfB.t rfl ⟨_, rfl, _, f3', ?_⟩
      cases hw : p.wt with
      | true =>
        refine IfB.t rfl ⟨_, l2, ?_⟩
        cases ho : old with
        | true => exact IfB.t rfl (yes (by simp [sel, hc, hw, ho]))
        | false =>
          rw [hw] at f3'
          exact IfB.f rfl ⟨_, rfl, _, f3', IfB.f rfl (nxt _ (hskip i w1 p hj hp (by simp [sel, hc, hw, ho])))⟩
      | false =>
        exact IfB.f rfl (second hc hw)
  · refine ⟨rfl, ?_⟩
    have : i = M.length := by omega
    subst this
    exact hj
theorem those_calls (w : World) (b : Nat) (old fresh : Bool) : Calls prog 40 #[.pointer (some ⟨b, 0, none⟩), .bool old, .bool fresh] w fun e w' => ∃ c1 c2 c3, e = .returned (.func (.func 71) #[] #[.pointer (some ⟨c1, 0, none⟩), .pointer (some ⟨c2, 0, none⟩), .pointer (some ⟨c3, 0, none⟩)]) ∧
    Blk w' c1 #[.pointer (some ⟨b, 0, none⟩)] 23 ∧ Blk w' c2 #[.bool old] 4 ∧ Blk w' c3 #[.bool fresh] 4 ∧ Frm none_ w w' := by
  refine calls_ret (W40 (x0 := some ⟨b, 0, none⟩) (x1 := old) (x2 := fresh) (Q := fun v w' => ∃ c1 c2 c3, v = .func (.func 71) #[] #[.pointer (some ⟨c1, 0, none⟩), .pointer (some ⟨c2, 0, none⟩), .pointer (some ⟨c3, 0, none⟩)] ∧
    Blk w' c1 #[.pointer (some ⟨b, 0, none⟩)] 23 ∧ Blk w' c2 #[.bool old] 4 ∧ Blk w' c3 #[.bool fresh] 4 ∧ Frm none_ w w') ?_) (fun v w' ⟨c1, c2, c3, h, h'⟩ => ⟨c1, c2, c3, by rw [h], h'⟩)
  unfold F40
  intro c1 w1 h1 c2 w2 h2 c3 w3 h3
  refine ⟨c1, c2, c3, rfl, (h1.blk.mod (h2.mod none_) (fun h => h)).mod (h3.mod none_) (fun h => h), h2.blk.mod (h3.mod none_) (fun h => h), h3.blk, ((h1.mod none_).n (h2.mod none_)).n (h3.mod none_)⟩
/-! ### Whose turn is first -/
def turnV (p q : Pj) : Int := if cmpI (p.had * q.sh) (q.had * p.sh) ≠ 0 then cmpI (p.had * q.sh) (q.had * p.sh) else cmpS p.n q.n
theorem st59 : SlT prog 59 3 1 8 (.int .i64 0) := ⟨by kernel_rfl, by kernel_rfl, rfl, by decide⟩
theorem or_calls (w : World) (x : Sl) (a b : Int) (hx : Has w x 1 [Value.int .i64 a, .int .i64 b]) : Calls prog 72 #[.slice x.a x.l x.c] w fun e w' => e = .returned (.int .i64 (if a ≠ 0 then a else b)) ∧ w' = w := by
  refine calls_ret (W72 (x0 := x) (Q := fun v w' => v = .int .i64 (if a ≠ 0 then a else b) ∧ w' = w) ?_) (fun v w' ⟨h, h'⟩ => ⟨by rw [h], h'⟩)
  have hl : x.l = 2 := by have := hx.len; simp at this; omega
  unfold F72
  refine ⟨fun n i w' => ((i = 0 ∧ n = 2) ∨ (i = 1 ∧ n = 1 ∧ a = 0) ∨ (i = 2 ∧ n = 0 ∧ a = 0 ∧ b = 0)) ∧ w' = w, 2, ⟨.inl ⟨rfl, rfl⟩, rfl⟩, ?_⟩
  rintro n u i w1 ⟨h, e⟩
  subst e
  rcases h with ⟨rfl, rfl⟩ | ⟨rfl, rfl, ha⟩ | ⟨rfl, rfl, ha, hb⟩
  · obtain ⟨q, v, hq, hv, hld⟩ := hx.at1 (i := 0) (by omega) (by omega)
    cases hv
    refine IfB.t (by rw [hl]; rfl) ⟨q, hq, by omega, by omega, a, hld, IfB.intro (fun h => ?_) (fun h => ?_)⟩
    · rw [if_pos (iNe h)]; exact ⟨rfl, rfl⟩
    · exact ⟨1, by omega, .inr (.inl ⟨by decide, rfl, iEq h⟩), rfl⟩
  · obtain ⟨q, v, hq, hv, hld⟩ := hx.at1 (i := 1) (by omega) (by omega)
    cases hv
    refine IfB.t (by rw [hl]; rfl) ⟨q, hq, by omega, by omega, b, hld, IfB.intro (fun h => ?_) (fun h => ?_)⟩
    · rw [if_neg (by simpa using ha)]; exact ⟨rfl, rfl⟩
    · exact ⟨0, by omega, .inr (.inr ⟨by decide, rfl, ha, iEq h⟩), rfl⟩
  · refine IfB.f (by rw [hl]; rfl) ⟨?_, rfl⟩
    rw [if_neg (by simpa using ha), hb]
theorem turn_calls (w : World) (k l : Nat) (p q : Pj) (c d : Bool) (h : Blk w k (pc p c) 77) (h' : Blk w l (pc q d) 77) (hp : OkP p) (hq : OkP q) : Calls prog 41 #[.pointer (some ⟨k, 0, none⟩), .pointer (some ⟨l, 0, none⟩)] w fun e w' => e = .returned (.int .i64 (turnV p q)) ∧ Frm none_ w w' := by
  refine calls_ret (W41 (x0 := some ⟨k, 0, none⟩) (x1 := some ⟨l, 0, none⟩) (Q := fun v w' => v = .int .i64 (turnV p q) ∧ Frm none_ w w') ?_) (fun v w' ⟨h, h'⟩ => ⟨by rw [h], h'⟩)
  unfold F41
  refine ⟨fun w' => Frm none_ w w', frm_drew _, _, rfl, p.n, fun w' hf => by rw [addr_add]; exact (h.mod hf (fun h => h)).ld rfl, _, rfl, q.n, fun w' hf => by rw [addr_add]; exact (h'.mod hf (fun h => h)).ld rfl, (ratio_calls w.drew k l p q c d h.drew h'.drew hp hq).mono ?_⟩
  rintro _ w1 ⟨rfl, f1', _⟩
  have f1 : Frm none_ w w1 := f1'.ofDrew
  refine ⟨_, rfl, f1, (cmpS_calls w1 p.n q.n).mono ?_⟩
  rintro _ w2 ⟨rfl, e⟩
  subst e
  refine ⟨_, rfl, runT_lit st59 (cells := #[.int .i64 (cmpI (p.had * q.sh) (q.had * p.sh)), .int .i64 (cmpS p.n q.n)]) (by decide) (by decide) (by kernel_rfl) rfl ?_⟩
  intro w3 hr3 f3 z3
  refine (or_calls w3 _ _ _ hr3.has).mono ?_
  rintro _ w4 ⟨rfl, e⟩
  subst e
  exact ⟨_, rfl, rfl, f1.n f3⟩
theorem turn_neg {p q : Pj} (h : blt q.n p.n = true) : turnV p q < 0 ↔ bel p q = true := by
  unfold turnV bel cmpI
  have hne : ¬ p.n = q.n := fun e => blt_ne h e.symm
  have hc : cmpS p.n q.n = 1 := by unfold cmpS; rw [if_neg (by rw [blt_anti h]; decide), if_neg hne]
  rw [hc]
  by_cases h1 : p.had * q.sh < q.had * p.sh
  · simp [h1]
  · by_cases h2 : p.had * q.sh = q.had * p.sh
    · simp [h1, h2]
    · simp [h1, h2]
def ptr (ps : List Nat) : Option Nat → Option Addr
  | none => none
  | some j => (ps[j]?).map fun k => ⟨k, 0, none⟩
theorem lst_lt {f : Nat → Pj → Bool} {M : List Pj} : ∀ {n i : Nat}, lst f M n = some i → i < n ∧ ∃ p, M[i]? = some p ∧ f i p = true
  | 0, i, h => by cases h
  | n + 1, i, h => by
    unfold lst at h
    split at h
    · have := lst_lt (n := n) h; exact ⟨by omega, this.2⟩
    · rename_i p hp
      split at h
      · rename_i hf
        split at h
        · cases h; exact ⟨by omega, p, hp, hf⟩
        · rename_i b hb
          split at h
          · split at h
            · cases h; exact ⟨by omega, p, hp, hf⟩
            · cases h; have := lst_lt (n := n) hb; exact ⟨by omega, this.2⟩
          · cases h; have := lst_lt (n := n) hb; exact ⟨by omega, this.2⟩
      · have := lst_lt (n := n) h; exact ⟨by omega, this.2⟩
theorem lst_congr {f g : Nat → Pj → Bool} {M : List Pj} : ∀ {n : Nat}, (∀ i p, i < n → M[i]? = some p → f i p = g i p) → lst f M n = lst g M n
  | 0, _ => rfl
  | n + 1, h => by
    have ih := lst_congr (n := n) (f := f) (g := g) (M := M) (fun i p hi hp => h i p (by omega) hp)
    unfold lst
    cases hp : M[n]? with
    | none => exact ih
    | some p => simp only; rw [h n p (by omega) hp, ih]
/-- What holds between the rounds of least. -/
structure LtJ (w : World) (b3 b5 D l : Nat) (rec : Loop) (ps : List Nat) (o : Option Nat) (W : World) : Prop where
  h3 : Blk W b3 #[.func (.func 41) #[] #[]] 82
  h5 : Blk W b5 #[.pointer (ptr ps o)] 74
  rc : RecR W l rec .ready none
  mark : MarkR W D
  frm : Frm none_ w W
theorem eql74n {t : Nat} : BinIs prog .eql 74 (.tmp t) (.const (.pointer none)) (.pointer none) (.pointer none) true := fun w => by kernel_rfl
theorem eql74s {t : Nat} (b : Nat) : BinIs prog .eql 74 (.tmp t) (.const (.pointer none)) (.pointer (some ⟨b, 0, none⟩)) (.pointer none) false := fun w => by kernel_rfl
theorem neq74n {t : Nat} : BinIs prog .neq 74 (.tmp t) (.const (.pointer none)) (.pointer none) (.pointer none) false := fun w => by kernel_rfl
theorem neq74s {t : Nat} (b : Nat) : BinIs prog .neq 74 (.tmp t) (.const (.pointer none)) (.pointer (some ⟨b, 0, none⟩)) (.pointer none) true := fun w => by kernel_rfl
theorem least_calls (w : World) (c1 c2 c3 b : Nat) (s : Sl) (ps : List Nat) (nw : Nat → Bool) (M : List Pj) (old fresh : Bool) (hS : Shr w b s ps nw M) (ok : OkM M)
    (k1 : Blk w c1 #[.pointer (some ⟨b, 0, none⟩)] 23) (k2 : Blk w c2 #[.bool old] 4) (k3 : Blk w c3 #[.bool fresh] 4) :
    Calls prog 39 #[.func (.func 71) #[] #[.pointer (some ⟨c1, 0, none⟩), .pointer (some ⟨c2, 0, none⟩), .pointer (some ⟨c3, 0, none⟩)], .func (.func 41) #[] #[]] w fun e w' =>
      e = .returned (.pointer (ptr ps (lst (fun i p => sel old fresh (nw i) p) M M.length))) ∧ Frm none_ w w' := by
  refine calls_ret (W39 (x0 := .func (.func 71) #[] #[.pointer (some ⟨c1, 0, none⟩), .pointer (some ⟨c2, 0, none⟩), .pointer (some ⟨c3, 0, none⟩)]) (x1 := .func (.func 41) #[] #[]) (Q := fun v w' => v = .pointer (ptr ps (lst (fun i p => sel old fresh (nw i) p) M M.length)) ∧ Frm none_ w w') ?_) (fun v w' ⟨h, h'⟩ => ⟨by rw [h], h'⟩)
  have hn := ok.n
  unfold F39
  intro b3 w1 hN3 b5 w2 hN5 D l rec w3 hD hl z3 f3 hmk hrc hY
  have e3 := hN3.2; have e5 := hN5.2
  have z1 := hN3.size; have z2 := hN5.size
  have fw : Frm none_ w w3 := ((hN3.mod none_).n (hN5.mod none_)).n f3
  have hbase : LtJ w b3 b5 D l rec ps none w3 := ⟨(hN3.blk.mod (hN5.mod none_) (fun h => h)).mod f3 (fun h => h), hN5.blk.mod f3 (fun h => h), hrc, hmk, fw⟩
  have hit := those_iter l w3 c1 c2 c3 b s ps nw M old fresh (fun i W => LtJ w b3 b5 D l rec ps (lst (fun i p => sel old fresh (nw i) p) M i) W) ((k1.mod fw (fun h => h)).ld rfl) (hS.n fw) (by omega) ?_ hbase ?_ ?_
  rotate_left 1
  · intro i W hJ
    refine ⟨(k2.mod hJ.frm (fun h => h)).ld rfl, (k3.mod hJ.frm (fun h => h)).ld rfl, (hS.n hJ.frm).row.has, fun j k p hk hp => ?_⟩
    have hB := (hS.n hJ.frm).each j k p hk hp
    exact ⟨hB.ld rfl, hB.ld rfl⟩
  · intro i W p hJ hp hsel
    have e : lst (fun i p => sel old fresh (nw i) p) M (i + 1) = lst (fun i p => sel old fresh (nw i) p) M i := by
      rw [lst, hp]; simp only [hsel]; rfl
    simp only [e]
    exact hJ
  · intro i W p k R hJ hp hk hsel hR
    refine hY W (some ⟨k, 0, none⟩) R hJ.rc ⟨hJ.rc, ?_⟩
    intro W7 g7 zz7 rec7
    have n3 : b3 ≠ l := by omega
    have n5 : b5 ≠ l := by omega
    have nD : D ≠ l := by omega
    have hlw : w.heap.size ≤ l := by omega
    have k5 := hJ.h5.mod g7 n5
    have k3' := hJ.h3.mod g7 n3
    have fW7 : Frm none_ w W7 := hJ.frm.b g7 hlw
    -- to the next round, with a new best
    have take : ∀ W8, Frm none_ W7 W8 → lst (fun i p => sel old fresh (nw i) p) M (i + 1) = some i →
        Wr W8 ⟨b5, 0, none⟩ ∧ ∀ w1_4, w1_4 = W8.setCell ⟨b5, 0, none⟩ (.pointer (some ⟨k, 0, none⟩)) → RecR w1_4 l rec .busy none ∧ ∀ w1_5, Frm (fun b => b = l) w1_4 w1_5 → w1_5.heap.size = w1_4.heap.size → RecR w1_5 l rec .ready none → R (.bool true) w1_5 := by
      intro W8 g8 he
      have k58 := k5.mod g8 (fun h => h)
      refine ⟨k58.wr (by show 0 < 1; omega), ?_⟩
      rintro W9 rfl
      have g9 : Frm (fun g => g = b5) W8 (W8.setCell ⟨b5, 0, none⟩ (.pointer (some ⟨k, 0, none⟩))) := mod_setCell (a := ⟨b5, 0, none⟩)
      have k59 : Blk (W8.setCell ⟨b5, 0, none⟩ (.pointer (some ⟨k, 0, none⟩))) b5 #[.pointer (some ⟨k, 0, none⟩)] 74 := k58.set 0 _
      refine ⟨(rec7.mod g8 (fun h => h)).mod g9 (Ne.symm n5), fun W10 g10 z10 rec10 => hR W10 ?_⟩
      simp only [he]
      have hpk : ptr ps (some i) = some ⟨k, 0, none⟩ := by simp [ptr, hk]
      refine ⟨(((k3'.mod g8 (fun h => h)).mod g9 (by omega)).mod g10 n3), by rw [hpk]; exact k59.mod g10 n5, rec10, (((hJ.mark.mod g7 nD).mod g8 (fun h => h)).mod g9 (by omega)).mod g10 nD, ((fW7.n g8).b g9 (by omega)).b g10 hlw⟩
    have keep : ∀ W8, Frm none_ W7 W8 → lst (fun i p => sel old fresh (nw i) p) M (i + 1) = lst (fun i p => sel old fresh (nw i) p) M i → RecR W8 l rec .busy none ∧ ∀ w1_5, Frm (fun b => b = l) W8 w1_5 → w1_5.heap.size = W8.heap.size → RecR w1_5 l rec .ready none → R (.bool true) w1_5 := by
      intro W8 g8 he
      refine ⟨rec7.mod g8 (fun h => h), fun W10 g10 z10 rec10 => hR W10 ?_⟩
      simp only [he]
      exact ⟨(k3'.mod g8 (fun h => h)).mod g10 n3, (k5.mod g8 (fun h => h)).mod g10 n5, rec10, ((hJ.mark.mod g7 nD).mod g8 (fun h => h)).mod g10 nD, (fW7.n g8).b g10 hlw⟩
    have estep : lst (fun i p => sel old fresh (nw i) p) M (i + 1) = match lst (fun i p => sel old fresh (nw i) p) M i with
        | none => some i
        | some b => match M[b]? with
          | some q => if bel p q then some i else some b
          | none => some b := by
      rw [lst, hp]; simp only [hsel]; rfl
    cases hb : lst (fun i p => sel old fresh (nw i) p) M i with
    | none =>
      simp only [hb] at k5 estep
      exact ⟨_, k5.ld rfl, true, eql74n, IfB.t rfl (take W7 (Frm.refl _ _) estep)⟩
    | some j =>
      have hb0 := hb
      obtain ⟨hj, q, hq, _⟩ := lst_lt hb0
      obtain ⟨kj, hji⟩ : ∃ kj, ps[j]? = some kj := ⟨_, List.getElem?_eq_getElem (by rw [hS.len]; exact (List.getElem?_eq_some_iff.1 hq).1)⟩
      have hpj : ptr ps (some j) = some ⟨kj, 0, none⟩ := by simp [ptr, hji]
      simp only [hb, hpj] at k5
      simp only [hb, hq] at estep
      rw [hb] at keep
      refine ⟨_, k5.ld rfl, false, eql74s _, IfB.f rfl ⟨_, k3'.ld rfl, _, k5.ld rfl, ?_⟩⟩
      have hSW := hS.n fW7
      have hBi := hSW.each i k p hk hp
      have hBj := hSW.each j _ q hji hq
      refine (show CallV prog (.func (.func 41) #[] #[]) #[.pointer (some ⟨k, 0, none⟩), .pointer (some ⟨kj, 0, none⟩)] W7 _ from callV_of (by kernel_rfl) ((turn_calls W7 k kj p q _ _ hBi hBj (ok.at hp) (ok.at hq)).mono ?_))
      rintro _ W8 ⟨rfl, g8⟩
      refine ⟨_, rfl, _, rfl, IfB.dec (fun hneg => take W8 g8 ?_) (fun hpos => keep W8 g8 ?_)⟩
      · rw [estep, if_pos ((turn_neg (ok.srt.lt hj hq hp)).1 hneg)]
      · rw [estep, if_neg (fun h => hpos ((turn_neg (ok.srt.lt hj hq hp)).2 h))]
  refine (show RangeCall prog (.func (.func 71) #[] #[.pointer (some ⟨c1, 0, none⟩), .pointer (some ⟨c2, 0, none⟩), .pointer (some ⟨c3, 0, none⟩)]) l w3 _ from ?_)
  have hb71 : hasBody prog 71 = true := by kernel_rfl
  unfold RangeCall
  simp only [hb71]
  refine hit.mono ?_
  rintro _ w8 ⟨rfl, hJ⟩
  refine ⟨_, rfl, .inl ⟨hJ.rc, fun w9 g9 z9 => ?_⟩⟩
  refine ⟨_, (hJ.h5.mod g9 (by omega)).ld rfl, hJ.mark.mod g9 (by omega), fun w10 g10 z10 => ⟨rfl, (hJ.frm.b g9 (by omega)).b g10 (by omega)⟩⟩
end Go.Proofs.Ythgeacnemojjgaa
