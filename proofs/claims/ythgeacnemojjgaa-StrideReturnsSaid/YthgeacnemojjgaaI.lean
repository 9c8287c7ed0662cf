/- A weakest precondition for code that ranges over functions (rounds, their record, the mark of the deferred calls), and its soundness: no program in it. -/
import Derived.Test.YthgeacnemojjgaaM
import Derived.RangeFuncRecord
import Derived.OrdersIn
import Derived.TacticsIn
import Derived.Scope
import Derived.Deep.LoopGhost
set_option linter.unusedVariables false
set_option linter.unusedSimpArgs false
namespace Go.Proofs.YthgeacnemojjgaaV
open Go

/-- The wide fence, of an activation's frame or of a round's. -/
abbrev FR (r : Option Nat) : Fence := { Fence.wide with round := r }

/-! ### 1. From the plain calculus to the one of rounds -/
def isDefer (o : Oper) : Bool := match o.op with
  | .defer _ => true
  | _ => false
theorem noDefer {o : Oper} (h : isDefer o = false) : ∀ c, o.op ≠ .defer c := by
  intro c hc
  simp [isDefer, hc] at h
section
variable {P : Program}
theorem callsTo {r : Option Nat} {n : Nat} {f : FuncId} {args : Array Value} {w : World} {R : Ending → World → Prop} (h : Calls P f args w R) : CallsIn (FR r) n P f args w R :=
  (callsIn_wide (n := n)).2 h
theorem callsFrom {r : Option Nat} {n : Nat} {f : FuncId} {args : Array Value} {w : World} {R : Ending → World → Prop} (h : CallsIn (FR r) n P f args w R) : Calls P f args w R :=
  (callsIn_wide (n := n)).1 h
theorem rowsTo {r : Option Nat} {n : Nat} {row : String} {args : Array Value} {w : World} {R : Value → World → Prop} (h : Rows P row args w R) : RowsIn (FR r) n P row args w R :=
  fun c cs _ => let ⟨v, w', q, s⟩ := h c cs; ⟨v, w', q, stepsIn_wide.2 s⟩
theorem roundTo {r : Option Nat} {n m l : Nat} {f : FuncId} {tmps : Array Value} {a b : Code} {w : World} {R : Ending → World → Prop} (h : RoundIn Fence.wide m P l f tmps a b w R) : RoundIn (FR r) n P l f tmps a b w R :=
  ⟨trivial, fun c cs _ => h.2 c cs (room_wide _)⟩
theorem fr_depth {r : Option Nat} {n : Nat} : (FR r).depth.isSome = true → 1 ≤ n := by intro h; simp [Fence.wide] at h
theorem operTo {r : Option Nat} {o : Oper} {a : Act} {w : World} {next : Act → World → Prop} {Q : Exit → Act → World → Prop} (hd : isDefer o = false) (h : o.wp P a w next Q) : o.wpIn (FR r) 0 P a w next Q := by
  refine ⟨fun _ _ => trivial, ?_⟩
  rw [Oper.semAt_eq _ _ _ (noDefer hd)]
  unfold Oper.wp at h
  generalize (execOp a.eval o).run P w = res at *
  cases res with
  | ok n w' =>
    cases n <;> simp only [Oper.upon] at h <;> simp only [Oper.uponIn] <;> first
      | exact h
      | exact ⟨fr_depth, callsTo h⟩
      | exact ⟨fr_depth, rowsTo h⟩
      | exact h.elim
  | halt x w' => cases x <;> simp only [Oper.upon] at h <;> simp only [Oper.uponIn] <;> first | exact h | exact h.elim
def noDefers (ops : Array Oper) : Bool := ops.toList.all fun o => !isDefer o
theorem noDefers_at {ops : Array Oper} (h : noDefers ops = true) {i : Nat} {o : Oper} (ho : ops[i]? = some o) : isDefer o = false := by
  have := List.all_eq_true.1 h o (by simpa using Array.mem_of_getElem? ho)
  simpa using this
theorem wpOpTo {r : Option Nat} {ops : Array Oper} {Q : Exit → Act → World → Prop} (hd : noDefers ops = true) (hQ : ¬ LetsOut Q) {i : Nat} {K : Act → World → Prop} {a : Act} {w : World} (h : wpOp P ops Q i K a w) : wpOpIn (FR r) 0 P ops Q i K a w := by
  unfold wpOp at h
  unfold wpOpIn
  cases ho : ops[i]? with
  | none => rw [ho] at h; exact h
  | some o =>
    rw [ho] at h
    simp only at h ⊢
    split
    · rename_i hw
      rw [if_pos hw] at h
      rcases h with h | ⟨_, h⟩
      · exact operTo (noDefers_at hd ho) h
      · exact absurd h hQ
    · rename_i hw
      rw [if_neg hw] at h
      exact ⟨fun _ _ => trivial, h⟩
theorem wpAnyTo {r : Option Nat} {md : Region.Mode} {ops : Array Oper} {Q : Exit → Act → World → Prop} (hd : noDefers ops = true) (hQ : ¬ LetsOut Q) : ∀ (fuel : Nat) (listed : Array Bool) (a : Act) (w : World), wpAny P md ops Q fuel listed a w → wpAnyIn (FR r) 0 P md ops Q fuel listed a w
  | 0, _, _, _, h => h
  | fuel + 1, _, _, _, h => ⟨h.1, fun i hi => wpOpIn_mono (fun a' w' h' => wpAnyTo hd hQ fuel _ a' w' h') (wpOpTo hd hQ (h.2 i hi))⟩

/-! ### 2. Rounds: yield called -/
/-- What a call of yield does. -/
def YieldI (P : Program) (l : Nat) (xs : Array Value) (w : World) (R : Value → World → Prop) : Prop :=
  ∃ fn tmps assign body, (Instr.yield l xs).run P w = .ok (.round l fn tmps assign body) w ∧ RoundIn Fence.wide 0 P l fn tmps assign body w fun en w' => ∃ v, en = .returned v ∧ R v w'
theorem YieldI.mono {l : Nat} {xs : Array Value} {w : World} {R R' : Value → World → Prop} (h : YieldI P l xs w R) (hr : ∀ v w', R v w' → R' v w') : YieldI P l xs w R' := by
  obtain ⟨fn, tmps, a, b, h1, h2⟩ := h
  exact ⟨fn, tmps, a, b, h1, h2.mono fun en w' ⟨v, he, hv⟩ => ⟨v, he, hr v w' hv⟩⟩
end
/-- A call of a function's value, yield's too. -/
def CallVI (P : Program) (fv : Value) (args : Array Value) (w : World) (R : Value → World → Prop) : Prop :=
  match fv with
  | .func (.yield l) first _ => YieldI P l (first ++ args) w R
  | fv => CallV P fv args w R
def vopI (P : Program) (e : Env) (o : Oper) (w : World) (K : Value → World → Prop) : Prop :=
  match o.op with
  | .call c => match c.callee with
    | .value f => match f with
      | .func _ => vop P e o w K
      | f => CallVI P (ev e f) (c.args.map (ev e)) w fun v w' => exRes P o.type fun u => v = u ∧ K u w'
    | _ => vop P e o w K
  | _ => vop P e o w K
section
variable {P : Program}
theorem vop_noDefer {e : Env} {o : Oper} {w : World} {K : Value → World → Prop} (h : vop P e o w K) : isDefer o = false := by
  cases hb : isDefer o with
  | false => rfl
  | true =>
    obtain ⟨dst, op, type, pos, after, guard⟩ := o
    cases op <;> simp [isDefer] at hb
    simp [vop, isQ, vx] at h
theorem callVI_yield {e : Env} {dst : Option Tmp} {type : TypeId} {pos : String} {after : Array Edge} {guard : Option (Nat × Bool)} {f : Operand} {args : Array Operand} {argTypes : Array TypeId} {w : World} {l : Nat} {first cap : Array Value} (hf : ev e f = .func (.yield l) first cap) :
    (execOp (ev e) { dst := dst, op := .call { callee := .value f, args := args, argTypes := argTypes }, type := type, pos := pos, after := after, guard := guard } : Sem Next).run P w = (Instr.yield l (first ++ args.map (ev e))).run P w := by
  simp [execOp, resolve, hf, Deferred.ofValue, invoke]
theorem callVI_wp {ds : List Deferred} {N : Nat} {r : Option Nat} {o : Oper} {c : Call} {f : Operand} (ho : o.op = .call c) (hc : c.callee = .value f) (hf : ∀ g, f ≠ .func g) (hG : NoNum P) {e : Env} {a : Act} {w : World} {K : Value → World → Prop} {next : Act → World → Prop} {Q : Exit → Act → World → Prop}
    (hs : SimD ds N a e) (h : CallVI P (ev e f) (c.args.map (ev e)) w K) (hn : ∀ v w', K v w' → next (a.put o.dst v) w') : o.wpIn (FR r) 0 P a w next Q := by
  obtain ⟨dst, op, type, pos, after, guard⟩ := o
  obtain ⟨callee, args, argTypes⟩ := c
  simp only at ho hc
  subst ho hc
  have hd : ∀ c', (Op.call { callee := .value f, args := args, argTypes := argTypes }) ≠ .defer c' := by intro c' h'; cases h'
  unfold CallVI at h
  split at h
  · rename_i l first cap hfv
    refine ⟨fun _ _ => trivial, ?_⟩
    rw [Oper.semAt_eq _ _ _ hd, hs.eval, callVI_yield hfv]
    obtain ⟨fn, tmps, as, bd, h1, h2⟩ := h
    rw [h1]
    refine ⟨fr_depth, (roundTo h2).mono fun en w' ⟨v, he, hv⟩ => ?_⟩
    subst he
    exact hn v w' hv
  · have h' : opRes P { dst := dst, op := .call { callee := .value f, args := args, argTypes := argTypes }, type := type, pos := pos, after := after, guard := guard } e w K := by
      have := CallV.runN hG h
      unfold opRes
      cases f with
      | func g => exact absurd rfl (hf g)
      | tmp t => simpa [execOp, resolve] using this
      | const v => simpa [execOp, resolve] using this
      | global g => simpa [execOp, resolve] using this
    exact operTo rfl (opRes_wp hs h' hn)
theorem vopI_wp (hG : NoNum P) {ds : List Deferred} {N : Nat} {r : Option Nat} {o : Oper} {e : Env} {a : Act} {w : World} {K : Value → World → Prop} {next : Act → World → Prop} {Q : Exit → Act → World → Prop} (hs : SimD ds N a e) (h : vopI P e o w K)
    (hn : ∀ v w', K v w' → next (a.put o.dst v) w') : o.wpIn (FR r) 0 P a w next Q := by
  have old : vop P e o w K → o.wpIn (FR r) 0 P a w next Q := fun h => operTo (vop_noDefer h) (opRes_wp hs (vop_run hG h) hn)
  unfold vopI at h
  split at h
  · rename_i c ho
    split at h
    · rename_i f hf
      split at h
      · exact old h
      · rename_i hne
        exact callVI_wp ho hf (fun g hg => hne g hg) hG hs h (fun v w' hh => hn v w' (typed_spec hh))
    · exact old h
  · exact old h
/-! ### 3. A region -/
def vlI (P : Program) (ops : Array Oper) : List Oper → Env → World → (Env → World → Prop) → Prop
  | [], e, w, K => K e w
  | o :: r, e, w, K => grd ops o e (fun e => vopI P e o w fun v w' => vlI P ops r (updO e o.dst v) w' K) (fun e => vlI P ops r (updO e o.dst undef) w K)
theorem vlI_wp (hG : NoNum P) {ds : List Deferred} {N : Nat} {rr : Option Nat} {ops : Array Oper} {Q : Exit → Act → World → Prop} {K : Env → World → Prop} (D : List Nat) (e0 : Env) (hQ : ∀ a e w, SimD ds N a e → AgreeOff D e0 e → K e w → Q .normal a w) (l : List Oper) :
    ∀ (e : Env) (a : Act) (w : World), (∀ o, o ∈ l → dstOk N o ∧ ∀ d, o.dst = some d → d ∈ D) → AgreeOff D e0 e → SimD ds N a e → vlI P ops l e w K → wpListIn (FR rr) 0 P ops Q l a w := by
  induction l with
  | nil => intro e a w _ hag hs h; exact hQ _ _ _ hs hag h
  | cons o r ih =>
    intro e a w hd hag hs h
    obtain ⟨ho, hoD⟩ := hd o (by simp)
    have hr := fun o' (h' : o' ∈ r) => hd o' (by simp [h'])
    have step : ∀ v w', vlI P ops r (updO e o.dst v) w' K → wpListIn (FR rr) 0 P ops Q r (a.put o.dst v) w' := fun v w' h' =>
      ih _ _ _ hr (hag.trans (AgreeOff.updO e o.dst v hoD)) (hs.put v ho) h'
    unfold wpListIn
    rcases grd_spec hs h with ⟨hw, h⟩ | ⟨hw, h⟩
    · rw [if_pos hw]
      exact vopI_wp hG hs h step
    · rw [if_neg (by rw [hw]; simp)]
      exact ⟨fun _ _ => trivial, step _ _ h⟩
def vrI (P : Program) (ops : Array Oper) (draw : Bool) (e : Env) (w : World) (K : Env → World → Prop) : Prop :=
  match draw with
  | false => vlI P ops ops.toList e w K
  | true => vr P ops true e w K
def Qn (Φ : Act → World → Prop) : Exit → Act → World → Prop := fun ex a w => ex = .normal ∧ Φ a w
theorem Qn.noOut {Φ : Act → World → Prop} : ¬ LetsOut (Qn Φ) := fun ⟨a, w, h⟩ => by cases h.1
theorem vrI_wp (hG : NoNum P) (hm : P.follows .mixedOrders = true) {ds : List Deferred} {N : Nat} {r : Option Nat} {id : Nat} {ops : Array Oper} {draw : Bool} {K : Env → World → Prop} {e : Env} {a : Act} {w : World} (hsel : Region.noSelect ops = true) (hnd : noDefers ops = true)
    (hd : ∀ o, o ∈ ops.toList → dstOk N o) (hs : SimD ds N a e) (h : vrI P ops draw e w K) :
    (Code.region id ops draw).wpIn (FR r) 0 P (Qn fun a' w' => ∃ e', SimD ds N a' e' ∧ AgreeOff (dstsL ops.toList) e e' ∧ K e' w') a w := by
  have hD : ∀ o, o ∈ ops.toList → dstOk N o ∧ ∀ d, o.dst = some d → d ∈ dstsL ops.toList := fun o ho => ⟨hd o ho, fun d hd' => List.mem_filterMap.2 ⟨o, ho, hd'⟩⟩
  have hD' : ∀ (i : Nat) o, ops[i]? = some o → dstOk N o ∧ ∀ d, o.dst = some d → d ∈ dstsL ops.toList := fun i o ho => hD o (by simpa using Array.mem_of_getElem? ho)
  have hQ : ∀ a' e' w', SimD ds N a' e' → AgreeOff (dstsL ops.toList) e e' → K e' w' → Qn (fun a' w' => ∃ e', SimD ds N a' e' ∧ AgreeOff (dstsL ops.toList) e e' ∧ K e' w') .normal a' w' := fun a' e' w' h1 h2 h3 => ⟨rfl, e', h1, h2, h3⟩
  have hp : ∀ (c : List PanicEntry) a' w', ¬ Qn (fun a' w' => ∃ e', SimD ds N a' e' ∧ AgreeOff (dstsL ops.toList) e e' ∧ K e' w') (.panic c) a' w' := fun c a' w' h => by cases h.1
  unfold vrI at h
  cases draw with
  | false => exact wpIn_region_list (vlI_wp hG (dstsL ops.toList) e hQ ops.toList e a w hD (.refl _ _) hs h)
  | true =>
    refine wpIn_region_any hm (wpAnyTo hnd Qn.noOut _ _ _ _ ?_)
    simp only [vr] at h
    split at h
    · exact wpAny_of_M _ _ _ _ _ (vd_wp hG (dstsL ops.toList) e hsel hD' hp hQ _ _ none e a _ (DC_start _ _ _) (.refl _ _) hs rfl h)
    · split at h
      · obtain ⟨S, hS, h⟩ := h
        exact wpAny_of_M _ _ _ _ _ (vd_wp hG (dstsL ops.toList) e hsel hD' hp hQ _ _ (some S) e a _ (DC_start _ _ _) (.refl _ _) hs hS h)
      · exact wpAny_of_M _ _ _ _ _ (vd_wp hG (dstsL ops.toList) e hsel hD' hp hQ _ _ (some fun _ => True) e a _ (DC_start _ _ _) (.refl _ _) hs trivial h)
end

/-! ### 4. The record of a loop, the mark -/
def RecR (w : World) (l : Nat) (rec : Loop) (st : LoopState) (pe : Option Code) : Prop := w.heap[l]? = some (.loop { rec with state := st, pending := pe })
def MarkR (w : World) (D : Nat) : Prop := w.heap[D]? = some (.deferred (some []))
theorem RecR.mod {F : Nat → Prop} {w w' : World} {l : Nat} {rec : Loop} {st : LoopState} {pe : Option Code} (h : RecR w l rec st pe) (hm : Frm F w w') (hn : ¬ F l) : RecR w' l rec st pe :=
  (hm.same l (Array.getElem?_eq_some_iff.1 h).1 hn).trans h
theorem MarkR.mod {F : Nat → Prop} {w w' : World} {D : Nat} (h : MarkR w D) (hm : Frm F w w') (hn : ¬ F D) : MarkR w' D := (hm.same D (Array.getElem?_eq_some_iff.1 h).1 hn).trans h
theorem RecR.lt {w : World} {l : Nat} {rec : Loop} {st : LoopState} {pe : Option Code} (h : RecR w l rec st pe) : l < w.heap.size := (Array.getElem?_eq_some_iff.1 h).1
theorem MarkR.lt {w : World} {D : Nat} (h : MarkR w D) : D < w.heap.size := (Array.getElem?_eq_some_iff.1 h).1
theorem frm_putObj (w : World) (l : Nat) (o : Obj) : Frm (fun b => b = l) w (w.putObj l o) :=
  ⟨rfl, rfl, rfl, by simp, fun b _ hb => World.putObj_heap_other hb⟩
def marks (ds : List Nat) : List Deferred := ds.map fun D => { target := .collected D, args := #[] }
/-- The jumps by which a body may be left. -/
def jumps : Code → List Code
  | .seq x y => jumps x ++ jumps y
  | .cond _ x y => jumps x ++ jumps y
  | .block id b => (jumps b).filter fun
    | .exit i => !Nat.beq i id
    | _ => true
  | .loop b => jumps b
  | .scope b => jumps b
  | .exit id => [.exit id]
  | .ret => [.ret]
  | _ => []
def exitOf : Code → Exit
  | .exit id => .exit id
  | .ret => .ret
  | .goto l => .goto l
  | _ => .normal
def orL : List Code → (Code → Prop) → Prop
  | [], _ => False
  | [c], f => f c
  | c :: r, f => f c ∨ orL r f
theorem orL_spec {f : Code → Prop} : ∀ {l : List Code}, orL l f → ∃ c ∈ l, f c
  | [], h => h.elim
  | [c], h => ⟨c, by simp, h⟩
  | c :: d :: r, h => by
    rcases h with h | h
    · exact ⟨c, by simp, h⟩
    · obtain ⟨x, hx, hf⟩ := orL_spec (l := d :: r) h
      exact ⟨x, List.mem_cons_of_mem _ hx, hf⟩
def dedup : List Code → List Code
  | [] => []
  | .exit i :: r => match (dedup r).any fun
      | .exit j => Nat.beq i j
      | _ => false with
    | true => dedup r
    | false => .exit i :: dedup r
  | .ret :: r => match (dedup r).any fun
      | .ret => true
      | _ => false with
    | true => dedup r
    | false => .ret :: dedup r
  | _ :: r => dedup r
/-- A range's one call, of the function that is ranged over. -/
def RangeCall (P : Program) (fv : Value) (l : Nat) (w : World) (R : World → Prop) : Prop :=
  match fv with
  | .func (.func f) first captured => match hasBody P f with
    | true => Calls P f ((first ++ #[.func (.yield l) #[] #[]]) ++ captured) w fun en w' => ∃ v, en = .returned v ∧ R w'
    | false => False
  | _ => False
/-- What the loop's left sides are handed: a value of each kind. -/
def AllP : List (Nat × Ty) → Env → List Value → (Env → List Value → Prop) → Prop
  | [], e, vs, k => k e vs
  | (d, t) :: r, e, vs, k => ∀ x : t.den, AllP r (upd e d (t.enc x)) (vs ++ [t.enc x]) k

/-! ### 5. Code -/
abbrev KxI := Exit → Env → List Nat → World → Prop
/-- A round's end. -/
def endR (l : Nat) (rec : Loop) (R : Value → World → Prop) (ex : Exit) (w : World) : Prop := match ex with
  | .normal => RecR w l rec .busy none ∧ ∀ w', Frm (fun b => b = l) w w' → w'.heap.size = w.heap.size → RecR w' l rec .ready none → R (.bool true) w'
  | .ret => RecR w l rec .busy none ∧ ∀ w', Frm (fun b => b = l) w w' → w'.heap.size = w.heap.size → RecR w' l rec .done (some .ret) → R (.bool false) w'
  | .exit id => RecR w l rec .busy none ∧ ∀ w', Frm (fun b => b = l) w w' → w'.heap.size = w.heap.size → RecR w' l rec .done (some (.exit id)) → R (.bool false) w'
  | _ => False
def vcI (P : Program) (an : Ann) : Code → Option Nat → Env → List Nat → World → KxI → Prop
  | .skip, _, e, ds, w, K => K .normal e ds w
  | .region _ ops draw, _, e, ds, w, K => vrI P ops draw e w fun e' w' => K .normal e' ds w'
  | .seq x y, r, e, ds, w, K => match an.cut (firstId y) with
    | none => vcI P an x r e ds w fun ex e' ds' w' => match ex with
      | .normal => vcI P an y r e' ds' w' K
      | ex => K ex e' ds' w'
    | some dl => ∃ J : List Nat → Fn dl, (vcI P an x r e ds w fun ex e' ds' w' => match ex with
      | .normal => TakeX dl (J ds') e' fun Jw => Jw w'
      | ex => K ex e' ds' w') ∧ ∀ (u : Env) (ds' : List Nat), AllX dl (J ds') (mask (dsts x) e u) fun e' Jw => ∀ w', Jw w' → vcI P an y r e' ds' w' K
  | .cond c x y, r, e, ds, w, K => match ev e c with
    | .bool b => IfB b (vcI P an x r (setC e c true) ds w K) (vcI P an y r (setC e c false) ds w K)
    | _ => False
  | .block id b, r, e, ds, w, K => vcI P an b r e ds w fun ex e' ds' w' => match ex with
    | .exit id' => match Nat.beq id' id with
      | true => K .normal e' ds' w'
      | false => K (.exit id') e' ds' w'
    | ex => K ex e' ds' w'
  | .loop b, r, e, ds, w, K => ∃ (I : Nat → Fn (an.loop (firstId b))) (n0 : Nat), (TakeX (an.loop (firstId b)) (I n0) e fun Iw => Iw w) ∧
      ∀ (n : Nat) (u : Env), AllX (an.loop (firstId b)) (I n) (mask (dsts b) e u) fun e' Iw => ∀ w', Iw w' → vcI P an b r e' ds w' fun ex e'' ds'' w'' => match ex with
        | .normal => ds'' = ds ∧ ∃ n', n' < n ∧ TakeX (an.loop (firstId b)) (I n') e'' fun Iw => Iw w''
        | ex => K ex e'' ds'' w''
  | .scope b, r, e, ds, w, K => vcI P an b r e ds w fun ex e' ds' w' => match ex with
    | .goto _ => False
    | ex => K ex e' ds' w'
  | .label _, _, e, ds, w, K => K .normal e ds w
  | .exit id, _, e, ds, w, K => K (.exit id) e ds w
  | .ret, _, e, ds, w, K => K .ret e ds w
  | .rangeFunc g ps assign body, r, e, ds, w, K => match r with
    | some _ => False
    | none => ∀ (D l : Nat) (rec : Loop) (w1 : World), D = w.heap.size → l = w.heap.size + 1 → w1.heap.size = w.heap.size + 2 → Frm none_ w w1 → MarkR w1 D → RecR w1 l rec .ready none →
      (∀ W, AllP (an.loop (firstId body)) e [] fun e' xs => ∀ R : Value → World → Prop, RecR W l rec .ready none →
        (vcI P an assign (some l) e' [] W fun ex e'' ds'' W1 => match ex with
          | .normal => RecR W1 l rec .ready none ∧ ∀ W2, Frm (fun b => b = l) W1 W2 → W2.heap.size = W1.heap.size → RecR W2 l rec .busy none → vcI P an body (some l) e'' ds'' W2 fun ex e3 ds3 W3 => endR l rec R ex W3
          | _ => False) → YieldI P l xs.toArray W R) →
      RangeCall P (ev e g) l w1 fun w2 =>
        (RecR w2 l rec .ready none ∧ ∀ w3, Frm (fun b => b = l) w2 w3 → w3.heap.size = w2.heap.size → K .normal e (D :: ds) w3) ∨
        orL (dedup (jumps body)) fun c => RecR w2 l rec .done (some c) ∧ ∀ w3, Frm (fun b => b = l) w2 w3 → w3.heap.size = w2.heap.size → K (exitOf c) e (D :: ds) w3
  | _, _, _, _, _, _ => False
def parsOk (N : Nat) (ps : List Nat) (ds : List (Nat × Ty)) : Bool := match ps, ds with
  | [], [] => true
  | p :: ps, (d, _) :: ds => Nat.beq p d && Nat.blt p N && parsOk N ps ds
  | _, _ => false
def codeOkI (N : Nat) (an : Ann) : Code → Bool
  | .region _ ops _ => ops.toList.all (dstOkB N) && Region.noSelect ops && noDefers ops
  | .seq x y => codeOkI N an x && codeOkI N an y
  | .cond _ x y => codeOkI N an x && codeOkI N an y
  | .block _ b => codeOkI N an b
  | .loop b => codeOkI N an b
  | .scope b => codeOkI N an b
  | .rangeFunc _ ps as b => codeOkI N an as && codeOkI N an b && parsOk N ps.toList (an.loop (firstId b))
  | _ => true
def QofI (N : Nat) (D : List Nat) (e : Env) (K : KxI) : Exit → Act → World → Prop := fun ex a w => (∀ c, ex ≠ .panic c) ∧ ex ≠ .outgrown ∧ ∃ e' ds', SimD (marks ds') N a e' ∧ AgreeOff D e e' ∧ K ex e' ds' w
def SimP (N : Nat) (tmps : Array Value) (e : Env) : Prop := tmps.size = N ∧ ∀ t, tmps.getD t undef = e t
theorem SimP.put {N : Nat} {tmps : Array Value} {e : Env} (h : SimP N tmps e) {d : Nat} (v : Value) (hd : d < N) : SimP N (tmps.setIfInBounds d v) (upd e d v) := by
  have := (SimD.put (ds := []) (a := { tmps := tmps, defers := [] }) ⟨rfl, h.1, h.2⟩ (o := some d) v (fun d' hd' => by cases hd'; exact hd))
  exact ⟨this.size, this.get⟩
/-- The values handed over are those of whatever 'AllP' speaks of. -/
theorem allP_use {N : Nat} {k : Env → List Value → Prop} : ∀ (ps : List Nat) (dl : List (Nat × Ty)) (tmps : Array Value) (e : Env) (vs : List Value), parsOk N ps dl = true → SimP N tmps e →
    (∀ (e' : Env) (xs : List Value), xs.length = ps.length → SimP N ((ps.zip xs).foldl (fun t (p : Nat × Value) => t.setIfInBounds p.1 p.2) tmps) e' → k e' (vs ++ xs)) → AllP dl e vs k
  | [], [], tmps, e, vs, _, hs, hk => by simpa [AllP] using hk e [] rfl hs
  | [], _ :: _, _, _, _, h, _, _ => by simp [parsOk] at h
  | _ :: _, [], _, _, _, h, _, _ => by simp [parsOk] at h
  | p :: ps, (d, t) :: dl, tmps, e, vs, h, hs, hk => by
    simp only [parsOk, Bool.and_eq_true] at h
    obtain ⟨⟨h1, h2⟩, h3⟩ := h
    have hp : p = d := Nat.eq_of_beq_eq_true h1
    subst hp
    have hlt : p < N := by have : Nat.succ p ≤ N := by simpa [Nat.blt] using h2
                           exact this
    intro x
    refine allP_use ps dl (tmps.setIfInBounds p (t.enc x)) _ _ h3 (hs.put _ hlt) fun e' xs hl hs' => ?_
    have := hk e' (t.enc x :: xs) (by simp [hl]) (by simpa using hs')
    simpa using this

/-! ### 6. Soundness -/
section
variable {P : Program}
theorem wpIn_scope {r : Option Nat} {Q : Exit → Act → World → Prop} {a : Act} {w : World} {c : Code} (h : c.wpIn (FR r) 0 P (Exit.noGoto Q) a w) : (Code.scope c).wpIn (FR r) 0 P Q a w := by
  intro b k cs hro hb hr
  have h0 : (lone (b.atR a (.code (.scope c) :: k)) cs w).fenced P (FR r) := fenced_calm hb hr rfl
  have s1 : step P (lone (b.atR a (.code (.scope c) :: k)) cs w) = .next (lone (b.atR a (.code c :: .inScope c :: k)) cs w) := step_lone_go (by simp [stepG, stepG.exec, Frame.atR])
  obtain ⟨e, a₁, w₁, hq, harr⟩ := h b (.inScope c :: k) cs hro hb hr
  have s2 : step P (lone (b.atR a₁ (.inScope c :: k)) cs w₁) = .next (lone (b.atR a₁ k) cs w₁) := step_lone_go (by simp [stepG, stepG.exec, Frame.atR])
  cases e with
  | normal => exact ⟨.normal, a₁, w₁, hq, .head h0 s1 (StepsIn.trans harr (.one (fenced_calm hb hr rfl) s2))⟩
  | exit id =>
    have hx : exitTo id (.inScope c :: k) = exitTo id k := by simp [exitTo]
    exact ⟨.exit id, a₁, w₁, hq, fun k' hk => .head h0 s1 (harr.1 k' (by rw [hx]; exact hk)),
      fun hr' hk => let ⟨k₁, h1, h2⟩ := harr.2 hr' (by rw [hx]; exact hk); ⟨k₁, h1, .head h0 s1 h2⟩⟩
  | goto l => exact hq.elim
  | ret => exact ⟨_, a₁, w₁, hq, .of_steps (.one h0 s1) harr⟩
  | panic ch => exact ⟨_, a₁, w₁, hq, .of_steps (.one h0 s1) harr⟩
  | outgrown => exact ⟨_, a₁, w₁, hq, .of_steps (.one h0 s1) harr⟩
theorem wpIn_loop_ghost {F : Fence} {n : Nat} {Q : Exit → Act → World → Prop} {a : Act} {w : World} {c : Code} (I : Nat → Act → World → Prop) (n₀ : Nat) (h₀ : I n₀ a w)
    (round : ∀ n' a w, I n' a w → c.wpIn F n P (Exit.then (fun a' w' => ∃ m, m < n' ∧ I m a' w') Q) a w) : (Code.loop c).wpIn F n P Q a w := by
  refine wpIn_loop (fun a w => ∃ n, I n a w) (fun a w => leastOf (fun n => I n a w)) ⟨n₀, h₀⟩ ?_
  intro a w hI
  refine wpIn_mono (round _ a w (leastOf_spec hI).1) ?_
  intro e a' w' hq
  cases e with
  | normal =>
    obtain ⟨n', hlt, hI'⟩ := hq
    exact show (∃ n, I n a' w') ∧ leastOf (fun n => I n a' w') < leastOf (fun n => I n a w) from ⟨⟨n', hI'⟩, Nat.lt_of_le_of_lt ((leastOf_spec ⟨n', hI'⟩).2 n' hI') hlt⟩
  | exit id => exact hq
  | goto l => exact hq
  | ret => exact hq
  | panic ch => exact hq
  | outgrown => exact hq
theorem dedup_jump : ∀ {l : List Code} {c : Code}, c ∈ dedup l → (∃ id, c = .exit id) ∨ c = .ret := by
  intro l
  induction l with
  | nil => intro c h; simp [dedup] at h
  | cons x r ih =>
    intro c h
    cases x with
    | exit i =>
      simp only [dedup] at h
      split at h
      · exact ih h
      · rcases List.mem_cons.1 h with rfl | h
        · exact .inl ⟨i, rfl⟩
        · exact ih h
    | ret =>
      simp only [dedup] at h
      split at h
      · exact ih h
      · rcases List.mem_cons.1 h with rfl | h
        · exact .inr rfl
        · exact ih h
    | _ => exact ih h
theorem vcI_wp (hG : NoNum P) (hm : P.follows .mixedOrders = true) {N : Nat} {an : Ann} (c : Code) :
    ∀ (r : Option Nat) (e : Env) (a : Act) (ds : List Nat) (w : World) (K : KxI), codeOkI N an c = true → SimD (marks ds) N a e → vcI P an c r e ds w K → c.wpIn (FR r) 0 P (QofI N (dsts c) e K) a w := by
  induction c with
  | skip => intro r e a ds w K _ hs h; exact wpIn_skip ⟨by simp, by simp, e, ds, hs, .refl _ _, h⟩
  | label l => intro r e a ds w K _ hs h; exact wpIn_label ⟨by simp, by simp, e, ds, hs, .refl _ _, h⟩
  | region id ops draw =>
    intro r e a ds w K hok hs h
    simp only [codeOkI, Bool.and_eq_true] at hok
    refine wpIn_mono (vrI_wp hG hm hok.1.2 hok.2 (fun o ho => dstOk_of (List.all_eq_true.1 hok.1.1 o ho)) hs h) fun ex a' w' hq => ?_
    obtain ⟨rfl, e', hs', hag, hk⟩ := hq
    exact ⟨by simp, by simp, e', ds, hs', hag, hk⟩
  | seq x y ihx ihy =>
    intro r e a ds w K hok hs h
    simp only [codeOkI, Bool.and_eq_true] at hok
    simp only [vcI] at h
    have monoL : ∀ {e e' : Env}, AgreeOff (dsts x) e e' → AgreeOff (dsts (.seq x y)) e e' := fun h => h.mono fun i hi => by simp [dsts, hi]
    have monoR : ∀ {e e' : Env}, AgreeOff (dsts y) e e' → AgreeOff (dsts (.seq x y)) e e' := fun h => h.mono fun i hi => by simp [dsts, hi]
    have later : ∀ e' a' ds' w', SimD (marks ds') N a' e' → AgreeOff (dsts x) e e' → vcI P an y r e' ds' w' K → y.wpIn (FR r) 0 P (QofI N (dsts (.seq x y)) e K) a' w' := by
      intro e' a' ds' w' hs' hag hy
      refine wpIn_mono (ihy r e' a' ds' w' K hok.2 hs' hy) fun ex a2 w2 hq => ?_
      obtain ⟨hp, ho, e2, ds2, hs2, hag2, hk⟩ := hq
      exact ⟨hp, ho, e2, ds2, hs2, (monoL hag).trans (monoR hag2), hk⟩
    split at h
    · refine wpIn_seq (wpIn_mono (ihx r e a ds w _ hok.1 hs h) fun ex a' w' hq => ?_)
      obtain ⟨hp, ho, e', ds', hs', hag, hk⟩ := hq
      cases ex with
      | normal => exact later e' a' ds' w' hs' hag hk
      | panic c => exact (hp c rfl).elim
      | outgrown => exact (ho rfl).elim
      | _ => exact ⟨hp, ho, e', ds', hs', monoL hag, hk⟩
    · rename_i dl hdl
      obtain ⟨J, h, hJ⟩ := h
      refine wpIn_seq (wpIn_mono (ihx r e a ds w _ hok.1 hs h) fun ex a' w' hq => ?_)
      obtain ⟨hp, ho, e', ds', hs', hag, hk⟩ := hq
      cases ex with
      | normal =>
        have hall := hJ e' ds'
        rw [mask_agree hag] at hall
        obtain ⟨Jw, h1, h2⟩ := AllX_TakeX hall hk
        exact later e' a' ds' w' hs' hag (h1 w' h2)
      | panic c => exact (hp c rfl).elim
      | outgrown => exact (ho rfl).elim
      | _ => exact ⟨hp, ho, e', ds', hs', monoL hag, hk⟩
  | cond c x y ihx ihy =>
    intro r e a ds w K hok hs h
    simp only [codeOkI, Bool.and_eq_true] at hok
    simp only [vcI] at h
    split at h
    · rename_i b hb
      have hc : a.eval c = .bool b := by rw [hs.eval]; exact hb
      have hset : setC e c b = e := by
        cases c with
        | tmp t => exact upd_self e t _ hb
        | _ => rfl
      cases b with
      | true =>
        have h := IfB.pickT h
        rw [hset] at h
        exact wpIn_cond_true hc (wpIn_mono (ihx r e a ds w K hok.1 hs h) fun ex a' w' ⟨hp, ho, e', ds', hs', hag, hk⟩ => ⟨hp, ho, e', ds', hs', hag.mono fun i hi => by simp [dsts, hi], hk⟩)
      | false =>
        have h := IfB.pickF h
        rw [hset] at h
        exact wpIn_cond_false hc (wpIn_mono (ihy r e a ds w K hok.2 hs h) fun ex a' w' ⟨hp, ho, e', ds', hs', hag, hk⟩ => ⟨hp, ho, e', ds', hs', hag.mono fun i hi => by simp [dsts, hi], hk⟩)
    · exact h.elim
  | block id b ih =>
    intro r e a ds w K hok hs h
    simp only [codeOkI] at hok
    simp only [vcI] at h
    refine wpIn_block (wpIn_mono (ih r e a ds w _ hok hs h) fun ex a' w' hq => ?_)
    obtain ⟨hp, ho, e', ds', hs', hag, hk⟩ := hq
    cases ex with
    | exit id' =>
      simp only [Exit.inBlock]
      simp only at hk
      by_cases hid : id' = id
      · subst hid
        rw [Nat.beq_refl] at hk
        rw [if_pos rfl]
        exact ⟨by simp, by simp, e', ds', hs', hag, hk⟩
      · have : Nat.beq id' id = false := by
          cases hb : Nat.beq id' id
          · rfl
          · exact absurd (Nat.eq_of_beq_eq_true hb) hid
        rw [this] at hk
        rw [if_neg hid]
        exact ⟨by simp, by simp, e', ds', hs', hag, hk⟩
    | panic c => exact (hp c rfl).elim
    | outgrown => exact (ho rfl).elim
    | _ => exact ⟨hp, ho, e', ds', hs', hag, hk⟩
  | scope b ih =>
    intro r e a ds w K hok hs h
    simp only [codeOkI] at hok
    simp only [vcI] at h
    refine wpIn_scope (wpIn_mono (ih r e a ds w _ hok hs h) fun ex a' w' hq => ?_)
    obtain ⟨hp, ho, e', ds', hs', hag, hk⟩ := hq
    cases ex with
    | goto l => exact hk.elim
    | panic c => exact (hp c rfl).elim
    | outgrown => exact (ho rfl).elim
    | _ => exact ⟨hp, ho, e', ds', hs', hag, hk⟩
  | loop b ih =>
    intro r e a ds w K hok hs h
    simp only [codeOkI] at hok
    simp only [vcI] at h
    obtain ⟨I, n0, h0, hround⟩ := h
    refine wpIn_loop_ghost (fun n a' w' => ∃ e', SimD (marks ds) N a' e' ∧ AgreeOff (dsts b) e e' ∧ TakeX (an.loop (firstId b)) (I n) e' fun Iw => Iw w') n0 ⟨e, hs, .refl _ _, h0⟩ ?_
    rintro n a' w' ⟨e', hs', hag, ht⟩
    have hall := hround n e'
    rw [mask_agree hag] at hall
    obtain ⟨Iw, h1, h2⟩ := AllX_TakeX hall ht
    refine wpIn_mono (ih r e' a' ds w' _ hok hs' (h1 w' h2)) fun ex a2 w2 hq => ?_
    obtain ⟨hp, ho, e2, ds2, hs2, hag2, hk⟩ := hq
    cases ex with
    | normal =>
      obtain ⟨rfl, n', hlt, ht'⟩ := hk
      exact ⟨n', hlt, e2, hs2, hag.trans hag2, ht'⟩
    | panic c => exact (hp c rfl).elim
    | outgrown => exact (ho rfl).elim
    | _ => exact ⟨hp, ho, e2, ds2, hs2, hag.trans hag2, hk⟩
  | exit id => intro r e a ds w K _ hs h; exact wpIn_exit ⟨by simp, by simp, e, ds, hs, .refl _ _, h⟩
  | ret => intro r e a ds w K _ hs h; exact wpIn_ret ⟨by simp, by simp, e, ds, hs, .refl _ _, h⟩
  | rangeFunc g ps assign body iha ihb =>
    intro r e a ds w K hok hs h
    simp only [codeOkI, Bool.and_eq_true] at hok
    obtain ⟨⟨hoa, hob⟩, hpar⟩ := hok
    simp only [vcI] at h
    cases r with
    | some l => exact h.elim
    | none =>
      simp only at h
      refine wpIn_rangeFunc ?_
      intro fn hfn
      obtain ⟨rec0, hrec0⟩ : ∃ rec0 : Loop, rec0 = { state := .ready, pending := none, fn, tmps := a.tmps, params := ps, assign, body, defers := w.heap.size } := ⟨_, rfl⟩
      obtain ⟨w1, hw1⟩ : ∃ w1, w1 = (w.alloc (.deferred (some []))).alloc (.loop rec0) := ⟨_, rfl⟩
      have hrun : (Instr.enterLoop fn a.tmps ps assign body (FR none).round).run P w = .ok (w.heap.size + 1, [{ target := .collected w.heap.size, args := #[] }]) w1 := by
        rw [hw1, hrec0]; exact run_enterLoop_outer _ _ _ _ _
      have hsz : w1.heap.size = w.heap.size + 2 := by rw [hw1]; simp
      have hL1 : RecR w1 (w.heap.size + 1) rec0 .ready none := by
        have := World.alloc_heap_new (w.alloc (.deferred (some []))) (.loop rec0)
        rw [World.size_alloc] at this
        unfold RecR
        rw [hw1, this, hrec0]
      have hK1 : MarkR w1 w.heap.size := by
        unfold MarkR
        rw [hw1]; exact (RowKit.Below.heap_alloc _ _ _ (by simp)).trans (World.alloc_heap_new w _)
      have hF1 : Frm none_ w w1 := by
        rw [hw1]
        exact (NewB.mod (w := w) ⟨rfl, rfl⟩ none_).trans (NewB.mod ⟨rfl, rfl⟩ none_) (fun _ _ h => h) (fun _ _ h => h)
      have hY : ∀ W, AllP (an.loop (firstId body)) e [] fun e' xs => ∀ R : Value → World → Prop, RecR W (w.heap.size + 1) rec0 .ready none →
        (vcI P an assign (some (w.heap.size + 1)) e' [] W fun ex e'' ds'' W1 => match ex with
          | .normal => RecR W1 (w.heap.size + 1) rec0 .ready none ∧ ∀ W2, Frm (fun b => b = w.heap.size + 1) W1 W2 → W2.heap.size = W1.heap.size → RecR W2 (w.heap.size + 1) rec0 .busy none → vcI P an body (some (w.heap.size + 1)) e'' ds'' W2 fun ex e3 ds3 W3 => endR (w.heap.size + 1) rec0 R ex W3
          | _ => False) → YieldI P (w.heap.size + 1) xs.toArray W R := by
        intro W
        refine allP_use ps.toList (an.loop (firstId body)) a.tmps e [] hpar ⟨hs.size, hs.get⟩ fun e' xs hl hsp => ?_
        intro R hrec hwalk
        rw [List.nil_append]
        have hy := run_yield (P := P) (args := xs.toArray) hrec (by rw [hrec0]; simpa using hl)
        rw [hrec0] at hy
        simp only at hy
        have hfold : (ps.zip xs.toArray).foldl (fun tmps (t, a) => tmps.setIfInBounds t a) a.tmps = (ps.toList.zip xs).foldl (fun t (p : Nat × Value) => t.setIfInBounds p.1 p.2) a.tmps := by
          rw [← Array.foldl_toList]; simp
        rw [hfold] at hy
        refine ⟨fn, _, assign, body, hy, roundIn_of_wpIn (F := Fence.wide) trivial ?_⟩
        refine wpIn_mono (iha (some (w.heap.size + 1)) e' { tmps := _, defers := [] } [] W _ hoa ⟨rfl, hsp.1, hsp.2⟩ hwalk) fun ex a1 W1 hq => ?_
        obtain ⟨hp, ho, e1, ds1, hs1, hag, hk⟩ := hq
        cases ex with
        | normal =>
          obtain ⟨hr1, hk⟩ := hk
          have hbusy : RecR (W1.putObj (w.heap.size + 1) (.loop { rec0 with state := .busy, pending := none })) (w.heap.size + 1) rec0 .busy none := World.putObj_heap_same hr1.lt
          refine ⟨_, run_beginRound hr1 rfl, ?_⟩
          refine wpIn_mono (ihb (some (w.heap.size + 1)) e1 a1 ds1 _ _ hob hs1 (hk _ (frm_putObj _ _ _) (by simp) hbusy)) fun ex a2 W3 hq => ?_
          obtain ⟨hp2, ho2, e3, ds3, hs3, hag3, hk3⟩ := hq
          cases ex with
          | normal =>
            obtain ⟨hr3, hk3⟩ := hk3
            exact ⟨_, _, run_endRound none hr3, _, rfl, hk3 _ (frm_putObj _ _ _) (by simp) (World.putObj_heap_same hr3.lt)⟩
          | ret =>
            obtain ⟨hr3, hk3⟩ := hk3
            exact ⟨_, _, run_endRound (some .ret) hr3, _, rfl, hk3 _ (frm_putObj _ _ _) (by simp) (World.putObj_heap_same hr3.lt)⟩
          | exit id =>
            obtain ⟨hr3, hk3⟩ := hk3
            exact ⟨_, _, run_endRound (some (.exit id)) hr3, _, rfl, hk3 _ (frm_putObj _ _ _) (by simp) (World.putObj_heap_same hr3.lt)⟩
          | goto l => exact hk3.elim
          | panic c => exact (hp2 c rfl).elim
          | outgrown => exact (ho2 rfl).elim
        | _ => exact hk.elim
      have hcall := h w.heap.size (w.heap.size + 1) rec0 w1 rfl rfl hsz hF1 hK1 hL1 hY
      unfold RangeCall at hcall
      split at hcall
      · rename_i f first captured hfv
        split at hcall
        · rename_i hb
          refine ⟨w.heap.size + 1, [{ target := .collected w.heap.size, args := #[] }], w1, { target := .fn (.func f) captured, args := first ++ #[.func (.yield (w.heap.size + 1)) #[] #[]] }, w1, f, (first ++ #[.func (.yield (w.heap.size + 1)) #[] #[]]) ++ captured, w1, hrun, ?_, fun _ _ => trivial, ?_, fr_depth, ?_⟩
          · rw [hs.eval]
            have hc : ∀ v, ev e (.const v) = v := fun _ => rfl
            simp [resolve, hfv, hc, Deferred.ofValue]
          · simp only [invoke]
            exact run_callFunc hG hb _ _
          · refine callsTo (hcall.mono ?_)
            rintro _ w2 ⟨v, rfl, hpost⟩
            have hsim : SimD (marks (w.heap.size :: ds)) N { a with defers := [{ target := .collected w.heap.size, args := #[] }] ++ a.defers } e := ⟨by rw [hs.defers]; rfl, hs.size, hs.get⟩
            rcases hpost with ⟨hr2, hk⟩ | hpost
            · exact ⟨none, _, run_endLoop hr2 (by simp), by simp, by simp, e, _, hsim, .refl _ _, hk _ (frm_putObj _ _ _) (by simp)⟩
            · obtain ⟨c, hc, hr2, hk⟩ := orL_spec hpost
              refine ⟨some c, _, run_endLoop hr2 (by simp), ?_⟩
              have hk := hk _ (frm_putObj w2 (w.heap.size + 1) (.loop { rec0 with state := .exhausted, pending := some c })) (by simp)
              rcases dedup_jump hc with ⟨id, rfl⟩ | rfl
              · exact wpIn_exit ⟨by simp, by simp, e, _, hsim, .refl _ _, hk⟩
              · exact wpIn_ret ⟨by simp, by simp, e, _, hsim, .refl _ _, hk⟩
        · exact hcall.elim
      · exact hcall.elim
  | _ => intro r e a ds w K _ _ h; simp only [vcI] at h

/-! ### 7. A whole function -/
def RetD (ds : List Nat) (w : World) (k : World → Prop) : Prop := match ds with
  | [] => k w
  | [D] => MarkR w D ∧ ∀ w', Frm (fun b => b = D) w w' → w'.heap.size = w.heap.size → k w'
  | _ => False
def retKI (P : Program) (fn : Func) (R : Value → World → Prop) : KxI := fun ex e ds w => match ex with
  | .ret => RetD ds w fun w' => resK P w' e fn.results.toList [] fun vs => R (retV vs) w'
  | .normal => RetD ds w fun w' => resK P w' e fn.results.toList [] fun vs => R (retV vs) w'
  | _ => False
theorem leaves_of {fn : Func} {N : Nat} {a : Act} {e : Env} {ds : List Nat} {w : World} {R : Value → World → Prop} (hs : SimD (marks ds) N a e) (h : retKI P fn R .ret e ds w) :
    LeavesInM (FR none) 0 P fn a.tmps (fun en w' => ∃ v, en = .returned v ∧ R v w') a.defers .returning w := by
  simp only [retKI] at h
  unfold RetD at h
  split at h
  · obtain ⟨v, hr, hR⟩ := results_run hs h
    rw [hs.defers]
    exact ⟨v, hr, v, rfl, hR⟩
  · rename_i D
    obtain ⟨hm, hk⟩ := h
    obtain ⟨v, hr, hR⟩ := results_run hs (hk _ (frm_putObj w D (.deferred none)) (by simp))
    rw [hs.defers]
    exact ⟨by simp, .inl ⟨D, _, rfl, run_takeDeferred hm, v, hr, v, rfl, hR⟩⟩
  · exact h.elim
theorem calls_of_vcI (hG : NoNum P) (hm : P.follows .mixedOrders = true) (an : Ann) {f : FuncId} {fn : Func} {c : Code} {args : List Value} {w : World} {R : Value → World → Prop} (hf : P.funcs[f]? = some fn) (hb : fn.body = some c)
    (hok : codeOkI fn.ntmps an c = true) (hn : args.length ≤ fn.ntmps) (h : vcI P an c none (envOf args) [] w (retKI P fn R)) : Calls P f args.toArray w fun en w' => ∃ v, en = .returned v ∧ R v w' := by
  refine callsFrom (r := none) (n := 0) (callsIn_of_wp_marks hf hb trivial (wpIn_mono (vcI_wp hG hm (N := fn.ntmps) c none (envOf args) _ [] w _ hok ⟨rfl, ?_, ?_⟩ h) fun ex a' w' hq => ?_))
  · simp; omega
  · intro t
    simp only [Array.getD_eq_getD_getElem?, envOf, List.getD_eq_getElem?_getD]
    by_cases ht : t < args.length
    · rw [Array.getElem?_append_left (by simpa using ht)]; simp
    · rw [Array.getElem?_append_right (by simpa using ht)]
      simp only [List.size_toArray]
      rw [Array.getElem?_replicate]
      rw [List.getElem?_eq_none (by omega)]
      split <;> rfl
  · obtain ⟨hp, ho, e', ds', hs', _, hk⟩ := hq
    cases ex with
    | ret => exact leaves_of hs' hk
    | normal => exact leaves_of hs' hk
    | panic c => exact (hp c rfl).elim
    | outgrown => exact (ho rfl).elim
    | _ => exact hk.elim
end
end Go.Proofs.YthgeacnemojjgaaV
