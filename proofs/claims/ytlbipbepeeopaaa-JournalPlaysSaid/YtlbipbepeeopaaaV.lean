/- A weakest-precondition function over the model's code, and its soundness: no program in it. -/
import Derived.WalkKit
import Derived.OrdersHeld
import Derived.Deep.LoopGhost
set_option linter.unusedVariables false
set_option linter.unusedSimpArgs false
namespace Go.Proofs.YtlbipbepeeopaaaV
open Go

/-! ### 1. Environments -/
abbrev Env := Nat → Value
def upd (e : Env) (d : Nat) (v : Value) : Env := fun i => bif Nat.beq i d then v else e i
def updO (e : Env) : Option Tmp → Value → Env
  | some d, v => upd e d v
  | none, _ => e
def ev (e : Env) : Operand → Value
  | .tmp t => e t
  | .const v => v
  | .global g => .pointer (some ⟨g, 0, none⟩)
  | .func f => .func (.func f) #[] #[]
structure SimD (ds : List Deferred) (N : Nat) (a : Act) (e : Env) : Prop where
  defers : a.defers = ds
  size : a.tmps.size = N
  get : ∀ t, a.tmps.getD t undef = e t

abbrev Sim (N : Nat) (a : Act) (e : Env) : Prop := SimD [] N a e
theorem upd_same (e : Env) (d : Nat) (v : Value) : upd e d v d = v := by simp [upd]
theorem upd_other (e : Env) {d i : Nat} (v : Value) (h : i ≠ d) : upd e d v i = e i := by
  have : Nat.beq i d = false := by
    cases hb : Nat.beq i d
    · rfl
    · exact absurd (Nat.eq_of_beq_eq_true hb) h
  simp [upd, this]
theorem upd_self (e : Env) (d : Nat) (v : Value) (h : e d = v) : upd e d v = e := by
  funext i
  by_cases hi : i = d
  · subst hi; rw [upd_same, h]
  · rw [upd_other _ _ hi]

theorem SimD.eval {ds : List Deferred} {N : Nat} {a : Act} {e : Env} (h : SimD ds N a e) : a.eval = ev e := by
  funext x
  cases x with
  | tmp t => exact h.get t
  | const v => rfl
  | global g => rfl
  | func f => rfl

theorem SimD.put {ds : List Deferred} {N : Nat} {a : Act} {e : Env} (h : SimD ds N a e) {o : Option Tmp} (v : Value) (hd : ∀ d, o = some d → d < N) : SimD ds N (a.put o v) (updO e o v) := by
  cases o with
  | none => exact h
  | some d =>
    have hlt := hd d rfl
    refine ⟨h.defers, by simp [Act.put, h.size], fun t => ?_⟩
    show (a.tmps.setIfInBounds d v).getD t undef = upd e d v t
    by_cases ht : t = d
    · subst ht
      have : t < a.tmps.size := by rw [h.size]; exact hlt
      rw [upd_same]
      simp [Array.getD, this]
    · rw [upd_other _ _ ht, ← h.get t]
      simp [Array.getD_eq_getD_getElem?, Array.getElem?_setIfInBounds_ne (Ne.symm ht)]

/-! ### 2. Kinds of values -/
structure Sl where
  a : Option Addr
  l : Nat
  c : Nat
@[reducible] def Sl.val (s : Sl) : Value := .slice s.a s.l s.c
inductive Ty where
  | int (k : IntKind) | bool | str | ptr | slice | agg | val
def Ty.den : Ty → Type
  | .int _ => Int
  | .bool => Bool
  | .str => ByteArray
  | .ptr => Option Addr
  | .slice => Sl
  | .agg => Array Value
  | .val => Value
def Ty.enc : (t : Ty) → t.den → Value
  | .int k, n => .int k n
  | .bool, b => .bool b
  | .str, s => .string s
  | .ptr, a => .pointer a
  | .slice, s => .slice s.a s.l s.c
  | .agg, cs => .agg cs
  | .val, v => v
/-- The value read at its kind. -/
def Ty.take : (t : Ty) → Value → (t.den → Prop) → Prop
  | .int k, v, K => match v with
    | .int k' n => if k = k' then K n else False
    | _ => False
  | .bool, v, K => match v with
    | .bool b => K b
    | _ => False
  | .str, v, K => match v with
    | .string s => K s
    | _ => False
  | .ptr, v, K => match v with
    | .pointer a => K a
    | _ => False
  | .slice, v, K => match v with
    | .slice a l c => K ⟨a, l, c⟩
    | _ => False
  | .agg, v, K => match v with
    | .agg cs => K cs
    | _ => False
  | .val, v, K => K v
theorem Ty.take_spec {t : Ty} {v : Value} {K : t.den → Prop} (h : t.take v K) : ∃ x, v = t.enc x ∧ K x := by
  cases t <;> cases v <;> simp only [Ty.take] at h <;> try exact h.elim
  all_goals first
    | (split at h
       · rename_i hk; subst hk; exact ⟨_, rfl, h⟩
       · exact h.elim)
    | exact ⟨_, rfl, h⟩
theorem Ty.take_enc {t : Ty} {x : t.den} {K : t.den → Prop} (h : K x) : t.take (t.enc x) K := by
  cases t <;> simp only [Ty.take, Ty.enc] <;> first | (rw [if_pos rfl]; exact h) | exact h
def tyD : TypeDesc → Ty
  | .int k => .int k
  | .bool => .bool
  | .string => .str
  | .pointer _ => .ptr
  | .slice _ => .slice
  | .struct _ => .agg
  | .array _ _ => .agg
  | _ => .val
def tyOf (P : Program) (t : TypeId) : Ty :=
  match P.underlying t with
  | some d => tyD d
  | none => .val

/-! ### 3. What an operation asks -/
def IfB (b : Bool) (A B : Prop) : Prop := match b with
  | true => A
  | false => B
theorem IfB.intro {b : Bool} {A B : Prop} (h1 : b = true → A) (h2 : b = false → B) : IfB b A B := by
  cases b
  · exact h2 rfl
  · exact h1 rfl
theorem IfB.dec {p : Prop} [Decidable p] {A B : Prop} (h1 : p → A) (h2 : ¬p → B) : IfB (decide p) A B := IfB.intro (fun h => h1 (of_decide_eq_true h)) (fun h => h2 (of_decide_eq_false h))
theorem IfB.t {b : Bool} {A B : Prop} (hb : b = true) (h : A) : IfB b A B := by subst hb; exact h
theorem IfB.f {b : Bool} {A B : Prop} (hb : b = false) (h : B) : IfB b A B := by subst hb; exact h
theorem IfB.dt {p : Prop} [Decidable p] {A B : Prop} (hp : p) (h : A) : IfB (decide p) A B := IfB.t (decide_eq_true hp) h
theorem IfB.df {p : Prop} [Decidable p] {A B : Prop} (hp : ¬p) (h : B) : IfB (decide p) A B := IfB.f (decide_eq_false hp) h
theorem IfB.mono {b : Bool} {A B A' B' : Prop} (h : IfB b A B) (hA : A → A') (hB : B → B') : IfB b A' B' := by
  cases b
  · exact hB h
  · exact hA h

/-- A cell that is read. -/
def Ld (w : World) (ad : Addr) (v : Value) : Prop := w.cell? ad = some v
def LdA (w : World) (ad : Addr) (n : Nat) (cs : Array Value) : Prop := cs.size = n ∧ ∀ j u, cs[j]? = some u → w.cell? (ad.add j) = some u
/-- A cell that may be written. -/
def Wr (w : World) (ad : Addr) : Prop := (∃ u, w.cell? ad = some u) ∧ w.frozen? ad = false
def WrA (w : World) (ad : Addr) (n : Nat) : Prop := ∀ j, j < n → (∃ u, w.cell? (ad.add j) = some u) ∧ w.frozen? (ad.add j) = false
def setAt (w : World) (ad : Addr) : List Value → Nat → World
  | [], _ => w
  | v :: r, i => setAt (w.setCell (ad.add i) v) ad r (i + 1)
/-- A new block. -/
structure NewB (w : World) (o : Obj) (b : Nat) (w1 : World) : Prop where
  eq : w1 = w.alloc o
  b : b = w.heap.size
def RunT (P : Program) (t : Ty) (s : Sem Value) (w : World) (K : t.den → World → Prop) : Prop :=
  match s.run P w with
  | .ok v w' => ∃ x, v = t.enc x ∧ K x w'
  | .halt _ _ => False
def bt (s : ByteArray) (i : Int) : Int := if h : i.toNat < s.size then ((s[i.toNat]'h).toNat : Int) else 0
def bitsI (op : BinOp) (k : IntKind) (x y : Int) : Int :=
  let a := BitVec.ofInt k.bits x
  let b := BitVec.ofInt k.bits y
  match op with
  | .and => k.wrap (a &&& b).toNat
  | .or => k.wrap (a ||| b).toNat
  | .xor => k.wrap (a ^^^ b).toNat
  | _ => k.wrap (a &&& ~~~b).toNat
def BuildIs (P : Program) (t : TypeId) (parts : Array (Nat × Value)) (cs : Array Value) : Prop := ∀ w, (Instr.build t parts).run P w = .ok (.agg cs) w
def BinIs (P : Program) (op : BinOp) (t : TypeId) (X Y : Operand) (x y : Value) (b : Bool) : Prop :=
  ∀ w, (do eqGuard op t X Y x y; binOp op t x y : Sem Value).run P w = .ok (.bool b) w
def isNilC : Operand → Bool
  | .const (.pointer none) => true
  | .const (.slice none _ _) => true
  | .const .nilFunc => true
  | .const (.map none) => true
  | _ => false
def vbin (P : Program) (op : BinOp) (t : TypeId) (X Y : Operand) (x y : Value) (K : Value → Prop) : Prop :=
  match x, y with
  | .int k a, .int k' b =>
    match op with
    | .shl => 0 ≤ b ∧ K (.int k (k.wrap (a * 2 ^ (min b.toNat k.bits))))
    | .shr => 0 ≤ b ∧ K (.int k (a.fdiv (2 ^ (min b.toNat k.bits))))
    | op => if k = k' then (match op with
      | .add => K (.int k (k.wrap (a + b)))
      | .sub => K (.int k (k.wrap (a - b)))
      | .mul => K (.int k (k.wrap (a * b)))
      | .quo => b ≠ 0 ∧ K (.int k (k.wrap (a.tdiv b)))
      | .rem => b ≠ 0 ∧ K (.int k (a.tmod b))
      | .eql => K (.bool (a == b))
      | .neq => K (.bool (a != b))
      | .lss => K (.bool (decide (a < b)))
      | .leq => K (.bool (decide (a ≤ b)))
      | .gtr => K (.bool (decide (a > b)))
      | .geq => K (.bool (decide (a ≥ b)))
      | op => K (.int k (bitsI op k a b))) else False
  | .string a, .string b =>
    match op with
    | .add => a.size + b.size ≤ 9223372036854775807 ∧ K (.string (a ++ b))
    | .eql => K (.bool (a.toList == b.toList))
    | .neq => K (.bool (!(a.toList == b.toList)))
    | .lss => K (.bool (Op.bytesLess a.toList b.toList))
    | .leq => K (.bool (Op.bytesLess a.toList b.toList || a.toList == b.toList))
    | .gtr => K (.bool (!(Op.bytesLess a.toList b.toList || a.toList == b.toList)))
    | .geq => K (.bool (!(Op.bytesLess a.toList b.toList)))
    | _ => False
  | x, y => ∃ b : Bool, BinIs P op t X Y x y b ∧ K (.bool b)
def siz (P : Program) (t : TypeId) (K : Nat → Prop) : Prop := match P.info? t with
  | some i => K i.size
  | none => False
def vpart (P : Program) (t : TypeId) (cs : Array Value) (off : Nat) (K : Value → Prop) : Prop :=
  match P.underlying t with
  | none => False
  | some d => match tyD d with
    | .agg => siz P t fun n => K (.agg (cs.extract off (off + n)))
    | ty => ∃ x : ty.den, cs[off]? = some (ty.enc x) ∧ K (ty.enc x)
def vload (P : Program) (t : TypeId) (ad : Addr) (L : Addr → Value → Prop) (LA : Addr → Nat → Array Value → Prop) (K : Value → Prop) : Prop :=
  match P.underlying t with
  | none => False
  | some d => match tyD d with
    | .agg => siz P t fun n => ∃ cs : Array Value, LA ad n cs ∧ K (.agg cs)
    | ty => ∃ x : ty.den, L ad (ty.enc x) ∧ K (ty.enc x)
/-- Bounds of a cut: low, high, max. -/
def vbound (o : Option Value) (dflt : Nat) (K : Nat → Prop) (C : Int → Prop) : Prop :=
  match o with
  | none => K dflt
  | some (.int _ i) => C i ∧ K i.toNat
  | _ => False
def slA (a : Option Addr) (l m size : Nat) : Option Addr := if m = l then a else a.map (·.add (l * size))
def vbounds (len cap : Nat) (lo hi mx : Option Value) (K : Nat → Nat → Nat → Prop) : Prop :=
  match mx, hi with
  | some _, none => False
  | mx, hi => vbound mx cap (fun m => vbound hi len (fun h => vbound lo 0 (fun l => K l h m) (fun i => 0 ≤ i ∧ i ≤ h)) (fun i => 0 ≤ i ∧ i ≤ m)) (fun i => 0 ≤ i ∧ i ≤ cap)
def vslice (P : Program) (t : TypeId) (x : Value) (lo hi mx : Option Value) (K : Value → Prop) : Prop :=
  match P.underlying t, x with
  | some .string, .string s =>
    match mx with
    | none => vbounds s.size s.size lo hi none fun l h _ => K (.string (s.extract l h))
    | _ => False
  | some (.slice el), .slice a len cap => siz P el fun z => vbounds len cap lo hi mx fun l h m => K (.slice (slA a l m z) (h - l) (m - l))
  | some (.array n el), .pointer (some ad) =>
    match mx with
    | none => siz P el fun z => vbounds n n lo hi none fun l h m => K (.slice (some (if m = l then ad else ad.add (l * z))) (h - l) (m - l))
    | _ => False
  | _, _ => False
/-- An operation that leaves the world alone: the value that it gives. -/
def vq (P : Program) (e : Env) (o : Oper) (L : Addr → Value → Prop) (LA : Addr → Nat → Array Value → Prop) (K : Value → Prop) : Prop :=
  match o.op with
  | .move x => K (ev e x)
  | .assign x => K (ev e x)
  | .pick c a b => match ev e c with
    | .bool t => IfB t (K (ev e a)) (K (ev e b))
    | _ => False
  | .binOp op t x y _ => vbin P op t x y (ev e x) (ev e y) K
  | .unOp op _ x => match op, ev e x with
    | .not, .bool b => K (.bool (!b))
    | .neg, .int k n => K (.int k (k.wrap (0 - n)))
    | .xor, .int k n => K (.int k (bitsI .xor k (if k.signed then -1 else k.max) n))
    | _, _ => False
  | .nilCheck x => match ev e x with
    | .pointer a => ∃ ad, a = some ad ∧ K (.pointer (some ad))
    | .func f p c => match f with
      | .method _ => False
      | f => K (.func f p c)
    | .iface t v => K (.iface t v)
    | _ => False
  | .fieldAddr s x f => match P.underlying s with
    | some (.struct fs) => match fs[f]? with
      | some fd => siz P fd.type fun z => if z = 0 then False else match ev e x with
        | .pointer (some ad) => K (.pointer (some (ad.add fd.offset)))
        | _ => False
      | none => False
    | _ => False
  | .load t x => match ev e x with
    | .pointer (some ad) => vload P t ad L LA K
    | _ => False
  | .indexAddr t x ix => match P.underlying t, ev e x, ev e ix with
    | some (.slice el), .slice base len _, .int _ i => siz P el fun z => ∃ ad, base = some ad ∧ 0 ≤ i ∧ i < len ∧ K (.pointer (some (ad.add (i.toNat * z))))
    | some (.array n el), .pointer (some ad), .int _ i => siz P el fun z => 0 ≤ i ∧ i < n ∧ K (.pointer (some (ad.add (i.toNat * z))))
    | _, _, _ => False
  | .index t x ix => match P.underlying t, ev e x, ev e ix with
    | some .string, .string s, .int _ i => 0 ≤ i ∧ i < s.size ∧ K (.int .u8 (bt s i))
    | some (.array n el), .agg cs, .int _ i => siz P el fun z => 0 ≤ i ∧ i < n ∧ vpart P el cs (i.toNat * z) K
    | _, _, _ => False
  | .field t x f => match P.underlying t with
    | some (.struct fs) => match fs[f]?, ev e x with
      | some fd, .agg cs => vpart P fd.type cs fd.offset K
      | _, _ => False
    | _ => False
  | .extract x i => match ev e x with
    | .tuple vs => match vs[i]? with
      | some v => K v
      | none => False
    | _ => False
  | .convert src dst x => match P.underlying src, P.underlying dst, ev e x with
    | some _, some (.int k), .int _ n => K (.int k (k.wrap n))
    | some _, some .string, .string s => K (.string s)
    | _, _, _ => False
  | .makeFunc fn first captured => K (.func fn (first.map (ev e)) (captured.map (ev e)))
  | .build t parts => ∃ cs : Array Value, BuildIs P t (parts.map fun (i, x) => (i, ev e x)) cs ∧ K (.agg cs)
  | .slice t x lo hi mx => vslice P t (ev e x) (lo.map (ev e)) (hi.map (ev e)) (mx.map (ev e)) K
  | .call c => match c.callee, c.args.toList, c.argTypes.toList with
    | .builtin .len, [x], [t] => match P.underlying t, ev e x with
      | some .string, .string s => K (.int .i64 s.size)
      | some (.slice _), .slice _ n _ => K (.int .i64 n)
      | some (.array n _), _ => K (.int .i64 n)
      | _, _ => False
    | .builtin .max, [x, y], _ => match ev e x, ev e y with
      | .int k a, .int _ b => K (.int k (if b > a then b else a))
      | _, _ => False
    | .builtin .min, [x, y], _ => match ev e x, ev e y with
      | .int k a, .int _ b => K (.int k (if b < a then b else a))
      | _, _ => False
    | _, _, _ => False
  | _ => False

/-! ### 4. What the machine does there -/
section
variable {P : Program}
theorem siz_spec {t : TypeId} {K : Nat → Prop} (h : siz P t K) : ∃ i, P.info? t = some i ∧ K i.size := by
  unfold siz at h
  split at h
  · rename_i i hi; exact ⟨i, hi, h⟩
  · exact h.elim
theorem run_und {t : TypeId} {d : TypeDesc} (h : P.underlying t = some d) (w : World) : (underlying t).run P w = .ok d w := run_underlying h w
theorem run_size {t : TypeId} {i : TypeInfo} (h : P.info? t = some i) (w : World) : (sizeOf t).run P w = .ok i.size w := by
  simp [sizeOf, typeInfo, Sem.run_bind, h]
def isAg : TypeDesc → Bool
  | .struct _ => true
  | .array _ _ => true
  | _ => false
theorem run_isAgg {t : TypeId} {d : TypeDesc} (h : P.underlying t = some d) (w : World) : (isAgg t).run P w = .ok (isAg d) w := by
  unfold isAgg
  rw [Sem.run_bind, run_und h w]
  cases d <;> simp [isAg]
theorem run_vload {t : TypeId} {ad : Addr} {L : Addr → Value → Prop} {LA : Addr → Nat → Array Value → Prop} {K : Value → Prop} (h : vload P t ad L LA K) :
    ∃ v, K v ∧ ∀ w, (∀ ad v, L ad v → Ld w ad v) → (∀ ad n cs, LA ad n cs → LdA w ad n cs) → (loadVar t ad).run P w = .ok v w := by
  obtain ⟨d, hd⟩ : ∃ d, P.underlying t = some d := by
    cases hq : P.underlying t with
    | none => simp [vload, hq] at h
    | some d => exact ⟨d, rfl⟩
  have hone : ∀ v w, Ld w ad v → isAg d = false → (loadVar t ad).run P w = .ok v w := by
    intro v w hl hk
    have hi := run_isAgg hd w
    rw [hk] at hi
    unfold Ld at hl
    simp [loadVar, Sem.run_bind, hi, load, Sem.run, hl]
  have hagg : (siz P t fun n => ∃ cs : Array Value, LA ad n cs ∧ K (.agg cs)) → isAg d = true →
      ∃ v, K v ∧ ∀ w, (∀ ad v, L ad v → Ld w ad v) → (∀ ad n cs, LA ad n cs → LdA w ad n cs) → (loadVar t ad).run P w = .ok v w := by
    intro hs hk
    obtain ⟨i, hinf, cs, hla, hK⟩ := siz_spec hs
    refine ⟨_, hK, fun w _ h2 => ?_⟩
    have hl := h2 _ _ _ hla
    have hi := run_isAgg hd w
    rw [hk] at hi
    have hl' : (loadCells ad cs.toList.length).run P w = .ok cs.toList.toArray w := run_loadCells_list (P := P) w ad cs.toList (fun j v hv => hl.2 j v (by simpa using hv))
    simp only [Array.length_toList, Array.toArray_toList] at hl'
    simp [loadVar, Sem.run_bind, hi, run_size hinf, ← hl.1, hl']
  unfold vload at h
  rw [hd] at h
  cases d with
  | struct fs => exact hagg h rfl
  | array n el => exact hagg h rfl
  | _ => obtain ⟨x, hl, hk⟩ := h; exact ⟨_, hk, fun w h1 _ => hone _ w (h1 _ _ hl) rfl⟩

theorem run_vpart {t : TypeId} {cs : Array Value} {off : Nat} {K : Value → Prop} (h : vpart P t cs off K) :
    ∃ v, K v ∧ ∀ w, (part t cs off).run P w = .ok v w := by
  obtain ⟨d, hd⟩ : ∃ d, P.underlying t = some d := by
    cases hq : P.underlying t with
    | none => simp [vpart, hq] at h
    | some d => exact ⟨d, rfl⟩
  have hone : ∀ v, cs[off]? = some v → isAg d = false → ∀ w, (part t cs off).run P w = .ok v w := by
    intro v hv hk w
    have hi := run_isAgg hd w
    rw [hk] at hi
    simp [part, Sem.run_bind, hi, hv]
  have hagg : (siz P t fun n => K (.agg (cs.extract off (off + n)))) → isAg d = true → ∃ v, K v ∧ ∀ w, (part t cs off).run P w = .ok v w := by
    intro hs hk
    obtain ⟨i, hinf, hK⟩ := siz_spec hs
    refine ⟨_, hK, fun w => ?_⟩
    have hi := run_isAgg hd w
    rw [hk] at hi
    simp [part, Sem.run_bind, hi, run_size hinf]
  unfold vpart at h
  rw [hd] at h
  cases d with
  | struct fs => exact hagg h rfl
  | array n el => exact hagg h rfl
  | _ => obtain ⟨x, hl, hk⟩ := h; exact ⟨_, hk, hone _ hl rfl⟩

theorem vbound_spec {o : Option Value} {dflt : Nat} {K : Nat → Prop} {C : Int → Prop} (h : vbound o dflt K C) : (o = none ∧ K dflt) ∨ ∃ k i, o = some (.int k i) ∧ C i ∧ K i.toNat := by
  unfold vbound at h
  split at h
  · exact .inl ⟨rfl, h⟩
  · exact .inr ⟨_, _, rfl, h⟩
  · exact h.elim

theorem run_sliceBound {k : IntKind} {i : Int} {y : Nat} {c : BoundsCode} (h : 0 ≤ i ∧ i ≤ y) (w : World) : (Instr.sliceBound (.int k i) y c).run P w = .ok i.toNat w := by
  simp [Instr.sliceBound, asIntOf, Sem.run_bind, h]

theorem run_vbounds {len cap : Nat} {lo hi mx : Option Value} {K : Nat → Nat → Nat → Prop} (h : vbounds len cap lo hi mx K) :
    ∃ l h m, K l h m ∧ ∀ isS w, (Instr.sliceBounds isS len cap lo hi mx).run P w = .ok (l, h, m) w := by
  have B : ∀ {k : IntKind} {i : Int} {y : Nat} {c : BoundsCode} (w : World), (0 ≤ i ∧ i ≤ y) → (Instr.sliceBound (.int k i) y c).run P w = .ok i.toNat w := fun w h => run_sliceBound h w
  unfold vbounds at h
  split at h
  · exact h.elim
  · rename_i hne
    rcases vbound_spec h with ⟨hm, h⟩ | ⟨km, m, hm, hcm, h⟩ <;> rcases vbound_spec h with ⟨hh, h⟩ | ⟨k, i, hh, hc, h⟩ <;> rcases vbound_spec h with ⟨hl, h⟩ | ⟨k', j, hl, hc', h⟩ <;>
      first
      | exact (hne _ hm hh).elim
      | (refine ⟨_, _, _, h, fun isS w => ?_⟩
         rw [hm, hh, hl]
         simp only [Instr.sliceBounds, Sem.run_bind, Result.andThen_ok, Sem.run_pure] <;> first
         | rfl
         | (rw [B w hcm]; simp only [Result.andThen_ok, Sem.run_pure]; rw [B w hc]; simp only [Result.andThen_ok, Sem.run_pure]; rw [B w hc']; rfl)
         | (rw [B w hcm]; simp only [Result.andThen_ok, Sem.run_pure]; rw [B w hc]; rfl)
         | (rw [B w hc]; simp only [Result.andThen_ok, Sem.run_pure]; rw [B w hc']; rfl)
         | (rw [B w hc]; rfl)
         | (rw [B w hc']; rfl))
theorem run_vslice {t : TypeId} {x : Value} {lo hi mx : Option Value} {K : Value → Prop} (h : vslice P t x lo hi mx K) : ∃ v, K v ∧ ∀ w, (Instr.sliceAt t x lo hi mx).run P w = .ok v w := by
  unfold vslice at h
  split at h
  · rename_i s hu
    split at h
    · obtain ⟨l, h', m, hK, hr⟩ := run_vbounds (P := P) h
      exact ⟨_, hK, fun w => by simp [Instr.sliceAt, Instr.slice, Sem.run_bind, run_und hu, hr]⟩
    · exact h.elim
  · rename_i el a len cap hu
    obtain ⟨i0, hinf, h⟩ := siz_spec h
    obtain ⟨l, h', m, hK, hr⟩ := run_vbounds (P := P) h
    exact ⟨_, hK, fun w => by simp [Instr.sliceAt, Instr.slice, Sem.run_bind, run_und hu, hr, run_size hinf, slA]⟩
  · rename_i n el ad hu
    split at h
    · obtain ⟨i0, hinf, h⟩ := siz_spec h
      obtain ⟨l, h', m, hK, hr⟩ := run_vbounds (P := P) h
      exact ⟨_, hK, fun w => by simp [Instr.sliceAt, Instr.sureAddr, Sem.run_bind, run_und hu, hr, run_size hinf]⟩
    · exact h.elim
  · exact h.elim

theorem bitsI_run {op : BinOp} {k : IntKind} {a b : Int} (h : op = .and ∨ op = .or ∨ op = .xor ∨ op = .andNot) (w : World) : (Op.intBits op k a b).run P w = .ok (.int k (bitsI op k a b)) w := by
  rcases h with rfl | rfl | rfl | rfl <;> simp [Op.intBits, bitsI]

theorem run_vbin {op : BinOp} {t : TypeId} {X Y : Operand} {x y : Value} {K : Value → Prop} (h : vbin P op t X Y x y K) : ∃ v, K v ∧ ∀ w, (do eqGuard op t X Y x y; binOp op t x y : Sem Value).run P w = .ok v w := by
  unfold vbin at h
  split at h
  · rename_i k a k' b
    have hg : ∀ w, (eqGuard op t X Y (.int k a) (.int k' b)).run P w = .ok () w := by intro w; unfold eqGuard; cases op <;> simp
    cases op <;> simp only [] at h
    case shl =>
      obtain ⟨hb, hK⟩ := h
      refine ⟨_, hK, fun w => ?_⟩
      rw [Sem.run_bind, hg]
      simp [binOp, Op.shift, show ¬ b < 0 by omega]
    case shr =>
      obtain ⟨hb, hK⟩ := h
      refine ⟨_, hK, fun w => ?_⟩
      rw [Sem.run_bind, hg]
      simp [binOp, Op.shift, show ¬ b < 0 by omega]
    all_goals
      by_cases hk : k = k'
      · subst hk
        rw [if_pos rfl] at h
        first
        | (refine ⟨_, h, fun w => ?_⟩
           rw [Sem.run_bind, hg]
           first
           | (simp [binOp, Op.intArith, Op.intCmp]; done)
           | (simp only [binOp, Result.andThen_ok, ne_eq, not_true_eq_false, if_false]; exact bitsI_run (by simp) w))
        | (obtain ⟨hb, hK⟩ := h
           refine ⟨_, hK, fun w => ?_⟩
           rw [Sem.run_bind, hg]
           simp [binOp, Op.intDiv, hb])
      · rw [if_neg hk] at h; exact h.elim
  · rename_i a b
    have hg : ∀ w, (eqGuard op t X Y (.string a) (.string b)).run P w = .ok () w := by intro w; unfold eqGuard; cases op <;> simp
    cases op <;> simp only [] at h
    case add =>
      obtain ⟨hb, hK⟩ := h
      refine ⟨_, hK, fun w => ?_⟩
      rw [Sem.run_bind, hg]
      have : ¬ ((a.size + b.size : Nat) : Int) > IntKind.i64.max := by
        have : IntKind.i64.max = 9223372036854775807 := by decide
        omega
      simp only [binOp, Op.stringOp, Result.andThen_ok]
      rw [if_neg this]
      simp
    all_goals first
      | exact h.elim
      | (refine ⟨_, h, fun w => ?_⟩
         rw [Sem.run_bind, hg]
         simp [binOp, Op.stringOp])
  · obtain ⟨b, hb, hK⟩ := h
    exact ⟨_, hK, hb⟩

/-- What a quiet operation yields, in whatever world that has the cells that were read. -/
theorem vq_run {e : Env} {o : Oper} {L : Addr → Value → Prop} {LA : Addr → Nat → Array Value → Prop} {K : Value → Prop} (h : vq P e o L LA K) :
    ∃ v, K v ∧ ∀ w, (∀ ad v, L ad v → Ld w ad v) → (∀ ad n cs, LA ad n cs → LdA w ad n cs) → (execOp (ev e) o).run P w = .ok (.value v) w := by
  obtain ⟨dst, op, type, pos, after, guard⟩ := o
  have lift : ∀ (s : Sem Value) (v : Value) (w : World), s.run P w = .ok v w → (do pure (Next.value (← s)) : Sem Next).run P w = .ok (.value v) w := by
    intro s v w hs
    simp [Sem.run_bind, hs]
  cases op <;> simp only [vq] at h <;> try exact h.elim
  case move x => exact ⟨_, h, fun w _ _ => rfl⟩
  case assign x => exact ⟨_, h, fun w _ _ => rfl⟩
  case pick c a b =>
    split at h
    · rename_i t ht
      cases t with
      | true => exact ⟨_, h, fun w _ _ => by simp [execOp, ht, asBool, Sem.run_bind]⟩
      | false => exact ⟨_, h, fun w _ _ => by simp [execOp, ht, asBool, Sem.run_bind]⟩
    · exact h.elim
  case binOp op t x y yt =>
    obtain ⟨v, hK, hr⟩ := run_vbin h
    exact ⟨v, hK, fun w _ _ => lift _ _ _ (hr w)⟩
  case unOp op t x =>
    split at h
    · rename_i b hx
      exact ⟨_, h, fun w _ _ => by simp [execOp, hx, Op.unary, Sem.run_bind]⟩
    · rename_i k n hx
      exact ⟨_, h, fun w _ _ => by simp [execOp, hx, Op.unary, Op.intArith, Sem.run_bind]⟩
    · rename_i k n hx
      refine ⟨_, h, fun w _ _ => ?_⟩
      have := bitsI_run (P := P) (op := .xor) (k := k) (a := if k.signed then -1 else k.max) (b := n) (by simp) w
      simp only [execOp, hx, Op.unary]
      exact lift _ _ _ this
    · exact h.elim
  case nilCheck x =>
    split at h
    · rename_i a hx
      obtain ⟨ad, rfl, hK⟩ := h
      exact ⟨_, hK, fun w _ _ => by simp [execOp, hx]⟩
    · rename_i f p c hx
      split at h
      · exact h.elim
      · rename_i hne
        refine ⟨_, h, fun w _ _ => ?_⟩
        cases f with
        | method n => exact (hne _ rfl).elim
        | _ => simp [execOp, hx]
    · rename_i t v hx
      exact ⟨_, h, fun w _ _ => by simp [execOp, hx]⟩
    · exact h.elim
  case fieldAddr s x f =>
    split at h
    · rename_i fs hu
      split at h
      · rename_i fd hf
        obtain ⟨i, hi, h⟩ := siz_spec h
        split at h
        · exact h.elim
        · rename_i hz
          split at h
          · rename_i ad hx
            refine ⟨_, h, fun w _ _ => ?_⟩
            simp [execOp, hx, Instr.fieldAt, Sem.run_bind, run_und hu, hf, Instr.sureAddr, fieldPlace, run_size hi, hz]
          · exact h.elim
      · exact h.elim
    · exact h.elim
  case load t x =>
    split at h
    · rename_i ad hx
      obtain ⟨v, hK, hr⟩ := run_vload h
      refine ⟨v, hK, fun w h1 h2 => ?_⟩
      have := hr w h1 h2
      simp [execOp, hx, Instr.loadAt, Instr.sureAddr, Sem.run_bind, this]
    · exact h.elim
  case indexAddr t x ix =>
    split at h
    · rename_i el base len cap k i hu hx hix
      obtain ⟨i0, hi0, ad, rfl, h0, h1, hK⟩ := siz_spec h
      refine ⟨_, hK, fun w _ _ => ?_⟩
      simp [execOp, hx, hix, Instr.indexAt, asIntOf, Sem.run_bind, run_und hu, run_size hi0, h0, h1]
    · rename_i n el ad k i hu hx hix
      obtain ⟨i0, hi0, h0, h1, hK⟩ := siz_spec h
      refine ⟨_, hK, fun w _ _ => ?_⟩
      simp [execOp, hx, hix, Instr.indexAt, Instr.sureAddr, asIntOf, Sem.run_bind, run_und hu, run_size hi0, h0, h1]
    · exact h.elim
  case index t x ix =>
    split at h
    · rename_i s k i hu hx hix
      obtain ⟨h0, h1, hK⟩ := h
      refine ⟨_, hK, fun w _ _ => ?_⟩
      have hlt : i.toNat < s.size := by omega
      have hg : s[i.toNat]? = some (s[i.toNat]'hlt) := by simp [hlt]
      have hb : bt s i = ((s[i.toNat]'hlt).toNat : Int) := by simp [bt, hlt]
      simp [execOp, hx, hix, Instr.index, asIntOf, Sem.run_bind, run_und hu, h0, hg, hb]
    · rename_i n el cs k i hu hx hix
      obtain ⟨i0, hi0, h0, h1, hK⟩ := siz_spec h
      obtain ⟨v, hK, hr⟩ := run_vpart hK
      refine ⟨_, hK, fun w _ _ => ?_⟩
      simp [execOp, hx, hix, Instr.index, asIntOf, Sem.run_bind, run_und hu, run_size hi0, h0, h1, hr]
    · exact h.elim
  case field t x f =>
    split at h
    · rename_i fs hu
      split at h
      · rename_i fd cs hf hx
        obtain ⟨v, hK, hr⟩ := run_vpart h
        refine ⟨_, hK, fun w _ _ => ?_⟩
        simp [execOp, hx, Instr.field, Sem.run_bind, run_und hu, hf, asAgg, hr]
      · exact h.elim
    · exact h.elim
  case extract x i =>
    split at h
    · rename_i vs hx
      split at h
      · rename_i v hv
        exact ⟨_, h, fun w _ _ => by simp [execOp, hx, Instr.extract, hv, Sem.run_bind]⟩
      · exact h.elim
    · exact h.elim
  case convert src dst x =>
    split at h
    · rename_i d k k' n hs hd hx
      refine ⟨_, h, fun w _ _ => ?_⟩
      simp [execOp, hx, convert, Sem.run_bind, run_und hs, run_und hd, Conv.intToInt]
    · rename_i d s hs hd hx
      refine ⟨_, h, fun w _ _ => ?_⟩
      simp [execOp, hx, convert, Sem.run_bind, run_und hs, run_und hd]
    · exact h.elim
  case makeFunc fn first captured => exact ⟨_, h, fun w _ _ => by simp [execOp, Instr.makeFunc, Sem.run_bind]⟩
  case build t parts =>
    obtain ⟨cs, hb, hK⟩ := h
    exact ⟨_, hK, fun w _ _ => lift _ _ _ (hb w)⟩
  case slice t x lo hi mx =>
    obtain ⟨v, hK, hr⟩ := run_vslice h
    exact ⟨v, hK, fun w _ _ => lift _ _ _ (hr w)⟩
  case call c =>
    obtain ⟨callee, args, argTypes⟩ := c
    obtain ⟨args⟩ := args
    obtain ⟨argTypes⟩ := argTypes
    simp only at h
    split at h
    · rename_i x t
      split at h
      · rename_i s hu hx
        exact ⟨_, h, fun w _ _ => by simp [execOp, resolve, hx, invoke, builtin, Builtin.len_, Sem.run_bind, run_und hu, goInt]⟩
      · rename_i el a n c hu hx
        exact ⟨_, h, fun w _ _ => by simp [execOp, resolve, hx, invoke, builtin, Builtin.len_, Sem.run_bind, run_und hu, goInt]⟩
      · rename_i n el hu
        refine ⟨_, h, fun w _ _ => ?_⟩
        simp only [execOp, resolve, invoke, builtin, Builtin.len_, Sem.run_bind, Sem.run_pure, Result.andThen_ok]
        simp [Sem.run_bind, run_und hu, goInt]
      · exact h.elim
    · rename_i x y
      split at h
      · rename_i k a k' b hx hy
        exact ⟨_, h, fun w _ _ => by simp [execOp, resolve, hx, hy, invoke, builtin, Builtin.max_, Builtin.max2, Sem.run_bind]⟩
      · exact h.elim
    · rename_i x y
      split at h
      · rename_i k a k' b hx hy
        exact ⟨_, h, fun w _ _ => by simp [execOp, resolve, hx, hy, invoke, builtin, Builtin.min_, Builtin.min2, Sem.run_bind]⟩
      · exact h.elim
    · exact h.elim
end

/-! ### 5. Operations that change the world -/
def RunN (P : Program) (s : Sem Next) (w : World) (K : Value → World → Prop) : Prop :=
  match s.run P w with
  | .ok (.value v) w' => K v w'
  | .ok .skip w' => K undef w'
  | .ok (.enter f args) w' => Calls P f args w' fun en w'' => ∃ v, en = .returned v ∧ K v w''
  | _ => False
def opRes (P : Program) (o : Oper) (e : Env) (w : World) (K : Value → World → Prop) : Prop := RunN P (execOp (ev e) o) w K
def exTup : List Ty → List Value → (Value → Prop) → Prop
  | [], acc, k => k (.tuple acc.toArray)
  | t :: r, acc, k => ∃ x : t.den, exTup r (acc ++ [t.enc x]) k
def exRes (P : Program) (t : TypeId) (k : Value → Prop) : Prop :=
  match P.underlying t with
  | some (.tuple ts) => exTup (ts.toList.map (tyOf P)) [] k
  | some d => ∃ x : (tyD d).den, k ((tyD d).enc x)
  | none => False
theorem exTup_spec {l : List Ty} {acc : List Value} {k : Value → Prop} (h : exTup l acc k) : ∃ v, k v := by
  induction l generalizing acc with
  | nil => exact ⟨_, h⟩
  | cons t r ih => obtain ⟨x, h⟩ := h; exact ih h
theorem exRes_spec {P : Program} {t : TypeId} {k : Value → Prop} (h : exRes P t k) : ∃ v, k v := by
  unfold exRes at h
  split at h
  · exact exTup_spec h
  · obtain ⟨x, h⟩ := h; exact ⟨_, h⟩
  · exact h.elim
def hasBody (P : Program) (f : FuncId) : Bool := match P.funcs[f]? with
  | some fn => fn.body.isSome
  | none => false
def CallT (P : Program) (f : FuncId) (args : Array Value) (w : World) (t : TypeId) (K : Value → World → Prop) : Prop :=
  match hasBody P f with
  | true => Calls P f args w fun en w' => exRes P t fun v => en = .returned v ∧ K v w'
  | false => RunN P (callFunc f args) w fun v w' => exRes P t fun u => v = u ∧ K u w'
def CallV (P : Program) (fv : Value) (args : Array Value) (w : World) (R : Value → World → Prop) : Prop :=
  match fv with
  | .func (.func f) first captured => match hasBody P f with
    | true => Calls P f ((first ++ args) ++ captured) w fun en w' => ∃ v, en = .returned v ∧ R v w'
    | false => False
  | .func fn first captured => RunN P (invoke (.fn fn captured) (first ++ args)) w R
  | _ => False
def typed (P : Program) (t : TypeId) (K : Value → World → Prop) : Value → World → Prop := fun v w' => exRes P t fun u => v = u ∧ K u w'
def RunU (P : Program) (s : Sem Unit) (w : World) (K : World → Prop) : Prop :=
  match s.run P w with
  | .ok _ w' => K w'
  | .halt _ _ => False
def StoreP (P : Program) (t : TypeId) (ad : Addr) (v : Value) (w : World) (K : World → Prop) : Prop :=
  match v with
  | .agg cs => siz P t fun n => cs.size = n ∧ (∀ u, u ∈ cs.toList → u.oneCell' = true) ∧ WrA w ad n ∧ ∀ w1, w1 = setAt w ad cs.toList 0 → K w1
  | .tuple _ => False
  | v => siz P t fun n => if n = 1 then Wr w ad ∧ ∀ w1, w1 = w.setCell ad v → K w1 else False
def blt (b : Builtin) (argTypes : Array TypeId) (type : TypeId) (args : Array Value) : Option (Sem Value) :=
  match b with
  | .append => some (Builtin.append_ argTypes type args)
  | .copy => some (Builtin.copy_ argTypes type args)
  | .cap => some (Builtin.cap_ argTypes type args)
  | .len => some (Builtin.len_ argTypes type args)
  | .max => some (Builtin.max_ argTypes type args)
  | .min => some (Builtin.min_ argTypes type args)
  | .delete => some (Builtin.delete_ argTypes type args)
  | .clear => some (Builtin.clear_ argTypes type args)
  | .unsafeSliceData => some (Builtin.unsafeSliceData_ argTypes type args)
  | .unsafeString => some (Builtin.unsafeString_ argTypes type args)
  | .unsafeStringData => some (Builtin.unsafeStringData_ argTypes type args)
  | .unsafeSlice => some (Builtin.unsafeSlice_ argTypes type args)
  | _ => none
def vx (P : Program) (e : Env) (o : Oper) (w : World) (K : Value → World → Prop) : Prop :=
  match o.op with
  | .alloc elem => match P.info? elem with
    | some i => match i.zero with
      | some z => ∀ b w1, NewB w (.cells z.cells elem) b w1 → K (.pointer (some ⟨b, 0, none⟩)) w1
      | none => False
    | none => False
  | .box elem x => ∀ b w1, NewB w (.cells (ev e x).cells elem) b w1 → K (.pointer (some ⟨b, 0, none⟩)) w1
  | .store t a x => match ev e a with
    | .pointer (some ad) => StoreP P t ad (ev e x) w fun w1 => K undef w1
    | _ => False
  | .call c => match c.callee with
    | .value f => match f with
      | .func g => CallT P g (c.args.map (ev e)) w o.type K
      | f => CallV P (ev e f) (c.args.map (ev e)) w fun v w' => exRes P o.type fun u => v = u ∧ K u w'
    | .builtin b => match blt b c.argTypes o.type (c.args.map (ev e)) with
      | some s => RunT P (tyOf P o.type) s w fun x w' => K ((tyOf P o.type).enc x) w'
      | none => False
    | .invoke r name => RunN P (callMethod (ev e r) name (c.args.map (ev e))) w fun v w' => exRes P o.type fun u => v = u ∧ K u w'
  | .buildSlice t len parts => RunT P .slice (Instr.buildSlice t len (parts.map fun (i, x) => (i, ev e x))) w fun x w' => K (Ty.slice.enc x) w'
  | .makeSlice t l c => RunT P .slice (Instr.makeSlice t (ev e l) (ev e c)) w fun x w' => K (Ty.slice.enc x) w'
  | .convert src dst x => RunT P (tyOf P dst) (convert src dst (ev e x)) w fun x w' => K ((tyOf P dst).enc x) w'
  | .binOp op t x y _ => RunT P (tyOf P o.type) (do eqGuard op t x y (ev e x) (ev e y); binOp op t (ev e x) (ev e y)) w fun x w' => K ((tyOf P o.type).enc x) w'
  | .makeMap t r => RunT P .val (Instr.makeMap t (r.map (ev e))) w fun x w' => K x w'
  | .lookup t x ix ok => RunT P .val (Instr.lookup t (ev e x) (ev e ix) ok) w fun v w' => exRes P o.type fun u => v = u ∧ K u w'
  | .mapUpdate t m k v => RunU P (Instr.mapUpdate t (ev e m) (ev e k) (ev e v)) w fun w' => K undef w'
  | .makeInterface t x => RunT P .val (Instr.makeInterface t (ev e x)) w fun x w' => K x w'
  | .typeAssert x xt at_ ok => RunT P .val (Instr.typeAssert (ev e x) xt at_ ok) w fun v w' => exRes P o.type fun u => v = u ∧ K u w'
  | .range t x => RunT P .val (Instr.range t (ev e x)) w fun x w' => K x w'
  | .next it s => RunT P .val (Instr.next (ev e it) s o.type) w fun v w' => (v = .tuple #[.bool false] ∧ K (.tuple #[.bool false]) w') ∨ (∃ k x : Value, v = .tuple #[.bool true, k, x] ∧ K (.tuple #[.bool true, k, x]) w')
  | .entry it => RunT P .val (Instr.entry (ev e it)) w fun v w' => ∃ k x : Value, v = .tuple #[k, x] ∧ K (.tuple #[k, x]) w'
  | _ => False

/-- No function of the program is the one that is answered by the machine itself. -/
def NoNum (P : Program) : Prop := ∀ (f : Nat) fn, P.funcs[f]? = some fn → (fn.name == "runtime.NumGoroutine") = false

section
variable {P : Program}
theorem RunN.mono {s : Sem Next} {w : World} {K K' : Value → World → Prop} (h : RunN P s w K) (hk : ∀ v w', K v w' → K' v w') : RunN P s w K' := by
  unfold RunN at *
  split at h
  · exact hk _ _ h
  · exact hk _ _ h
  · exact h.mono fun en w'' ⟨v, he, hv⟩ => ⟨v, he, hk _ _ hv⟩
  · exact h.elim
theorem RunN.value {s : Sem Next} {w w' : World} {v : Value} {K : Value → World → Prop} (h : s.run P w = .ok (.value v) w') (hk : K v w') : RunN P s w K := by
  unfold RunN; rw [h]; exact hk
theorem RunN.skip {s : Sem Next} {w w' : World} {K : Value → World → Prop} (h : s.run P w = .ok .skip w') (hk : K undef w') : RunN P s w K := by
  unfold RunN; rw [h]; exact hk
theorem RunN.enter {s : Sem Next} {w w' : World} {f : FuncId} {args : Array Value} {K : Value → World → Prop} (h : s.run P w = .ok (.enter f args) w') (hk : Calls P f args w' fun en w'' => ∃ v, en = .returned v ∧ K v w'') : RunN P s w K := by
  unfold RunN; rw [h]; exact hk
theorem RunT.runN {t : Ty} {s : Sem Value} {w : World} {K : Value → World → Prop} (h : RunT P t s w fun x w' => K (t.enc x) w') : RunN P (do pure (Next.value (← s))) w K := by
  unfold RunT at h
  split at h
  · rename_i v w' hs
    obtain ⟨x, rfl, hk⟩ := h
    exact RunN.value (by simp [Sem.run_bind, hs]) hk
  · exact h.elim
theorem RunU.runN {s : Sem Unit} {w : World} {K : World → Prop} (h : RunU P s w K) : RunN P (do s; pure Next.skip) w fun v w' => v = undef ∧ K w' := by
  unfold RunU at h
  split at h
  · rename_i v w' hs
    exact RunN.skip (by simp [Sem.run_bind, hs]) ⟨rfl, h⟩
  · exact h.elim
theorem CallT.runN (hG : NoNum P) {f : FuncId} {args : Array Value} {w : World} {t : TypeId} {K : Value → World → Prop} (h : CallT P f args w t K) : RunN P (callFunc f args) w K := by
  unfold CallT at h
  split at h
  · rename_i hb
    unfold hasBody at hb
    split at hb
    · rename_i fn hf
      have hn := hG f fn hf
      refine RunN.enter (w' := w) (f := f) (args := args) ?_ (h.mono fun en w'' hh => exRes_spec hh)
      simp only [callFunc, Sem.run_bind]
      simp [program, Sem.run, hf, hn, Option.isSome_iff_ne_none] at hb ⊢
      simp at hn
      simp [hn]
      cases hbb : fn.body with
      | none => exact absurd hbb hb
      | some b => simp
    · exact absurd hb (by simp)
  · refine h.mono fun v w' hh => ?_
    obtain ⟨u, hu, hk⟩ := exRes_spec hh
    subst hu
    exact hk
theorem run_callFunc (hG : NoNum P) {f : FuncId} (hb : hasBody P f = true) (args : Array Value) (w : World) : (callFunc f args).run P w = .ok (.enter f args) w := by
  unfold hasBody at hb
  split at hb
  · rename_i fn hf
    have hn := hG f fn hf
    simp only [callFunc, Sem.run_bind]
    simp [program, Sem.run, hf, hn, Option.isSome_iff_ne_none] at hb ⊢
    simp at hn
    simp [hn]
    cases hbb : fn.body with
    | none => exact absurd hbb hb
    | some b => simp
  · exact absurd hb (by simp)
theorem CallV.runN (hG : NoNum P) {fv : Value} {args : Array Value} {w : World} {K : Value → World → Prop} (h : CallV P fv args w K) : RunN P (do let d ← Deferred.ofValue fv args; invoke d.target d.args) w K := by
  unfold CallV at h
  split at h
  · rename_i f first captured
    split at h
    · rename_i hb
      refine RunN.enter (w' := w) ?_ h
      simp only [Deferred.ofValue, Sem.run_bind, Sem.run_pure, Result.andThen_ok, invoke]
      exact run_callFunc hG hb _ _
    · exact h.elim
  · simpa [Deferred.ofValue] using h
  · exact h.elim
theorem typed_spec {t : TypeId} {K : Value → World → Prop} {v : Value} {w : World} (h : exRes P t fun u => v = u ∧ K u w) : K v w := by
  obtain ⟨u, hu, hk⟩ := exRes_spec h
  subst hu
  exact hk

theorem setCell_cell_some {w : World} {a b : Addr} {v : Value} (h : ∃ u, w.cell? b = some u) : ∃ u, (w.setCell a v).cell? b = some u := by
  obtain ⟨u, hu⟩ := h
  unfold World.cell? World.setCell at *
  simp only [Array.getElem?_modify]
  cases hb : w.heap[b.block]? with
  | none => rw [hb] at hu; simp at hu
  | some o =>
    rw [hb] at hu
    cases o with
    | cells c t fr =>
      simp only at hu
      by_cases hab : a.block = b.block
      · simp only [hab, if_true, Option.map_some]
        by_cases hs : b.spot.isSome = true
        · simp [hs] at hu
        · simp only [hs, if_false, Bool.false_eq_true] at hu ⊢
          have hlt : b.off < c.size := (Array.getElem?_eq_some_iff.1 hu).1
          split
          · exact ⟨u, hu⟩
          · exact ⟨_, Array.getElem?_eq_getElem (by simpa using hlt)⟩
      · simp only [hab, if_false]
        exact ⟨u, hu⟩
    | _ => simp at hu
theorem setCell_frozen {w : World} {a b : Addr} {v : Value} : (w.setCell a v).frozen? b = w.frozen? b := by
  unfold World.frozen? World.setCell
  simp only [Array.getElem?_modify]
  by_cases hab : a.block = b.block
  · rw [if_pos hab]
    cases hb : w.heap[b.block]? with
    | none => rfl
    | some o => cases o <;> rfl
  · rw [if_neg hab]
theorem run_store {w : World} {a : Addr} {v : Value} (h1 : v.oneCell' = true) (hw : Wr w a) : (store a v).run P w = .ok () (w.setCell a v) := by
  obtain ⟨⟨u, hu⟩, hf⟩ := hw
  cases v <;> first | (simp [Value.oneCell'] at h1; done) | (simp [store, Sem.run, hu, hf])
theorem run_storeCells {a : Addr} (vs : List Value) : ∀ (w : World) (i : Nat), (∀ u, u ∈ vs → u.oneCell' = true) → (∀ j, j < vs.length → Wr w (a.add (i + j))) → (storeCells a vs i).run P w = .ok () (setAt w a vs i) := by
  induction vs with
  | nil => intro w i _ _; simp [storeCells, setAt]
  | cons v r ih =>
    intro w i h1 hw
    have h0 := run_store (P := P) (h1 v (by simp)) (by simpa using hw 0 (by simp))
    simp only [storeCells, Sem.run_bind, h0, Result.andThen_ok, setAt]
    refine ih _ (i + 1) (fun u hu => h1 u (by simp [hu])) (fun j hj => ?_)
    obtain ⟨hs, hf⟩ := hw (j + 1) (by simp; omega)
    rw [show i + 1 + j = i + (j + 1) by omega]
    exact ⟨setCell_cell_some hs, by rw [setCell_frozen]; exact hf⟩
theorem run_StoreP {t : TypeId} {ad : Addr} {v : Value} {w : World} {K : World → Prop} (h : StoreP P t ad v w K) : ∃ w1, K w1 ∧ (storeVar t ad v).run P w = .ok () w1 := by
  have one : ∀ v : Value, v.oneCell' = true → v.cells = #[v] → (siz P t fun n => if n = 1 then Wr w ad ∧ ∀ w1, w1 = w.setCell ad v → K w1 else False) → ∃ w1, K w1 ∧ (storeVar t ad v).run P w = .ok () w1 := by
    intro v h1 hc h
    obtain ⟨i, hi, h⟩ := siz_spec h
    split at h
    · rename_i hn
      obtain ⟨hw, hk⟩ := h
      refine ⟨_, hk _ rfl, ?_⟩
      have ha : ad.add 0 = ad := by simp [Addr.add]
      simp [storeVar, Sem.run_bind, run_size hi, hc, hn, storeCells, ha, run_store h1 hw]
    · exact h.elim
  unfold StoreP at h
  split at h
  · rename_i cs
    obtain ⟨i, hi, hsz, h1, hw, hk⟩ := siz_spec h
    refine ⟨_, hk _ rfl, ?_⟩
    have hr := run_storeCells (P := P) (a := ad) cs.toList w 0 h1 (fun j hj => by rw [Nat.zero_add]; exact hw j (by simpa [hsz] using hj))
    simp [storeVar, Sem.run_bind, run_size hi, Value.cells, hsz, hr]
  · exact h.elim
  · rename_i hna hnt
    cases v with
    | agg cs => exact (hna cs rfl).elim
    | tuple vs => exact (hnt vs rfl).elim
    | _ => exact one _ rfl rfl h

theorem run_new {elem : TypeId} {cs : Array Value} {w : World} : (newRow elem cs).run P w = .ok ⟨w.heap.size, 0, none⟩ (w.alloc (.cells cs elem)) := by
  rfl

theorem vx_run (hG : NoNum P) {e : Env} {o : Oper} {w : World} {K : Value → World → Prop} (h : vx P e o w K) : opRes P o e w K := by
  obtain ⟨dst, op, type, pos, after, guard⟩ := o
  unfold opRes
  cases op <;> simp only [vx] at h <;> try exact h.elim
  case alloc elem =>
    split at h
    · rename_i i hi
      split at h
      · rename_i z hz
        have := h _ _ ⟨rfl, rfl⟩
        refine RunN.value ?_ this
        simp [execOp, Instr.alloc, zeroValue, typeInfo, Sem.run_bind, hi, hz, newVar, run_new]
      · exact h.elim
    · exact h.elim
  case box elem x =>
    have := h _ _ ⟨rfl, rfl⟩
    refine RunN.value ?_ this
    simp [execOp, Instr.box, Sem.run_bind, newVar, run_new]
  case store t a x =>
    split at h
    · rename_i ad ha
      obtain ⟨w1, hk, hr⟩ := run_StoreP h
      refine RunN.skip ?_ hk
      simp [execOp, ha, Instr.storeAt, Instr.sureAddr, Sem.run_bind, hr]
    · exact h.elim
  case call c =>
    obtain ⟨callee, args, argTypes⟩ := c
    cases callee with
    | value f =>
      cases f with
      | func g =>
        have := CallT.runN hG h
        simpa [execOp, resolve, ev, Deferred.ofValue, invoke] using this
      | tmp t =>
        have := (CallV.runN hG h).mono fun v w' hh => typed_spec hh
        simpa [execOp, resolve] using this
      | const v =>
        have := (CallV.runN hG h).mono fun v w' hh => typed_spec hh
        simpa [execOp, resolve] using this
      | global g =>
        have := (CallV.runN hG h).mono fun v w' hh => typed_spec hh
        simpa [execOp, resolve] using this
    | builtin b =>
      simp only at h
      cases b <;> simp only [blt] at h <;> first | exact h.elim | (have := RunT.runN h; simpa [execOp, resolve, invoke, builtin] using this)
    | invoke r name =>
      have h := RunN.mono (K' := K) h fun v w' hh => typed_spec hh
      have hx : (execOp (ev e) { dst := dst, op := .call { callee := .invoke r name, args := args, argTypes := argTypes }, type := type, pos := pos, after := after, guard := guard } : Sem Next).run P w = (callMethod (ev e r) name (args.map (ev e))).run P w := by
        have h1 : (#[ev e r] ++ Array.map (ev e) args)[0]? = some (ev e r) := by
          rw [Array.getElem?_append_left (by simp)]; rfl
        have h2 : (#[ev e r] ++ Array.map (ev e) args).extract 1 (#[ev e r] ++ Array.map (ev e) args).size = Array.map (ev e) args := by
          simp
        simp only [execOp, resolve, invoke, Sem.run_bind, Sem.run_pure, Result.andThen_ok]
        simp only [h1, h2]
      unfold RunN at *
      rw [hx]
      exact h
  case buildSlice t len parts => exact RunT.runN h
  case makeSlice t l c => exact RunT.runN h
  case convert src dst x => exact RunT.runN h
  case binOp op t x y yt => exact RunT.runN h
  case makeMap t r => exact RunT.runN (t := .val) h
  case lookup t x ix ok => exact (RunT.runN (t := .val) h).mono fun v w' hh => typed_spec hh
  case mapUpdate t m k v => exact (RunU.runN h).mono fun v w' hh => by rw [hh.1]; exact hh.2
  case makeInterface t x => exact RunT.runN (t := .val) h
  case typeAssert x xt at_ ok => exact (RunT.runN (t := .val) h).mono fun v w' hh => typed_spec hh
  case range t x => exact RunT.runN (t := .val) h
  case next it s =>
    refine (RunT.runN (t := .val) (K := fun v w' => (v = .tuple #[.bool false] ∧ K (.tuple #[.bool false]) w') ∨ (∃ k x : Value, v = .tuple #[.bool true, k, x] ∧ K (.tuple #[.bool true, k, x]) w')) h).mono fun v w' hh => ?_
    rcases hh with ⟨h1, h2⟩ | ⟨k, x, h1, h2⟩
    · exact h1 ▸ h2
    · exact h1 ▸ h2
  case entry it =>
    refine (RunT.runN (t := .val) (K := fun v w' => ∃ k x : Value, v = .tuple #[k, x] ∧ K (.tuple #[k, x]) w') h).mono fun v w' hh => ?_
    obtain ⟨k, x, h1, h2⟩ := hh
    exact h1 ▸ h2
end

/-! ### 6. One operation in a frame; guards -/
def AgreeOff (D : List Nat) (e e' : Env) : Prop := ∀ i, i ∉ D → e' i = e i
theorem AgreeOff.refl (D : List Nat) (e : Env) : AgreeOff D e e := fun _ _ => rfl
theorem AgreeOff.trans {D : List Nat} {a b c : Env} (h : AgreeOff D a b) (k : AgreeOff D b c) : AgreeOff D a c := fun i hi => (k i hi).trans (h i hi)
theorem AgreeOff.mono {D D' : List Nat} {a b : Env} (h : AgreeOff D a b) (hd : ∀ i, i ∈ D → i ∈ D') : AgreeOff D' a b := fun i hi => h i fun hh => hi (hd i hh)
theorem AgreeOff.updO {D : List Nat} (e : Env) (o : Option Tmp) (v : Value) (h : ∀ d, o = some d → d ∈ D) : AgreeOff D e (updO e o v) := by
  cases o with
  | none => exact .refl _ _
  | some d => exact fun i hi => upd_other e v fun hh => hi (hh ▸ h d rfl)
def dstOk (N : Nat) (o : Oper) : Prop := ∀ d, o.dst = some d → d < N
def dstOkB (N : Nat) (o : Oper) : Bool := match o.dst with
  | some d => Nat.blt d N
  | none => true
theorem dstOk_of {N : Nat} {o : Oper} (h : dstOkB N o = true) : dstOk N o := by
  intro d hd
  simp only [dstOkB, hd] at h
  have : Nat.succ d ≤ N := by simpa [Nat.blt] using h
  exact this

def grd (ops : Array Oper) (o : Oper) (e : Env) (yes no : Env → Prop) : Prop :=
  match o.guard with
  | none => yes e
  | some (j, want) => match (ops[j]?).bind (·.dst) with
    | none => no e
    | some d => match e d with
      | .bool b => IfB b (match want with
          | true => yes (upd e d (.bool true))
          | false => no (upd e d (.bool true))) (match want with
          | true => no (upd e d (.bool false))
          | false => yes (upd e d (.bool false)))
      | _ => no e
theorem grd_spec {ds : List Deferred} {N : Nat} {ops : Array Oper} {o : Oper} {e : Env} {a : Act} {yes no : Env → Prop} (hs : SimD ds N a e) (h : grd ops o e yes no) :
    (Region.wanted o (yielded ops a.tmps) = true ∧ yes e) ∨ (Region.wanted o (yielded ops a.tmps) = false ∧ no e) := by
  unfold grd at h
  unfold Region.wanted
  split at h
  · rename_i hg; exact .inl ⟨by simp [hg], h⟩
  · rename_i j want hg
    simp only [hg]
    split at h
    · rename_i hd
      exact .inr ⟨by simp [yielded, hd], h⟩
    · rename_i d hd
      have hget := hs.get d
      have hy : yielded ops a.tmps j = match a.tmps[d]? with | some (.bool b) => some b | _ => none := by
        unfold yielded; rw [hd]; rfl
      split at h
      · rename_i b hb
        have hq : a.tmps[d]? = some (.bool b) := by
          rw [hb] at hget
          cases hq : a.tmps[d]? with
          | none => rw [Array.getD_eq_getD_getElem?, hq] at hget; exact absurd hget (by simp [undef])
          | some v => rw [Array.getD_eq_getD_getElem?, hq] at hget; simpa using hget
        rw [hy, hq]
        cases b with
        | true =>
          have he : upd e d (.bool true) = e := upd_self e d _ hb
          simp only [IfB, he] at h
          cases want with
          | true => exact .inl ⟨rfl, h⟩
          | false => exact .inr ⟨rfl, h⟩
        | false =>
          have he : upd e d (.bool false) = e := upd_self e d _ hb
          simp only [IfB, he] at h
          cases want with
          | true => exact .inr ⟨rfl, h⟩
          | false => exact .inl ⟨rfl, h⟩
      · rename_i hne
        refine .inr ⟨?_, h⟩
        rw [hy]
        cases hq : a.tmps[d]? with
        | none => simp
        | some v =>
          rw [Array.getD_eq_getD_getElem?, hq] at hget
          simp at hget
          subst hget
          cases hv : e d with
          | bool b => exact absurd hv (hne b)
          | _ => simp

def isQ (P : Program) (o : Oper) : Bool :=
  match o.op with
  | .move _ | .assign _ | .pick .. | .unOp .. | .nilCheck _ | .fieldAddr .. | .load .. | .indexAddr .. | .index .. | .field .. | .extract .. | .makeFunc .. | .build .. | .slice .. => true
  | .binOp _ t x y _ => match P.underlying t with
    | some (.pointer _) => isNilC x || isNilC y
    | _ => true
  | .convert s d _ => match P.underlying s, P.underlying d with
    | some (.int _), some (.int _) => true
    | some .string, some .string => true
    | _, _ => false
  | .call c => match c.callee, c.args.toList, c.argTypes.toList with
    | .builtin .len, [_], [t] => match P.underlying t with
      | some .string => true
      | some (.slice _) => true
      | some (.array _ _) => true
      | _ => false
    | .builtin .max, [_, _], _ => match P.underlying o.type with
      | some (.int _) => true
      | _ => false
    | .builtin .min, [_, _], _ => match P.underlying o.type with
      | some (.int _) => true
      | _ => false
    | _, _, _ => false
  | _ => false
def isLoad (o : Oper) : Bool := match o.op with
  | .load .. => true
  | _ => false
def vop (P : Program) (e : Env) (o : Oper) (w : World) (K : Value → World → Prop) : Prop :=
  match isQ P o with
  | true => vq P e o (Ld w) (LdA w) fun v => K v w
  | false => vx P e o w K

section
variable {P : Program}
theorem vop_run (hG : NoNum P) {e : Env} {o : Oper} {w : World} {K : Value → World → Prop} (h : vop P e o w K) : opRes P o e w K := by
  unfold vop at h
  split at h
  · obtain ⟨v, hk, hr⟩ := vq_run h
    exact RunN.value (hr w (fun _ _ h => h) (fun _ _ _ h => h)) hk
  · exact vx_run hG h
theorem opRes_wp {ds : List Deferred} {N : Nat} {o : Oper} {a : Act} {e : Env} {w : World} {K : Value → World → Prop} {next : Act → World → Prop} {Q : Exit → Act → World → Prop} (hs : SimD ds N a e) (h : opRes P o e w K)
    (hn : ∀ v w', K v w' → next (a.put o.dst v) w') : o.wp P a w next Q := by
  unfold Oper.wp
  rw [hs.eval]
  unfold opRes RunN at h
  split at h
  · rename_i v w' hr; rw [hr]; exact hn _ _ h
  · rename_i w' hr; rw [hr]; exact hn _ _ h
  · rename_i f args w' hr
    rw [hr]
    refine h.mono fun en w'' ⟨v, he, hk⟩ => ?_
    subst he
    exact hn _ _ hk
  · exact h.elim
theorem vq_noload {e : Env} {o : Oper} {L L' : Addr → Value → Prop} {LA LA' : Addr → Nat → Array Value → Prop} {K : Value → Prop} (hl : isLoad o = false) (h : vq P e o L LA K) : vq P e o L' LA' K := by
  obtain ⟨dst, op, type, pos, after, guard⟩ := o
  cases op <;> first | exact h | (simp [isLoad] at hl)

/-! ### 7. A region in the order of the text -/
def vl (P : Program) (ops : Array Oper) : List Oper → Env → World → (Env → World → Prop) → Prop
  | [], e, w, K => K e w
  | o :: r, e, w, K => grd ops o e (fun e => vop P e o w fun v w' => vl P ops r (updO e o.dst v) w' K) (fun e => vl P ops r (updO e o.dst undef) w K)
theorem vl_wp (hG : NoNum P) {ds : List Deferred} {N : Nat} {ops : Array Oper} {Q : Exit → Act → World → Prop} {K : Env → World → Prop} (D : List Nat) (e0 : Env) (hQ : ∀ a e w, SimD ds N a e → AgreeOff D e0 e → K e w → Q .normal a w) (l : List Oper) :
    ∀ (e : Env) (a : Act) (w : World), (∀ o, o ∈ l → dstOk N o ∧ ∀ d, o.dst = some d → d ∈ D) → AgreeOff D e0 e → SimD ds N a e → vl P ops l e w K → wpList P ops Q l a w := by
  induction l with
  | nil => intro e a w _ hag hs h; exact hQ _ _ _ hs hag h
  | cons o r ih =>
    intro e a w hd hag hs h
    obtain ⟨ho, hoD⟩ := hd o (by simp)
    have hr := fun o' (h' : o' ∈ r) => hd o' (by simp [h'])
    have step : ∀ v w', vl P ops r (updO e o.dst v) w' K → wpList P ops Q r (a.put o.dst v) w' := fun v w' h' =>
      ih _ _ _ hr (hag.trans (AgreeOff.updO e o.dst v hoD)) (hs.put v ho) h'
    unfold wpList
    rcases grd_spec hs h with ⟨hw, h⟩ | ⟨hw, h⟩
    · rw [if_pos hw]
      exact .inl (opRes_wp hs (vop_run hG h) step)
    · rw [if_neg (by rw [hw]; simp)]
      exact step _ _ h
end

/-! ### 8. A region whose order is open: quiet operations first; S: what the cells read hold till they are read -/
def reach (md : Region.Mode) (ops : Array Oper) : Nat → Nat → Nat → Bool
  | 0, _, _ => false
  | n + 1, j, i => match ops[j]? with
    | some o => o.after.toList.any fun e => Region.binds md e && (Nat.beq e.on i || reach md ops n e.on i)
    | none => false
def loadAt' (ops : Array Oper) (i : Nat) : Bool := match ops[i]? with
  | some o => isLoad o
  | none => false
def hotOf (md : Region.Mode) (ops : Array Oper) (j : Nat) : Bool := (List.range ops.size).any fun i => !(Nat.beq i j) && (loadAt' ops i && !(reach md ops ops.size j i))
def moreOf (ops : Array Oper) (listed : Array Bool) (j : Nat) : Bool := (List.range ops.size).any fun i => !(Nat.beq i j) && (loadAt' ops i && !(listed.getD i true))

def wpM (P : Program) (md : Region.Mode) (ops : Array Oper) (Q : Exit → Act → World → Prop) : Nat → Array Bool → (World → Prop) → Act → World → Prop
  | 0, listed, _, a, w => Region.ready md ops listed = [] ∧ Q .normal a w
  | fuel + 1, listed, S, a, w =>
    (Region.ready md ops listed = [] → Q .normal a w) ∧
    ∀ j ∈ Region.ready md ops listed, wpOp P ops Q j (fun a' w' => ∃ S' : World → Prop, (hotOf md ops j = true → ∀ w, S' w → S w) ∧ S' w' ∧ wpM P md ops Q fuel (listed.setIfInBounds j true) S' a' w') a w

def DC (md : Region.Mode) (ops : Array Oper) (listed : Array Bool) : Prop := ∀ j o, ops[j]? = some o → listed.getD j false = true → ∀ e ∈ o.after, Region.binds md e = true → listed.getD e.on false = true

section
variable {P : Program} {md : Region.Mode} {ops : Array Oper} {Q : Exit → Act → World → Prop}
theorem wpAny_of_M : ∀ (fuel : Nat) (listed : Array Bool) (S : World → Prop) (a : Act) (w : World), wpM P md ops Q fuel listed S a w → wpAny P md ops Q fuel listed a w
  | 0, _, _, _, _, h => h
  | fuel + 1, _, _, _, _, h => ⟨h.1, fun i hi => wpOp_mono (fun a' w' ⟨S', _, _, h'⟩ => wpAny_of_M fuel _ S' a' w' h') (h.2 i hi)⟩
theorem reach_listed {listed : Array Bool} (hd : DC md ops listed) : ∀ (n j i : Nat), (∀ o, ops[j]? = some o → ∀ e ∈ o.after, Region.binds md e = true → listed.getD e.on false = true) → reach md ops n j i = true → listed.getD i false = true := by
  intro n
  induction n with
  | zero => intro j i _ h; simp [reach] at h
  | succ n ih =>
    intro j i hj h
    unfold reach at h
    split at h
    · rename_i o ho
      rw [List.any_eq_true] at h
      obtain ⟨e, he, hb⟩ := h
      simp only [Bool.and_eq_true, Bool.or_eq_true] at hb
      have hl := hj o ho e (by simpa using he) hb.1
      rcases hb.2 with h1 | h1
      · have := Nat.eq_of_beq_eq_true h1
        rwa [this] at hl
      · exact ih e.on i (fun o' ho' => hd e.on o' ho' hl) h1
    · exact absurd h (by simp)
theorem ready_after {listed : Array Bool} {j : Nat} (h : j ∈ Region.ready md ops listed) : ∀ o, ops[j]? = some o → ∀ e ∈ o.after, Region.binds md e = true → listed.getD e.on false = true := by
  intro o ho e he hb
  obtain ⟨_, oj, hoj, hall⟩ := mem_ready.1 h
  rw [ho] at hoj
  cases hoj
  exact hall e he hb
theorem getD_set_mono {listed : Array Bool} {j k : Nat} (h : listed.getD k false = true) : (listed.setIfInBounds j true).getD k false = true := getD_set_true h
theorem DC.set {listed : Array Bool} (hd : DC md ops listed) {j : Nat} (hj : j ∈ Region.ready md ops listed) : DC md ops (listed.setIfInBounds j true) := by
  intro k o ho hk e he hb
  apply getD_set_mono
  by_cases hkj : j = k
  · subst hkj; exact ready_after hj o ho e he hb
  · rw [getD_set_ne false hkj] at hk
    exact hd k o ho hk e he hb
theorem hot_of {listed : Array Bool} (hd : DC md ops listed) {i j : Nat} (hi : loadAt' ops i = true) (hne : i ≠ j) (hlt : i < ops.size) (hir : i ∈ Region.ready md ops listed) (hjr : j ∈ Region.ready md ops listed) : hotOf md ops j = true := by
  unfold hotOf
  rw [List.any_eq_true]
  refine ⟨i, by simpa using hlt, ?_⟩
  have h1 : Nat.beq i j = false := by
    cases hb : Nat.beq i j
    · rfl
    · exact absurd (Nat.eq_of_beq_eq_true hb) hne
  have h2 : reach md ops ops.size j i = false := by
    cases hb : reach md ops ops.size j i
    · rfl
    · have := reach_listed hd _ _ _ (ready_after hjr) hb
      have h3 := (mem_ready.1 hir).1
      have : listed.getD i true = true := by
        rcases Nat.lt_or_ge i listed.size with h' | h'
        · simp [Array.getD, h'] at this ⊢; exact this
        · simp [Array.getD, Nat.not_lt.2 h']
      rw [this] at h3
      exact absurd h3 (by simp)
  simp [h1, h2, hi]

/-- A quiet operation that may come up now may be taken first. -/
theorem wpM_first {i : Nat} {oi : Oper} {v : Value} (hi : ops[i]? = some oi) (hsel : ∀ (j : Nat) (o : Oper) cs b, ops[j]? = some o → o.op ≠ .select cs b)
    (hQ : ∀ c a w, ¬ Q (.panic c) a w) :
    ∀ (fuel : Nat) (listed : Array Bool) (S : World → Prop) (a : Act) (w : World), DC md ops listed →
      (∀ j oj, ops[j]? = some oj → j ≠ i → listed.getD j true = false → (∀ e ∈ oj.after, Region.binds md e = true → e.on ≠ i) → oi.apart ops oj = true) →
      i ∈ Region.ready md ops listed → YieldsIf P ops (fun w => isLoad oi = true → S w) oi v a → S w →
      wpM P md ops Q fuel (listed.setIfInBounds i true) S (a.put oi.dst v) w → wpM P md ops Q (fuel + 1) listed S a w := by
  intro fuel
  induction fuel with
  | zero =>
    intro listed S a w hdc _ hr hy hS H
    refine ⟨fun h => (by rw [h] at hr; cases hr), fun j hj => ?_⟩
    by_cases hji : j = i
    · subst hji; exact hy.wpOp hi (fun _ => hS) ⟨S, fun _ _ h => h, hS, H⟩
    · have := ready_mono hj hji
      rw [H.1] at this
      cases this
  | succ fuel ih =>
    intro listed S a w hdc hfree hr hy hS H
    refine ⟨fun h => (by rw [h] at hr; cases hr), fun j hj => ?_⟩
    by_cases hji : j = i
    · subst hji; exact hy.wpOp hi (fun _ => hS) ⟨S, fun _ _ h => h, hS, H⟩
    · have h1 := H.2 j (ready_mono hj hji)
      obtain ⟨hjun, oj, hoj, hall⟩ := mem_ready.1 hj
      have hnot : ∀ e ∈ oj.after, Region.binds md e = true → e.on ≠ i := fun e he hb heq => by
        have h1 := hall e he hb
        have h0 := (mem_ready.1 hr).1
        rw [heq] at h1
        rcases Nat.lt_or_ge i listed.size with h' | h'
        · simp [h'] at h0 h1; rw [h0] at h1; cases h1
        · simp [Array.getElem?_eq_none h'] at h1
      have h2 := wpOp_putIf hoj (hfree j oj hoj hji hjun hnot) (fun cs b => hsel i oi cs b hi) (fun cs b => hsel j oj cs b hoj) (fun c a w hq => absurd hq (hQ c _ w)) hy h1
      have hfree' : ∀ k ok, ops[k]? = some ok → k ≠ i → (listed.setIfInBounds j true).getD k true = false →
          (∀ e ∈ ok.after, Region.binds md e = true → e.on ≠ i) → oi.apart ops ok = true := fun k ok hk hki hun hno => by
        refine hfree k ok hk hki ?_ hno
        by_cases hjk : j = k
        · subst hjk; exact hjun
        · rw [getD_set_ne true hjk] at hun; exact hun
      have hhot : isLoad oi = true → hotOf md ops j = true := fun hl =>
        hot_of hdc (by simp [loadAt', hi, hl]) (Ne.symm hji) (Array.getElem?_eq_some_iff.1 hi).1 hr hj
      refine wpOp_mono (fun a' w' h3 => ?_) h2
      obtain ⟨hy', S', hsub, hS', h4⟩ := h3
      refine ⟨S', hsub, hS', ?_⟩
      refine ih (listed.setIfInBounds j true) S' a' w' (hdc.set hj) hfree' (ready_mono hr (Ne.symm hji)) ?_ hS' ?_
      · rcases hy' with ⟨hw, hv⟩ | hv
        · exact .inl ⟨hw, fun w hw' => hv w fun hl => hsub (hhot hl) w (hw' hl)⟩
        · exact .inr hv
      · rw [Array.setIfInBounds_comm _ _ hji]
        exact h4
end

/-- Nothing is asked of the world any more. -/
def TrueW : World → Prop := fun _ => True
def Lof (S : Option (World → Prop)) (w : World) : Addr → Value → Prop := match S with
  | none => Ld w
  | some S => fun ad v => ∀ w', S w' → Ld w' ad v
def LAof (S : Option (World → Prop)) (w : World) : Addr → Nat → Array Value → Prop := match S with
  | none => LdA w
  | some S => fun ad n cs => ∀ w', S w' → LdA w' ad n cs
def allR (l : List Nat) (f : Nat → Prop) : Prop := match l with
  | [] => True
  | [i] => f i
  | i :: r => f i ∧ allR r f
theorem allR_spec {l : List Nat} {f : Nat → Prop} (h : allR l f) : ∀ i ∈ l, f i := by
  induction l with
  | nil => intro i hi; cases hi
  | cons j r ih =>
    intro i hi
    cases r with
    | nil =>
      simp only [allR] at h
      simp at hi
      subst hi
      exact h
    | cons k r =>
      simp only [allR] at h
      rcases List.mem_cons.1 hi with rfl | hi
      · exact h.1
      · exact ih h.2 i hi
def nextS (hot more : Bool) (S : Option (World → Prop)) (w' : World) (k : Option (World → Prop) → Prop) : Prop :=
  match S with
  | none => False
  | some S => match more with
    | true => ∃ S' : World → Prop, (∀ w, S' w → S w) ∧ S' w' ∧ k (some S')
    | false => match hot with
      | true => S w' ∧ k (some S)
      | false => k (some fun _ => True)
def qfree (P : Program) (md : Region.Mode) (ops : Array Oper) (listed : Array Bool) (i : Nat) : Bool :=
  (match ops[i]? with
  | some o => isQ P o
  | none => false) && Region.free md ops listed i
def vd (P : Program) (md : Region.Mode) (ops : Array Oper) : Nat → Array Bool → Option (World → Prop) → Env → World → (Env → World → Prop) → Prop
  | 0, listed, _, e, w, K => match Region.ready md ops listed with
    | [] => K e w
    | _ => False
  | fuel + 1, listed, S, e, w, K =>
    match Region.ready md ops listed with
    | [] => K e w
    | r :: rs => match (r :: rs).find? (qfree P md ops listed) with
      | some i => match ops[i]? with
        | some o => grd ops o e (fun e => vq P e o (Lof S w) (LAof S w) fun v => vd P md ops fuel (listed.setIfInBounds i true) S (updO e o.dst v) w K)
            (fun e => vd P md ops fuel (listed.setIfInBounds i true) S (updO e o.dst undef) w K)
        | none => False
      | none => allR (r :: rs) fun i => match ops[i]? with
        | some o => grd ops o e (fun e => vop P e o w fun v w' => nextS (hotOf md ops i) (moreOf ops listed i) S w' fun S' => vd P md ops fuel (listed.setIfInBounds i true) S' (updO e o.dst v) w' K)
            (fun e => vd P md ops fuel (listed.setIfInBounds i true) S (updO e o.dst undef) w K)
        | none => False

section
variable {P : Program}
def SS (S : Option (World → Prop)) (w : World) : World → Prop := match S with
  | none => fun w' => w' = w
  | some S => S
theorem vd_wp (hG : NoNum P) {ds : List Deferred} {N : Nat} {md : Region.Mode} {ops : Array Oper} {Q : Exit → Act → World → Prop} {K : Env → World → Prop} (D : List Nat) (e0 : Env) (hsel : Region.noSelect ops = true)
    (hd : ∀ (i : Nat) o, ops[i]? = some o → dstOk N o ∧ ∀ d, o.dst = some d → d ∈ D) (hp : ∀ c a w, ¬ Q (.panic c) a w) (hQ : ∀ a e w, SimD ds N a e → AgreeOff D e0 e → K e w → Q .normal a w) :
    ∀ (fuel : Nat) (listed : Array Bool) (S : Option (World → Prop)) (e : Env) (a : Act) (w : World), DC md ops listed → AgreeOff D e0 e → SimD ds N a e → SS S w w → vd P md ops fuel listed S e w K → wpM P md ops Q fuel listed (SS S w) a w := by
  intro fuel
  induction fuel with
  | zero =>
    intro listed S e a w _ hag hs _ h
    unfold vd at h
    split at h
    · rename_i hr; exact ⟨hr, hQ _ _ _ hs hag h⟩
    · exact h.elim
  | succ fuel ih =>
    intro listed S e a w hdc hag hs hS h
    unfold vd at h
    split at h
    · rename_i hr
      exact ⟨fun _ => hQ _ _ _ hs hag h, by rw [hr]; simp⟩
    · rename_i r rs hr
      split at h
      · rename_i i hfind
        have hmem : i ∈ Region.ready md ops listed := by rw [hr]; exact List.mem_of_find?_eq_some hfind
        have hq := List.find?_some hfind
        simp only [qfree, Bool.and_eq_true] at hq
        split at h
        · rename_i o ho
          obtain ⟨hok, hoD⟩ := hd i o ho
          have take : ∀ v, YieldsIf P ops (fun w' => isLoad o = true → SS S w w') o v a → vd P md ops fuel (listed.setIfInBounds i true) S (updO e o.dst v) w K → wpM P md ops Q (fuel + 1) listed (SS S w) a w := by
            intro v hy hv
            exact wpM_first ho (Region.noSelect_spec hsel) hp fuel listed _ a w hdc (Region.free_spec ho hq.2) hmem hy hS
              (ih _ _ _ _ _ (hdc.set hmem) (hag.trans (AgreeOff.updO e o.dst v hoD)) (hs.put v hok) hS hv)
          rcases grd_spec hs h with ⟨hw, h⟩ | ⟨hw, h⟩
          · by_cases hl : isLoad o = true
            · obtain ⟨v, hk, hrun⟩ := vq_run h
              refine take v (.inl ⟨hw, fun w' hw' => ?_⟩) hk
              have hSw := hw' hl
              rw [hs.eval]
              cases S with
              | none =>
                have : w' = w := hSw
                subst this
                exact hrun _ (fun _ _ h => h) (fun _ _ _ h => h)
              | some S => exact hrun _ (fun ad v h => h w' hSw) (fun ad n cs h => h w' hSw)
            · have hl' : isLoad o = false := by simpa using hl
              obtain ⟨v, hk, hrun⟩ := vq_run (vq_noload (L' := fun _ _ => False) (LA' := fun _ _ _ => False) hl' h)
              refine take v (.inl ⟨hw, fun w' _ => ?_⟩) hk
              rw [hs.eval]
              exact hrun _ (fun _ _ h => h.elim) (fun _ _ _ h => h.elim)
          · exact take undef (.inr ⟨hw, rfl⟩) h
        · exact h.elim
      · rename_i hfind
        refine ⟨fun h0 => (by rw [hr] at h0; cases h0), fun i hi => ?_⟩
        have h := allR_spec h i (hr ▸ hi)
        split at h
        · rename_i o ho
          obtain ⟨hok, hoD⟩ := hd i o ho
          unfold wpOp
          rw [ho]
          simp only []
          rcases grd_spec hs h with ⟨hw, h⟩ | ⟨hw, h⟩
          · rw [if_pos hw]
            refine .inl (opRes_wp hs (vop_run hG h) fun v w' hn => ?_)
            have next : ∀ S', SS S' w' w' → vd P md ops fuel (listed.setIfInBounds i true) S' (updO e o.dst v) w' K → wpM P md ops Q fuel (listed.setIfInBounds i true) (SS S' w') (a.put o.dst v) w' := fun S' hS' hv =>
              ih _ _ _ _ _ (hdc.set hi) (hag.trans (AgreeOff.updO e o.dst v hoD)) (hs.put v hok) hS' hv
            unfold nextS at hn
            cases S with
            | none => exact hn.elim
            | some S =>
              simp only at hn
              split at hn
              · obtain ⟨S', hsub, hS', hk⟩ := hn
                exact ⟨S', fun _ => hsub, hS', next (some S') hS' hk⟩
              · split at hn
                · exact ⟨S, fun _ _ h => h, hn.1, next (some S) hn.1 hn.2⟩
                · rename_i hhot
                  exact ⟨(fun _ => True), fun hh => absurd hh (by rw [hhot]; simp), trivial, next (some fun _ => True) trivial hn⟩
          · rw [if_neg (by rw [hw]; simp)]
            exact ⟨_, fun _ _ h => h, hS, ih _ _ _ _ _ (hdc.set hi) (hag.trans (AgreeOff.updO e o.dst undef hoD)) (hs.put undef hok) hS h⟩
        · exact h.elim
def noEff (P : Program) (ops : Array Oper) : Bool := ops.toList.all (isQ P)
def anyLoad (ops : Array Oper) : Bool := ops.toList.any isLoad
def vr (P : Program) (ops : Array Oper) (draw : Bool) (e : Env) (w : World) (K : Env → World → Prop) : Prop :=
  match draw with
  | false => vl P ops ops.toList e w K
  | true => match noEff P ops with
    | true => vd P .any ops ops.size (Array.replicate ops.size false) none e w.drew K
    | false => match anyLoad ops with
      | true => ∃ S : World → Prop, S w.drew ∧ vd P .any ops ops.size (Array.replicate ops.size false) (some S) e w.drew K
      | false => vd P .any ops ops.size (Array.replicate ops.size false) (some fun _ => True) e w.drew K
def dstsL (l : List Oper) : List Nat := l.filterMap (·.dst)
theorem DC_start (md : Region.Mode) (ops : Array Oper) (n : Nat) : DC md ops (Array.replicate n false) := by
  intro j o _ h
  by_cases hj : j < n <;> simp [Array.getD, hj] at h
theorem vr_wp (hG : NoNum P) (hm : P.follows .mixedOrders = true) {ds : List Deferred} {N : Nat} {id : Nat} {ops : Array Oper} {draw : Bool} {Q : Exit → Act → World → Prop} {K : Env → World → Prop} {e : Env} {a : Act} {w : World} (hsel : Region.noSelect ops = true)
    (hd : ∀ o, o ∈ ops.toList → dstOk N o) (hp : ∀ c a w, ¬ Q (.panic c) a w) (hs : SimD ds N a e) (hQ : ∀ a' e' w', SimD ds N a' e' → AgreeOff (dstsL ops.toList) e e' → K e' w' → Q .normal a' w') (h : vr P ops draw e w K) :
    (Code.region id ops draw).wp P Q a w := by
  have hD : ∀ o, o ∈ ops.toList → dstOk N o ∧ ∀ d, o.dst = some d → d ∈ dstsL ops.toList := fun o ho => ⟨hd o ho, fun d hd' => List.mem_filterMap.2 ⟨o, ho, hd'⟩⟩
  have hD' : ∀ (i : Nat) o, ops[i]? = some o → dstOk N o ∧ ∀ d, o.dst = some d → d ∈ dstsL ops.toList := fun i o ho => hD o (by simpa using Array.mem_of_getElem? ho)
  unfold vr at h
  cases draw with
  | false => exact wp_region_list (vl_wp hG (dstsL ops.toList) e hQ ops.toList e a w hD (.refl _ _) hs h)
  | true =>
    refine wp_region_any hm ?_
    simp only at h
    split at h
    · exact wpAny_of_M _ _ _ _ _ (vd_wp hG (dstsL ops.toList) e hsel hD' hp hQ _ _ none e a _ (DC_start _ _ _) (.refl _ _) hs rfl h)
    · split at h
      · obtain ⟨S, hS, h⟩ := h
        exact wpAny_of_M _ _ _ _ _ (vd_wp hG (dstsL ops.toList) e hsel hD' hp hQ _ _ (some S) e a _ (DC_start _ _ _) (.refl _ _) hs hS h)
      · exact wpAny_of_M _ _ _ _ _ (vd_wp hG (dstsL ops.toList) e hsel hD' hp hQ _ _ (some fun _ => True) e a _ (DC_start _ _ _) (.refl _ _) hs trivial h)
end

/-! ### 9. Code -/
def Fn : List (Nat × Ty) → Type
  | [] => World → Prop
  | (_, t) :: r => t.den → Fn r
def AllX : (ds : List (Nat × Ty)) → Fn ds → Env → (Env → (World → Prop) → Prop) → Prop
  | [], J, e, k => k e J
  | (d, t) :: r, J, e, k => ∀ x : t.den, AllX r (J x) (upd e d (t.enc x)) k
def TakeX : (ds : List (Nat × Ty)) → Fn ds → Env → ((World → Prop) → Prop) → Prop
  | [], J, _, k => k J
  | (d, t) :: r, J, e, k => t.take (e d) fun x => TakeX r (J x) e k
def mask (D : List Nat) (e u : Env) : Env := fun i => bif D.any (Nat.beq i) then u i else e i
theorem mask_agree {D : List Nat} {e e' : Env} (h : AgreeOff D e e') : mask D e e' = e' := by
  funext i
  unfold mask
  cases hb : D.any (Nat.beq i)
  · have : i ∉ D := by
      intro hi
      rw [List.any_eq_false] at hb
      exact hb i hi (Nat.beq_refl i)
    exact (h i this).symm
  · rfl
theorem AllX_TakeX {ds : List (Nat × Ty)} {J : Fn ds} {e : Env} {k : Env → (World → Prop) → Prop} {k' : (World → Prop) → Prop} (h : AllX ds J e k) (t : TakeX ds J e k') : ∃ Jw, k e Jw ∧ k' Jw := by
  induction ds with
  | nil => exact ⟨J, h, t⟩
  | cons p r ih =>
    obtain ⟨d, ty⟩ := p
    obtain ⟨x, hx, t⟩ := Ty.take_spec t
    have h := h x
    rw [upd_self e d _ hx] at h
    exact ih h t
structure Ann where
  cut : Nat → Option (List (Nat × Ty))
  loop : Nat → List (Nat × Ty)
def firstId : Code → Nat
  | .region id _ _ => id
  | .seq x _ => firstId x
  | .cond _ x _ => firstId x
  | .block _ b => firstId b
  | .loop b => firstId b
  | .scope b => firstId b
  | _ => 0
def dsts : Code → List Nat
  | .region _ ops _ => dstsL ops.toList
  | .seq x y => dsts x ++ dsts y
  | .cond _ x y => dsts x ++ dsts y
  | .block _ b => dsts b
  | .loop b => dsts b
  | .scope b => dsts b
  | _ => []
def codeOk (N : Nat) : Code → Bool
  | .region _ ops _ => ops.toList.all (dstOkB N) && Region.noSelect ops
  | .seq x y => codeOk N x && codeOk N y
  | .cond _ x y => codeOk N x && codeOk N y
  | .block _ b => codeOk N b
  | .loop b => codeOk N b
  | .skip => true
  | .exit _ => true
  | .ret => true
  | _ => true
def setC (e : Env) (c : Operand) (b : Bool) : Env := match c with
  | .tmp t => upd e t (.bool b)
  | _ => e
abbrev Kx := Exit → Env → World → Prop
def vc (P : Program) (an : Ann) : Code → Env → World → Kx → Prop
  | .skip, e, w, K => K .normal e w
  | .region _ ops draw, e, w, K => vr P ops draw e w fun e' w' => K .normal e' w'
  | .seq x y, e, w, K => match an.cut (firstId y) with
    | none => vc P an x e w fun ex e' w' => match ex with
      | .normal => vc P an y e' w' K
      | ex => K ex e' w'
    | some ds => ∃ J : Fn ds, (vc P an x e w fun ex e' w' => match ex with
      | .normal => TakeX ds J e' fun Jw => Jw w'
      | ex => K ex e' w') ∧ ∀ u : Env, AllX ds J (mask (dsts x) e u) fun e' Jw => ∀ w', Jw w' → vc P an y e' w' K
  | .cond c x y, e, w, K => match ev e c with
    | .bool b => IfB b (vc P an x (setC e c true) w K) (vc P an y (setC e c false) w K)
    | _ => False
  | .block id b, e, w, K => vc P an b e w fun ex e' w' => match ex with
    | .exit id' => match Nat.beq id' id with
      | true => K .normal e' w'
      | false => K (.exit id') e' w'
    | ex => K ex e' w'
  | .loop b, e, w, K => ∃ (I : Nat → Fn (an.loop (firstId b))) (n0 : Nat), (TakeX (an.loop (firstId b)) (I n0) e fun Iw => Iw w) ∧
      ∀ (n : Nat) (u : Env), AllX (an.loop (firstId b)) (I n) (mask (dsts b) e u) fun e' Iw => ∀ w', Iw w' → vc P an b e' w' fun ex e'' w'' => match ex with
        | .normal => ∃ n', n' < n ∧ TakeX (an.loop (firstId b)) (I n') e'' fun Iw => Iw w''
        | ex => K ex e'' w''
  | .exit id, e, w, K => K (.exit id) e w
  | .ret, e, w, K => K .ret e w
  | _, _, _, _ => False

def Qof (N : Nat) (D : List Nat) (e : Env) (K : Kx) : Exit → Act → World → Prop := fun ex a w => (∀ c, ex ≠ .panic c) ∧ ∃ e', Sim N a e' ∧ AgreeOff D e e' ∧ K ex e' w
theorem Qof.noPanic {N : Nat} {D : List Nat} {e : Env} {K : Kx} (c : List PanicEntry) (a : Act) (w : World) : ¬ Qof N D e K (.panic c) a w := fun h => h.1 c rfl

theorem vc_wp {P : Program} (hG : NoNum P) (hm : P.follows .mixedOrders = true) {N : Nat} {an : Ann} (c : Code) :
    ∀ (e : Env) (a : Act) (w : World) (K : Kx), codeOk N c = true → Sim N a e → vc P an c e w K → c.wp P (Qof N (dsts c) e K) a w := by
  induction c with
  | skip => intro e a w K _ hs h; exact wp_skip ⟨by simp, e, hs, .refl _ _, h⟩
  | region id ops draw =>
    intro e a w K hok hs h
    simp only [codeOk, Bool.and_eq_true] at hok
    refine vr_wp hG hm hok.2 (fun o ho => dstOk_of (List.all_eq_true.1 hok.1 o ho)) (fun c a w => Qof.noPanic c a w) hs (fun a' e' w' hs' hag hk => ?_) h
    exact ⟨by simp, e', hs', hag, hk⟩
  | seq x y ihx ihy =>
    intro e a w K hok hs h
    simp only [codeOk, Bool.and_eq_true] at hok
    simp only [vc] at h
    have monoL : ∀ {e e' : Env}, AgreeOff (dsts x) e e' → AgreeOff (dsts (.seq x y)) e e' := fun h => h.mono fun i hi => by simp [dsts, hi]
    have monoR : ∀ {e e' : Env}, AgreeOff (dsts y) e e' → AgreeOff (dsts (.seq x y)) e e' := fun h => h.mono fun i hi => by simp [dsts, hi]
    have later : ∀ e' a' w', Sim N a' e' → AgreeOff (dsts x) e e' → vc P an y e' w' K → y.wp P (Qof N (dsts (.seq x y)) e K) a' w' := by
      intro e' a' w' hs' hag hy
      refine wp_mono (ihy e' a' w' K hok.2 hs' hy) fun ex a2 w2 hq => ?_
      obtain ⟨hp, e2, hs2, hag2, hk⟩ := hq
      exact ⟨hp, e2, hs2, (monoL hag).trans (monoR hag2), hk⟩
    split at h
    · refine wp_seq (wp_mono (ihx e a w _ hok.1 hs h) fun ex a' w' hq => ?_)
      obtain ⟨hp, e', hs', hag, hk⟩ := hq
      cases ex with
      | normal => exact later e' a' w' hs' hag hk
      | panic c => exact (hp c rfl).elim
      | _ => exact ⟨hp, e', hs', monoL hag, hk⟩
    · rename_i ds hds
      obtain ⟨J, h, hJ⟩ := h
      refine wp_seq (wp_mono (ihx e a w _ hok.1 hs h) fun ex a' w' hq => ?_)
      obtain ⟨hp, e', hs', hag, hk⟩ := hq
      cases ex with
      | normal =>
        have hall := hJ e'
        rw [mask_agree hag] at hall
        obtain ⟨Jw, h1, h2⟩ := AllX_TakeX hall hk
        exact later e' a' w' hs' hag (h1 w' h2)
      | panic c => exact (hp c rfl).elim
      | _ => exact ⟨hp, e', hs', monoL hag, hk⟩
  | cond c x y ihx ihy =>
    intro e a w K hok hs h
    simp only [codeOk, Bool.and_eq_true] at hok
    simp only [vc] at h
    split at h
    · rename_i b hb
      have hc : a.eval c = .bool b := by rw [hs.eval]; exact hb
      have hset : setC e c b = e := by
        cases c with
        | tmp t => exact upd_self e t _ hb
        | _ => rfl
      cases b with
      | true =>
        simp only [IfB] at h
        rw [hset] at h
        exact wp_cond_true hc (wp_mono (ihx e a w K hok.1 hs h) fun ex a' w' ⟨hp, e', hs', hag, hk⟩ => ⟨hp, e', hs', hag.mono fun i hi => by simp [dsts, hi], hk⟩)
      | false =>
        simp only [IfB] at h
        rw [hset] at h
        exact wp_cond_false hc (wp_mono (ihy e a w K hok.2 hs h) fun ex a' w' ⟨hp, e', hs', hag, hk⟩ => ⟨hp, e', hs', hag.mono fun i hi => by simp [dsts, hi], hk⟩)
    · exact h.elim
  | block id b ih =>
    intro e a w K hok hs h
    simp only [codeOk] at hok
    simp only [vc] at h
    refine wp_block (wp_mono (ih e a w _ hok hs h) fun ex a' w' hq => ?_)
    obtain ⟨hp, e', hs', hag, hk⟩ := hq
    cases ex with
    | exit id' =>
      simp only [Exit.inBlock]
      simp only at hk
      by_cases hid : id' = id
      · subst hid
        rw [Nat.beq_refl] at hk
        rw [if_pos rfl]
        exact ⟨by simp, e', hs', hag, hk⟩
      · have : Nat.beq id' id = false := by
          cases hb : Nat.beq id' id
          · rfl
          · exact absurd (Nat.eq_of_beq_eq_true hb) hid
        rw [this] at hk
        rw [if_neg hid]
        exact ⟨by simp, e', hs', hag, hk⟩
    | panic c => exact (hp c rfl).elim
    | _ => exact ⟨hp, e', hs', hag, hk⟩
  | loop b ih =>
    intro e a w K hok hs h
    simp only [codeOk] at hok
    simp only [vc] at h
    obtain ⟨I, n0, h0, hround⟩ := h
    refine wp_loop_ghost (fun n a' w' => ∃ e', Sim N a' e' ∧ AgreeOff (dsts b) e e' ∧ TakeX (an.loop (firstId b)) (I n) e' fun Iw => Iw w') n0 ⟨e, hs, .refl _ _, h0⟩ ?_
    rintro n a' w' ⟨e', hs', hag, ht⟩
    have hall := hround n e'
    rw [mask_agree hag] at hall
    obtain ⟨Iw, h1, h2⟩ := AllX_TakeX hall ht
    refine wp_mono (ih e' a' w' _ hok hs' (h1 w' h2)) fun ex a2 w2 hq => ?_
    obtain ⟨hp, e2, hs2, hag2, hk⟩ := hq
    cases ex with
    | normal =>
      obtain ⟨n', hlt, ht'⟩ := hk
      exact ⟨n', hlt, e2, hs2, hag.trans hag2, ht'⟩
    | panic c => exact (hp c rfl).elim
    | _ => exact ⟨hp, e2, hs2, hag.trans hag2, hk⟩
  | exit id => intro e a w K _ hs h; exact wp_exit ⟨by simp, e, hs, .refl _ _, h⟩
  | ret => intro e a w K _ hs h; exact wp_ret ⟨by simp, e, hs, .refl _ _, h⟩
  | _ => intro e a w K _ _ h; simp only [vc] at h

/-! ### 10. A whole function -/
def resK (P : Program) (w : World) (e : Env) : List ResultVar → List Value → (List Value → Prop) → Prop
  | [], acc, k => k acc
  | .tmp t :: r, acc, k => resK P w e r (acc ++ [e t]) k
  | .cell a ty :: r, acc, k => match e a with
    | .pointer (some ad) => vload P ty ad (Ld w) (LdA w) fun v => resK P w e r (acc ++ [v]) k
    | _ => False
def retV : List Value → Value
  | [v] => v
  | vs => .tuple vs.toArray
def envOf (args : List Value) : Env := fun i => args.getD i undef
def retK (P : Program) (fn : Func) (R : Value → World → Prop) : Kx := fun ex e w => match ex with
  | .ret => resK P w e fn.results.toList [] fun vs => R (retV vs) w
  | .normal => resK P w e fn.results.toList [] fun vs => R (retV vs) w
  | _ => False
def rsem (tmps : Array Value) (x : ResultVar) : Sem Value := match x with
  | .tmp t => pure (tmps.getD t undef)
  | .cell a t => do loadVar t (← asAddr (tmps.getD a undef))
theorem resK_run {P : Program} {w : World} {ds : List Deferred} {N : Nat} {a : Act} {e : Env} (hs : SimD ds N a e) (l : List ResultVar) : ∀ (acc : List Value) (k : List Value → Prop), resK P w e l acc k → ∃ vs, k (acc ++ vs) ∧ vs.length = l.length ∧ ∀ (i : Nat) (x : ResultVar) (v : Value), l[i]? = some x → vs[i]? = some v → (rsem a.tmps x).run P w = .ok v w := by
  induction l with
  | nil => intro acc k h; exact ⟨[], by simpa [resK] using h, rfl, by simp⟩
  | cons x r ih =>
    intro acc k h
    have step : ∀ v0, (rsem a.tmps x).run P w = .ok v0 w → resK P w e r (acc ++ [v0]) k → ∃ vs, k (acc ++ vs) ∧ vs.length = (x :: r).length ∧ ∀ (i : Nat) (y : ResultVar) (v : Value), (x :: r)[i]? = some y → vs[i]? = some v → (rsem a.tmps y).run P w = .ok v w := by
      intro v0 h0 h
      obtain ⟨vs, hk, hl, hr⟩ := ih _ _ h
      refine ⟨v0 :: vs, by simpa using hk, by simp [hl], fun i y v hy hv => ?_⟩
      cases i with
      | zero => simp at hy hv; subst hy hv; exact h0
      | succ i => exact hr i y v (by simpa using hy) (by simpa using hv)
    cases x with
    | tmp t => exact step (e t) (by simp only [rsem, Sem.run_pure, hs.get t]) h
    | cell q ty =>
      simp only [resK] at h
      split at h
      · rename_i ad hq
        obtain ⟨v, h, hl⟩ := run_vload h
        have hl := hl w (fun _ _ h => h) (fun _ _ _ h => h)
        exact step v (by simp only [rsem, Sem.run_bind, hs.get q, hq, asAddr, Sem.run_pure, Result.andThen_ok, hl]) h
      · exact h.elim
theorem mapM_run {P : Program} {w : World} {f : ResultVar → Sem Value} (l : List ResultVar) : ∀ (vs : List Value), vs.length = l.length → (∀ (i : Nat) x v, l[i]? = some x → vs[i]? = some v → (f x).run P w = .ok v w) → (l.mapM f).run P w = .ok vs w := by
  induction l with
  | nil => intro vs hl _; cases vs with
    | nil => simp
    | cons => simp at hl
  | cons x r ih =>
    intro vs hl h
    cases vs with
    | nil => simp at hl
    | cons v vs =>
      rw [List.mapM_cons, Sem.run_bind, h 0 x v rfl rfl]
      simp only [Result.andThen_ok, Sem.run_bind]
      rw [ih vs (by simpa using hl) (fun i y u hy hu => h (i + 1) y u (by simpa using hy) (by simpa using hu))]
      simp
theorem results_run {P : Program} {w : World} {ds : List Deferred} {N : Nat} {a : Act} {e : Env} (hs : SimD ds N a e) {fn : Func} {R : Value → World → Prop} (h : resK P w e fn.results.toList [] fun vs => R (retV vs) w) : ∃ v, (results fn a.tmps).run P w = .ok v w ∧ R v w := by
  obtain ⟨vs, hk, hl, hr⟩ := resK_run hs _ _ _ h
  rw [List.nil_append] at hk
  refine ⟨_, ?_, hk⟩
  have hm : (Array.mapM (rsem a.tmps) fn.results).run P w = .ok vs.toArray w :=
    by rw [Array.mapM_eq_mapM_toList, Sem.run_map, mapM_run fn.results.toList vs hl hr]; simp
  have hres : results fn a.tmps = (do
      let vs ← Array.mapM (rsem a.tmps) fn.results
      pure (if h : vs.size = 1 then vs[0] else .tuple vs)) := rfl
  rw [hres, Sem.run_bind, hm]
  simp only [Result.andThen_ok, Sem.run_pure]
  congr 1
  match vs with
  | [] => simp [retV]
  | [v] => simp [retV]
  | v :: u :: r => simp [retV]
theorem calls_of_vc {P : Program} (hG : NoNum P) (hm : P.follows .mixedOrders = true) (an : Ann) {f : FuncId} {fn : Func} {c : Code} {args : List Value} {w : World} {R : Value → World → Prop} (hf : P.funcs[f]? = some fn) (hb : fn.body = some c)
    (hok : codeOk fn.ntmps c = true) (hn : args.length ≤ fn.ntmps) (h : vc P an c (envOf args) w (retK P fn R)) : Calls P f args.toArray w fun en w' => ∃ v, en = .returned v ∧ R v w' := by
  refine calls_of_wp hf hb (wp_mono (vc_wp hG hm (N := fn.ntmps) c (envOf args) _ w _ hok ⟨rfl, ?_, ?_⟩ h) fun ex a' w' hq => ?_)
  · simp; omega
  · intro t
    simp only [Array.getD_eq_getD_getElem?, envOf, List.getD_eq_getElem?_getD]
    by_cases ht : t < args.length
    · rw [Array.getElem?_append_left (by simpa using ht)]; simp
    · rw [Array.getElem?_append_right (by simpa using ht)]
      simp only [List.size_toArray]
      rw [Array.getElem?_replicate]
      rw [List.getElem?_eq_none (by omega)]
      split <;> rfl
  · obtain ⟨hp, e', hs', _, hk⟩ := hq
    cases ex with
    | ret =>
      obtain ⟨v, hr, hR⟩ := results_run hs' hk
      exact ⟨hs'.defers, v, hr, v, rfl, hR⟩
    | normal =>
      obtain ⟨v, hr, hR⟩ := results_run hs' hk
      exact ⟨hs'.defers, v, hr, v, rfl, hR⟩
    | panic c => exact (hp c rfl).elim
    | _ => exact hk.elim
theorem IfB.pickT {A B : Prop} (h : IfB true A B) : A := h
theorem IfB.pickF {A B : Prop} (h : IfB false A B) : B := h
attribute [irreducible] IfB
end Go.Proofs.YtlbipbepeeopaaaV
