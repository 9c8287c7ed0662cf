/- What JournalPlays keeps from step to step. -/
import Derived.Test.YtlbipbepeeopaaaGp
import Derived.Lib.Builder
set_option linter.unusedVariables false
set_option linter.unusedSimpArgs false
set_option maxRecDepth 20000
namespace Go.Proofs.Ytlbipbepeeopaaa
open Go Go.Proofs.YtlbipbepeeopaaaV
theorem st22 : SlT prog 22 3 1 8 (.int .i64 0) := ⟨by kernel_rfl, by kernel_rfl, rfl, by decide⟩
/-- A step. -/
structure Stp where
  k : Int
  s : Sl
  bl : List Int
  fl : Int
  odd : Bool
  n : Int
def stc (p : Stp) : List Value := [.int .u8 p.k, .slice p.s.a p.s.l p.s.c, .int .u8 p.fl, .bool p.odd, .int .i64 p.n]
structure OkS (w : World) (p : Stp) : Prop where
  has : HasL w p.s 1 (fun n : Int => [Value.int .i64 n]) p.bl
  rng : ∀ a ∈ p.bl, -9223372036854775808 ≤ a ∧ a ≤ 9223372036854775807
  lc : p.s.l ≤ p.s.c
  big : p.s.c * 8 ≤ 140737488351232
theorem op5i (w : World) : Opens prog w 5 (fun n : Int => [.int .u8 n]) (fun _ => True) := (opens_int (by kernel_rfl)).map (fun n => n) fun n h => ⟨rfl, trivial⟩
theorem op51 (w : World) : Opens prog w 51 stc (OkS w) :=
  (opens_struct Try.underlying51 (by kernel_rfl) (opensF_cons (o := 0) (sz := 1) rfl (by kernel_rfl) (op5i w) (opensF_cons (o := 1) (sz := 1) rfl (by kernel_rfl) (op22 w) (opensF_cons (o := 2) (sz := 1) rfl (by kernel_rfl) (op5i w)
    (opensF_cons (o := 3) (sz := 1) rfl (by kernel_rfl) (opens_bool (by kernel_rfl)) (opensF_cons (o := 4) (sz := 1) rfl (by kernel_rfl) (op3 w) opensF_nil)))))).map
    (fun p => ⟨p.1, p.2.1.1, p.2.1.2, p.2.2.1, p.2.2.2.1, p.2.2.2.2.1⟩) fun p hp => ⟨rfl, hp.2.1.1, hp.2.1.2.1, hp.2.1.2.2.1, hp.2.1.2.2.2.2⟩
theorem op48 (w : World) : Opens prog w 48 (fun p : Sl × List Stp => [.slice p.1.a p.1.l p.1.c]) (fun p => HasL w p.1 5 stc p.2 ∧ (∀ a ∈ p.2, OkS w a)) :=
  (opens_slice (sz := 5) (bytes := 48) Try.underlying48 (by kernel_rfl) (by kernel_rfl) (op51 w)).map (fun p => p) fun p hp => ⟨rfl, hp.1, hp.2.1⟩
theorem b51 (s : Sl) (f : Int) (o : Bool) : BuildIs prog 51 #[(1, .slice s.a s.l s.c), (2, .int .u8 f), (3, .bool o)] #[.int .u8 0, .slice s.a s.l s.c, .int .u8 f, .bool o, .int .i64 0] := fun w => by kernel_rfl
theorem OkS.iv {w : World} {p : Stp} (h : OkS w p) : Has w p.s 1 (iv p.bl) := h.has.one
theorem OkS.len {w : World} {p : Stp} (h : OkS w p) : p.bl.length = p.s.l := h.has.len
/-- How many blocks steps have, all in all. -/
def lensN (l : List Stp) : Nat := (l.map (·.s.l)).sum
theorem lensN_cons (a : Stp) (r : List Stp) : lensN (a :: r) = a.s.l + lensN r := by simp [lensN]
theorem lensN_take {l : List Stp} {j : Nat} (hj : j < l.length) : lensN (l.take (j + 1)) = lensN (l.take j) + (l[j]'hj).s.l := by
  unfold lensN
  rw [← List.take_append_getElem hj, List.map_append, List.sum_append]
  simp only [List.map_cons, List.map_nil, List.sum_cons, List.sum_nil, Nat.add_zero]
theorem lensN_drop {l : List Stp} {j : Nat} (hj : j < l.length) : lensN (l.drop j) = (l[j]'hj).s.l + lensN (l.drop (j + 1)) := by
  rw [List.drop_eq_getElem_cons hj, lensN_cons]
theorem lensN_mem {l : List Stp} {a : Stp} (h : a ∈ l) : a.s.l ≤ lensN l := by
  induction l with
  | nil => simp at h
  | cons x r ih =>
    rw [lensN_cons]
    rcases List.mem_cons.1 h with rfl | h
    · omega
    · have := ih h; omega
theorem lensN_le {l : List Stp} {M : Nat} (h : ∀ a ∈ l, a.s.l ≤ M) : lensN l ≤ l.length * M := by
  induction l with
  | nil => simp [lensN]
  | cons x r ih =>
    rw [lensN_cons, List.length_cons, Nat.add_mul, Nat.one_mul]
    have := h x (by simp)
    have := ih (fun a ha => h a (by simp [ha]))
    omega
theorem newBad_calls (w : World) (n : Int) (h : n < 512 ∨ n > 32768) : Calls prog 18 #[.int .i64 n] w fun e w' => e = .returned (.tuple #[.pointer none, .int .i64 1]) ∧ w = w' := by
  refine calls_ret (W18 (Q := fun v w' => v = .tuple #[.pointer none, .int .i64 1] ∧ w = w') ?_) (fun v w' ⟨h, h'⟩ => ⟨by rw [h], h'⟩)
  unfold F18
  refine IfB.intro (fun _ => ⟨rfl, rfl⟩) (fun h1 => ?_)
  have h1 := of_decide_eq_false h1
  exact IfB.t (decide_eq_true (by omega)) ⟨rfl, rfl⟩
theorem JrQ.modB {G F : Nat → Prop} {w w' : World} {y x : Option Addr} {d : Dk} (h : JrQ G w y x d) (hm : Frm F w w') (hG : ∀ k, G k → ¬ F k) (hy : ∀ b, y = some ⟨b, 0, none⟩ → ¬ F b) : JrQ G w' y x d := by
  obtain ⟨b, rfl, hB, hGb, hd⟩ := h
  exact ⟨b, rfl, hB.mod hm (hy b rfl), hGb, hd.mod hm hG⟩
theorem JrQ.ylt {G : Nat → Prop} {w : World} {y x : Option Addr} {d : Dk} (h : JrQ G w y x d) : ∀ b, y = some ⟨b, 0, none⟩ → b < w.heap.size := by
  obtain ⟨b, rfl, hB, _⟩ := h
  intro c hc
  cases hc
  exact hB.lt
theorem Ses.modB {n lo hi : Nat} {F : Nat → Prop} {w w' : World} {y x : Option Addr} {d : Dk} {f : Int → List UInt8} (h : Ses n lo hi w y x d f) (hm : Frm F w w') (hG : ∀ k, Rg lo hi k → ¬ F k) (hy : ∀ b, y = some ⟨b, 0, none⟩ → ¬ F b) : Ses n lo hi w' y x d f :=
  ⟨h.jr.modB hm hG hy, Nat.le_trans h.hi hm.size, h.live, h.zero, h.len, h.is⟩
theorem Ses.congr {n lo hi : Nat} {w : World} {y x : Option Addr} {d : Dk} {f g : Int → List UInt8} (h : Ses n lo hi w y x d f) (hg : EqP n f g) : Ses n lo hi w y x d g := ⟨h.jr, h.hi, h.live, h.zero, h.len, h.is.trans hg⟩
/-- The documents, and the row of the named blocks. -/
structure Env (N : Nat) (nS : Sl) (nm : List Int) (lo hi : Nat) (w : World) (z1 z2 : Option Addr) (f f' : Int → List UInt8) : Prop where
  d1 : DocP N (Rg lo hi) w z1 f
  d2 : DocP N (Rg lo hi) w z2 f'
  row : Row w nS 3 1 (iv nm)
  rb : ∀ k, nS.blk = some k → ¬ Rg lo hi k
theorem Env.mod {N : Nat} {nS : Sl} {nm : List Int} {lo hi : Nat} {F : Nat → Prop} {w w' : World} {z1 z2 : Option Addr} {f f' : Int → List UInt8} (h : Env N nS nm lo hi w z1 z2 f f') (hm : Frm F w w') (hF : ∀ k, k < w.heap.size → F k → Rg lo hi k) : Env N nS nm lo hi w' z1 z2 f f' :=
  ⟨h.d1.mod hm hF, h.d2.mod hm hF, h.row.mod hm (fun k hk hf => h.rb k hk (hF k (h.row.lt k hk) hf)), h.rb⟩
theorem Env.modN {N : Nat} {nS : Sl} {nm : List Int} {lo hi : Nat} {w w' : World} {z1 z2 : Option Addr} {f f' : Int → List UInt8} (h : Env N nS nm lo hi w z1 z2 f f') (hm : Frm none_ w w') : Env N nS nm lo hi w' z1 z2 f f' := h.mod hm (fun _ _ h => h.elim)
theorem Env.region {N : Nat} {nS : Sl} {nm : List Int} {lo hi lo' hi' : Nat} {w : World} {z1 z2 : Option Addr} {f f' : Int → List UInt8} (h : Env N nS nm lo hi w z1 z2 f f') (hR : ∀ k, k < w.heap.size → ¬ Rg lo' hi' k) : Env N nS nm lo' hi' w z1 z2 f f' :=
  ⟨h.d1.region hR, h.d2.region hR, h.row, fun k hk => hR k (h.row.lt k hk)⟩
/-- A journal over some dead disk. -/
def DeadJ (w : World) (y : Option Addr) : Prop := ∃ lo hi x d, JrQ (Rg lo hi) w y x d ∧ hi ≤ w.heap.size ∧ d.dead = true
theorem DeadJ.mod {F : Nat → Prop} {w w' : World} {y : Option Addr} (h : DeadJ w y) (hm : Frm F w w') (hF : ∀ k, k < w.heap.size → ¬ F k) : DeadJ w' y := by
  obtain ⟨lo, hi, x, d, hj, hh, hd⟩ := h
  exact ⟨lo, hi, x, d, hj.mod hm hF, Nat.le_trans hh hm.size, hd⟩
theorem DeadJ.modN {w w' : World} {y : Option Addr} (h : DeadJ w y) (hm : Frm none_ w w') : DeadJ w' y := h.mod hm (fun _ _ h => h)
/-- The disk in hand is dead, and stands for one of two documents. -/
structure Gone (N : Nat) (nm : List Int) (lo hi : Nat) (w : World) (x y : Option Addr) (d : Dk) (f f' : Int → List UInt8) : Prop where
  dk : DkQ (Rg lo hi) w x d
  hi : hi ≤ w.heap.size
  dead : d.dead = true
  len : d.bl.length = N
  st : ∃ g, (g = f ∨ g = f') ∧ Stand d g
  out : ∀ i, i ∉ nm → f' i = f i
  dj : DeadJ w y
theorem Gone.modN {N : Nat} {nm : List Int} {lo hi : Nat} {w w' : World} {x y : Option Addr} {d : Dk} {f f' : Int → List UInt8} (h : Gone N nm lo hi w x y d f f') (hm : Frm none_ w w') : Gone N nm lo hi w' x y d f f' :=
  ⟨h.dk.mod hm (fun _ _ h => h), Nat.le_trans h.hi hm.size, h.dead, h.len, h.st, h.out, h.dj.modN hm⟩
/-- What is kept from step to step. -/
def St (N : Nat) (nS : Sl) (nm : List Int) (W : World) (j : Nat) (w : World) (x y z1 z2 : Option Addr) : Prop :=
  ∃ f f' lo hi d, Env N nS nm lo hi w z1 z2 f f' ∧ W.heap.size ≤ lo ∧ d.wr ≤ 900 * j ∧ ((Ses N lo hi w y x d f ∧ f' = f) ∨ Gone N nm lo hi w x y d f f')
theorem St.modN {N : Nat} {nS : Sl} {nm : List Int} {W : World} {j : Nat} {w w' : World} {x y z1 z2 : Option Addr} (h : St N nS nm W j w x y z1 z2) (hm : Frm none_ w w') : St N nS nm W j w' x y z1 z2 := by
  obtain ⟨f, f', lo, hi, d, hE, hlo, hwr, hc⟩ := h
  exact ⟨f, f', lo, hi, d, hE.modN hm, hlo, hwr, hc.imp (fun h => ⟨h.1.modN hm, h.2⟩) (fun h => h.modN hm)⟩
theorem St.up {N : Nat} {nS : Sl} {nm : List Int} {W : World} {j j' : Nat} {w : World} {x y z1 z2 : Option Addr} (h : St N nS nm W j w x y z1 z2) (hj : j ≤ j') : St N nS nm W j' w x y z1 z2 := by
  obtain ⟨f, f', lo, hi, d, hE, hlo, hwr, hc⟩ := h
  exact ⟨f, f', lo, hi, d, hE, hlo, by omega, hc⟩
/-! ### Data written over -/
def D1 (es : List (Wt × Sl)) : Nat → Prop := fun k => ∃ q ∈ es, q.2.blk = some k
structure Apt (t1 t2 : Sl) (es1 es2 : List (Wt × Sl)) : Prop where
  pw : es1.Pairwise fun a b => ∀ k, a.2.blk = some k → b.2.blk ≠ some k
  a1 : ∀ q ∈ es1, ∀ k, q.2.blk = some k → t1.blk ≠ some k ∧ t2.blk ≠ some k ∧ ∀ r ∈ es2, r.2.blk ≠ some k
theorem Two.apt {B : Nat} {w : World} {t1 t2 : Sl} {es1 es2 : List (Wt × Sl)} (h : Two B w t1 t2 es1 es2) : Apt t1 t2 es1 es2 :=
  ⟨h.pw, fun q hq k hk => ⟨((h.g1.dat q hq).2 k hk).2.2, fun h2 => h.c2 k h2 q hq hk, h.c3 q hq k hk⟩⟩
structure Ov (w0 : World) (B : Nat) (t1 t2 : Sl) (es1 es2 : List (Wt × Sl)) (k : Nat) (w : World) : Prop where
  row : Row w t1 30 2 (es1.flatMap gdec)
  rest : ∀ i, (h : i < es1.length) → k ≤ i → Row w (es1[i]'h).2 5 1 (bv (es1[i]'h).1.2)
  g2 : GrpR 58 B w t2 es2
  fr : Frm (D1 es1) w0 w
theorem Two.ov {B : Nat} {w : World} {t1 t2 : Sl} {es1 es2 : List (Wt × Sl)} (h : Two B w t1 t2 es1 es2) : Ov w B t1 t2 es1 es2 0 w :=
  ⟨h.g1.row, fun i hi _ => h.rows _ (List.getElem_mem hi), h.g2, Frm.refl _ _⟩
theorem Ov.next {w0 : World} {B : Nat} {t1 t2 : Sl} {es1 es2 : List (Wt × Sl)} {k : Nat} {w : World} (h : Ov w0 B t1 t2 es1 es2 k w) : Ov w0 B t1 t2 es1 es2 (k + 1) w :=
  ⟨h.row, fun i hi hk => h.rest i hi (by omega), h.g2, h.fr⟩
theorem Ov.modN {w0 : World} {B : Nat} {t1 t2 : Sl} {es1 es2 : List (Wt × Sl)} {k : Nat} {w w' : World} (h : Ov w0 B t1 t2 es1 es2 k w) (hm : Frm none_ w w') : Ov w0 B t1 t2 es1 es2 k w' :=
  ⟨h.row.mod hm (fun _ _ h => h), fun i hi hk => (h.rest i hi hk).mod hm (fun _ _ h => h), h.g2.mod hm (fun _ _ _ h => h), h.fr.trans hm (fun _ _ h => h) (fun _ _ h => h.elim)⟩
theorem Ov.turn {w0 : World} {B : Nat} {t1 t2 : Sl} {es1 es2 : List (Wt × Sl)} {k : Nat} {w w' : World} (h : Ov w0 B t1 t2 es1 es2 (k + 1) w) (ha : Apt t1 t2 es1 es2) (hk : k < es1.length) {g : Nat} (hg : (es1[k]'hk).2.blk = some g) (hm : Frm (fun b => b = g) w w') : Ov w0 B t1 t2 es1 es2 (k + 1) w' := by
  have hq := List.getElem_mem hk
  have h1 := ha.a1 _ hq g hg
  refine ⟨h.row.mod hm ?_, fun i hi hki => (h.rest i hi hki).mod hm ?_, h.g2.modA hm ?_ ?_, h.fr.trans hm (fun _ _ h => h) (fun b _ hb => ⟨_, hq, by rw [hb]; exact hg⟩)⟩
  · rintro b hb rfl; exact h1.1 hb
  · rintro b hb rfl
    exact List.pairwise_iff_getElem.1 ha.pw k i hk hi (by omega) b hg hb
  · rintro b hb rfl; exact h1.2.1 hb
  · rintro q hq b hb rfl; exact h1.2.2 q hq hb
end Go.Proofs.Ytlbipbepeeopaaa
