/- The sum of bytes: summer's two functions over one cell. -/
import Derived.Test.YtlbipbepeeopaaaC
import Derived.Test.YtlbipbepeeopaaaG
set_option linter.unusedVariables false
set_option linter.unusedSimpArgs false
set_option maxRecDepth 20000
namespace Go.Proofs.Ytlbipbepeeopaaa
open Go Go.Proofs.YtlbipbepeeopaaaV
theorem callV_fn {f : FuncId} {first captured args : Array Value} {w : World} {R : Value → World → Prop} (hb : hasBody prog f = true)
    (h : Calls prog f ((first ++ args) ++ captured) w fun en w' => ∃ v, en = .returned v ∧ R v w') : CallV prog (.func (.func f) first captured) args w R := by
  unfold CallV
  simp only [hb]
  exact h
def fnv1 (h : Int) (b : UInt8) : Int := IntKind.wrap .u64 ((bitsI .xor .u64 h (IntKind.wrap .u64 (b.toNat : Int))) * (1099511628211 : Int))
def fnv (h : Int) (l : List UInt8) : Int := l.foldl fnv1 h
def fnv0 : Int := 14695981039346656037
theorem fnv_append (h : Int) (a b : List UInt8) : fnv h (a ++ b) = fnv (fnv h a) b := List.foldl_append
theorem add_calls (w : World) (b : Nat) (h : Int) (s : Sl) (bs : List UInt8) (hb : Blk w b #[.int .u64 h] 85) (hs : Has w s 1 (bv bs)) (hne : ∀ k, s.blk = some k → k ≠ b) (hsz : bs.length ≤ 1000000) :
    Calls prog 41 #[.slice s.a s.l s.c, .pointer (some ⟨b, 0, none⟩)] w fun e w' => e = .returned (.tuple #[]) ∧ Blk w' b #[.int .u64 (fnv h bs)] 85 ∧ Frm (fun k => k = b) w w' := by
  refine calls_ret (W41 (Q := fun v w' => v = .tuple #[] ∧ Blk w' b #[.int .u64 (fnv h bs)] 85 ∧ Frm (fun k => k = b) w w') ?_) (fun v w' ⟨h, h'⟩ => ⟨by rw [h], h'⟩)
  unfold F41
  have hl := hs.len
  rw [bv_length] at hl
  refine ⟨fun n i w1 => ∃ j : Nat, i = (j : Int) ∧ j ≤ bs.length ∧ n = bs.length - j ∧ Blk w1 b #[.int .u64 (fnv h (bs.take j))] 85 ∧ Frm (fun k => k = b) w w1, bs.length, ⟨0, rfl, by omega, by omega, by rw [List.take_zero]; exact hb, Frm.refl _ _⟩, ?_⟩
  rintro n u i w1 ⟨j, rfl, hj, rfl, hB, hF⟩
  refine IfB.intro (fun h1 => ?_) (fun h1 => ?_)
  · have h1 := of_decide_eq_true h1
    have hj' : j < bs.length := by omega
    have hs1 := hs.mod hF (fun k hk he => hne k hk he)
    obtain ⟨p, hp, hld⟩ := hs1.ex (j := j) (by rw [bv_length]; exact hj')
    have e : (bv bs)[j]'(by rw [bv_length]; exact hj') = .int .u8 ((bs[j]'hj').toNat : Int) := by simp [bv]
    rw [e] at hld
    refine ⟨p, hp, by omega, by omega, _, by rw [Int.toNat_natCast, Nat.mul_one]; exact hld, _, hB.ld rfl, hB.wr (show 0 < 1 by decide), ?_⟩
    rintro w2 rfl
    refine ⟨bs.length - (j + 1), by omega, j + 1, by rw [wi _ (by omega)]; omega, by omega, rfl, ?_, hF.trans mod_setCell (fun _ _ h => h) (fun _ _ h => h)⟩
    have e2 : fnv h (bs.take (j + 1)) = fnv1 (fnv h (bs.take j)) (bs[j]'hj') := by
      rw [← List.take_append_getElem hj', fnv_append]; rfl
    rw [e2]
    exact hB.set 0 _
  · have h1 := of_decide_eq_false h1
    have hj' : j = bs.length := by omega
    subst hj'
    rw [List.take_length] at hB
    exact ⟨rfl, hB, hF⟩
theorem sum_calls (w : World) (b : Nat) (h : Int) (hb : Blk w b #[.int .u64 h] 85) : Calls prog 42 #[.pointer (some ⟨b, 0, none⟩)] w fun e w' => e = .returned (.int .u64 h) ∧ w = w' := by
  refine calls_ret (W42 (Q := fun v w' => v = .int .u64 h ∧ w = w') ?_) (fun v w' ⟨h, h'⟩ => ⟨by rw [h], h'⟩)
  unfold F42
  exact ⟨_, hb.ld rfl, rfl, rfl⟩
def addV (b : Nat) : Value := .func (.func 41) #[] #[.pointer (some ⟨b, 0, none⟩)]
def sumV (b : Nat) : Value := .func (.func 42) #[] #[.pointer (some ⟨b, 0, none⟩)]
theorem addV_calls (w : World) (b : Nat) (h : Int) (s : Sl) (bs : List UInt8) (hb : Blk w b #[.int .u64 h] 85) (hs : Has w s 1 (bv bs)) (hne : ∀ k, s.blk = some k → k ≠ b) (hsz : bs.length ≤ 1000000) {R : Value → World → Prop}
    (hk : ∀ w', Blk w' b #[.int .u64 (fnv h bs)] 85 → Frm (fun k => k = b) w w' → R (.tuple #[]) w') : CallV prog (addV b) #[.slice s.a s.l s.c] w R := by
  refine callV_fn (by kernel_rfl) ((add_calls w b h s bs hb hs hne hsz).mono ?_)
  rintro _ w' ⟨rfl, h1, h2⟩
  exact ⟨_, rfl, hk w' h1 h2⟩
theorem sumV_calls (w : World) (b : Nat) (h : Int) (hb : Blk w b #[.int .u64 h] 85) {R : Value → World → Prop} (hk : R (.int .u64 h) w) : CallV prog (sumV b) #[] w R := by
  refine callV_fn (by kernel_rfl) ((sum_calls w b h hb).mono ?_)
  rintro _ w' ⟨rfl, rfl⟩
  exact ⟨_, rfl, hk⟩
theorem summer_calls (w : World) : Calls prog 39 #[] w fun e w' => e = .returned (.tuple #[addV w.heap.size, sumV w.heap.size]) ∧ Blk w' w.heap.size #[.int .u64 fnv0] 85 ∧ Frm none_ w w' := by
  refine calls_ret (W39 (Q := fun v w' => v = .tuple #[addV w.heap.size, sumV w.heap.size] ∧ Blk w' w.heap.size #[.int .u64 fnv0] 85 ∧ Frm none_ w w') ?_) (fun v w' ⟨h, h'⟩ => ⟨by rw [h], h'⟩)
  unfold F39
  intro b w1 hn
  have hb := hn.blk
  have hm := hn.mod none_
  have hbe : b = w.heap.size := hn.2
  subst hbe
  refine ⟨hb.wr (show 0 < 1 by decide), ?_⟩
  rintro w2 rfl
  refine ⟨rfl, hb.set 0 _, hm.trans mod_setCell (fun _ _ h => h) (fun x hx he => ?_)⟩
  have he : x = w.heap.size := he
  omega
end Go.Proofs.Ytlbipbepeeopaaa
