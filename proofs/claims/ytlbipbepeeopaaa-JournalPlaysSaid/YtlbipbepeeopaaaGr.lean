/- Groups of writes in memory; a byte of a number. -/
import Derived.Test.YtlbipbepeeopaaaSu
set_option linter.unusedVariables false
set_option linter.unusedSimpArgs false
set_option maxRecDepth 20000
namespace Go.Proofs.Ytlbipbepeeopaaa
open Go Go.Proofs.YtlbipbepeeopaaaV
abbrev Wt := Int × List UInt8
/-- A group of writes: all that it has lies in H. -/
structure Grp (H : Nat → Prop) (w : World) (x : Sl) (l : List Wt) : Prop where
  len : l.length = x.l
  blk : ∀ k, x.blk = some k → H k
  get : ∀ j, (h : j < l.length) → ∃ p s, x.a = some p ∧ LdA w (p.add (j * 2)) 2 #[.int .i64 (l[j]'h).1, .slice s.a s.l s.c] ∧ Has w s 1 (bv (l[j]'h).2) ∧ ∀ k, s.blk = some k → H k
theorem LdA.mod' {F : Nat → Prop} {w w' : World} {a : Addr} {n : Nat} {cs : Array Value} (h : LdA w a n cs) (hm : Frm F w w') (hn : ¬ F a.block) : LdA w' a n cs :=
  ⟨h.1, fun j u hu => hm.cell (h.2 j u hu) (by rw [add_block]; exact hn)⟩
theorem Grp.mod {H F : Nat → Prop} {w w' : World} {x : Sl} {l : List Wt} (h : Grp H w x l) (hm : Frm F w w') (hd : ∀ k, H k → ¬ F k) : Grp H w' x l :=
  ⟨h.len, h.blk, fun j hj => by
    obtain ⟨p, s, h1, h2, h3, h4⟩ := h.get j hj
    exact ⟨p, s, h1, LdA.mod' h2 hm (by rw [add_block]; exact hd _ (h.blk _ (by simp [Sl.blk, h1]))), h3.mod hm (fun k hk => hd k (h4 k hk)), h4⟩⟩
theorem Grp.wide {H H' : Nat → Prop} {w : World} {x : Sl} {l : List Wt} (h : Grp H w x l) (hd : ∀ k, H k → H' k) : Grp H' w x l :=
  ⟨h.len, fun k hk => hd k (h.blk k hk), fun j hj => by
    obtain ⟨p, s, h1, h2, h3, h4⟩ := h.get j hj
    exact ⟨p, s, h1, h2, h3, fun k hk => hd k (h4 k hk)⟩⟩
def u8 (x : Int) : UInt8 := UInt8.ofNat (IntKind.wrap .u8 x).toNat
theorem u8_val (x : Int) : ((u8 x).toNat : Int) = IntKind.wrap .u8 x := by
  have h : IntKind.wrap .u8 x = x % 256 := by simp [IntKind.wrap, IntKind.signed, IntKind.bits]
  unfold u8
  rw [h]
  have h1 : 0 ≤ x % 256 := Int.emod_nonneg _ (by decide)
  have h2 : x % 256 < 256 := Int.emod_lt_of_pos _ (by decide)
  rw [UInt8.toNat_ofNat']
  omega
end Go.Proofs.Ytlbipbepeeopaaa
