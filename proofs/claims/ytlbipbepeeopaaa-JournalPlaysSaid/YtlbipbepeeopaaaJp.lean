/- apply: a group's blocks at their places, the head taken out. -/
import Derived.Test.YtlbipbepeeopaaaJr
set_option linter.unusedVariables false
set_option linter.unusedSimpArgs false
set_option maxRecDepth 20000
namespace Go.Proofs.Ytlbipbepeeopaaa
open Go Go.Proofs.YtlbipbepeeopaaaV
def writesD : List Wt → Dk → Int × Dk
  | [], d => (0, d)
  | p :: r, d => if (writeD p.1 p.2 d).1 ≠ 0 then writeD p.1 p.2 d else writesD r (writeD p.1 p.2 d).2
def applyD (l : List Wt) (d : Dk) : Int × Dk := if (writesD l d).1 ≠ 0 then writesD l d else writeD 1 zeroB (writesD l d).2
theorem writesD_append (a b : List Wt) (d : Dk) : writesD (a ++ b) d = if (writesD a d).1 ≠ 0 then writesD a d else writesD b (writesD a d).2 := by
  induction a generalizing d with
  | nil => simp [writesD]
  | cons p r ih =>
    rw [List.cons_append, writesD, writesD]
    by_cases h : (writeD p.1 p.2 d).1 ≠ 0
    · rw [if_pos h, if_pos h, if_pos h]
    · rw [if_neg h, if_neg h, ih]
theorem writesD_one (p : Wt) (d : Dk) : writesD [p] d = writeD p.1 p.2 d := by
  rw [writesD, writesD]
  by_cases h : (writeD p.1 p.2 d).1 ≠ 0
  · rw [if_pos h]
  · rw [if_neg h]
    have : (writeD p.1 p.2 d).1 = 0 := Decidable.not_not.1 h
    rw [← this]
theorem writesD_step (l : List Wt) (j : Nat) (hj : j < l.length) (d : Dk) (h : (writesD (l.take j) d).1 = 0) : writesD (l.take (j + 1)) d = writeD (l[j]'hj).1 (l[j]'hj).2 (writesD (l.take j) d).2 := by
  rw [← List.take_append_getElem hj, writesD_append, if_neg (by rw [h]; simp), writesD_one]
theorem writeD_wr (i : Int) (b : List UInt8) (d : Dk) : (writeD i b d).2.wr ≤ d.wr + 1 := by
  unfold writeD
  repeat' split
  all_goals simp
theorem writesD_wr (l : List Wt) (d : Dk) : (writesD l d).2.wr ≤ d.wr + l.length := by
  induction l generalizing d with
  | nil => simp [writesD]
  | cons p r ih =>
    rw [writesD]
    have := writeD_wr p.1 p.2 d
    have h2 := ih (writeD p.1 p.2 d).2
    rw [List.length_cons]
    split <;> omega
/-- What failed among the first j failed among all. -/
theorem writesD_stop (l : List Wt) (j : Nat) (d : Dk) (h : (writesD (l.take j) d).1 ≠ 0) : writesD l d = writesD (l.take j) d := by
  have := writesD_append (l.take j) (l.drop j) d
  rw [List.take_append_drop] at this
  rw [this, if_pos h]
theorem apply_calls (G H : Nat → Prop) (w : World) (y x : Option Addr) (d : Dk) (s : Sl) (l : List Wt) (hg : Grp H w s l) (hGH : ∀ k, H k → ¬ G k) (hi : ∀ p ∈ l, -9223372036854775808 ≤ p.1 ∧ p.1 ≤ 9223372036854775807)
    (hn : l.length ≤ 120) (h : JrQ G w y x d) (hGw : ∀ k, G k → k < w.heap.size) (hwr : d.wr + l.length < 1000000) :
    Calls prog 31 #[.pointer y, .slice s.a s.l s.c] w fun e w' => e = .returned (.int .i64 (applyD l d).1) ∧ JrQ G w' y x (applyD l d).2 ∧ Frm G w w' := by
  refine calls_ret (W31 (Q := fun v w' => v = .int .i64 (applyD l d).1 ∧ JrQ G w' y x (applyD l d).2 ∧ Frm G w w') ?_) (fun v w' ⟨h, h'⟩ => ⟨by rw [h], h'⟩)
  unfold F31
  have hsl := hg.len
  refine ⟨fun n i w1 => ∃ j : Nat, i = (j : Int) ∧ j ≤ l.length ∧ n = l.length - j ∧ (writesD (l.take j) d).1 = 0 ∧ JrQ G w1 y x (writesD (l.take j) d).2 ∧ Frm G w w1, l.length, ⟨0, rfl, by omega, by omega, rfl, h, Frm.refl _ _⟩, ?_⟩
  rintro n u i w1 ⟨j, rfl, hj, rfl, hz, hJ, hF⟩
  have hw := writesD_wr (l.take j) d
  rw [List.length_take] at hw
  refine IfB.intro (fun h1 => ?_) (fun h1 => ?_)
  · have h1 := of_decide_eq_true h1
    have hj' : j < l.length := by omega
    obtain ⟨p, t, hp, hld, hhas, htb⟩ := (hg.mod hF hGH).get j hj'
    refine ⟨p, hp, by omega, by omega, _, by rw [Int.toNat_natCast]; exact hld, ?_⟩
    intro b6 w2 hnb
    have hm2 := hnb.mod none_
    have hb6 : b6 = w1.heap.size := hnb.b
    obtain ⟨hwr3, hB, hFB⟩ := hnb.blk.whole (vs := #[.int .i64 (l[j]'hj').1, .slice t.a t.l t.c]) rfl
    refine ⟨rfl, ?_, hwr3, ?_⟩
    · intro v hv
      simp only [List.mem_cons, List.not_mem_nil, or_false] at hv
      rcases hv with rfl | rfl <;> rfl
    intro w3 hw3
    rw [← hw3] at hB hFB
    have hF3 : Frm none_ w1 w3 := hm2.trans hFB (fun _ _ h => h) (fun k hk he => by have he : k = b6 := he; omega)
    have hF3d : Frm none_ w1 w3.drew := ⟨hF3.os, hF3.tape, hF3.output, hF3.size, hF3.same⟩
    have hJ3 := hJ.mod hF3d (fun _ _ h => h)
    have hJ3' := hJ3
    obtain ⟨b, hy, hBj, hGb, hdk⟩ := hJ3
    subst hy
    refine ⟨fun w' => w' = w3.drew, rfl, _, rfl, x, ?_, (l[j]'hj').1, ?_, t, ?_, ?_⟩
    · rintro _ rfl; rw [addr_add]; exact hBj.ld rfl
    · rintro _ rfl; rw [addr_add]; exact hB.drew.ld rfl
    · rintro _ rfl; rw [addr_add]; exact hB.drew.ld rfl
    have hmem := List.getElem_mem hj'
    refine (write_calls G w3.drew x _ (l[j]'hj').1 t (l[j]'hj').2 (hi _ hmem) (hhas.mod hF3d (fun _ _ h => h)) (fun k hk => hGH k (htb k hk)) hdk (by omega)).mono ?_
    rintro _ w4 ⟨rfl, hd4, hf4⟩
    rw [← writesD_step l j hj' d hz] at hd4 ⊢
    have hJ4 := hJ3'.turn hf4 hd4
    have hF4 : Frm G w w4 := (hF.trans hF3d (fun _ _ h => h) (fun _ _ h => h.elim)).trans hf4 (fun _ _ h => h) (fun _ _ h => h)
    refine ⟨_, rfl, IfB.intro (fun h2 => ?_) (fun h2 => ?_)⟩
    · have h2 := bne_iff_ne.1 h2
      have e := writesD_stop l (j + 1) d h2
      have e2 : applyD l d = writesD (l.take (j + 1)) d := by unfold applyD; rw [e, if_pos h2]
      rw [e2]
      exact ⟨rfl, hJ4, hF4⟩
    · have h2 := bne_eq_false_iff_eq.1 h2
      exact ⟨l.length - (j + 1), by omega, j + 1, by rw [wi _ (by omega)]; omega, by omega, rfl, h2, hJ4, hF4⟩
  · have h1 := of_decide_eq_false h1
    have hj' : j = l.length := by omega
    subst hj'
    rw [List.take_length] at hz hJ hw
    have e2 : applyD l d = writeD 1 zeroB (writesD l d).2 := by unfold applyD; rw [if_neg (by rw [hz]; simp)]
    rw [e2]
    have hJd : JrQ G w1.drew y x (writesD l d).2 := hJ.mod (F := none_) ⟨rfl, rfl, rfl, Nat.le_refl _, fun _ _ _ => rfl⟩ (fun _ _ h => h)
    have hFd : Frm G w w1.drew := ⟨hF.os, hF.tape, hF.output, hF.size, hF.same⟩
    obtain ⟨b, rfl, hBj, hGb, hdk⟩ := hJd
    refine ⟨fun w' => Ld w' ⟨b, 0, none⟩ (.pointer x), hBj.ld rfl, _, rfl, x, fun w' hw' => by rw [addr_add]; exact hw', ?_⟩
    refine runT_makeN st31 (by omega) (by omega) (by omega) ?_
    intro t w2 hr hl hc ha hm hs
    have hz0 : (madeCells (Value.int IntKind.u8 0).cells ((256 : Int).toNat * 1)).toList = bv zeroB := by
      rw [made_const (v := .int .u8 0) (by intro i hi; simp [Value.cells] at hi; subst hi; rfl) (by simp [Value.cells]), bv_zeroB]
      rfl
    rw [hz0] at hr
    have hbk : t.blk = some w1.drew.heap.size := by simp [Sl.blk, ha]
    have hB2 := hBj.mod hm (fun h => h)
    refine ⟨hB2.ld rfl, ?_⟩
    have hJ2 : JrQ G w2 (some ⟨b, 0, none⟩) x (writesD l d).2 := ⟨b, rfl, hB2, hGb, hdk.mod hm (fun _ _ h => h)⟩
    refine (write_calls G w2 x _ 1 t zeroB (by omega) hr.has (fun k hk hGk => ?_) hJ2.dk (by omega)).mono ?_
    · rw [hbk] at hk; cases hk
      have := hGw _ hGk
      have := hFd.size
      omega
    · rintro _ w3 ⟨rfl, hd3, hf3⟩
      exact ⟨_, rfl, rfl, hJ2.turn hf3 hd3, (hFd.trans hm (fun _ _ h => h) (fun _ _ h => h.elim)).trans hf3 (fun _ _ h => h) (fun _ _ h => h)⟩
end Go.Proofs.Ytlbipbepeeopaaa
