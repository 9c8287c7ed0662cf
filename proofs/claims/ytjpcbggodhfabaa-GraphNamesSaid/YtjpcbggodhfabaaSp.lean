/- The row, plainly: again and again the least thing that may. -/
import Derived.Test.YtjpcbggodhfabaaU2
set_option linter.unusedVariables false
set_option linter.unusedSimpArgs false
namespace Go.Proofs.Ytjpcbggodhfabaa
open Go Go.Proofs.YtjpcbggodhfabaaV
def Rdy (g : List (List Int)) (out : List Int) (i : Nat) : Prop := (i : Int) ∉ out ∧ ∀ z ∈ g.getD i [], z ∈ out
instance (g : List (List Int)) (out : List Int) (i : Nat) : Decidable (Rdy g out i) := by unfold Rdy; infer_instance
def nxt (g : List (List Int)) (out : List Int) : Option Nat := (List.range g.length).find? fun i => decide (Rdy g out i)
theorem nxt_some {g : List (List Int)} {out : List Int} {i : Nat} : nxt g out = some i ↔ Rdy g out i ∧ i < g.length ∧ ∀ j, j < i → ¬ Rdy g out j := by
  unfold nxt
  rw [List.find?_range_eq_some]
  simp
theorem nxt_none {g : List (List Int)} {out : List Int} : nxt g out = none ↔ ∀ i, i < g.length → ¬ Rdy g out i := by
  unfold nxt
  rw [List.find?_range_eq_none]
  simp
def rowF (g : List (List Int)) : Nat → List Int
  | 0 => []
  | t + 1 => match nxt g (rowF g t) with
    | some i => rowF g t ++ [(i : Int)]
    | none => rowF g t
def srow (g : List (List Int)) : List Int := rowF g g.length
def IsRow (g : List (List Int)) (out : List Int) (t : Nat) : Prop := rowF g t = out ∧ out.length = t
theorem IsRow.nil (g : List (List Int)) : IsRow g [] 0 := ⟨rfl, rfl⟩
theorem IsRow.next {g : List (List Int)} {out : List Int} {t i : Nat} (h : IsRow g out t) (hn : nxt g out = some i) : IsRow g (out ++ [(i : Int)]) (t + 1) := by
  obtain ⟨h1, h2⟩ := h
  refine ⟨?_, by simp [h2]⟩
  rw [rowF, h1, hn]
def mis (out : List Int) (n : Nat) : Nat := (List.range n).countP fun i : Nat => decide ((i : Int) ∉ out)
theorem mis_add {out : List Int} {m : Nat} (hm : (m : Int) ∉ out) (n : Nat) : mis (out ++ [(m : Int)]) n + (if m < n then 1 else 0) = mis out n := by
  induction n with
  | zero => simp [mis]
  | succ n ih =>
    unfold mis at ih ⊢
    rw [List.range_succ, List.countP_append, List.countP_append, List.countP_singleton, List.countP_singleton]
    by_cases e : m = n
    · subst e
      simp only [Nat.lt_irrefl, if_false] at ih
      simp [hm]
      simp at ih
      omega
    · have e1 : decide (((n : Int)) ∉ out ++ [(m : Int)]) = decide ((n : Int) ∉ out) := by
        have : ¬ (n : Int) = (m : Int) := by omega
        simp [this]
      rw [e1]
      by_cases e2 : m < n
      · rw [if_pos e2] at ih; rw [if_pos (show m < n + 1 by omega)]; omega
      · rw [if_neg e2] at ih; rw [if_neg (show ¬ m < n + 1 by omega)]; omega
theorem rowF_mis (g : List (List Int)) (t : Nat) : mis (rowF g t) g.length + (rowF g t).length = g.length := by
  induction t with
  | zero =>
    simp only [rowF, mis, List.length_nil, Nat.add_zero]
    rw [List.countP_eq_length.2 (by simp)]; simp
  | succ t ih =>
    rw [rowF]
    cases hn : nxt g (rowF g t) with
    | none => exact ih
    | some i =>
      obtain ⟨h1, h2, _⟩ := nxt_some.1 hn
      have := mis_add h1.1 g.length
      rw [if_pos h2] at this
      simp only [List.length_append, List.length_singleton]
      omega
theorem rowF_mem {g : List (List Int)} {t : Nat} {z : Int} (h : z ∈ rowF g t) : ∃ k : Nat, z = (k : Int) ∧ k < g.length := by
  induction t with
  | zero => simp [rowF] at h
  | succ t ih =>
    rw [rowF] at h
    cases hn : nxt g (rowF g t) with
    | none => rw [hn] at h; exact ih h
    | some i =>
      rw [hn] at h
      obtain ⟨h1, h2, _⟩ := nxt_some.1 hn
      rcases List.mem_append.1 h with h | h
      · exact ih h
      · exact ⟨i, by simpa using h, h2⟩
theorem IsRow.le {g : List (List Int)} {out : List Int} {t : Nat} (h : IsRow g out t) : t ≤ g.length := by
  have := rowF_mis g t
  rw [h.1, h.2] at this; omega
theorem IsRow.mem {g : List (List Int)} {out : List Int} {t : Nat} (h : IsRow g out t) {z : Int} (hz : z ∈ out) : ∃ k : Nat, z = (k : Int) ∧ k < g.length := rowF_mem (t := t) (by rw [h.1]; exact hz)
theorem rowF_stop {g : List (List Int)} {t : Nat} (h : nxt g (rowF g t) = none) (m : Nat) : rowF g (t + m) = rowF g t := by
  induction m with
  | zero => rfl
  | succ m ih => rw [← Nat.add_assoc, rowF, ih, h]
theorem IsRow.stop {g : List (List Int)} {out : List Int} {t : Nat} (h : IsRow g out t) (hn : nxt g out = none) : srow g = out := by
  have hle := h.le
  have := rowF_stop (g := g) (t := t) (by rw [h.1]; exact hn) (g.length - t)
  rw [show t + (g.length - t) = g.length by omega, h.1] at this
  exact this
theorem IsRow.full {g : List (List Int)} {out : List Int} {t : Nat} (h : IsRow g out t) (ht : g.length ≤ t) : srow g = out := by
  have hle := h.le
  have : t = g.length := by omega
  subst this
  exact h.1
def scode (g : List (List Int)) : Int := if (srow g).length < g.length then 64 else 0
def unr (g : List (List Int)) (out : List Int) (k : Nat) : Nat := (g.getD k []).countP fun z => decide (z ∉ out)
theorem rdy_iff {g : List (List Int)} {out : List Int} {k : Nat} : Rdy g out k ↔ (k : Int) ∉ out ∧ unr g out k = 0 := by
  unfold Rdy unr
  rw [List.countP_eq_zero]
  simp
theorem unr_nil (g : List (List Int)) (k : Nat) : unr g [] k = (g.getD k []).length := by
  unfold unr
  rw [List.countP_eq_length.2 (by simp)]
theorem unr_add {g : List (List Int)} {out : List Int} {m : Int} (hm : m ∉ out) (k : Nat) : unr g (out ++ [m]) k + (g.getD k []).count m = unr g out k := by
  unfold unr
  generalize g.getD k [] = l
  induction l with
  | nil => simp
  | cons a r ih =>
    rw [List.countP_cons, List.countP_cons, List.count_cons]
    by_cases e : a = m
    · subst e; simp [hm]; simp at ih; omega
    · have e1 : decide (a ∉ out ++ [m]) = decide (a ∉ out) := by simp [e]
      rw [e1]
      have e2 : (a == m) = false := by simp [e]
      rw [e2]; simp only [Bool.false_eq_true, if_false]; omega
def Clos (g : List (List Int)) (out : List Int) : Prop := ∀ k : Nat, (k : Int) ∈ out → unr g out k = 0
theorem Clos.next {g : List (List Int)} {out : List Int} {m : Nat} (h : Clos g out) (hr : Rdy g out m) : Clos g (out ++ [(m : Int)]) := by
  intro k hk
  have h1 := unr_add (g := g) hr.1 k
  rcases List.mem_append.1 hk with hk | hk
  · have := h k hk; omega
  · have : k = m := by simp at hk; omega
    subst this
    have := (rdy_iff.1 hr).2; omega
/-- Who is the least of those that may, comes next. -/
theorem nxt_of {g : List (List Int)} {out : List Int} {q : List Int} (hq : ∀ z, z ∈ q ↔ ∃ k : Nat, z = (k : Int) ∧ k < g.length ∧ Rdy g out k) {m : Int} (hm : m ∈ q) (hl : ∀ y ∈ q, m ≤ y) : ∃ k : Nat, m = (k : Int) ∧ k < g.length ∧ Rdy g out k ∧ nxt g out = some k := by
  obtain ⟨k, rfl, hk, hr⟩ := (hq m).1 hm
  refine ⟨k, rfl, hk, hr, nxt_some.2 ⟨hr, hk, fun j hj hrj => ?_⟩⟩
  have := hl j ((hq j).2 ⟨j, rfl, by omega, hrj⟩)
  omega
theorem nxt_empty {g : List (List Int)} {out : List Int} (hq : ∀ z, z ∈ ([] : List Int) ↔ ∃ k : Nat, z = (k : Int) ∧ k < g.length ∧ Rdy g out k) : nxt g out = none :=
  nxt_none.2 fun i hi hr => by have := (hq i).2 ⟨i, rfl, hi, hr⟩; simp at this
open Classical in
noncomputable def sortC (g : List (List Int)) : Int := if May g then scode g else 1
open Classical in
noncomputable def sortL (g : List (List Int)) : List Int := if May g ∧ scode g = 0 then srow g else []
/-- One thing's level meets that of one that it needs. -/
def stp (x : Nat) (lv : List Int) (k : Int) : List Int := if ge lv k.toNat ≥ ge lv x then lv.set x (ge lv k.toNat + 1) else lv
def lvS (g : List (List Int)) (lv : List Int) (x : Nat) : List Int := (g.getD x []).foldl (stp x) lv
def lvF (g : List (List Int)) (row : List Int) : List Int := row.foldl (fun lv z => lvS g lv z.toNat) (List.replicate g.length 0)
open Classical in
noncomputable def levL (g : List (List Int)) : List Int := if May g ∧ scode g = 0 then lvF g (srow g) else []
theorem stp_len (x : Nat) (lv : List Int) (k : Int) : (stp x lv k).length = lv.length := by unfold stp; split <;> simp
theorem foldl_len {f : List Int → Int → List Int} (hf : ∀ lv k, (f lv k).length = lv.length) (l : List Int) : ∀ lv, (l.foldl f lv).length = lv.length := by
  induction l with
  | nil => intro lv; rfl
  | cons a r ih => intro lv; rw [List.foldl_cons, ih, hf]
theorem lvS_len (g : List (List Int)) (lv : List Int) (x : Nat) : (lvS g lv x).length = lv.length := foldl_len (stp_len x) _ _
theorem lvF_len (g : List (List Int)) (row : List Int) : (lvF g row).length = g.length := by
  unfold lvF; rw [foldl_len (fun lv z => lvS_len g lv z.toNat)]; simp
theorem foldl_take {f : List Int → Int → List Int} {l : List Int} {i : Nat} {v : Int} (h : l[i]? = some v) (lv : List Int) : (l.take (i + 1)).foldl f lv = f ((l.take i).foldl f lv) v := by
  rw [List.take_add_one, h]; simp
/-- A level is no more than the steps done. -/
def Bnd (lv : List Int) (c : Nat) : Prop := ∀ k, 0 ≤ ge lv k ∧ ge lv k ≤ (c : Int)
theorem Bnd.stp {lv : List Int} {c x : Nat} {k : Int} (h : Bnd lv c) : Bnd (stp x lv k) (c + 1) := by
  intro j
  unfold Ytjpcbggodhfabaa.stp
  have h1 := h j
  have h2 := h k.toNat
  split
  · by_cases hx : x < lv.length
    · rw [ge_set hx]
      split <;> omega
    · rw [List.set_eq_of_length_le (by omega)]; omega
  · omega
theorem Bnd.mono {lv : List Int} {c d : Nat} (h : Bnd lv c) (hc : c ≤ d) : Bnd lv d := fun k => by have := h k; omega
end Go.Proofs.Ytjpcbggodhfabaa
