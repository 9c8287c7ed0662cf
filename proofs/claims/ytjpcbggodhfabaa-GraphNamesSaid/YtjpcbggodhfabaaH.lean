/- A heap plainly: what up and down do to a list of numbers. -/
import Derived.Test.YtjpcbggodhfabaaU
set_option linter.unusedVariables false
set_option linter.unusedSimpArgs false
namespace Go.Proofs.Ytjpcbggodhfabaa
open Go Go.Proofs.YtjpcbggodhfabaaV
def ge (l : List Int) (i : Nat) : Int := l.getD i 0
def sw (l : List Int) (i j : Nat) : List Int := (l.set i (ge l j)).set j (ge l i)
theorem ge_get {l : List Int} {i : Nat} (h : i < l.length) : l[i]? = some (ge l i) := by simp [ge, h]
theorem ge_of {l : List Int} {i : Nat} {v : Int} (h : l[i]? = some v) : ge l i = v := by simp [ge, h]
theorem ge_set {l : List Int} {i : Nat} {v : Int} (hi : i < l.length) (k : Nat) : ge (l.set i v) k = if k = i then v else ge l k := by
  unfold ge
  rw [List.getD_eq_getElem?_getD, List.getD_eq_getElem?_getD]
  by_cases h : k = i
  · subst h; simp [hi]
  · rw [List.getElem?_set_ne (fun e => h e.symm), if_neg h]
theorem sw_len (l : List Int) (i j : Nat) : (sw l i j).length = l.length := by simp [sw]
theorem sw_get {l : List Int} {i j : Nat} (hi : i < l.length) (hj : j < l.length) (k : Nat) : ge (sw l i j) k = if k = j then ge l i else if k = i then ge l j else ge l k := by
  unfold sw
  rw [ge_set (by rw [List.length_set]; exact hj), ge_set hi]
theorem sw_perm {l : List Int} {i j : Nat} (hi : i < l.length) (hj : j < l.length) : (sw l i j).Perm l := by
  have h1 : ge l i = l[i] := by simp [ge, hi]
  have h2 : ge l j = l[j] := by simp [ge, hj]
  unfold sw
  rw [h1, h2]
  exact List.set_set_perm hi hj
/-- No parent is greater than its child. -/
def HP (l : List Int) (n : Nat) : Prop := ∀ i, 0 < i → i < n → ge l ((i - 1) / 2) ≤ ge l i
theorem HP.least {l : List Int} {n : Nat} (h : HP l n) : ∀ i, i < n → ge l 0 ≤ ge l i := by
  intro i
  induction i using Nat.strongRecOn with
  | _ i ih =>
    intro hi
    by_cases h0 : i = 0
    · subst h0; exact Int.le_refl _
    · have h1 := ih ((i - 1) / 2) (by omega) (by omega)
      have h2 := h i (by omega) hi
      omega
structure UpI (l : List Int) (n j : Nat) : Prop where
  a : ∀ i, 0 < i → i < n → i ≠ j → ge l ((i - 1) / 2) ≤ ge l i
  b : ∀ i, 0 < i → i < n → (i - 1) / 2 = j → 0 < j → ge l ((j - 1) / 2) ≤ ge l i
theorem UpI.done0 {l : List Int} {n : Nat} (h : UpI l n 0) : HP l n := fun i h0 hi => h.a i h0 hi (by omega)
theorem UpI.done {l : List Int} {n j : Nat} (h : UpI l n j) (hj : ge l ((j - 1) / 2) ≤ ge l j) : HP l n := fun i h0 hi => by
  by_cases e : i = j
  · subst e; exact hj
  · exact h.a i h0 hi e
theorem UpI.step {l : List Int} {n j : Nat} (h : UpI l n j) (hn : n ≤ l.length) (hj0 : 0 < j) (hj : j < n) (hlt : ge l j < ge l ((j - 1) / 2)) : UpI (sw l ((j - 1) / 2) j) n ((j - 1) / 2) := by
  have hp : (j - 1) / 2 < l.length := by omega
  have hjl : j < l.length := by omega
  constructor
  · intro i h0 hi hne
    rw [sw_get hp hjl, sw_get hp hjl]
    by_cases e : i = j
    · subst e
      rw [if_neg (show (i - 1) / 2 ≠ i by omega), if_pos rfl, if_pos rfl]; omega
    · rw [if_neg e, if_neg hne]
      have hA := h.a i h0 hi e
      by_cases e2 : (i - 1) / 2 = j
      · rw [if_pos e2]; exact h.b i h0 hi e2 hj0
      · rw [if_neg e2]
        by_cases e3 : (i - 1) / 2 = (j - 1) / 2
        · rw [if_pos e3]; rw [e3] at hA; omega
        · rw [if_neg e3]; exact hA
  · intro i h0 hi hq hp0
    rw [sw_get hp hjl, sw_get hp hjl, if_neg (show ((j - 1) / 2 - 1) / 2 ≠ j by omega), if_neg (show ((j - 1) / 2 - 1) / 2 ≠ (j - 1) / 2 by omega)]
    have hB := h.a ((j - 1) / 2) (by omega) (by omega) (by omega)
    by_cases e : i = j
    · rw [if_pos e]; exact hB
    · rw [if_neg e, if_neg (show i ≠ (j - 1) / 2 by omega)]
      have := h.a i h0 hi e
      rw [hq] at this; omega
theorem HP.push {l : List Int} (h : HP l l.length) (x : Int) : UpI (l ++ [x]) (l.length + 1) l.length := by
  have hg : ∀ k, k < l.length → ge (l ++ [x]) k = ge l k := fun k hk => by unfold ge; rw [List.getD_eq_getElem?_getD, List.getD_eq_getElem?_getD, List.getElem?_append_left hk]
  constructor
  · intro i h0 hi hne
    rw [hg _ (by omega), hg _ (by omega)]
    exact h i h0 (by omega)
  · intro i h0 hi hq; omega
structure DnI (l : List Int) (n i : Nat) : Prop where
  a : ∀ k, 0 < k → k < n → (k - 1) / 2 ≠ i → ge l ((k - 1) / 2) ≤ ge l k
  b : ∀ k, 0 < k → k < n → (k - 1) / 2 = i → 0 < i → ge l ((i - 1) / 2) ≤ ge l k
theorem DnI.leaf {l : List Int} {n i : Nat} (h : DnI l n i) (hi : n ≤ 2 * i + 1) : HP l n := fun k h0 hk => h.a k h0 hk (by omega)
theorem DnI.done {l : List Int} {n i : Nat} (h : DnI l n i) (hl : ∀ c, c = 2 * i + 1 ∨ c = 2 * i + 2 → c < n → ge l i ≤ ge l c) : HP l n := fun k h0 hk => by
  by_cases e : (k - 1) / 2 = i
  · rw [e]; exact hl k (by omega) hk
  · exact h.a k h0 hk e
theorem DnI.step {l : List Int} {n i c : Nat} (h : DnI l n i) (hn : n ≤ l.length) (hc : c = 2 * i + 1 ∨ c = 2 * i + 2) (hcn : c < n) (hlt : ge l c < ge l i) (ho : ∀ d, d = 2 * i + 1 ∨ d = 2 * i + 2 → d < n → ge l c ≤ ge l d) : DnI (sw l i c) n c := by
  have hil : i < l.length := by omega
  have hcl : c < l.length := by omega
  have hpc : (c - 1) / 2 = i := by omega
  constructor
  · intro k h0 hk hne
    rw [sw_get hil hcl, sw_get hil hcl]
    by_cases e : (k - 1) / 2 = i
    · rw [e, if_neg (show i ≠ c by omega), if_pos rfl]
      by_cases e2 : k = c
      · rw [if_pos e2]; omega
      · rw [if_neg e2, if_neg (show k ≠ i by omega)]; exact ho k (by omega) hk
    · rw [if_neg hne, if_neg e, if_neg (show k ≠ c by omega)]
      by_cases e2 : k = i
      · subst e2
        rw [if_pos rfl]
        exact h.b c (by omega) hcn hpc h0
      · rw [if_neg e2]; exact h.a k h0 hk e
  · intro k h0 hk hq hc0
    rw [hpc, sw_get hil hcl, sw_get hil hcl, if_neg (show i ≠ c by omega), if_pos rfl, if_neg (show k ≠ c by omega), if_neg (show k ≠ i by omega)]
    have := h.a k h0 hk (by omega)
    rw [hq] at this; exact this
theorem HP.pop {l : List Int} (h : HP l l.length) (h0 : 0 < l.length) : DnI (sw l 0 (l.length - 1)) (l.length - 1) 0 := by
  constructor
  · intro k hk0 hk hne
    rw [sw_get h0 (by omega), sw_get h0 (by omega), if_neg (by omega), if_neg hne, if_neg (by omega), if_neg (by omega)]
    exact h k hk0 (by omega)
  · intro k _ _ _ h; omega
end Go.Proofs.Ytjpcbggodhfabaa
