/- Projects, in plain words: what the calls do to a list of them. -/
import Derived.Test.YthgeacnemojjgaaX
import Derived.Test.YthgeacnemojjgaaG
set_option linter.unusedVariables false
set_option linter.unusedSimpArgs false
set_option maxRecDepth 20000
namespace Go.Proofs.Ythgeacnemojjgaa
open Go Go.Proofs.YthgeacnemojjgaaV
/-! ### Names -/
def blt (a b : ByteArray) : Bool := Op.bytesLess a.data.toList b.data.toList
theorem bl_irrefl : ∀ a : List UInt8, Op.bytesLess a a = false := by
  intro a
  induction a with
  | nil => rfl
  | cons x r ih => simp [Op.bytesLess, ih]
theorem bl_trans : ∀ {a b c : List UInt8}, Op.bytesLess a b = true → Op.bytesLess b c = true → Op.bytesLess a c = true := by
  intro a
  induction a with
  | nil =>
    intro b c h1 h2
    cases c with
    | nil => cases b <;> simp [Op.bytesLess] at h2
    | cons z t => rfl
  | cons x r ih =>
    intro b c h1 h2
    cases b with
    | nil => simp [Op.bytesLess] at h1
    | cons y s =>
      cases c with
      | nil => simp [Op.bytesLess] at h2
      | cons z t =>
        simp only [Op.bytesLess, Bool.or_eq_true, Bool.and_eq_true, decide_eq_true_iff, beq_iff_eq] at h1 h2 ⊢
        rcases h1 with h1 | ⟨rfl, h1⟩
        · rcases h2 with h2 | ⟨rfl, h2⟩
          · left; exact UInt8.lt_trans h1 h2
          · left; exact h1
        · rcases h2 with h2 | ⟨rfl, h2⟩
          · left; exact h2
          · right; exact ⟨rfl, ih h1 h2⟩
theorem bl_tri : ∀ {a b : List UInt8}, Op.bytesLess a b = false → Op.bytesLess b a = false → a = b := by
  intro a
  induction a with
  | nil => intro b h1 h2; cases b with
    | nil => rfl
    | cons y s => simp [Op.bytesLess] at h1
  | cons x r ih => intro b h1 h2; cases b with
    | nil => simp [Op.bytesLess] at h2
    | cons y s =>
      simp only [Op.bytesLess, Bool.or_eq_false_iff, Bool.and_eq_false_iff, decide_eq_false_iff_not, beq_eq_false_iff_ne] at h1 h2
      have hxy : x = y := by
        have h3 : ¬ x.toNat < y.toNat := fun h => h1.1 (UInt8.lt_iff_toNat_lt.2 h)
        have h4 : ¬ y.toNat < x.toNat := fun h => h2.1 (UInt8.lt_iff_toNat_lt.2 h)
        exact UInt8.toNat_inj.1 (by omega)
      subst hxy
      rw [ih (by rcases h1.2 with h | h; exact (h rfl).elim; exact h) (by rcases h2.2 with h | h; exact (h rfl).elim; exact h)]
theorem blt_irrefl (a : ByteArray) : blt a a = false := bl_irrefl _
theorem blt_trans {a b c : ByteArray} (h1 : blt a b = true) (h2 : blt b c = true) : blt a c = true := bl_trans h1 h2
theorem ba_ext {a b : ByteArray} (h : a.data.toList = b.data.toList) : a = b := by rw [← str_list a, ← str_list b, h]
theorem blt_tri {a b : ByteArray} (h1 : blt a b = false) (h2 : blt b a = false) : a = b := ba_ext (bl_tri h1 h2)
theorem blt_ne {a b : ByteArray} (h : blt a b = true) : a ≠ b := by rintro rfl; rw [blt_irrefl] at h; cases h
theorem blt_anti {a b : ByteArray} (h : blt a b = true) : blt b a = false := by
  cases h' : blt b a with
  | false => rfl
  | true => have := blt_trans h h'; rw [blt_irrefl] at this; cases this
/-- A name. -/
def goodP (s : ByteArray) : Prop := 1 ≤ s.size ∧ s.size ≤ 24 ∧ (97 ≤ bt s 0 ∧ bt s 0 ≤ 122) ∧ ∀ i, i < s.size → (97 ≤ bt s (i : Nat) ∧ bt s (i : Nat) ≤ 122) ∨ (48 ≤ bt s (i : Nat) ∧ bt s (i : Nat) ≤ 57) ∨ bt s (i : Nat) = 45 ∨ bt s (i : Nat) = 95
instance (s : ByteArray) : Decidable (goodP s) := by unfold goodP; infer_instance
/-! ### Projects -/
structure Pj where
  n : ByteArray
  sh : Int
  had : Int
  wt : Bool
deriving DecidableEq
def Srt (M : List Pj) : Prop := M.Pairwise fun p q => blt p.n q.n = true
theorem Srt.lt {M : List Pj} (h : Srt M) {i j : Nat} {p q : Pj} (hij : i < j) (hp : M[i]? = some p) (hq : M[j]? = some q) : blt p.n q.n = true := by
  obtain ⟨h1, rfl⟩ := List.getElem?_eq_some_iff.1 hp
  obtain ⟨h2, rfl⟩ := List.getElem?_eq_some_iff.1 hq
  exact List.pairwise_iff_getElem.1 h i j h1 h2 hij
theorem Srt.uniq {M : List Pj} (h : Srt M) {i j : Nat} {p q : Pj} (hp : M[i]? = some p) (hq : M[j]? = some q) (he : p.n = q.n) : i = j := by
  rcases Nat.lt_trichotomy i j with hij | hij | hij
  · exact (blt_ne (h.lt hij hp hq) he).elim
  · exact hij
  · exact (blt_ne (h.lt hij hq hp) he.symm).elim
/-- Where a name stands, or would. -/
def lo (nm : ByteArray) : List Pj → Nat
  | [] => 0
  | p :: r => if blt p.n nm then lo nm r + 1 else 0
theorem lo_le (nm : ByteArray) (M : List Pj) : lo nm M ≤ M.length := by
  induction M with
  | nil => exact Nat.le_refl _
  | cons p r ih => unfold lo; split <;> simp <;> omega
theorem lo_eq {nm : ByteArray} : ∀ {M : List Pj} {k : Nat}, k ≤ M.length → (∀ j p, j < k → M[j]? = some p → blt p.n nm = true) → (∀ p, M[k]? = some p → blt p.n nm = false) → lo nm M = k
  | [], k, hk, _, _ => by simp at hk; subst hk; rfl
  | p :: r, 0, _, _, h2 => by unfold lo; rw [h2 p rfl]; rfl
  | p :: r, k + 1, hk, h1, h2 => by
    unfold lo
    rw [if_pos (h1 0 p (by omega) rfl), lo_eq (k := k) (by simpa using hk) (fun j q hj hq => h1 (j + 1) q (by omega) hq) (fun q hq => h2 q hq)]
theorem lo_below {nm : ByteArray} : ∀ {M : List Pj} {j : Nat} {p : Pj}, j < lo nm M → M[j]? = some p → blt p.n nm = true
  | [], j, p, h, _ => by simp [lo] at h
  | q :: r, j, p, h, hp => by
    unfold lo at h
    split at h
    · rename_i hq
      cases j with
      | zero => cases hp; exact hq
      | succ j => exact lo_below (M := r) (by omega) hp
    · omega
theorem lo_at {nm : ByteArray} : ∀ {M : List Pj} {p : Pj}, M[lo nm M]? = some p → blt p.n nm = false
  | [], p, hp => by cases hp
  | q :: r, p, hp => by
    unfold lo at hp
    split at hp
    · exact lo_at (M := r) hp
    · rename_i hq; cases hp; simpa using hq
def ix (nm : ByteArray) (M : List Pj) : Option Nat := match M[lo nm M]? with
  | some p => if p.n = nm then some (lo nm M) else none
  | none => none
theorem ix_some {nm : ByteArray} {M : List Pj} {i : Nat} (h : ix nm M = some i) : i = lo nm M ∧ ∃ p, M[i]? = some p ∧ p.n = nm := by
  unfold ix at h
  split at h
  · rename_i p hp
    split at h
    · rename_i he; cases h; exact ⟨rfl, p, hp, he⟩
    · cases h
  · cases h
theorem ix_at {M : List Pj} (hs : Srt M) {i : Nat} {p : Pj} (hp : M[i]? = some p) : ix p.n M = some i := by
  have hi := (List.getElem?_eq_some_iff.1 hp).1
  have : lo p.n M = i := lo_eq (by omega) (fun j q hj hq => hs.lt hj hq hp) (fun q hq => by rw [hp] at hq; cases hq; exact blt_irrefl _)
  unfold ix
  rw [this, hp]
  simp
theorem ix_none {nm : ByteArray} {M : List Pj} (hs : Srt M) (h : ix nm M = none) {i : Nat} {p : Pj} (hp : M[i]? = some p) : p.n ≠ nm := by
  rintro rfl
  rw [ix_at hs hp] at h; cases h
theorem ix_mem {nm : ByteArray} {M : List Pj} (hs : Srt M) : (ix nm M).isSome = true ↔ nm ∈ M.map (·.n) := by
  constructor
  · intro h
    obtain ⟨i, hi⟩ := Option.isSome_iff_exists.1 h
    obtain ⟨_, p, hp, rfl⟩ := ix_some hi
    exact List.mem_map.2 ⟨p, List.mem_of_getElem? hp, rfl⟩
  · intro h
    obtain ⟨p, hp, rfl⟩ := List.mem_map.1 h
    obtain ⟨i, hi⟩ := List.mem_iff_getElem?.1 hp
    rw [ix_at hs hi]; rfl
/-- A project's shape. -/
structure OkP (p : Pj) : Prop where
  name : goodP p.n
  s1 : 1 ≤ p.sh
  s2 : p.sh ≤ 1000
  h1 : 0 ≤ p.had
  h2 : p.had ≤ 2147483647
structure OkM (M : List Pj) : Prop where
  n : M.length ≤ 4
  srt : Srt M
  each : ∀ p ∈ M, OkP p
theorem OkM.at {M : List Pj} (h : OkM M) {i : Nat} {p : Pj} (hp : M[i]? = some p) : OkP p := h.each p (List.mem_of_getElem? hp)
def scl (had of sh : Int) : Int := (had * sh + of - 1) / of
theorem scl_spec {had of sh : Int} (ho : 1 ≤ of) : had * sh ≤ scl had of sh * of ∧ (scl had of sh - 1) * of < had * sh := by
  unfold scl
  have h1 := Int.mul_ediv_add_emod (had * sh + of - 1) of
  have h2 := Int.emod_nonneg (had * sh + of - 1) (show of ≠ 0 by omega)
  have h3 := Int.emod_lt_of_pos (had * sh + of - 1) (show 0 < of by omega)
  generalize (had * sh + of - 1) / of = q at *
  generalize (had * sh + of - 1) % of = r at *
  have e : q * of = of * q := Int.mul_comm _ _
  have e2 : (q - 1) * of = q * of - of := by rw [Int.sub_mul, Int.one_mul]
  omega
theorem scl_eq {had of sh n : Int} (ho : 1 ≤ of) (h1 : had * sh ≤ n * of) (h2 : (n - 1) * of < had * sh) : n = scl had of sh := by
  obtain ⟨h3, h4⟩ := scl_spec (had := had) (sh := sh) ho
  have a1 : (n - 1) * of < scl had of sh * of := by omega
  have a2 : (scl had of sh - 1) * of < n * of := by omega
  have b1 := Int.lt_of_mul_lt_mul_right a1 (by omega)
  have b2 := Int.lt_of_mul_lt_mul_right a2 (by omega)
  omega
theorem scl_nonneg {had of sh : Int} (ho : 1 ≤ of) (h : 0 ≤ had * sh) : 0 ≤ scl had of sh := Int.ediv_nonneg (by omega) (by omega)
def setP (nm : ByteArray) (k : Int) (M : List Pj) : Int × List Pj :=
  if ¬ goodP nm then (63, M) else if k < 1 ∨ 1000 < k then (1, M) else
  match ix nm M with
  | some i => match M[i]? with
    | some p => if 2147483647 < scl p.had p.sh k then (70, M) else (0, M.set i { p with sh := k, had := scl p.had p.sh k })
    | none => (0, M)
  | none => if 4 ≤ M.length then (3, M) else (0, M.take (lo nm M) ++ ⟨nm, k, 0, false⟩ :: M.drop (lo nm M))
def dropP (nm : ByteArray) (M : List Pj) : Int × List Pj := match ix nm M with
  | some i => (0, M.eraseIdx i)
  | none => (5, M)
def chgP (nm : ByteArray) (k : Int) (M : List Pj) : Int × List Pj := match ix nm M with
  | some i => if k < 0 then (1, M) else match M[i]? with
    | some p => if 2147483647 - p.had < k then (70, M) else (0, M.set i { p with had := p.had + k })
    | none => (0, M)
  | none => (5, M)
def hadP (nm : ByteArray) (M : List Pj) : Int × Int × Bool := match ix nm M with
  | some i => match M[i]? with
    | some p => (p.sh, p.had, true)
    | none => (0, 0, false)
  | none => (0, 0, false)
def pb (p : Pj) : List UInt8 := sb p.n ++ cb p.sh ++ cb p.had ++ fb p.wt
def saveP (M : List Pj) : List UInt8 := cb (M.length : Int) ++ M.flatMap pb
/-- Whether a ratio is below another one. -/
def bel (p q : Pj) : Bool := decide (p.had * q.sh < q.had * p.sh)
/-- The least of those that are marked, of the first n. -/
def lst (f : Nat → Pj → Bool) (M : List Pj) : Nat → Option Nat
  | 0 => none
  | n + 1 => match M[n]? with
    | none => lst f M n
    | some p => if f n p then match lst f M n with
        | none => some n
        | some b => match M[b]? with
          | some q => if bel p q then some n else some b
          | none => some b
      else lst f M n
/-- One that waits now, and did not, is lifted. -/
def lift (m p : Pj) : Pj := if bel p m then { p with had := min (scl m.had m.sh p.sh) 2147483647 } else p
def isW (ws : List ByteArray) (p : Pj) : Bool := ws.any fun s => decide (s = p.n)
theorem isW_iff {ws : List ByteArray} {p : Pj} : isW ws p = true ↔ p.n ∈ ws := by simp [isW]
def lifted (ws : List ByteArray) (M : List Pj) : List Pj := match lst (fun _ p => isW ws p && p.wt) M M.length with
  | none => M
  | some m => match M[m]? with
    | none => M
    | some q => M.map fun p => if isW ws p && !p.wt then lift q p else p
def nextP (ws : List ByteArray) (M : List Pj) : ByteArray × Int × List Pj :=
  match lst (fun _ p => isW ws p) M M.length with
  | none => (⟨#[]⟩, 5, M)
  | some _ => match lst (fun _ p => isW ws p) (lifted ws M) (lifted ws M).length with
    | none => (⟨#[]⟩, 0, M)
    | some b => ((((lifted ws M)[b]?).map (·.n)).getD ⟨#[]⟩, 0, (lifted ws M).map fun p => { p with wt := isW ws p })
end Go.Proofs.Ythgeacnemojjgaa
