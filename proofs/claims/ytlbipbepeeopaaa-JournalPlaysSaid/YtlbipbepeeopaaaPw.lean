/- The plain law of groups: a group is written whole or not at all. -/
import Derived.Test.YtlbipbepeeopaaaMp
set_option linter.unusedVariables false
set_option linter.unusedSimpArgs false
set_option maxRecDepth 20000
namespace Go.Proofs.Ytlbipbepeeopaaa
open Go Go.Proofs.YtlbipbepeeopaaaV
def PlN (n : Nat) (i : Int) : Prop := i = 0 ∨ (121 < i ∧ i < (n : Int))
instance (n : Nat) (i : Int) : Decidable (PlN n i) := by unfold PlN; infer_instance
theorem PlN_d (d : Dk) (i : Int) : PlainI d i = PlN d.bl.length i := rfl
theorem PlN.range {n : Nat} {i : Int} (h : PlN n i) (hn : 512 ≤ n) : 0 ≤ i ∧ i < (n : Int) := by rcases h with h | h <;> omega
/-- What blocks hold. -/
def contB (bl : List (List UInt8)) (i : Int) : List UInt8 := (bl[i.toNat]?).getD []
def cont (d : Dk) : Int → List UInt8 := contB d.bl
def upd (f : Int → List UInt8) (p : Wt) : Int → List UInt8 := fun i => if i = p.1 then p.2 else f i
def over : List Wt → (Int → List UInt8) → (Int → List UInt8)
  | [], f => f
  | p :: r, f => over r (upd f p)
def EqP (n : Nat) (f g : Int → List UInt8) : Prop := ∀ i, PlN n i → f i = g i
theorem EqP.symm {n : Nat} {f g : Int → List UInt8} (h : EqP n f g) : EqP n g f := fun i hi => (h i hi).symm
theorem EqP.trans {n : Nat} {f g k : Int → List UInt8} (h : EqP n f g) (h' : EqP n g k) : EqP n f k := fun i hi => (h i hi).trans (h' i hi)
theorem EqP.refl {n : Nat} (f : Int → List UInt8) : EqP n f f := fun _ _ => rfl
theorem over_congr {f g : Int → List UInt8} {i : Int} : ∀ {l : List Wt} {f g : Int → List UInt8}, f i = g i → over l f i = over l g i
  | [], f, g, h => h
  | p :: r, f, g, h => by
    unfold over
    refine over_congr (f := f) (g := g) ?_
    unfold upd
    rw [h]
theorem EqP.over {n : Nat} {f g : Int → List UInt8} (h : EqP n f g) (l : List Wt) : EqP n (over l f) (over l g) := fun i hi => over_congr (f := f) (g := g) (h i hi)
theorem over_append (a b : List Wt) (f : Int → List UInt8) : over (a ++ b) f = over b (over a f) := by
  induction a generalizing f with
  | nil => rfl
  | cons p r ih => rw [List.cons_append, over, over, ih]
theorem over_not {l : List Wt} {i : Int} : ∀ {f : Int → List UInt8}, (∀ p ∈ l, p.1 ≠ i) → over l f i = f i := by
  induction l with
  | nil => intro f _; rfl
  | cons p r ih =>
    intro f h
    rw [over, ih (fun q hq => h q (by simp [hq]))]
    unfold upd
    rw [if_neg (fun e => h p (by simp) e.symm)]
theorem over_mem {l : List Wt} {i : Int} : ∀ {f g : Int → List UInt8}, (∃ p ∈ l, p.1 = i) → over l f i = over l g i := by
  induction l with
  | nil => rintro f g ⟨p, hp, _⟩; simp at hp
  | cons p r ih =>
    rintro f g ⟨q, hq, he⟩
    rw [over, over]
    by_cases h : ∃ q ∈ r, q.1 = i
    · exact ih h
    · have hqp : q = p := by
        rcases List.mem_cons.1 hq with h' | h'
        · exact h'
        · exact absurd ⟨q, h', he⟩ h
      subst hqp
      refine over_congr (f := f) (g := g) ?_
      unfold upd
      rw [if_pos he.symm, if_pos he.symm]
theorem over_take (l : List Wt) (j : Nat) (f : Int → List UInt8) (i : Int) : over l (over (l.take j) f) i = over l f i := by
  by_cases h : ∃ q ∈ l, q.1 = i
  · exact over_mem h
  · have h1 : ∀ p ∈ l, p.1 ≠ i := fun p hp he => h ⟨p, hp, he⟩
    rw [over_not h1, over_not (fun p hp => h1 p (List.mem_of_mem_take hp)), over_not h1]
/-- Blocks written one behind the other. -/
def sets : List Wt → List (List UInt8) → List (List UInt8)
  | [], bl => bl
  | p :: r, bl => sets r (bl.set p.1.toNat p.2)
theorem sets_len (l : List Wt) : ∀ bl, (sets l bl).length = bl.length := by
  induction l with
  | nil => intro bl; rfl
  | cons p r ih => intro bl; rw [sets, ih, List.length_set]
theorem sets_other {k : Nat} (l : List Wt) : ∀ bl, (∀ p ∈ l, p.1.toNat ≠ k) → (sets l bl)[k]? = bl[k]? := by
  induction l with
  | nil => intro bl _; rfl
  | cons p r ih =>
    intro bl h
    rw [sets, ih _ (fun q hq => h q (by simp [hq])), List.getElem?_set_ne (h p (by simp))]
theorem contB_set {bl : List (List UInt8)} {j : Int} {b : List UInt8} (hj : 0 ≤ j ∧ j < bl.length) {i : Int} (hi : 0 ≤ i) : contB (bl.set j.toNat b) i = if i = j then b else contB bl i := by
  unfold contB
  by_cases h : i = j
  · subst h
    rw [if_pos rfl, List.getElem?_set_self (by omega)]; rfl
  · rw [if_neg h, List.getElem?_set_ne (by omega)]
theorem contB_sets {i : Int} (hi : 0 ≤ i) : ∀ (l : List Wt) (bl : List (List UInt8)), (∀ p ∈ l, 0 ≤ p.1 ∧ p.1 < (bl.length : Int)) → contB (sets l bl) i = over l (contB bl) i
  | [], bl, _ => rfl
  | p :: r, bl, h => by
    rw [sets, over, contB_sets hi r _ (fun q hq => by rw [List.length_set]; exact h q (by simp [hq]))]
    refine over_congr (f := contB bl) (g := contB bl) ?_
    rw [contB_set (h p (by simp)) hi]
    unfold upd
    rfl
theorem writeD_cases {d : Dk} {i : Int} {b : List UInt8} (hd : d.dead = false) (hi : 0 ≤ i ∧ i < (d.bl.length : Int)) (hb : b.length = 256) :
    (d.cut = 0 ∧ writeD i b d = (20, { d with dead := true })) ∨ (d.cut ≠ 0 ∧ writeD i b d = (0, { d with bl := d.bl.set i.toNat b, wr := d.wr + 1, cut := if d.cut > 0 then d.cut - 1 else d.cut })) := by
  unfold writeD
  rw [hd]
  simp only [Bool.false_eq_true, if_false]
  rw [if_neg (show ¬ (i < 0 ∨ i ≥ (d.bl.length : Int) ∨ b.length ≠ 256) by omega)]
  by_cases h : d.cut = 0
  · exact .inl ⟨h, by rw [if_pos h]⟩
  · exact .inr ⟨h, by rw [if_neg h]⟩
/-- Writes in a row: all of them, or as many as the cut lets. -/
theorem writesD_law (l : List Wt) : ∀ (d : Dk), d.dead = false → (∀ p ∈ l, (0 ≤ p.1 ∧ p.1 < (d.bl.length : Int)) ∧ p.2.length = 256) → -1 ≤ d.cut →
    ((writesD l d).1 = 0 ∧ (writesD l d).2.dead = false ∧ (writesD l d).2.bl = sets l d.bl ∧ (writesD l d).2.wr = d.wr + l.length ∧ (d.cut < 0 → (writesD l d).2.cut = d.cut) ∧ (0 ≤ d.cut → (writesD l d).2.cut = d.cut - l.length ∧ (l.length : Int) ≤ d.cut)) ∨
    ((writesD l d).1 = 20 ∧ (writesD l d).2.dead = true ∧ ∃ j, j < l.length ∧ d.cut = (j : Int) ∧ (writesD l d).2.bl = sets (l.take j) d.bl) := by
  induction l with
  | nil =>
    intro d hd _ hc
    exact .inl ⟨rfl, hd, rfl, rfl, fun _ => rfl, fun h => ⟨by simp [writesD], by simpa using h⟩⟩
  | cons p r ih =>
    intro d hd hp hc
    have hp0 := hp p (by simp)
    rcases writeD_cases hd hp0.1 hp0.2 with ⟨hcut, e⟩ | ⟨hcut, e⟩
    · right
      have e2 : writesD (p :: r) d = (20, { d with dead := true }) := by rw [writesD, e, if_pos (by simp)]
      rw [e2]
      exact ⟨rfl, rfl, 0, by simp, by simpa using hcut, rfl⟩
    · have e2 : writesD (p :: r) d = writesD r { d with bl := d.bl.set p.1.toNat p.2, wr := d.wr + 1, cut := if d.cut > 0 then d.cut - 1 else d.cut } := by rw [writesD, e, if_neg (by simp)]
      rw [e2]
      have hcc : -1 ≤ (if d.cut > 0 then d.cut - 1 else d.cut) := by split <;> omega
      have hc2 : (d.cut < 0 → (if d.cut > 0 then d.cut - 1 else d.cut) = d.cut) ∧ (0 ≤ d.cut → (if d.cut > 0 then d.cut - 1 else d.cut) = d.cut - 1) := ⟨fun h => if_neg (by omega), fun h => if_pos (by omega)⟩
      generalize (if d.cut > 0 then d.cut - 1 else d.cut) = c at hcc hc2
      have := ih { d with bl := d.bl.set p.1.toNat p.2, wr := d.wr + 1, cut := c } hd (fun q hq => by simp only [List.length_set]; exact hp q (by simp [hq])) hcc
      generalize hD : writesD r { d with bl := d.bl.set p.1.toNat p.2, wr := d.wr + 1, cut := c } = D at this
      simp only at this
      rw [List.length_cons]
      rcases this with ⟨h1, h2, h3, h4, h5, h6⟩ | ⟨h1, h2, j, h3, h4, h5⟩
      · left
        refine ⟨h1, h2, by rw [h3]; rfl, by omega, ?_, ?_⟩
        · intro hlt
          have := hc2.1 hlt
          have := h5 (by omega)
          omega
        · intro hge
          have := hc2.2 hge
          have := h6 (by omega)
          exact ⟨by omega, by omega⟩
      · right
        refine ⟨h1, h2, j + 1, by omega, ?_, by rw [h5]; rfl⟩
        by_cases hlt : d.cut < 0
        · have := hc2.1 hlt; omega
        · have := hc2.2 (by omega); omega
def Zero (d : Dk) : Prop := d.bl[1]? = some zeroB
/-- A group stands in the area, whole. -/
structure Hold (d : Dk) (l : List Wt) : Prop where
  head : d.bl[1]? = some (entryB l)
  n0 : 1 ≤ l.length
  n1 : l.length ≤ 120
  pl : ∀ p ∈ l, PlN d.bl.length p.1 ∧ p.2.length = 256
  dat : ∀ j, (h : j < l.length) → d.bl[2 + j]? = some (l[j]'h).2
/-- What a disk stands for, opened. -/
def Stand (d : Dk) (f : Int → List UInt8) : Prop := (Zero d ∧ EqP d.bl.length (cont d) f) ∨ ∃ l, Hold d l ∧ EqP d.bl.length (over l (cont d)) f
theorem Stand.congr {d : Dk} {f g : Int → List UInt8} (h : Stand d f) (hg : EqP d.bl.length f g) : Stand d g := by
  rcases h with ⟨h, h1⟩ | ⟨l, h, h1⟩
  · exact .inl ⟨h, h1.trans hg⟩
  · exact .inr ⟨l, h, h1.trans hg⟩
theorem PlN.notArea {n : Nat} {i : Int} (h : PlN n i) {k : Nat} (h1 : 1 ≤ k) (h2 : k ≤ 121) : i.toNat ≠ k := by rcases h with h | h <;> omega
theorem EqP.set1 {n : Nat} {bl : List (List UInt8)} (hn : 512 ≤ bl.length) (b : List UInt8) : EqP n (contB (bl.set 1 b)) (contB bl) := by
  intro i hi
  unfold contB
  rw [List.getElem?_set_ne (fun h => hi.notArea (k := 1) (by omega) (by omega) h.symm)]
theorem Hold.kept {d d' : Dk} {l m : List Wt} (h : Hold d l) (hm : ∀ p ∈ m, PlN d.bl.length p.1) (hb : d'.bl = sets m d.bl) : Hold d' l := by
  have hl : d'.bl.length = d.bl.length := by rw [hb, sets_len]
  refine ⟨?_, h.n0, h.n1, fun p hp => by rw [hl]; exact h.pl p hp, fun j hj => ?_⟩
  · rw [hb, sets_other _ _ (fun p hp => (hm p hp).notArea (by omega) (by omega))]; exact h.head
  · have := h.n1
    rw [hb, sets_other _ _ (fun p hp => (hm p hp).notArea (by omega) (by omega))]; exact h.dat j hj
theorem applyD_law {d : Dk} {l : List Wt} (hd : d.dead = false) (hn : 512 ≤ d.bl.length) (hcut0 : -1 ≤ d.cut) (h : Hold d l) :
    (((applyD l d).1 = 0 ∧ (applyD l d).2.dead = false ∧ Zero (applyD l d).2 ∧ EqP d.bl.length (cont (applyD l d).2) (over l (cont d)) ∧ (d.cut < 0 ∨ (l.length : Int) + 1 ≤ d.cut)) ∨
     ((applyD l d).1 = 20 ∧ (applyD l d).2.dead = true ∧ Hold (applyD l d).2 l ∧ EqP d.bl.length (over l (cont (applyD l d).2)) (over l (cont d)) ∧ 0 ≤ d.cut ∧ d.cut ≤ (l.length : Int))) ∧
    (applyD l d).2.bl.length = d.bl.length ∧ (applyD l d).2.wr ≤ d.wr + l.length + 1 := by
  have hr : ∀ p ∈ l, (0 ≤ p.1 ∧ p.1 < (d.bl.length : Int)) ∧ p.2.length = 256 := fun p hp => ⟨(h.pl p hp).1.range hn, (h.pl p hp).2⟩
  have hrt : ∀ j, ∀ p ∈ l.take j, 0 ≤ p.1 ∧ p.1 < (d.bl.length : Int) := fun j p hp => (hr p (List.mem_of_mem_take hp)).1
  have hov : ∀ j, EqP d.bl.length (over l (contB (sets (l.take j) d.bl))) (over l (cont d)) := by
    intro j i hi
    have hi0 := (hi.range hn).1
    have e : over l (contB (sets (l.take j) d.bl)) i = over l (over (l.take j) (contB d.bl)) i := over_congr (f := cont d) (g := cont d) (contB_sets hi0 _ _ (hrt j))
    rw [e, over_take]; rfl
  have hwr := writesD_wr l d
  unfold applyD
  rcases writesD_law l d hd hr hcut0 with ⟨h1, h2, h3, h4, h5, h6⟩ | ⟨h1, h2, j, h3, h4, h5⟩
  · rw [if_neg (by rw [h1]; simp)]
    have hlen : (writesD l d).2.bl.length = d.bl.length := by rw [h3, sets_len]
    have ha := hov l.length
    rw [List.take_length, ← h3] at ha
    rcases writeD_cases (b := zeroB) (i := 1) h2 (by omega) zeroB_len with ⟨hcut, e⟩ | ⟨hcut, e⟩
    · rw [e]
      refine ⟨.inr ⟨rfl, rfl, ?_, ha, ?_⟩, hlen, by simp only; omega⟩
      · exact h.kept (m := l) (d' := { (writesD l d).2 with dead := true }) (fun p hp => (h.pl p hp).1) h3
      · by_cases h0 : d.cut < 0
        · have := h5 h0; omega
        · have := h6 (by omega); omega
    · rw [e]
      refine ⟨.inl ⟨rfl, h2, ?_, ?_, ?_⟩, by simp only [List.length_set]; exact hlen, by simp only; omega⟩
      · exact List.getElem?_set_self (by omega)
      · refine EqP.trans (g := contB (writesD l d).2.bl) ?_ ?_
        · exact EqP.set1 (by omega) zeroB
        · intro i hi
          rw [h3, contB_sets (hi.range hn).1 _ _ (fun p hp => (hr p hp).1)]; rfl
      · by_cases hlt : d.cut < 0
        · exact .inl hlt
        · have := h6 (by omega); exact .inr (by omega)
  · rw [if_pos (by rw [h1]; simp)]
    refine ⟨.inr ⟨h1, h2, h.kept (m := l.take j) (fun p hp => (h.pl p (List.mem_of_mem_take hp)).1) h5, ?_, by omega, by omega⟩, by rw [h5, sets_len], by omega⟩
    have := hov j
    rw [← h5] at this
    exact this
/-- The data of a group, in the area. -/
def areaL : Nat → List Wt → List Wt
  | _, [] => []
  | k, p :: r => ((k : Int), p.2) :: areaL (k + 1) r
theorem areaL_len : ∀ (k : Nat) (l : List Wt), (areaL k l).length = l.length
  | _, [] => rfl
  | k, p :: r => by rw [areaL, List.length_cons, areaL_len, List.length_cons]
theorem areaL_mem {k : Nat} {l : List Wt} : ∀ {p : Wt}, p ∈ areaL k l → (k : Int) ≤ p.1 ∧ p.1 < (k : Int) + l.length ∧ ∃ q ∈ l, p.2 = q.2 := by
  induction l generalizing k with
  | nil => intro p hp; simp [areaL] at hp
  | cons q r ih =>
    intro p hp
    rw [areaL] at hp
    rw [List.length_cons]
    rcases List.mem_cons.1 hp with rfl | hp
    · exact ⟨by simp, by simp only; omega, q, by simp, rfl⟩
    · obtain ⟨h1, h2, q', h3, h4⟩ := ih hp
      exact ⟨by omega, by omega, q', by simp [h3], h4⟩
theorem areaL_get {k : Nat} {l : List Wt} : ∀ {j : Nat} (hj : j < l.length), (areaL k l)[j]? = some (((k + j : Nat) : Int), (l[j]'hj).2) := by
  induction l generalizing k with
  | nil => intro j hj; simp at hj
  | cons q r ih =>
    intro j hj
    rw [areaL]
    cases j with
    | zero => rfl
    | succ j =>
      rw [List.getElem?_cons_succ, ih (by simpa using hj)]
      simp
      omega
theorem sets_area {k : Nat} {l : List Wt} : ∀ {bl : List (List UInt8)} {j : Nat} (hj : j < l.length), k + l.length ≤ bl.length → (sets (areaL k l) bl)[k + j]? = some (l[j]'hj).2 := by
  induction l generalizing k with
  | nil => intro bl j hj; simp at hj
  | cons q r ih =>
    intro bl j hj hb
    rw [List.length_cons] at hb hj
    rw [areaL, sets]
    cases j with
    | zero =>
      rw [sets_other _ _ (fun p hp => by have := (areaL_mem hp).1; omega)]
      rw [Int.toNat_natCast, Nat.add_zero, List.getElem?_set_self (by omega)]
      rfl
    | succ j =>
      have := ih (k := k + 1) (bl := bl.set ((k : Int), q.2).1.toNat ((k : Int), q.2).2) (j := j) (by omega) (by rw [List.length_set]; omega)
      rw [show k + (j + 1) = k + 1 + j by omega, this]
      rfl
def ChkP (n : Nat) (l : List Wt) : Prop := (∀ p ∈ l, PlN n p.1 ∧ p.2.length = 256) ∧ (l.map (·.1)).Nodup
instance (n : Nat) (l : List Wt) : Decidable (ChkP n l) := by unfold ChkP; infer_instance
/-- The error of a group ahead of writing. -/
def chkD (n : Nat) (l : List Wt) : Int := if l.length > 120 then 3 else if ChkP n l then 0 else 1
def doD (l : List Wt) (d : Dk) : Int × Dk :=
  if d.dead then (20, d) else if chkD d.bl.length l ≠ 0 then (chkD d.bl.length l, d) else if l.length = 0 then (0, d) else
  if (writesD (areaL 2 l) d).1 ≠ 0 then writesD (areaL 2 l) d else
  if (writeD 1 (entryB l) (writesD (areaL 2 l) d).2).1 ≠ 0 then writeD 1 (entryB l) (writesD (areaL 2 l) d).2 else applyD l (writeD 1 (entryB l) (writesD (areaL 2 l) d).2).2
theorem chkD_ok {n : Nat} {l : List Wt} (h : chkD n l = 0) : l.length ≤ 120 ∧ ChkP n l := by
  unfold chkD at h
  split at h
  · cases h
  · split at h
    · exact ⟨by omega, by assumption⟩
    · cases h
theorem doD_bad {l : List Wt} {d : Dk} (hd : d.dead = false) (hc : chkD d.bl.length l ≠ 0) : doD l d = (chkD d.bl.length l, d) := by
  unfold doD; rw [hd]; simp only [Bool.false_eq_true, if_false]; rw [if_pos hc]
theorem doD_dead {l : List Wt} {d : Dk} (hd : d.dead = true) : doD l d = (20, d) := by
  unfold doD; rw [hd]; rfl
theorem doD_law {d : Dk} {l : List Wt} (hd : d.dead = false) (hok : OkD d) (hz : Zero d) (hc : chkD d.bl.length l = 0) :
    (((doD l d).1 = 0 ∧ (doD l d).2.dead = false ∧ Zero (doD l d).2 ∧ EqP d.bl.length (cont (doD l d).2) (over l (cont d)) ∧ (l.length = 0 → (doD l d).2 = d) ∧ (l.length = 0 ∨ d.cut < 0 ∨ 2 * (l.length : Int) + 2 ≤ d.cut)) ∨
     ((doD l d).1 = 20 ∧ (doD l d).2.dead = true ∧ ((d.cut ≤ (l.length : Int) ∧ Stand (doD l d).2 (cont d)) ∨ ((l.length : Int) < d.cut ∧ Stand (doD l d).2 (over l (cont d)))) ∧ 0 ≤ d.cut ∧ d.cut < 2 * (l.length : Int) + 2 ∧ 1 ≤ l.length)) ∧
    (doD l d).2.bl.length = d.bl.length ∧ (doD l d).2.wr ≤ d.wr + 2 * l.length + 2 := by
  obtain ⟨hl, hp, hnd⟩ := chkD_ok hc
  have hn := hok.n0
  unfold doD
  rw [hd]
  simp only [Bool.false_eq_true, if_false]
  rw [if_neg (by rw [hc]; simp)]
  by_cases h0 : l.length = 0
  · rw [if_pos h0]
    have : l = [] := List.eq_nil_of_length_eq_zero h0
    subst this
    exact ⟨.inl ⟨rfl, hd, hz, EqP.refl _, fun _ => rfl, .inl rfl⟩, rfl, by simp only; omega⟩
  rw [if_neg h0]
  have har : ∀ p ∈ areaL 2 l, (0 ≤ p.1 ∧ p.1 < (d.bl.length : Int)) ∧ p.2.length = 256 := by
    intro p hp'
    obtain ⟨h1, h2, q, h3, h4⟩ := areaL_mem hp'
    exact ⟨by omega, by rw [h4]; exact (hp q h3).2⟩
  have hzk : ∀ j, (sets ((areaL 2 l).take j) d.bl)[1]? = some zeroB := by
    intro j
    rw [sets_other _ _ (fun p hp' => by have := areaL_mem (List.mem_of_mem_take hp'); omega)]; exact hz
  have hck : ∀ j, EqP d.bl.length (contB (sets ((areaL 2 l).take j) d.bl)) (cont d) := by
    intro j i hi
    unfold cont contB
    rw [sets_other _ _ (fun p hp' he => by
      have := areaL_mem (List.mem_of_mem_take hp')
      exact hi.notArea (k := p.1.toNat) (by omega) (by omega) he.symm)]
  have hwr := writesD_wr (areaL 2 l) d
  rw [areaL_len] at hwr
  rcases writesD_law (areaL 2 l) d hd har hok.cut.1 with ⟨h1, h2, h3, h4, h5, h6⟩ | ⟨h1, h2, j, h3, h4, h5⟩
  · rw [areaL_len] at h6
    rw [if_neg (by rw [h1]; simp)]
    have hlen : (writesD (areaL 2 l) d).2.bl.length = d.bl.length := by rw [h3, sets_len]
    have hka := hzk (areaL 2 l).length
    have hca := hck (areaL 2 l).length
    rw [List.take_length, ← h3] at hka hca
    have hc1 := hok.cut.1
    rcases writeD_cases (b := entryB l) (i := 1) h2 (by omega) (entryB_len l hl) with ⟨hcut, e⟩ | ⟨hcut, e⟩
    · rw [e, if_pos (by simp)]
      refine ⟨.inr ⟨rfl, rfl, .inl ⟨?_, .inl ⟨hka, ?_⟩⟩, ?_⟩, hlen, by simp only; omega⟩
      · by_cases hlt : d.cut < 0
        · omega
        · have := h6 (by omega); omega
      · rw [hlen]; exact hca
      · by_cases hlt : d.cut < 0
        · have := h5 hlt; omega
        · have := h6 (by omega); omega
    · rw [e, if_neg (by simp)]
      simp only
      generalize hD : ({ (writesD (areaL 2 l) d).2 with bl := (writesD (areaL 2 l) d).2.bl.set (1 : Int).toNat (entryB l), wr := (writesD (areaL 2 l) d).2.wr + 1, cut := if (writesD (areaL 2 l) d).2.cut > 0 then (writesD (areaL 2 l) d).2.cut - 1 else (writesD (areaL 2 l) d).2.cut } : Dk) = D
      have hDb : D.bl = (writesD (areaL 2 l) d).2.bl.set 1 (entryB l) := by rw [← hD]; rfl
      have hDl : D.bl.length = d.bl.length := by rw [hDb, List.length_set, hlen]
      have hDw : D.wr = (writesD (areaL 2 l) d).2.wr + 1 := by rw [← hD]
      have hDd : D.dead = false := by rw [← hD]; exact h2
      have hDc : D.cut = if (writesD (areaL 2 l) d).2.cut > 0 then (writesD (areaL 2 l) d).2.cut - 1 else (writesD (areaL 2 l) d).2.cut := by rw [← hD]
      have hcc : EqP d.bl.length (cont D) (cont d) := by
        unfold cont
        rw [hDb]
        exact (EqP.set1 (by omega) _).trans hca
      have hH : Hold D l := by
        refine ⟨by rw [hDb]; exact List.getElem?_set_self (by omega), by omega, hl, fun p hp' => by rw [hDl]; exact hp p hp', fun j hj => ?_⟩
        rw [hDb, List.getElem?_set_ne (by omega), h3]
        exact sets_area hj (by omega)
      clear hD
      have hDc0 : -1 ≤ D.cut := by
        rw [hDc]
        by_cases hlt : d.cut < 0
        · have := h5 hlt; split <;> omega
        · have := h6 (by omega); split <;> omega
      have hlaw := applyD_law hDd (by omega) hDc0 hH
      rw [hDl] at hlaw
      obtain ⟨hlaw, hll, hww⟩ := hlaw
      refine ⟨?_, hll, by omega⟩
      rcases hlaw with ⟨a1, a2, a3, a4, a5⟩ | ⟨a1, a2, a3, a4, a5, a6⟩
      · refine .inl ⟨a1, a2, a3, a4.trans (hcc.over l), fun h => absurd h h0, .inr ?_⟩
        by_cases hlt : d.cut < 0
        · exact .inl hlt
        · have := h6 (by omega); rw [hDc] at a5; split at a5 <;> omega
      · refine .inr ⟨a1, a2, .inr ⟨?_, .inr ⟨l, a3, ?_⟩⟩, ?_⟩
        · by_cases hlt : d.cut < 0
          · have := h5 hlt; rw [hDc] at a5; split at a5 <;> omega
          · have := h6 (by omega); rw [hDc] at a6 a5; split at a6 <;> omega
        · rw [hll]; exact a4.trans (hcc.over l)
        · by_cases hlt : d.cut < 0
          · have := h5 hlt; rw [hDc] at a5; split at a5 <;> omega
          · have := h6 (by omega); rw [hDc] at a6; split at a6 <;> omega
  · rw [areaL_len] at h3
    rw [if_pos (by rw [h1]; simp)]
    have hlen : (writesD (areaL 2 l) d).2.bl.length = d.bl.length := by rw [h5, sets_len]
    refine ⟨.inr ⟨h1, h2, .inl ⟨by omega, .inl ⟨?_, ?_⟩⟩, by omega, by omega, by omega⟩, hlen, by omega⟩
    · unfold Zero; rw [h5]; exact hzk j
    · rw [hlen]; unfold cont; rw [h5]; exact hck j
end Go.Proofs.Ytlbipbepeeopaaa
