/- The law StrideTurns walked. -/
import Derived.Test.YthgeacnemojjgaaBa
set_option linter.unusedVariables false
set_option linter.unusedSimpArgs false
set_option maxRecDepth 20000
namespace Go.Proofs.Ythgeacnemojjgaa
open Go Go.Proofs.YthgeacnemojjgaaV
/-! ### The least, in general -/
theorem bel_trans {p q r : Pj} (hp : OkP p) (hq : OkP q) (hr : OkP r) (h1 : p.had * q.sh ≤ q.had * p.sh) (h2 : q.had * r.sh ≤ r.had * q.sh) : p.had * r.sh ≤ r.had * p.sh := by
  have a1 : p.had * q.sh * r.sh ≤ q.had * p.sh * r.sh := Int.mul_le_mul_of_nonneg_right h1 (by have := hr.s1; omega)
  have a2 : q.had * r.sh * p.sh ≤ r.had * q.sh * p.sh := Int.mul_le_mul_of_nonneg_right h2 (by have := hp.s1; omega)
  have e1 : q.had * p.sh * r.sh = q.had * r.sh * p.sh := Int.mul_right_comm ..
  have e2 : p.had * q.sh * r.sh = p.had * r.sh * q.sh := Int.mul_right_comm ..
  have e3 : r.had * q.sh * p.sh = r.had * p.sh * q.sh := Int.mul_right_comm ..
  have a3 : p.had * r.sh * q.sh ≤ r.had * p.sh * q.sh := by omega
  exact Int.le_of_mul_le_mul_right a3 (by have := hq.s1; omega)
theorem lst_least {f : Pj → Bool} {M : List Pj} (ok : ∀ p ∈ M, OkP p) : ∀ {n b : Nat}, lst (fun _ p => f p) M n = some b → ∃ p, M[b]? = some p ∧ f p = true ∧ ∀ j r, j < n → M[j]? = some r → f r = true → p.had * r.sh ≤ r.had * p.sh
  | 0, b, h => by cases h
  | n + 1, b, h => by
    have okm : ∀ {i : Nat} {p : Pj}, M[i]? = some p → OkP p := fun hp => ok _ (List.mem_of_getElem? hp)
    have ext : ∀ {q : Pj} {j : Nat} {r : Pj}, (∀ j r, j < n → M[j]? = some r → f r = true → q.had * r.sh ≤ r.had * q.sh) → (∀ r, M[n]? = some r → f r = true → q.had * r.sh ≤ r.had * q.sh) → j < n + 1 → M[j]? = some r → f r = true → q.had * r.sh ≤ r.had * q.sh := by
      intro q j r h1 h2 hj hr hf
      by_cases hjn : j = n
      · subst hjn; exact h2 r hr hf
      · exact h1 j r (by omega) hr hf
    rw [lst] at h
    cases hp : M[n]? with
    | none =>
      rw [hp] at h
      obtain ⟨q, hq, hfq, hl⟩ := lst_least ok (n := n) h
      exact ⟨q, hq, hfq, fun j r hj hr hf => ext hl (fun r hr' _ => by rw [hp] at hr'; cases hr') hj hr hf⟩
    | some p =>
      rw [hp] at h
      simp only at h
      cases hfp : f p with
      | false =>
        rw [hfp] at h
        obtain ⟨q, hq, hfq, hl⟩ := lst_least ok (n := n) (by simpa using h)
        exact ⟨q, hq, hfq, fun j r hj hr hf => ext hl (fun r hr' hf' => by rw [hp] at hr'; cases hr'; rw [hfp] at hf'; cases hf') hj hr hf⟩
      | true =>
        rw [hfp] at h
        simp only [if_true] at h
        cases hl : lst (fun _ p => f p) M n with
        | none =>
          rw [hl] at h
          cases h
          refine ⟨p, hp, hfp, fun j r hj hr hf => ?_⟩
          by_cases hjn : j = n
          · subst hjn; rw [hp] at hr; cases hr; exact Int.le_refl _
          · exfalso
            have key : ∀ (m i : Nat) (p : Pj), lst (fun _ p => f p) M m = none → i < m → M[i]? = some p → f p = true → False := by
              intro m
              induction m with
              | zero => intro i p _ hi; omega
              | succ m ih =>
                intro i p hl hi hp hw
                rw [lst] at hl
                by_cases hin : i = m
                · subst hin
                  rw [hp] at hl
                  simp only [hw, if_true] at hl
                  split at hl
                  · cases hl
                  · split at hl
                    · split at hl <;> cases hl
                    · cases hl
                · refine ih i p ?_ (by omega) hp hw
                  split at hl
                  · exact hl
                  · split at hl
                    · split at hl
                      · cases hl
                      · split at hl
                        · split at hl <;> cases hl
                        · cases hl
                    · exact hl
            exact key n j r hl (by omega) hr hf
        | some c =>
          rw [hl] at h
          obtain ⟨q, hq, hfq, hll⟩ := lst_least ok (n := n) hl
          simp only [hq] at h
          cases hb : bel p q with
          | true =>
            rw [hb] at h
            cases h
            have hb' : p.had * q.sh < q.had * p.sh := of_decide_eq_true hb
            exact ⟨p, hp, hfp, fun j r hj hr hf => ext (fun j r hj hr hf => bel_trans (okm hp) (okm hq) (okm hr) (by omega) (hll j r hj hr hf)) (fun r hr' _ => by rw [hp] at hr'; cases hr'; exact Int.le_refl _) hj hr hf⟩
          | false =>
            rw [hb] at h
            cases h
            have hb' : ¬ p.had * q.sh < q.had * p.sh := of_decide_eq_false hb
            exact ⟨q, hq, hfq, fun j r hj hr hf => ext hll (fun r hr' _ => by rw [hp] at hr'; cases hr'; omega) hj hr hf⟩
theorem lst_some {f : Pj → Bool} {M : List Pj} {i : Nat} {p : Pj} (hp : M[i]? = some p) (hf : f p = true) : ∃ b, lst (fun _ p => f p) M M.length = some b := by
  have key : ∀ (m i : Nat) (p : Pj), lst (fun _ p => f p) M m = none → i < m → M[i]? = some p → f p = true → False := by
    intro m
    induction m with
    | zero => intro i p _ hi; omega
    | succ m ih =>
      intro i p hl hi hp hw
      rw [lst] at hl
      by_cases hin : i = m
      · subst hin
        rw [hp] at hl
        simp only [hw, if_true] at hl
        split at hl
        · cases hl
        · split at hl
          · split at hl <;> cases hl
          · cases hl
      · refine ih i p ?_ (by omega) hp hw
        split at hl
        · exact hl
        · split at hl
          · split at hl
            · cases hl
            · split at hl
              · split at hl <;> cases hl
              · cases hl
          · exact hl
  cases h : lst (fun _ p => f p) M M.length with
  | some b => exact ⟨b, rfl⟩
  | none => exact (key _ i p h (List.getElem?_eq_some_iff.1 hp).1 hp hf).elim
/-- Who is told is the least of those that wait. -/
theorem nextP_told {M : List Pj} (ok : OkM M) {ws : List ByteArray} {i : Nat} {p0 : Pj} (hp : M[i]? = some p0) (hw : isW ws p0 = true) (hnm : ∃ p : Pj, (lifted ws M)[i]? = some p ∧ isW ws p = true) :
    ∃ (b : Nat) (p : Pj), (lifted ws M)[b]? = some p ∧ isW ws p = true ∧ nextP ws M = (p.n, 0, (lifted ws M).map (wtf ws)) ∧ ∀ r ∈ lifted ws M, isW ws r = true → p.had * r.sh ≤ r.had * p.sh := by
  obtain ⟨b1, hb1⟩ := lst_some (f := fun p => isW ws p) hp hw
  obtain ⟨p', hp', hw'⟩ := hnm
  obtain ⟨b, hb⟩ := lst_some (f := fun p => isW ws p) hp' hw'
  obtain ⟨p, hpb, hfp, hl⟩ := lst_least (lifted_ok ok ws).each hb
  refine ⟨b, p, hpb, hfp, ?_, fun r hr hf => ?_⟩
  · unfold nextP
    rw [hb1]
    simp only [hb, hpb, Option.map_some, Option.getD_some]
    rfl
  · obtain ⟨j, hj⟩ := List.mem_iff_getElem?.1 hr
    exact hl j r (List.getElem?_eq_some_iff.1 hj).1 hj hf
/-! ### Turns -/
def shV (x : Int) : Int := IntKind.wrap .i64 ((1 : Int) + (IntKind.wrap .i64 (Int.tmod (IntKind.wrap .u64 x) (1000 : Int))))
theorem shV_le (x : Int) : 1 ≤ shV x ∧ shV x ≤ 1000 := by
  unfold shV
  rw [wu64m]
  have h0 : 0 ≤ x % 18446744073709551616 := Int.emod_nonneg _ (by omega)
  rw [Int.tmod_eq_emod_of_nonneg h0]
  have h1 := Int.emod_nonneg (x % 18446744073709551616) (show (1000 : Int) ≠ 0 by omega)
  have h2 := Int.emod_lt_of_pos (x % 18446744073709551616) (show (0 : Int) < 1000 by omega)
  rw [wi (x % 18446744073709551616 % 1000) (by omega), wi _ (by omega)]
  omega
theorem share_calls (w : World) (x : Int) : Calls prog 33 #[.int .i64 x] w fun e w' => e = .returned (.int .i64 (shV x)) ∧ w' = w := by
  refine callsRet (W33 (x0 := x) (Q := fun v w' => v = .int .i64 (shV x) ∧ w' = w) ?_) (fun v w' ⟨h, h'⟩ => ⟨by rw [h], h'⟩)
  unfold F33
  exact ⟨by decide, rfl, rfl⟩
def nmT : Nat → ByteArray
  | 0 => ⟨#[100]⟩
  | 1 => ⟨#[99]⟩
  | 2 => ⟨#[97]⟩
  | _ => ⟨#[98]⟩
def MT (k : Nat) (w : Bool) (h s : Nat → Int) : List Pj := match k with
  | 0 => []
  | 1 => [⟨⟨#[100]⟩, s 0, h 0, w⟩]
  | 2 => [⟨⟨#[99]⟩, s 1, h 1, w⟩, ⟨⟨#[100]⟩, s 0, h 0, w⟩]
  | 3 => [⟨⟨#[97]⟩, s 2, h 2, w⟩, ⟨⟨#[99]⟩, s 1, h 1, w⟩, ⟨⟨#[100]⟩, s 0, h 0, w⟩]
  | _ => [⟨⟨#[97]⟩, s 2, h 2, w⟩, ⟨⟨#[98]⟩, s 3, h 3, w⟩, ⟨⟨#[99]⟩, s 1, h 1, w⟩, ⟨⟨#[100]⟩, s 0, h 0, w⟩]
theorem MT_mem {k : Nat} (hk : k ≤ 4) {w : Bool} {h s : Nat → Int} {p : Pj} : p ∈ MT k w h s ↔ ∃ i, i < k ∧ p = ⟨nmT i, s i, h i, w⟩ := by
  have : k = 0 ∨ k = 1 ∨ k = 2 ∨ k = 3 ∨ k = 4 := by omega
  constructor
  · intro hp
    rcases this with rfl | rfl | rfl | rfl | rfl
    · cases hp
    · simp [MT] at hp; exact ⟨0, by omega, hp⟩
    · simp [MT] at hp
      rcases hp with hp | hp
      · exact ⟨1, by omega, hp⟩
      · exact ⟨0, by omega, hp⟩
    · simp [MT] at hp
      rcases hp with hp | hp | hp
      · exact ⟨2, by omega, hp⟩
      · exact ⟨1, by omega, hp⟩
      · exact ⟨0, by omega, hp⟩
    · simp [MT] at hp
      rcases hp with hp | hp | hp | hp
      · exact ⟨2, by omega, hp⟩
      · exact ⟨3, by omega, hp⟩
      · exact ⟨1, by omega, hp⟩
      · exact ⟨0, by omega, hp⟩
  · rintro ⟨i, hi, rfl⟩
    rcases this with rfl | rfl | rfl | rfl | rfl
    · omega
    all_goals
      have hh : i = 0 ∨ i = 1 ∨ i = 2 ∨ i = 3 := by omega
      rcases hh with rfl | rfl | rfl | rfl <;> first | omega | simp [MT, nmT]
theorem MT_set {i : Nat} (hi : i < 4) {s : Nat → Int} (hs : 1 ≤ s i ∧ s i ≤ 1000) : setP (nmT i) (s i) (MT i false (fun _ => 0) s) = (0, MT (i + 1) false (fun _ => 0) s) := by
  have hg : goodP (nmT i) := by
    have hh : i = 0 ∨ i = 1 ∨ i = 2 ∨ i = 3 := by omega
    rcases hh with rfl | rfl | rfl | rfl <;> decide
  unfold setP
  rw [if_neg (by simpa using hg), if_neg (by omega)]
  have hh : i = 0 ∨ i = 1 ∨ i = 2 ∨ i = 3 := by omega
  rcases hh with rfl | rfl | rfl | rfl <;> rfl
def updT (h : Nat → Int) (i : Nat) (j : Nat) : Int := if j = i then h j + 1 else h j
theorem MT_had {k i : Nat} (hk : k ≤ 4) (hi : i < k) {h s : Nat → Int} : hadP (nmT i) (MT k true h s) = (s i, h i, true) := by
  have hk' : k = 1 ∨ k = 2 ∨ k = 3 ∨ k = 4 := by omega
  have hh : i = 0 ∨ i = 1 ∨ i = 2 ∨ i = 3 := by omega
  rcases hk' with rfl | rfl | rfl | rfl <;> rcases hh with rfl | rfl | rfl | rfl <;> first | omega | rfl
theorem MT_chg {k i : Nat} (hk : k ≤ 4) (hi : i < k) {h s : Nat → Int} (hb : h i ≤ 1000) : chgP (nmT i) 1 (MT k true h s) = (0, MT k true (updT h i) s) := by
  have hk' : k = 1 ∨ k = 2 ∨ k = 3 ∨ k = 4 := by omega
  have hh : i = 0 ∨ i = 1 ∨ i = 2 ∨ i = 3 := by omega
  have key : ∀ {M M' : List Pj} {nm : ByteArray} {j : Nat} {p : Pj}, ix nm M = some j → M[j]? = some p → p.had ≤ 1000 → M.set j { p with had := p.had + 1 } = M' → chgP nm 1 M = (0, M') := by
    intro M M' nm j p h1 h2 h3 h4
    unfold chgP
    rw [h1]
    simp only [h2]
    rw [if_neg (by omega), if_neg (by omega), h4]
  rcases hk' with rfl | rfl | rfl | rfl <;> rcases hh with rfl | rfl | rfl | rfl <;> first | omega | skip
  · exact key (j := 0) (by kernel_rfl) rfl hb (by simp [MT, updT])
  · exact key (j := 1) (by kernel_rfl) rfl hb (by simp [MT, updT])
  · exact key (j := 0) (by kernel_rfl) rfl hb (by simp [MT, updT])
  · exact key (j := 2) (by kernel_rfl) rfl hb (by simp [MT, updT])
  · exact key (j := 1) (by kernel_rfl) rfl hb (by simp [MT, updT])
  · exact key (j := 0) (by kernel_rfl) rfl hb (by simp [MT, updT])
  · exact key (j := 3) (by kernel_rfl) rfl hb (by simp [MT, updT])
  · exact key (j := 2) (by kernel_rfl) rfl hb (by simp [MT, updT])
  · exact key (j := 0) (by kernel_rfl) rfl hb (by simp [MT, updT])
  · exact key (j := 1) (by kernel_rfl) rfl hb (by simp [MT, updT])
def namT : List ByteArray := [⟨#[100]⟩, ⟨#[99]⟩, ⟨#[97]⟩, ⟨#[98]⟩]
theorem MT_isW {k : Nat} (hk : k ≤ 4) {w : Bool} {h s : Nat → Int} : ∀ p ∈ MT k w h s, isW (namT.take k) p = true := by
  intro p hp
  obtain ⟨i, hi, rfl⟩ := (MT_mem hk).1 hp
  have hk' : k = 1 ∨ k = 2 ∨ k = 3 ∨ k = 4 := by omega
  have hh : i = 0 ∨ i = 1 ∨ i = 2 ∨ i = 3 := by omega
  refine isW_iff.2 ?_
  rcases hk' with rfl | rfl | rfl | rfl <;> rcases hh with rfl | rfl | rfl | rfl <;> first | omega | simp [namT, nmT]
theorem MT_next {k : Nat} (hk : k ≤ 4) (h1 : 1 ≤ k) {w : Bool} {h s : Nat → Int} (ok : OkM (MT k w h s)) : ∃ b, b < k ∧ nextP (namT.take k) (MT k w h s) = (nmT b, 0, MT k true h s) ∧ ∀ j, j < k → h b * s j ≤ h j * s b := by
  have hl : lifted (namT.take k) (MT k w h s) = MT k w h s := by
    unfold lifted
    split
    · rfl
    · rename_i m hm
      obtain ⟨_, q, hq, hqw⟩ := lst_lt hm
      rw [hq]
      simp only
      have hw : w = true := by
        obtain ⟨i, hi, rfl⟩ := (MT_mem hk).1 (List.mem_of_getElem? hq)
        simp at hqw; exact hqw.2
      subst hw
      refine (List.map_congr_left fun p hp => ?_).trans (List.map_id _)
      obtain ⟨i, hi, rfl⟩ := (MT_mem hk).1 hp
      simp
  have hm0 : (⟨nmT 0, s 0, h 0, w⟩ : Pj) ∈ MT k w h s := (MT_mem hk).2 ⟨0, by omega, rfl⟩
  obtain ⟨i0, hi0⟩ := List.mem_iff_getElem?.1 hm0
  have hw0 := MT_isW hk _ hm0
  obtain ⟨b, p, hpb, hfp, he, hle⟩ := nextP_told ok (ws := namT.take k) hi0 hw0 ⟨_, by rw [hl]; exact hi0, hw0⟩
  rw [hl] at hpb he hle
  obtain ⟨i, hi, rfl⟩ := (MT_mem hk).1 (List.mem_of_getElem? hpb)
  refine ⟨i, hi, ?_, fun j hj => ?_⟩
  · rw [he]
    have : (MT k w h s).map (wtf (namT.take k)) = MT k true h s := by
      have e : (MT k w h s).map (wtf (namT.take k)) = (MT k w h s).map (fun p => { p with wt := true }) := List.map_congr_left fun p hp => by unfold wtf; rw [MT_isW hk p hp]
      rw [e]
      have hk' : k = 1 ∨ k = 2 ∨ k = 3 ∨ k = 4 := by omega
      rcases hk' with rfl | rfl | rfl | rfl <;> rfl
    rw [this]
  · have hmj : (⟨nmT j, s j, h j, w⟩ : Pj) ∈ MT k w h s := (MT_mem hk).2 ⟨j, hj, rfl⟩
    exact hle _ hmj (MT_isW hk _ hmj)
def sumT (f : Nat → Int) : Nat → Int
  | 0 => 0
  | k + 1 => sumT f k + f k
theorem sumT_upd {h : Nat → Int} {b : Nat} : ∀ {k : Nat}, sumT (updT h b) k = sumT h k + (if b < k then 1 else 0)
  | 0 => by simp [sumT]
  | k + 1 => by
    have ih := sumT_upd (h := h) (b := b) (k := k)
    simp only [sumT, ih, updT]
    by_cases h1 : k = b
    · subst h1; simp; omega
    · by_cases h2 : b < k
      · rw [if_neg h1, if_pos h2, if_pos (by omega)]; omega
      · rw [if_neg h1, if_neg h2, if_neg (by omega)]; omega
/-- What holds of turns. -/
structure TI (k : Nat) (h s : Nat → Int) (m : Nat) : Prop where
  nn : ∀ i, i < k → 0 ≤ h i
  sum : sumT h k = m
  pr : ∀ i j, i < k → j < k → (h j - 1) * s i ≤ h i * s j
theorem sumT_nonneg {f : Nat → Int} : ∀ {k : Nat}, (∀ i, i < k → 0 ≤ f i) → 0 ≤ sumT f k
  | 0, _ => Int.le_refl _
  | k + 1, h => by
    have := sumT_nonneg (f := f) (k := k) (fun i hi => h i (by omega))
    have := h k (by omega)
    simp only [sumT]; omega
theorem sumT_ge {f : Nat → Int} : ∀ {k i : Nat}, (∀ i, i < k → 0 ≤ f i) → i < k → f i ≤ sumT f k
  | 0, i, _, hi => by omega
  | k + 1, i, h, hi => by
    have h0 := sumT_nonneg (f := f) (k := k) (fun i hi => h i (by omega))
    have h1 := h k (by omega)
    simp only [sumT]
    by_cases hik : i = k
    · subst hik; omega
    · have := sumT_ge (f := f) (k := k) (fun i hi => h i (by omega)) (show i < k by omega)
      omega
theorem TI.step {k b m : Nat} {h s : Nat → Int} (t : TI k h s m) (hb : b < k) (hs : ∀ i, i < k → 1 ≤ s i) (hl : ∀ j, j < k → h b * s j ≤ h j * s b) : TI k (updT h b) s (m + 1) := by
  refine ⟨fun i hi => ?_, by rw [sumT_upd, if_pos hb, t.sum]; omega, fun i j hi hj => ?_⟩
  · have := t.nn i hi
    unfold updT; split <;> omega
  · have e1 : h i * s j ≤ updT h b i * s j := Int.mul_le_mul_of_nonneg_right (by unfold updT; split <;> omega) (by have := hs j hj; omega)
    by_cases hjb : j = b
    · subst hjb
      have e2 : updT h j j - 1 = h j := by unfold updT; rw [if_pos rfl]; omega
      rw [e2]
      exact Int.le_trans (hl i hi) e1
    · have e2 : updT h b j = h j := by unfold updT; rw [if_neg hjb]
      rw [e2]
      exact Int.le_trans (t.pr i j hi hj) e1
theorem TI.bounds {k m : Nat} {h s : Nat → Int} (t : TI k h s m) (hk : k ≤ 4) (hs : ∀ i, i < k → 1 ≤ s i) {i : Nat} (hi : i < k) : ((m : Int) - k + 1) * s i ≤ h i * sumT s k ∧ h i * sumT s k < (m : Int) * s i + sumT s k := by
  have hk' : k = 1 ∨ k = 2 ∨ k = 3 ∨ k = 4 := by omega
  have hsum := t.sum
  have a : ∀ j, j < k → h j * s i - s i ≤ h i * s j := fun j hj => by have := t.pr i j hi hj; rw [Int.sub_mul, Int.one_mul] at this; exact this
  have b : ∀ j, j < k → h i * s j - s j ≤ h j * s i := fun j hj => by have := t.pr j i hj hi; rw [Int.sub_mul, Int.one_mul] at this; exact this
  have si := hs i hi
  rw [← hsum]
  rcases hk' with rfl | rfl | rfl | rfl
  · have : i = 0 := by omega
    subst this
    simp only [sumT, Int.zero_add]
    constructor
    · have : h 0 - ((1 : Nat) : Int) + 1 = h 0 := by omega
      rw [this]; exact Int.le_refl _
    · omega
  all_goals
    simp only [sumT, Int.zero_add, Int.mul_add, Int.add_mul, Int.sub_mul, Int.one_mul]
    have hh : i = 0 ∨ i = 1 ∨ i = 2 ∨ i = 3 := by omega
  · have a0 := a 0 (by omega); have a1 := a 1 (by omega); have b0 := b 0 (by omega); have b1 := b 1 (by omega)
    rcases hh with rfl | rfl | rfl | rfl <;> first | omega | skip
  · have a0 := a 0 (by omega); have a1 := a 1 (by omega); have b0 := b 0 (by omega); have b1 := b 1 (by omega); have a2 := a 2 (by omega); have b2 := b 2 (by omega)
    rcases hh with rfl | rfl | rfl | rfl <;> first | omega | skip
  · have a0 := a 0 (by omega); have a1 := a 1 (by omega); have b0 := b 0 (by omega); have b1 := b 1 (by omega); have a2 := a 2 (by omega); have b2 := b 2 (by omega); have a3 := a 3 (by omega); have b3 := b 3 (by omega)
    rcases hh with rfl | rfl | rfl | rfl <;> first | omega | skip
end Go.Proofs.Ythgeacnemojjgaa
