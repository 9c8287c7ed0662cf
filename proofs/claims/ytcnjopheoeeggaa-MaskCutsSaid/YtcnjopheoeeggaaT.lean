/- Masking, plainly: what is told of a text, whatever its parts; no program in it. -/
import Derived.WalkKit
set_option linter.unusedVariables false
set_option linter.unusedSimpArgs false
namespace Go.Proofs.Ytcnjopheoeeggaa
def stars : List UInt8 := [42, 42, 42]
def longest (ss : List (List UInt8)) (t : List UInt8) : Nat := ss.foldl (fun n s => if s.length > n ∧ s.isPrefixOf t = true then s.length else n) 0
def openB (ss : List (List UInt8)) (h : List UInt8) : Bool := ss.any fun s => decide (h.length < s.length) && h.isPrefixOf s
def runF (ss : List (List UInt8)) (e : Bool) : Nat → List UInt8 → List UInt8 × List UInt8
  | 0, h => ([], h)
  | n + 1, h => if h = [] then ([], []) else if e = false ∧ openB ss h = true then ([], h) else
    if longest ss h > 0 then (stars ++ (runF ss e n (h.drop (longest ss h))).1, (runF ss e n (h.drop (longest ss h))).2) else (h.take 1 ++ (runF ss e n (h.drop 1)).1, (runF ss e n (h.drop 1)).2)
def run (ss : List (List UInt8)) (e : Bool) (h : List UInt8) : List UInt8 × List UInt8 := runF ss e h.length h
theorem runF_eq {ss : List (List UInt8)} {e : Bool} : ∀ (n m : Nat) (h : List UInt8), h.length ≤ n → h.length ≤ m → runF ss e n h = runF ss e m h := by
  intro n
  induction n with
  | zero =>
    intro m h hn _
    have : h = [] := List.eq_nil_of_length_eq_zero (by omega)
    subst this
    cases m <;> simp [runF]
  | succ n ih =>
    intro m h hn hm
    cases m with
    | zero =>
      have : h = [] := List.eq_nil_of_length_eq_zero (by omega)
      subst this
      simp [runF]
    | succ m =>
      simp only [runF]
      by_cases h0 : h = []
      · rw [if_pos h0, if_pos h0]
      rw [if_neg h0, if_neg h0]
      have hl : 0 < h.length := by cases h with
        | nil => exact absurd rfl h0
        | cons => simp
      by_cases h1 : e = false ∧ openB ss h = true
      · rw [if_pos h1, if_pos h1]
      rw [if_neg h1, if_neg h1]
      by_cases h2 : longest ss h > 0
      · rw [if_pos h2, if_pos h2, ih m _ (by rw [List.length_drop]; omega) (by rw [List.length_drop]; omega)]
      · rw [if_neg h2, if_neg h2, ih m _ (by rw [List.length_drop]; omega) (by rw [List.length_drop]; omega)]
theorem run_nil (ss : List (List UInt8)) (e : Bool) : run ss e [] = ([], []) := by simp [run, runF]
theorem run_open {ss : List (List UInt8)} {h : List UInt8} (ho : openB ss h = true) : run ss false h = ([], h) := by
  unfold run
  cases h with
  | nil => simp [runF]
  | cons a r => simp only [List.length_cons, runF]; rw [if_neg (by simp), if_pos (by simp [ho])]
theorem run_hit {ss : List (List UInt8)} {e : Bool} {h : List UInt8} (h0 : h ≠ []) (ho : e = true ∨ openB ss h = false) (hk : longest ss h > 0) : run ss e h = (stars ++ (run ss e (h.drop (longest ss h))).1, (run ss e (h.drop (longest ss h))).2) := by
  unfold run
  cases h with
  | nil => exact absurd rfl h0
  | cons a r =>
    have hn : ¬ (e = false ∧ openB ss (a :: r) = true) := by
      rintro ⟨h1, h2⟩
      rcases ho with ho | ho
      · rw [h1] at ho; cases ho
      · rw [h2] at ho; cases ho
    have e1 : (a :: r).length = r.length + 1 := rfl
    rw [e1]
    simp only [runF]
    rw [if_neg (by simp), if_neg hn, if_pos hk, runF_eq r.length ((a :: r).drop (longest ss (a :: r))).length _ (by rw [List.length_drop, e1]; omega) (Nat.le_refl _)]
theorem run_lit {ss : List (List UInt8)} {e : Bool} {h : List UInt8} (h0 : h ≠ []) (ho : e = true ∨ openB ss h = false) (hk : ¬ longest ss h > 0) : run ss e h = (h.take 1 ++ (run ss e (h.drop 1)).1, (run ss e (h.drop 1)).2) := by
  unfold run
  cases h with
  | nil => exact absurd rfl h0
  | cons a r =>
    have hn : ¬ (e = false ∧ openB ss (a :: r) = true) := by
      rintro ⟨h1, h2⟩
      rcases ho with ho | ho
      · rw [h1] at ho; cases ho
      · rw [h2] at ho; cases ho
    have e1 : (a :: r).length = r.length + 1 := rfl
    rw [e1]
    simp only [runF]
    rw [if_neg (by simp), if_neg hn, if_neg hk, runF_eq r.length ((a :: r).drop 1).length _ (by rw [List.length_drop, e1]; omega) (Nat.le_refl _)]
def lfold (ss : List (List UInt8)) (t : List UInt8) (n : Nat) : Nat := ss.foldl (fun n s => if s.length > n ∧ s.isPrefixOf t = true then s.length else n) n
theorem lfold_cons (s : List UInt8) (ss : List (List UInt8)) (t : List UInt8) (n : Nat) : lfold (s :: ss) t n = lfold ss t (if s.length > n ∧ s.isPrefixOf t = true then s.length else n) := rfl
theorem lfold_spec (t : List UInt8) : ∀ (ss : List (List UInt8)) (n : Nat), n ≤ lfold ss t n ∧ (∀ s ∈ ss, s <+: t → s.length ≤ lfold ss t n) ∧ (lfold ss t n = n ∨ ∃ s ∈ ss, s.length = lfold ss t n ∧ s <+: t) := by
  intro ss
  induction ss with
  | nil => intro n; exact ⟨Nat.le_refl _, by simp, .inl rfl⟩
  | cons s ss ih =>
    intro n
    rw [lfold_cons]
    obtain ⟨h1, h2, h3⟩ := ih (if s.length > n ∧ s.isPrefixOf t = true then s.length else n)
    by_cases hc : s.length > n ∧ s.isPrefixOf t = true
    · rw [if_pos hc] at h1 h2 h3 ⊢
      refine ⟨by omega, ?_, ?_⟩
      · intro x hx hp
        rcases List.mem_cons.1 hx with rfl | hx
        · exact h1
        · exact h2 x hx hp
      · rcases h3 with h3 | ⟨x, hx, hl, hp⟩
        · exact .inr ⟨s, by simp, h3.symm, List.isPrefixOf_iff_prefix.1 hc.2⟩
        · exact .inr ⟨x, by simp [hx], hl, hp⟩
    · rw [if_neg hc] at h1 h2 h3 ⊢
      refine ⟨h1, ?_, ?_⟩
      · intro x hx hp
        rcases List.mem_cons.1 hx with rfl | hx
        · have : ¬ x.length > n := fun h => hc ⟨h, List.isPrefixOf_iff_prefix.2 hp⟩
          omega
        · exact h2 x hx hp
      · rcases h3 with h3 | ⟨x, hx, hl, hp⟩
        · exact .inl h3
        · exact .inr ⟨x, by simp [hx], hl, hp⟩
theorem longest_le (ss : List (List UInt8)) (t : List UInt8) : longest ss t ≤ t.length := by
  rcases (lfold_spec t ss 0).2.2 with h | ⟨s, _, hl, hp⟩
  · show lfold ss t 0 ≤ _; omega
  · show lfold ss t 0 ≤ _; rw [← hl]; exact hp.length_le
theorem longest_no {ss : List (List UInt8)} {t : List UInt8} (h : ¬ longest ss t > 0) : ∀ s ∈ ss, s ≠ [] → ¬ s <+: t := by
  intro s hs h0 hp
  have := (lfold_spec t ss 0).2.1 s hs hp
  have h1 : lfold ss t 0 = longest ss t := rfl
  have h2 : 0 < s.length := by cases s with
    | nil => exact absurd rfl h0
    | cons => simp
  omega
theorem openB_iff {ss : List (List UInt8)} {h : List UInt8} : openB ss h = true ↔ ∃ s ∈ ss, h.length < s.length ∧ h <+: s := by
  unfold openB
  rw [List.any_eq_true]
  constructor
  · rintro ⟨s, hs, hc⟩
    simp only [Bool.and_eq_true, decide_eq_true_iff] at hc
    exact ⟨s, hs, hc.1, List.isPrefixOf_iff_prefix.1 hc.2⟩
  · rintro ⟨s, hs, h1, h2⟩
    exact ⟨s, hs, by simp only [Bool.and_eq_true, decide_eq_true_iff]; exact ⟨h1, List.isPrefixOf_iff_prefix.2 h2⟩⟩
theorem prefix_more {ss : List (List UInt8)} {h p : List UInt8} (ho : openB ss h = false) {s : List UInt8} (hs : s ∈ ss) : s.isPrefixOf (h ++ p) = s.isPrefixOf h := by
  by_cases hp : s <+: h ++ p
  · have h1 : s <+: h := by
      by_cases hl : s.length ≤ h.length
      · exact List.prefix_of_prefix_length_le hp (List.prefix_append h p) hl
      · exfalso
        have := List.prefix_of_prefix_length_le (List.prefix_append h p) hp (by omega)
        rw [openB_iff.2 ⟨s, hs, by omega, this⟩] at ho; cases ho
    rw [List.isPrefixOf_iff_prefix.2 hp, List.isPrefixOf_iff_prefix.2 h1]
  · have h1 : ¬ s <+: h := fun h1 => hp (h1.trans (List.prefix_append h p))
    have e1 : s.isPrefixOf (h ++ p) = false := by
      cases hb : s.isPrefixOf (h ++ p)
      · rfl
      · exact absurd (List.isPrefixOf_iff_prefix.1 hb) hp
    have e2 : s.isPrefixOf h = false := by
      cases hb : s.isPrefixOf h
      · rfl
      · exact absurd (List.isPrefixOf_iff_prefix.1 hb) h1
    rw [e1, e2]
theorem longest_more {ss : List (List UInt8)} {h : List UInt8} (p : List UInt8) (ho : openB ss h = false) : longest ss (h ++ p) = longest ss h := by
  have key : ∀ (l : List (List UInt8)) (n : Nat), (∀ s ∈ l, s ∈ ss) → lfold l (h ++ p) n = lfold l h n := by
    intro l
    induction l with
    | nil => intro n _; rfl
    | cons s r ih =>
      intro n hl
      rw [lfold_cons, lfold_cons, prefix_more ho (hl s (by simp)), ih _ (fun x hx => hl x (by simp [hx]))]
  exact key ss 0 (fun _ h => h)
theorem open_more {ss : List (List UInt8)} {h : List UInt8} (p : List UInt8) (ho : openB ss h = false) : openB ss (h ++ p) = false := by
  cases hb : openB ss (h ++ p)
  · rfl
  · obtain ⟨s, hs, h1, h2⟩ := openB_iff.1 hb
    rw [List.length_append] at h1
    rw [openB_iff.2 ⟨s, hs, by omega, (List.prefix_append h p).trans h2⟩] at ho; cases ho
/-- What is told stays told, whatever comes. -/
theorem run_more (ss : List (List UInt8)) (e : Bool) (p : List UInt8) : ∀ (n : Nat) (h : List UInt8), h.length ≤ n → run ss e (h ++ p) = ((run ss false h).1 ++ (run ss e ((run ss false h).2 ++ p)).1, (run ss e ((run ss false h).2 ++ p)).2) := by
  intro n
  induction n with
  | zero =>
    intro h hn
    have : h = [] := List.eq_nil_of_length_eq_zero (by omega)
    subst this
    rw [run_nil]; simp
  | succ n ih =>
    intro h hn
    by_cases h0 : h = []
    · subst h0; rw [run_nil]; simp
    have hl : 0 < h.length := by cases h with
      | nil => exact absurd rfl h0
      | cons => simp
    by_cases ho : openB ss h = true
    · rw [run_open ho]; simp
    have ho : openB ss h = false := by simpa using ho
    have h0' : h ++ p ≠ [] := by simp [h0]
    have hle := longest_le ss h
    by_cases hk : longest ss h > 0
    · rw [run_hit h0' (.inr (open_more p ho)) (by rw [longest_more p ho]; exact hk), longest_more p ho, List.drop_append_of_le_length hle, ih _ (by rw [List.length_drop]; omega), run_hit (e := false) h0 (.inr ho) hk]
      simp
    · rw [run_lit h0' (.inr (open_more p ho)) (by rw [longest_more p ho]; exact hk), List.drop_append_of_le_length (by omega), ih _ (by rw [List.length_drop]; omega), run_lit (e := false) h0 (.inr ho) hk, List.take_append_of_le_length (by omega)]
      simp
theorem run_size (ss : List (List UInt8)) (e : Bool) : ∀ (n : Nat) (h : List UInt8), h.length ≤ n → (run ss e h).1.length + (run ss e h).2.length ≤ 3 * h.length ∧ ((run ss e h).2 = [] ∨ (e = false ∧ openB ss (run ss e h).2 = true)) := by
  intro n
  induction n with
  | zero =>
    intro h hn
    have : h = [] := List.eq_nil_of_length_eq_zero (by omega)
    subst this
    rw [run_nil]; simp
  | succ n ih =>
    intro h hn
    by_cases h0 : h = []
    · subst h0; rw [run_nil]; simp
    have hl : 0 < h.length := by cases h with
      | nil => exact absurd rfl h0
      | cons => simp
    by_cases ho : e = false ∧ openB ss h = true
    · obtain ⟨rfl, ho⟩ := ho
      rw [run_open ho]; simp [ho]; omega
    have ho : e = true ∨ openB ss h = false := by
      cases e with
      | true => exact .inl rfl
      | false => right; simpa using ho
    have hle := longest_le ss h
    by_cases hk : longest ss h > 0
    · rw [run_hit h0 ho hk]
      have := ih (h.drop (longest ss h)) (by rw [List.length_drop]; omega)
      rw [List.length_drop] at this
      refine ⟨?_, this.2⟩
      simp only [List.length_append, stars, List.length_cons, List.length_nil]; omega
    · rw [run_lit h0 ho hk]
      have := ih (h.drop 1) (by rw [List.length_drop]; omega)
      rw [List.length_drop] at this
      refine ⟨?_, this.2⟩
      simp only [List.length_append, List.length_take]; omega
/-- A text without a secret in it is told as it is. -/
theorem run_none {ss : List (List UInt8)} (hs : ∀ s ∈ ss, s ≠ []) : ∀ (n : Nat) (h : List UInt8), h.length ≤ n → (∀ s ∈ ss, ¬ s <:+: h) → (run ss true h).1 = h := by
  intro n
  induction n with
  | zero =>
    intro h hn _
    have : h = [] := List.eq_nil_of_length_eq_zero (by omega)
    subst this
    rw [run_nil]
  | succ n ih =>
    intro h hn hno
    cases h with
    | nil => rw [run_nil]
    | cons a r =>
      have hk : ¬ longest ss (a :: r) > 0 := by
        intro hk
        rcases (lfold_spec (a :: r) ss 0).2.2 with h | ⟨s, hs', hl, hp⟩
        · have : lfold ss (a :: r) 0 = longest ss (a :: r) := rfl
          omega
        · exact hno s hs' hp.isInfix
      rw [run_lit (by simp) (.inl rfl) hk]
      have := ih r (by simp at hn; omega) (fun s hs' hi => hno s hs' (hi.trans (List.suffix_cons a r).isInfix))
      simp [this]
theorem star_free {ss : List (List UInt8)} : ∀ (n : Nat) (h p : List UInt8), h.length ≤ n → (∀ c ∈ p, c ≠ 42) → p <+: (run ss true h).1 → p <+: h := by
  intro n
  induction n with
  | zero =>
    intro h p hn _ hp
    have : h = [] := List.eq_nil_of_length_eq_zero (by omega)
    subst this
    rw [run_nil] at hp; exact hp
  | succ n ih =>
    intro h p hn hc hp
    cases h with
    | nil => rw [run_nil] at hp; exact hp
    | cons a r =>
      cases p with
      | nil => exact List.nil_prefix
      | cons b q =>
        by_cases hk : longest ss (a :: r) > 0
        · rw [run_hit (by simp) (.inl rfl) hk] at hp
          simp only [stars, List.cons_append] at hp
          have := (List.cons_prefix_cons.1 hp).1
          exact absurd this (hc b (by simp))
        · rw [run_lit (by simp) (.inl rfl) hk] at hp
          simp only [List.take_succ_cons, List.take_zero, List.drop_succ_cons, List.drop_zero, List.cons_append, List.nil_append] at hp
          obtain ⟨rfl, hp2⟩ := List.cons_prefix_cons.1 hp
          exact List.cons_prefix_cons.2 ⟨rfl, ih r q (by simp at hn; omega) (fun c h => hc c (by simp [h])) hp2⟩
/-- The only secret, if it has no star, never shows. -/
theorem run_hides {s : List UInt8} (h0 : s ≠ []) (hc : ∀ c ∈ s, c ≠ 42) : ∀ (n : Nat) (h : List UInt8), h.length ≤ n → ¬ s <:+: (run [s] true h).1 := by
  intro n
  induction n with
  | zero =>
    intro h hn hi
    have : h = [] := List.eq_nil_of_length_eq_zero (by omega)
    subst this
    rw [run_nil] at hi
    exact h0 (List.infix_nil.1 hi)
  | succ n ih =>
    intro h hn hi
    cases h with
    | nil => rw [run_nil] at hi; exact h0 (List.infix_nil.1 hi)
    | cons a r =>
      have strip : ∀ {x : UInt8} {l : List UInt8}, s <:+: x :: l → s <+: x :: l ∨ s <:+: l := fun h => List.infix_cons_iff.1 h
      have hst : ∀ {l : List UInt8}, ¬ s <+: 42 :: l := by
        intro l hp
        cases s with
        | nil => exact h0 rfl
        | cons b q => exact hc b (by simp) (List.cons_prefix_cons.1 hp).1
      have hle := longest_le [s] (a :: r)
      by_cases hk : longest [s] (a :: r) > 0
      · rw [run_hit (by simp) (.inl rfl) hk] at hi
        simp only [stars, List.cons_append, List.nil_append] at hi
        have h1 := (strip hi).resolve_left hst
        have h2 := (strip h1).resolve_left hst
        have h3 := (strip h2).resolve_left hst
        exact ih _ (by rw [List.length_drop]; simp at hn ⊢; omega) h3
      · have hno := longest_no hk s (by simp) h0
        have hi0 := hi
        rw [run_lit (by simp) (.inl rfl) hk] at hi
        simp only [List.take_succ_cons, List.take_zero, List.drop_succ_cons, List.drop_zero, List.cons_append, List.nil_append] at hi
        rcases strip hi with h1 | h1
        · refine hno ?_
          have : s <+: (run [s] true (a :: r)).1 := by
            rw [run_lit (by simp) (.inl rfl) hk]
            simpa using h1
          exact star_free _ (a :: r) s (Nat.le_refl _) hc this
        · exact ih r (by simp at hn; omega) h1
end Go.Proofs.Ytcnjopheoeeggaa
