/- Rows plainly: cycles, places, levels. -/
import Derived.Test.YtjpcbggodhfabaaSr
set_option linter.unusedVariables false
set_option linter.unusedSimpArgs false
namespace Go.Proofs.Ytjpcbggodhfabaa
open Go Go.Proofs.YtjpcbggodhfabaaV
/-- The beginnings of a row. -/
inductive Gr (g : List (List Int)) : List Int → Prop
  | nil : Gr g []
  | next {out : List Int} {i : Nat} : Gr g out → nxt g out = some i → Gr g (out ++ [(i : Int)])
theorem rowF_gr (g : List (List Int)) (t : Nat) : Gr g (rowF g t) := by
  induction t with
  | zero => exact .nil
  | succ t ih =>
    rw [rowF]
    cases hn : nxt g (rowF g t) with
    | none => exact ih
    | some i => exact ih.next hn
theorem Gr.mem {g : List (List Int)} {out : List Int} (h : Gr g out) : ∀ z ∈ out, ∃ k : Nat, z = (k : Int) ∧ k < g.length := by
  induction h with
  | nil => simp
  | next _ hn ih =>
    intro z hz
    rcases List.mem_append.1 hz with hz | hz
    · exact ih z hz
    · exact ⟨_, by simpa using hz, (nxt_some.1 hn).2.1⟩
/-- What stands in a row could stand behind what stands ahead of it. -/
theorem Gr.at {g : List (List Int)} {out : List Int} (h : Gr g out) : ∀ (p x : Nat), out[p]? = some (x : Int) → Rdy g (out.take p) x := by
  induction h with
  | nil => simp
  | @next out i _ hn ih =>
    intro p x hx
    by_cases hp : p < out.length
    · rw [List.getElem?_append_left hp] at hx
      rw [List.take_append_of_le_length (by omega)]
      exact ih p x hx
    · have hlt := (List.getElem?_eq_some_iff.1 hx).1
      have hpe : p = out.length := by simp at hlt; omega
      subst hpe
      simp at hx
      have : x = i := by omega
      subst this
      rw [List.take_append_of_le_length (Nat.le_refl _), List.take_length]
      exact (nxt_some.1 hn).1
theorem take_mem {l : List Int} {i : Nat} {z : Int} (h : z ∈ l.take i) : z ∈ l := List.mem_of_mem_take h
theorem Gr.closed {g : List (List Int)} {out : List Int} (h : Gr g out) {a b : Nat} (ha : (a : Int) ∈ out) (he : E g a b) : (b : Int) ∈ out := by
  obtain ⟨p, hp⟩ := List.mem_iff_getElem?.1 ha
  obtain ⟨l, hl, hb⟩ := he
  exact take_mem ((h.at p a hp).2 _ (by rw [getD_of hl]; exact hb))
theorem Gr.nocyc {g : List (List Int)} {out : List Int} (h : Gr g out) : ∀ a : Nat, (a : Int) ∈ out → ¬ TC g a a := by
  induction h with
  | nil => simp
  | @next out i hg hn ih =>
    intro a ha ht
    rcases List.mem_append.1 ha with ha | ha
    · exact ih a ha ht
    · have : a = i := by simp at ha; omega
      subst this
      obtain ⟨hr1, hr2⟩ := (nxt_some.1 hn).1
      exact hr1 (TC.all (M := fun k => (k : Int) ∈ out) (fun y hy => by
        obtain ⟨l, hl, hb⟩ := hy
        exact hr2 _ (by rw [getD_of hl]; exact hb)) (fun x hx y hy => hg.closed hx hy) ht)
theorem least_of {S : List Nat} {R : Nat → Nat → Prop} (hne : S ≠ []) (ht : ∀ a b c, R a b → R b c → R a c) (hi : ∀ a, ¬ R a a) : ∃ x ∈ S, ∀ y ∈ S, ¬ R x y := by
  induction S with
  | nil => exact absurd rfl hne
  | cons a r ih =>
    by_cases hr : r = []
    · subst hr; exact ⟨a, by simp, by simpa using hi a⟩
    · obtain ⟨x, hx, hm⟩ := ih hr
      by_cases hxa : R x a
      · refine ⟨a, by simp, fun y hy hay => ?_⟩
        rcases List.mem_cons.1 hy with rfl | hy
        · exact hi _ hay
        · exact hm y hy (ht _ _ _ hxa hay)
      · refine ⟨x, by simp [hx], fun y hy hxy => ?_⟩
        rcases List.mem_cons.1 hy with rfl | hy
        · exact hxa hxy
        · exact hm y hy hxy
theorem rowF_short {g : List (List Int)} {t : Nat} (h : (rowF g t).length < t) : nxt g (rowF g t) = none := by
  induction t with
  | zero => simp at h
  | succ t ih =>
    rw [rowF] at h ⊢
    cases hn : nxt g (rowF g t) with
    | none => exact hn
    | some i =>
      rw [hn] at h
      simp at h
      rw [ih h] at hn; cases hn
theorem srow_le (g : List (List Int)) : (srow g).length ≤ g.length := by
  have := rowF_mis g g.length
  have e : srow g = rowF g g.length := rfl
  rw [e]; omega
theorem mis_zero {out : List Int} {n : Nat} (h : mis out n = 0) {i : Nat} (hi : i < n) : (i : Int) ∈ out := by
  unfold mis at h
  rw [List.countP_eq_zero] at h
  have := h i (by simp [hi])
  simpa using this
theorem srow_all {g : List (List Int)} (h : (srow g).length = g.length) {i : Nat} (hi : i < g.length) : (i : Int) ∈ srow g := by
  have h1 := rowF_mis g g.length
  have e : srow g = rowF g g.length := rfl
  rw [e] at h ⊢
  exact mis_zero (by omega) hi
theorem cyc_of_short {g : List (List Int)} (hv : ∀ l ∈ g, ∀ k ∈ l, 0 ≤ k ∧ k < (g.length : Int)) (h : (srow g).length < g.length) : ∃ i : Nat, i < g.length ∧ TC g i i := by
  have hno : nxt g (srow g) = none := rowF_short h
  have hno := nxt_none.1 hno
  refine Classical.byContradiction fun hc => ?_
  have hirr : ∀ a, ¬ TC g a a := by
    intro a ha
    refine hc ⟨a, ?_, ha⟩
    have : ∀ x y, TC g x y → x < g.length := by
      intro x y hxy
      induction hxy with
      | single h1 => obtain ⟨l, hl, _⟩ := h1; exact (List.getElem?_eq_some_iff.1 hl).1
      | tail _ _ ih => exact ih
    exact this _ _ ha
  have hne : (List.range g.length).filter (fun i : Nat => decide ((i : Int) ∉ srow g)) ≠ [] := by
    intro he
    have h1 := rowF_mis g g.length
    have e : srow g = rowF g g.length := rfl
    rw [← e] at h1
    have : mis (srow g) g.length = 0 := by unfold mis; rw [List.countP_eq_length_filter, he]; rfl
    omega
  obtain ⟨x, hx, hmin⟩ := least_of (R := TC g) hne (fun a b c h1 h2 => Relation.TransGen.trans h1 h2) hirr
  simp only [List.mem_filter, List.mem_range, decide_eq_true_iff] at hx
  obtain ⟨hxl, hxo⟩ := hx
  have hnr := hno x hxl
  have : ¬ ∀ z ∈ g.getD x [], z ∈ srow g := fun hall => hnr ⟨hxo, hall⟩
  refine this fun z hz => ?_
  refine Classical.byContradiction fun hzo => ?_
  have hgx : g[x]? = some (g.getD x []) := by
    rw [List.getD_eq_getElem?_getD, List.getElem?_eq_getElem hxl]; rfl
  obtain ⟨h0, h1⟩ := hv _ (List.mem_of_getElem? hgx) z hz
  obtain ⟨y, rfl⟩ := Int.eq_ofNat_of_zero_le h0
  exact hmin y (by simp only [List.mem_filter, List.mem_range, decide_eq_true_iff]; exact ⟨by omega, hzo⟩) (TC.one ⟨_, hgx, hz⟩)
theorem nocyc_of_full {g : List (List Int)} (h : (srow g).length = g.length) {i : Nat} (hi : i < g.length) : ¬ TC g i i := (rowF_gr g g.length).nocyc i (srow_all h hi)
/-- The greatest level of those that are needed. -/
def mst (lv : List Int) (l : List Int) : Int := l.foldl (fun m k => if ge lv k.toNat > m then ge lv k.toNat else m) (-1)
theorem mst_congr {lv lv' : List Int} {l : List Int} (h : ∀ k ∈ l, ge lv k.toNat = ge lv' k.toNat) : mst lv l = mst lv' l := by
  unfold mst
  generalize (-1 : Int) = m
  induction l generalizing m with
  | nil => rfl
  | cons a r ih =>
    rw [List.foldl_cons, List.foldl_cons, h a (by simp)]
    exact ih (fun k hk => h k (by simp [hk])) _
theorem stp_other {x y : Nat} {lv : List Int} {k : Int} (h : y ≠ x) (hx : x < lv.length) : ge (stp x lv k) y = ge lv y := by
  unfold stp
  split
  · rw [ge_set hx, if_neg h]
  · rfl
theorem lvS_other {x : Nat} : ∀ {l : List Int} {lv : List Int} {y : Nat}, y ≠ x → x < lv.length → ge (l.foldl (stp x) lv) y = ge lv y := by
  intro l
  induction l with
  | nil => intro lv y _ _; rfl
  | cons a r ih =>
    intro lv y h hx
    rw [List.foldl_cons, ih h (by rw [stp_len]; exact hx), stp_other h hx]
theorem lvS_own {x : Nat} : ∀ {l : List Int} {lv : List Int} {m : Int}, (∀ k ∈ l, k.toNat ≠ x) → x < lv.length → ge lv x = m + 1 → ge (l.foldl (stp x) lv) x = l.foldl (fun m k => if ge lv k.toNat > m then ge lv k.toNat else m) m + 1 := by
  intro l
  induction l with
  | nil => intro lv m _ _ h; exact h
  | cons a r ih =>
    intro lv m hne hx h
    rw [List.foldl_cons, List.foldl_cons]
    have e1 : ge (stp x lv a) x = (if ge lv a.toNat > m then ge lv a.toNat else m) + 1 := by
      unfold stp
      by_cases hc : ge lv a.toNat ≥ ge lv x
      · rw [if_pos hc, ge_set hx, if_pos rfl, if_pos (by omega)]
      · rw [if_neg hc, if_neg (by omega)]; exact h
    rw [ih (fun k hk => hne k (by simp [hk])) (by rw [stp_len]; exact hx) e1]
    congr 1
    have : ∀ k ∈ r, ge (stp x lv a) k.toNat = ge lv k.toNat := fun k hk => stp_other (hne k (by simp [hk])) hx
    generalize (if ge lv a.toNat > m then ge lv a.toNat else m) = m0
    clear e1 ih
    induction r generalizing m0 with
    | nil => rfl
    | cons b r ih2 =>
      rw [List.foldl_cons, List.foldl_cons, this b (by simp)]
      exact ih2 (fun k hk => hne k (by rcases List.mem_cons.1 hk with e | e <;> simp [e])) (fun k hk => this k (by simp [hk])) _
theorem lvF_next (g : List (List Int)) (out : List Int) (i : Nat) : lvF g (out ++ [(i : Int)]) = (g.getD i []).foldl (stp i) (lvF g out) := by
  unfold lvF; rw [List.foldl_append]; rfl
theorem Gr.levels {g : List (List Int)} (hv : ∀ l ∈ g, ∀ k ∈ l, 0 ≤ k ∧ k < (g.length : Int)) {out : List Int} (h : Gr g out) : ∀ y : Nat, y < g.length → ((y : Int) ∉ out → ge (lvF g out) y = 0) ∧ ((y : Int) ∈ out → ge (lvF g out) y = mst (lvF g out) (g.getD y []) + 1) := by
  induction h with
  | nil =>
    intro y _
    refine ⟨fun _ => ?_, by simp⟩
    have := bnd0 g.length y
    simp only [lvF, List.foldl_nil]
    omega
  | @next out i hg hn ih =>
    obtain ⟨hr, hi, _⟩ := nxt_some.1 hn
    have hil : i < (lvF g out).length := by rw [lvF_len]; exact hi
    have hval : ∀ y : Nat, y < g.length → ∀ k ∈ g.getD y [], ∃ z : Nat, k = (z : Int) ∧ z < g.length := by
      intro y hy k hk
      have hgy : g[y]? = some (g.getD y []) := by rw [List.getD_eq_getElem?_getD, List.getElem?_eq_getElem hy]; rfl
      obtain ⟨h0, h1⟩ := hv _ (List.mem_of_getElem? hgy) k hk
      obtain ⟨z, rfl⟩ := Int.eq_ofNat_of_zero_le h0
      exact ⟨z, rfl, by omega⟩
    have hnei : ∀ k ∈ out, k.toNat ≠ i := by
      intro k hk e
      obtain ⟨z, rfl, _⟩ := hg.mem k hk
      rw [Int.toNat_natCast] at e
      exact hr.1 (e ▸ hk)
    have hsame : ∀ l : List Int, (∀ k ∈ l, k ∈ out) → mst (lvF g (out ++ [(i : Int)])) l = mst (lvF g out) l := by
      intro l hl
      refine mst_congr fun k hk => ?_
      rw [lvF_next]
      exact lvS_other (hnei k (hl k hk)) hil
    intro y hy
    obtain ⟨ih1, ih2⟩ := ih y hy
    by_cases e : y = i
    · subst e
      refine ⟨fun h => absurd (by simp) h, fun _ => ?_⟩
      rw [hsame _ hr.2, lvF_next]
      exact lvS_own (fun k hk => hnei k (hr.2 k hk)) hil (by rw [ih1 hr.1]; rfl)
    · have hmem : (y : Int) ∈ out ++ [(i : Int)] ↔ (y : Int) ∈ out := by
        have : ¬ (y : Int) = (i : Int) := by omega
        simp [this]
      have hoth : ge (lvF g (out ++ [(i : Int)])) y = ge (lvF g out) y := by rw [lvF_next]; exact lvS_other e hil
      rw [hmem, hoth]
      refine ⟨ih1, fun hm => ?_⟩
      rw [ih2 hm, hsame]
      intro k hk
      obtain ⟨z, rfl, hz⟩ := hval y hy k hk
      refine hg.closed hm ⟨g.getD y [], ?_, hk⟩
      rw [List.getD_eq_getElem?_getD, List.getElem?_eq_getElem hy]; rfl
end Go.Proofs.Ytjpcbggodhfabaa
