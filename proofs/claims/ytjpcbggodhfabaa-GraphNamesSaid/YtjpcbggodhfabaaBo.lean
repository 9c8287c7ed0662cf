/- The laws GraphBoth and GraphRow walked. -/
import Derived.Test.YtjpcbggodhfabaaFr
set_option linter.unusedVariables false
set_option linter.unusedSimpArgs false
namespace Go.Proofs.Ytjpcbggodhfabaa
open Go Go.Proofs.YtjpcbggodhfabaaV
theorem idx_inj {n x y x' y' : Nat} (h : x * n + y = x' * n + y') (hy : y < n) (hy' : y' < n) : x = x' ∧ y = y' := by
  have hn : 0 < n := by omega
  have h1 : (x * n + y) / n = x := by rw [Nat.mul_comm, Nat.mul_add_div hn, Nat.div_eq_of_lt hy]; omega
  have h2 : (x' * n + y') / n = x' := by rw [Nat.mul_comm, Nat.mul_add_div hn, Nat.div_eq_of_lt hy']; omega
  have h3 : x = x' := by rw [← h1, ← h2, h]
  subst h3
  exact ⟨rfl, by omega⟩
theorem idx_lt {n x y : Nat} (hx : x < n) (hy : y < n) : x * n + y < n * n := by
  have := Nat.mul_le_mul_right n (show x + 1 ≤ n by omega)
  rw [Nat.add_mul] at this
  omega
theorem outF_nodup (f : Nat → Bool) (n : Nat) : (outF f n).Nodup := by
  unfold outF
  have h : ((List.range n).filter f).Nodup := List.nodup_range.sublist List.filter_sublist
  exact List.Pairwise.map _ (fun a b hab e => hab (by omega)) h
theorem nodup_take {l : List Int} (h : l.Nodup) {k : Nat} {z : Int} (hz : l[k]? = some z) : z ∉ l.take k := by
  intro hm
  obtain ⟨j, hj⟩ := List.mem_iff_getElem?.1 hm
  have hjk := (List.getElem?_eq_some_iff.1 hj).1
  rw [List.length_take] at hjk
  rw [List.getElem?_take, if_pos (by omega)] at hj
  have hkl := (List.getElem?_eq_some_iff.1 hz).1
  have : j = k := (List.getElem?_inj (show j < l.length by omega) h).1 (by rw [hj, hz])
  omega
open Classical in
noncomputable def aL (g : List (List Int)) (i : Nat) : List Int := if May g then below g i else []
open Classical in
noncomputable def bL (g : List (List Int)) (i : Nat) : List Int := if May g then above g i else []
theorem above_mem {g : List (List Int)} {i x : Nat} (hi : x < g.length) : ((x : Int) ∈ above g i) ↔ TC g x i := by
  unfold above
  rw [outF_mem]
  constructor
  · rintro ⟨k, hk, _, h⟩
    have : k = x := by omega
    subst this; simpa using h
  · intro h; exact ⟨x, rfl, hi, by simpa using h⟩
theorem aL_in {g : List (List Int)} {i : Nat} {z : Int} (h : z ∈ aL g i) : ∃ k : Nat, z = (k : Int) ∧ k < g.length := by
  unfold aL at h
  split at h
  · obtain ⟨k, e, hk, _⟩ := outF_mem.1 h; exact ⟨k, e, hk⟩
  · simp at h
theorem bL_in {g : List (List Int)} {i : Nat} {z : Int} (h : z ∈ bL g i) : ∃ k : Nat, z = (k : Int) ∧ k < g.length := by
  unfold bL at h
  split at h
  · obtain ⟨k, e, hk, _⟩ := outF_mem.1 h; exact ⟨k, e, hk⟩
  · simp at h
theorem aL_nd (g : List (List Int)) (i : Nat) : (aL g i).Nodup := by
  unfold aL; split
  · exact outF_nodup _ _
  · exact List.nodup_nil
theorem bL_nd (g : List (List Int)) (i : Nat) : (bL g i).Nodup := by
  unfold bL; split
  · exact outF_nodup _ _
  · exact List.nodup_nil
theorem ab_iff {g : List (List Int)} {x y : Nat} (hx : x < g.length) (hy : y < g.length) : (y : Int) ∈ aL g x ↔ (x : Int) ∈ bL g y := by
  unfold aL bL
  split
  · rw [below_mem hy, above_mem hx]
  · simp
open Classical in
noncomputable def ind (p : Prop) : Int := if p then 1 else 0
theorem ind_t {p : Prop} (h : p) : ind p = 1 := by unfold ind; rw [if_pos h]
theorem ind_f {p : Prop} (h : ¬ p) : ind p = 0 := by unfold ind; rw [if_neg h]
theorem ind_c {p q : Prop} (h : p ↔ q) : ind p = ind q := by rw [propext h]
theorem ind_b (p : Prop) : 0 ≤ ind p ∧ ind p ≤ 1 := by unfold ind; split <;> omega
/-- The table at a step. -/
def Tab (g : List (List Int)) (R : List Int) (i : Nat) (A B : List Int) : Prop :=
  ∀ x y : Nat, x < g.length → y < g.length → ge R (x * g.length + y) = ind (x < i ∧ (y : Int) ∈ aL g x) + ind (x = i ∧ (y : Int) ∈ A) + 2 * ind (y < i ∧ (x : Int) ∈ bL g y) + 2 * ind (y = i ∧ (x : Int) ∈ B)
theorem Tab.a {g : List (List Int)} {R A B : List Int} {i c : Nat} (h : Tab g R i A B) (hR : R.length = g.length * g.length) (hi : i < g.length) (hc : c < g.length) (hn : (c : Int) ∉ A) : Tab g (R.set (i * g.length + c) (ge R (i * g.length + c) + 1)) i (A ++ [(c : Int)]) B := by
  intro x y hx hy
  rw [ge_set (by rw [hR]; exact idx_lt hi hc)]
  by_cases e : x * g.length + y = i * g.length + c
  · obtain ⟨rfl, rfl⟩ := idx_inj e hy hc
    rw [if_pos rfl, h x y hx hy, ind_f (p := x = x ∧ (y : Int) ∈ A) (fun h => hn h.2), ind_t (p := x = x ∧ (y : Int) ∈ A ++ [(y : Int)]) ⟨rfl, by simp⟩]
    omega
  · rw [if_neg e, h x y hx hy]
    have : ind (x = i ∧ (y : Int) ∈ A ++ [(c : Int)]) = ind (x = i ∧ (y : Int) ∈ A) := ind_c ⟨fun ⟨h1, h2⟩ => ⟨h1, by
      rcases List.mem_append.1 h2 with h2 | h2
      · exact h2
      · have : y = c := by simp at h2; omega
        subst this; exact absurd (by rw [h1]) e⟩, fun ⟨h1, h2⟩ => ⟨h1, by simp [h2]⟩⟩
    rw [this]
theorem Tab.b {g : List (List Int)} {R A B : List Int} {i c : Nat} (h : Tab g R i A B) (hR : R.length = g.length * g.length) (hi : i < g.length) (hc : c < g.length) (hn : (c : Int) ∉ B) : Tab g (R.set (c * g.length + i) (ge R (c * g.length + i) + 2)) i A (B ++ [(c : Int)]) := by
  intro x y hx hy
  rw [ge_set (by rw [hR]; exact idx_lt hc hi)]
  by_cases e : x * g.length + y = c * g.length + i
  · obtain ⟨rfl, rfl⟩ := idx_inj e hy hi
    rw [if_pos rfl, h x y hx hy, ind_f (p := y = y ∧ (x : Int) ∈ B) (fun h => hn h.2), ind_t (p := y = y ∧ (x : Int) ∈ B ++ [(x : Int)]) ⟨rfl, by simp⟩]
    omega
  · rw [if_neg e, h x y hx hy]
    have : ind (y = i ∧ (x : Int) ∈ B ++ [(c : Int)]) = ind (y = i ∧ (x : Int) ∈ B) := ind_c ⟨fun ⟨h1, h2⟩ => ⟨h1, by
      rcases List.mem_append.1 h2 with h2 | h2
      · exact h2
      · have : x = c := by simp at h2; omega
        subst this; exact absurd (by rw [h1]) e⟩, fun ⟨h1, h2⟩ => ⟨h1, by simp [h2]⟩⟩
    rw [this]
theorem Tab.next {g : List (List Int)} {R : List Int} {i : Nat} (h : Tab g R i (aL g i) (bL g i)) : Tab g R (i + 1) [] [] := by
  intro x y hx hy
  have h1 : ind (x < i + 1 ∧ (y : Int) ∈ aL g x) = ind (x < i ∧ (y : Int) ∈ aL g x) + ind (x = i ∧ (y : Int) ∈ aL g i) := by
    by_cases e : x = i
    · subst e
      rw [ind_f (p := x < x ∧ _) (fun h => by omega), ind_c (p := x < x + 1 ∧ _) (q := x = x ∧ (y : Int) ∈ aL g x) ⟨fun h => ⟨rfl, h.2⟩, fun h => ⟨by omega, h.2⟩⟩]; omega
    · rw [ind_f (p := x = i ∧ _) (fun h => e h.1), ind_c (p := x < i + 1 ∧ _) (q := x < i ∧ (y : Int) ∈ aL g x) ⟨fun h => ⟨by omega, h.2⟩, fun h => ⟨by omega, h.2⟩⟩]; omega
  have h2 : ind (y < i + 1 ∧ (x : Int) ∈ bL g y) = ind (y < i ∧ (x : Int) ∈ bL g y) + ind (y = i ∧ (x : Int) ∈ bL g i) := by
    by_cases e : y = i
    · subst e
      rw [ind_f (p := y < y ∧ _) (fun h => by omega), ind_c (p := y < y + 1 ∧ _) (q := y = y ∧ (x : Int) ∈ bL g y) ⟨fun h => ⟨rfl, h.2⟩, fun h => ⟨by omega, h.2⟩⟩]; omega
    · rw [ind_f (p := y = i ∧ _) (fun h => e h.1), ind_c (p := y < i + 1 ∧ _) (q := y < i ∧ (x : Int) ∈ bL g y) ⟨fun h => ⟨by omega, h.2⟩, fun h => ⟨by omega, h.2⟩⟩]; omega
  rw [h x y hx hy, h1, h2, ind_f (p := x = i + 1 ∧ (y : Int) ∈ []) (fun h => by simp at h), ind_f (p := y = i + 1 ∧ (x : Int) ∈ []) (fun h => by simp at h)]
  omega
theorem Tab.bnd {g : List (List Int)} {R A B : List Int} {i x y : Nat} (h : Tab g R i A B) (hx : x < g.length) (hy : y < g.length) : 0 ≤ ge R (x * g.length + y) ∧ ge R (x * g.length + y) ≤ 6 := by
  rw [h x y hx hy]
  have := ind_b (x < i ∧ (y : Int) ∈ aL g x)
  have := ind_b (x = i ∧ (y : Int) ∈ A)
  have := ind_b (y < i ∧ (x : Int) ∈ bL g y)
  have := ind_b (y = i ∧ (x : Int) ∈ B)
  omega
theorem belowA_calls (w : World) (s : Sl) (ps : List (Sl × List Int)) (h : Gw w s ps) (hsm : Small ps) (ht : tot (gOf ps) ≤ 1000000000) (i : Nat) (hi : i < ps.length) : Calls prog 11 #[.slice s.a s.l s.c, .int .i64 (i : Int)] w fun e w' =>
    ∃ t c, e = .returned (.tuple #[.slice t.a t.l t.c, .int .i64 c]) ∧ (May (gOf ps) → c = 0) ∧ (¬ May (gOf ps) → c = 1) ∧ Has w' t 1 (iv (aL (gOf ps) i)) ∧ (∀ k, t.blk = some k → w.heap.size ≤ k) ∧ Frm none_ w w' := by
  refine (belowF_calls w s ps h hsm ht (i : Int)).mono ?_
  rintro _ w' ⟨t, c, rfl, h1, h0, hf, f⟩
  by_cases hm : May (gOf ps)
  · obtain ⟨rfl, ht⟩ := h1 ⟨hm, by omega, by omega⟩
    exact ⟨t, 0, rfl, fun _ => rfl, fun h => absurd hm h, by rw [aL, if_pos hm]; exact ht, hf, f⟩
  · obtain ⟨rfl, rfl⟩ := h0 (fun h => hm h.1)
    exact ⟨_, 1, rfl, fun h => absurd h hm, fun _ => rfl, by rw [aL, if_neg hm]; exact Has.nil _ _ _ rfl, hf, f⟩
theorem aboveA_calls (w : World) (s : Sl) (ps : List (Sl × List Int)) (h : Gw w s ps) (hsm : Small ps) (ht : tot (gOf ps) ≤ 1000000000) (i : Nat) (hi : i < ps.length) : Calls prog 12 #[.slice s.a s.l s.c, .int .i64 (i : Int)] w fun e w' =>
    ∃ t c, e = .returned (.tuple #[.slice t.a t.l t.c, .int .i64 c]) ∧ (May (gOf ps) → c = 0) ∧ (¬ May (gOf ps) → c = 1) ∧ Has w' t 1 (iv (bL (gOf ps) i)) ∧ (∀ k, t.blk = some k → w.heap.size ≤ k) ∧ Frm none_ w w' := by
  refine (aboveF_calls w s ps h hsm ht (i : Int)).mono ?_
  rintro _ w' ⟨t, c, rfl, h1, h0, hf, f⟩
  by_cases hm : May (gOf ps)
  · obtain ⟨rfl, ht⟩ := h1 ⟨hm, by omega, by omega⟩
    exact ⟨t, 0, rfl, fun _ => rfl, fun h => absurd hm h, by rw [bL, if_pos hm]; exact ht, hf, f⟩
  · obtain ⟨rfl, rfl⟩ := h0 (fun h => hm h.1)
    exact ⟨_, 1, rfl, fun h => absurd h hm, fun _ => rfl, by rw [bL, if_neg hm]; exact Has.nil _ _ _ rfl, hf, f⟩
theorem aL_len (g : List (List Int)) (i : Nat) : (aL g i).length ≤ g.length := by
  unfold aL; split
  · exact outF_len _ _
  · simp
theorem bL_len (g : List (List Int)) (i : Nat) : (bL g i).length ≤ g.length := by
  unfold bL; split
  · exact outF_len _ _
  · simp
theorem ge0 (n k : Nat) : ge (List.replicate n 0) k = 0 := by
  unfold ge
  rw [List.getD_eq_getElem?_getD, List.getElem?_replicate]
  split <;> rfl
theorem wrap_idx {n x y : Nat} (hn : n ≤ 1000) (hx : x < n) (hy : y < n) : IntKind.wrap .i64 (IntKind.wrap .i64 ((x : Int) * (n : Int)) + (y : Int)) = ((x * n + y : Nat) : Int) := by
  have h1 := idx_lt hx hy
  have h2 : n * n ≤ 1000 * 1000 := Nat.mul_le_mul hn hn
  rw [← Int.natCast_mul, wrap64 ((x * n : Nat) : Int) (by omega), wrap64 _ (by omega)]
  omega
set_option maxRecDepth 20000 in
theorem both_calls (w : World) (s : Sl) (ps : List (Sl × List Int)) (h : Gw w s ps) (hok : PsOk s ps) : Calls prog 8 #[.slice s.a s.l s.c] w fun e w' => e = .returned (.bool true) ∧ Frm none_ w w' := by
  refine callsRet (W8 (Q := fun v w' => v = .bool true ∧ Frm none_ w w') ?_) (fun v w' ⟨h, h'⟩ => ⟨by rw [h], h'⟩)
  unfold F8
  have hl := h.len
  refine ⟨fun b w' => Frm none_ w w' ∧ (b = false → Small ps ∧ tot (gOf ps) ≤ 1000000000 ∧ ps.length ≤ 40), ?_, ?_⟩
  · refine (works_calls w).mono ?_
    rintro _ w1 ⟨rfl, f1⟩
    refine ⟨_, rfl, IfB.f rfl ((large_calls w1 s ps 40 (by decide) (h.mod f1) hok.1 hok.2).mono ?_)⟩
    rintro _ _ ⟨b, rfl, hb, rfl⟩
    exact ⟨_, rfl, f1, fun e => ⟨small_of (by decide) (hb e).1 (hb e).2, by have := (hb e).2; omega, (hb e).1⟩⟩
  rintro u b w1 ⟨f1, hb⟩
  refine IfB.intro (fun _ => (works_calls w1).mono ?_) (fun hbf => ?_)
  · rintro _ w2 ⟨rfl, f2⟩
    exact ⟨_, rfl, rfl, f1.n f2⟩
  obtain ⟨hsm, htt, h40⟩ := hb hbf
  have hgl := gOf_len ps
  have hnn : ps.length * ps.length ≤ 40 * 40 := Nat.mul_le_mul h40 h40
  have e0 : IntKind.wrap .i64 ((s.l : Int) * (s.l : Int)) = ((ps.length * ps.length : Nat) : Int) := by
    rw [← hl, ← Int.natCast_mul, wrap64 _ (by omega)]
  rw [e0]
  refine runT_makeN st25 (by omega) (by omega) (by omega) ?_
  intro t w2 hr2 htl htc hta f2 z2
  rw [made_one (.int .i64 0) rfl] at hr2
  have htb : t.blk = some w1.heap.size := by simp [Sl.blk, hta]
  have e1 : List.replicate ((((ps.length * ps.length : Nat) : Int)).toNat * 1) (Value.int .i64 0) = iv (List.replicate (ps.length * ps.length) 0) := by
    rw [Int.toNat_natCast, Nat.mul_one]; simp [iv]
  rw [e1] at hr2
  have z1 := f1.size
  have htg : ∀ {j : Nat}, w2.heap.size ≤ j → t.blk ≠ some j := fun hj e => by rw [htb] at e; simp at e; omega
  refine ⟨fun n x w' => ∃ (i : Nat) (R : List Int), x = (i : Int) ∧ i ≤ ps.length ∧ n = ps.length - i ∧ R.length = ps.length * ps.length ∧ Tab (gOf ps) R i [] [] ∧ Row w' t 3 1 (iv R) ∧ w2.heap.size ≤ w'.heap.size ∧ Frm none_ w w', ps.length, ⟨0, _, rfl, Nat.zero_le _, by omega, by simp, ?_, hr2, Nat.le_refl _, f1.n f2⟩, ?_⟩
  · intro x y _ _
    rw [ge0, ind_f (fun h => by omega), ind_f (fun h => by simp at h), ind_f (fun h => by omega), ind_f (fun h => by simp at h)]; rfl
  rintro n u1 x w3 ⟨i, R, rfl, hi, rfl, hR, hT, hr3, hz3, f3⟩
  refine IfB.intro (fun hd => ?_) (fun hd => ?_)
  · have hlt := of_decide_eq_true hd
    refine (belowA_calls w3 s ps (h.mod f3) hsm htt i (by omega)).mono ?_
    rintro _ w4 ⟨ta, ca, rfl, ha1, ha0, hA, hAf, f4⟩
    have f34 := f3.n f4
    refine ⟨ta, _, rfl, (aboveA_calls w4 s ps (h.mod f34) hsm htt i (by omega)).mono ?_⟩
    rintro _ w5 ⟨tb, cb, rfl, hb1, hb0, hB, hBf, f5⟩
    have f35 := f34.n f5
    have z4 := f4.size
    have z5 := f5.size
    have hcc : ca = cb := by
      by_cases hm : May (gOf ps)
      · rw [ha1 hm, hb1 hm]
      · rw [ha0 hm, hb0 hm]
    have hA5 := hA.mod f5 (fun _ _ h => h)
    have hal := has_iv hA5
    have hbl := has_iv hB
    have hall := aL_len (gOf ps) i
    have hbll := bL_len (gOf ps) i
    rw [hgl] at hall hbll
    -- one mark in the table
    have mark : ∀ {w' : World} {R : List Int} {x y : Nat} {v : Int}, Row w' t 3 1 (iv R) → R.length = ps.length * ps.length → x < ps.length → y < ps.length → Has w' ta 1 (iv (aL (gOf ps) i)) → Has w' tb 1 (iv (bL (gOf ps) i)) → w2.heap.size ≤ w'.heap.size → Frm none_ w w' →
        ∃ q, t.a = some q ∧ t.l = ps.length * ps.length ∧ Ld w' (q.add (((x * ps.length + y : Nat) : Int).toNat * 1)) (.int .i64 (ge R (x * ps.length + y))) ∧ Wr w' (q.add (((x * ps.length + y : Nat) : Int).toNat * 1)) ∧ ∀ w'', w'' = w'.setCell (q.add (((x * ps.length + y : Nat) : Int).toNat * 1)) (.int .i64 v) → Row w'' t 3 1 (iv (R.set (x * ps.length + y) v)) ∧ Has w'' ta 1 (iv (aL (gOf ps) i)) ∧ Has w'' tb 1 (iv (bL (gOf ps) i)) ∧ w2.heap.size ≤ w''.heap.size ∧ Frm none_ w w'' := by
      intro w' R x y v hr hR hx hy hA hB hz f
      have hil := idx_lt hx hy
      obtain ⟨q2, hq2, htl2, hld2⟩ := row_at hr.has (k := x * ps.length + y) (by omega)
      obtain ⟨q3, g3, hq3, htl3, hg3, hwr3, hr7, f7⟩ := row_set hr (k := x * ps.length + y) (by omega) v
      rw [hq2] at hq3; cases hq3
      rw [htb] at hg3
      have hg3 : w1.heap.size = g3 := by simpa using hg3
      refine ⟨q2, hq2, by omega, hld2, hwr3, ?_⟩
      rintro w'' rfl
      have := f7.size
      exact ⟨hr7, hA.mod f7 (fun k hk e => by have e : k = g3 := e; have := hAf k hk; omega), hB.mod f7 (fun k hk e => by have e : k = g3 := e; have := hBf k hk; omega), by omega, f.b f7 (by omega)⟩
    refine ⟨tb, _, rfl, IfB.f (by rw [hcc]; simp) ?_⟩
    refine ⟨fun n x w' => ∃ (k : Nat) (R : List Int), x = (k : Int) ∧ k ≤ ta.l ∧ n = ta.l - k ∧ R.length = ps.length * ps.length ∧ Tab (gOf ps) R i ((aL (gOf ps) i).take k) [] ∧ Row w' t 3 1 (iv R) ∧ Has w' ta 1 (iv (aL (gOf ps) i)) ∧ Has w' tb 1 (iv (bL (gOf ps) i)) ∧ w2.heap.size ≤ w'.heap.size ∧ Frm none_ w w', ta.l, ⟨0, R, rfl, Nat.zero_le _, by omega, hR, by simpa using hT, hr3.mod (f4.n f5) (fun _ _ h => h), hA5, hB, by omega, f35⟩, ?_⟩
    clear hT hr3 hR R hA5 hA hB
    rintro n u2 x w6 ⟨k, R, rfl, hk, rfl, hR, hT, hr6, hA, hB, hz6, f6⟩
    refine IfB.intro (fun he => ?_) (fun he => ?_)
    · have hkl := of_decide_eq_true he
      obtain ⟨q, z, hq, hz, hld⟩ := has_at hA.drew (i := k) (by omega)
      obtain ⟨c, rfl, hc⟩ := aL_in (List.mem_of_getElem? hz)
      rw [hgl] at hc
      have hnt := nodup_take (aL_nd (gOf ps) i) hz
      have htake : (aL (gOf ps) i).take (k + 1) = (aL (gOf ps) i).take k ++ [(c : Int)] := by rw [List.take_add_one, hz]; rfl
      have hld : Ld w6.drew (q.add ((k : Int).toNat * 1)) (.int .i64 (c : Int)) := by rw [Int.toNat_natCast]; exact hld
      have hwi : IntKind.wrap .i64 (IntKind.wrap .i64 ((i : Int) * (s.l : Int)) + (c : Int)) = ((i * ps.length + c : Nat) : Int) := by rw [← hl]; exact wrap_idx (n := ps.length) (x := i) (y := c) (by omega) (by omega) hc
      have hil := idx_lt (n := ps.length) (x := i) (y := c) (by omega) hc
      have hbd := hT.bnd (x := i) (y := c) (by omega) (by omega)
      rw [hgl] at hbd
      obtain ⟨q2, hq2, htl2, hld2, hwr2, hK⟩ := mark (v := ge R (i * ps.length + c) + 1) hr6.drew hR (x := i) (y := c) (by omega) hc hA.drew hB.drew hz6 f6.drew
      have hT' := hT.a (by rw [hgl]; exact hR) (by omega) (by omega) hnt
      rw [hgl] at hT'
      refine ⟨fun w' => w' = w6.drew, rfl, q, hq, by omega, by omega, (c : Int), by rintro _ rfl; exact hld, q, hq, by omega, by omega, (c : Int), by rintro _ rfl; exact hld, ?_⟩
      rw [hwi]
      refine ⟨q2, hq2, by omega, by omega, ge R (i * ps.length + c), by rintro _ rfl; exact hld2, q2, hq2, by omega, by omega, hwr2, ?_⟩
      rw [wrap64 (ge R (i * ps.length + c) + 1) (by omega)]
      intro w7 e7
      obtain ⟨k1, k2, k3, k4, k5⟩ := hK w7 e7
      exact ⟨ta.l - (k + 1), by omega, k + 1, _, by rw [wrap64 _ (by omega)]; omega, by omega, rfl, by rw [List.length_set]; exact hR, by rw [htake]; exact hT', k1, k2, k3, k4, k5⟩
    · have hkg := of_decide_eq_false he
      have hka : (aL (gOf ps) i).take k = aL (gOf ps) i := List.take_of_length_le (by omega)
      rw [hka] at hT
      refine ⟨fun n x w' => ∃ (k : Nat) (R : List Int), x = (k : Int) ∧ k ≤ tb.l ∧ n = tb.l - k ∧ R.length = ps.length * ps.length ∧ Tab (gOf ps) R i (aL (gOf ps) i) ((bL (gOf ps) i).take k) ∧ Row w' t 3 1 (iv R) ∧ Has w' ta 1 (iv (aL (gOf ps) i)) ∧ Has w' tb 1 (iv (bL (gOf ps) i)) ∧ w2.heap.size ≤ w'.heap.size ∧ Frm none_ w w', tb.l, ⟨0, R, rfl, Nat.zero_le _, by omega, hR, by simpa using hT, hr6, hA, hB, hz6, f6⟩, ?_⟩
      clear hT hr6 hR R hA hB hka hkg hk he
      rintro n u3 x w7 ⟨k, R, rfl, hk, rfl, hR, hT, hr7, hA, hB, hz7, f7⟩
      refine IfB.intro (fun he => ?_) (fun he => ?_)
      · have hkl := of_decide_eq_true he
        obtain ⟨q, z, hq, hz, hld⟩ := has_at hB.drew (i := k) (by omega)
        obtain ⟨c, rfl, hc⟩ := bL_in (List.mem_of_getElem? hz)
        rw [hgl] at hc
        have hnt := nodup_take (bL_nd (gOf ps) i) hz
        have htake : (bL (gOf ps) i).take (k + 1) = (bL (gOf ps) i).take k ++ [(c : Int)] := by rw [List.take_add_one, hz]; rfl
        have hld : Ld w7.drew (q.add ((k : Int).toNat * 1)) (.int .i64 (c : Int)) := by rw [Int.toNat_natCast]; exact hld
        have hwi : IntKind.wrap .i64 (IntKind.wrap .i64 ((c : Int) * (s.l : Int)) + (i : Int)) = ((c * ps.length + i : Nat) : Int) := by rw [← hl]; exact wrap_idx (n := ps.length) (x := c) (y := i) (by omega) hc (by omega)
        have hil := idx_lt (n := ps.length) (x := c) (y := i) hc (by omega)
        have hbd := hT.bnd (x := c) (y := i) (by omega) (by omega)
        rw [hgl] at hbd
        obtain ⟨q2, hq2, htl2, hld2, hwr2, hK⟩ := mark (v := ge R (c * ps.length + i) + 2) hr7.drew hR (x := c) (y := i) hc (by omega) hA.drew hB.drew hz7 f7.drew
        have hT' := hT.b (by rw [hgl]; exact hR) (by omega) (by omega) hnt
        rw [hgl] at hT'
        refine ⟨fun w' => w' = w7.drew, rfl, q, hq, by omega, by omega, (c : Int), by rintro _ rfl; exact hld, q, hq, by omega, by omega, (c : Int), by rintro _ rfl; exact hld, ?_⟩
        rw [hwi]
        refine ⟨q2, hq2, by omega, by omega, ge R (c * ps.length + i), by rintro _ rfl; exact hld2, q2, hq2, by omega, by omega, hwr2, ?_⟩
        rw [wrap64 (ge R (c * ps.length + i) + 2) (by omega)]
        intro w8 e8
        obtain ⟨k1, k2, k3, k4, k5⟩ := hK w8 e8
        exact ⟨tb.l - (k + 1), by omega, k + 1, _, by rw [wrap64 _ (by omega)]; omega, by omega, rfl, by rw [List.length_set]; exact hR, by rw [htake]; exact hT', k1, k2, k3, k4, k5⟩
      · have hkg := of_decide_eq_false he
        have hkb : (bL (gOf ps) i).take k = bL (gOf ps) i := List.take_of_length_le (by omega)
        rw [hkb] at hT
        exact ⟨ps.length - (i + 1), by omega, i + 1, R, by rw [wrap64 _ (by omega)]; omega, by omega, rfl, hR, hT.next, hr7, hz7, f7⟩
  · have hge := of_decide_eq_false hd
    have hin : i = ps.length := by omega
    subst hin
    refine ⟨fun n x w' => ∃ j : Nat, x = (j : Int) ∧ j ≤ ps.length * ps.length ∧ n = ps.length * ps.length - j ∧ w' = w3, ps.length * ps.length, ⟨0, rfl, Nat.zero_le _, by omega, rfl⟩, ?_⟩
    rintro n u2 x w4 ⟨j, rfl, hj, rfl, rfl⟩
    refine IfB.intro (fun he => ?_) (fun he => ⟨rfl, f3⟩)
    have hjl := of_decide_eq_true he
    have hn0 : 0 < ps.length := by
      refine Nat.pos_of_ne_zero fun e => ?_
      rw [e] at hjl; simp at hjl; omega
    have hj2 : j < ps.length * ps.length := by omega
    have hx : j / ps.length < ps.length := Nat.div_lt_of_lt_mul hj2
    have hy : j % ps.length < ps.length := Nat.mod_lt _ hn0
    have hje : j / ps.length * ps.length + j % ps.length = j := by rw [Nat.mul_comm]; exact Nat.div_add_mod j ps.length
    have hval := hT (j / ps.length) (j % ps.length) (by omega) (by omega)
    rw [hgl, hje] at hval
    rw [ind_f (p := j / ps.length = ps.length ∧ _) (fun h => by omega), ind_f (p := j % ps.length = ps.length ∧ _) (fun h => by omega)] at hval
    have hv2 : ge R j = 0 ∨ ge R j = 3 := by
      have hab := ab_iff (g := gOf ps) (x := j / ps.length) (y := j % ps.length) (by omega) (by omega)
      by_cases hm : ((j % ps.length : Nat) : Int) ∈ aL (gOf ps) (j / ps.length)
      · rw [ind_t (p := j / ps.length < ps.length ∧ _) ⟨hx, hm⟩, ind_t (p := j % ps.length < ps.length ∧ _) ⟨hy, hab.1 hm⟩] at hval
        exact .inr (by omega)
      · rw [ind_f (p := j / ps.length < ps.length ∧ _) (fun h => hm h.2), ind_f (p := j % ps.length < ps.length ∧ _) (fun h => hm (hab.2 h.2))] at hval
        exact .inl (by omega)
    obtain ⟨q, hq, htl', hld⟩ := row_at hr3.has (k := j) (by omega)
    refine ⟨q, hq, by omega, by omega, _, hld, IfB.intro (fun hf => ?_) (fun hf => ?_)⟩
    · have hf := iNe hf
      refine ⟨q, hq, by omega, by omega, _, hld, IfB.f (by rw [bne_eq_false_iff_eq]; omega) ?_⟩
      exact ⟨ps.length * ps.length - (j + 1), by omega, j + 1, by rw [wrap64 _ (by omega)]; omega, by omega, rfl, rfl⟩
    · exact ⟨ps.length * ps.length - (j + 1), by omega, j + 1, by rw [wrap64 _ (by omega)]; omega, by omega, rfl, rfl⟩
theorem both_law (W : World) (s : Sl) (ps : List (Sl × List Int)) (h : Gw W s ps ∧ PsOk s ps) : Calls prog 8 #[.slice s.a s.l s.c] W fun e w' => e = .returned (.bool true) ∧ Frm none_ W w' := both_calls W s ps h.1 h.2
end Go.Proofs.Ytjpcbggodhfabaa
