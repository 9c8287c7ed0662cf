/- Where a key stands: by halves, and from the left; which nodes a statement goes over. -/
import Derived.Test.YtedkaegdfdcdaaaO
set_option linter.unusedVariables false
set_option linter.unusedSimpArgs false
namespace Go.Proofs.Ytedkaegdfdcdaaa
open Go Go.Proofs.YtedkaegdfdcdaaaV
theorem bl_irrefl : ∀ a : List UInt8, Op.bytesLess a a = false := by
  intro a
  induction a with
  | nil => rfl
  | cons x r ih => simp [Op.bytesLess, ih]
theorem bl_trans : ∀ {a b c : List UInt8}, Op.bytesLess a b = true → Op.bytesLess b c = true → Op.bytesLess a c = true := by
  intro a
  induction a with
  | nil =>
    intro b c h1 h2
    cases c with
    | nil => cases b <;> simp [Op.bytesLess] at h2
    | cons z t => rfl
  | cons x r ih =>
    intro b c h1 h2
    cases b with
    | nil => simp [Op.bytesLess] at h1
    | cons y s =>
      cases c with
      | nil => simp [Op.bytesLess] at h2
      | cons z t =>
        simp only [Op.bytesLess, Bool.or_eq_true, Bool.and_eq_true, decide_eq_true_iff, beq_iff_eq] at h1 h2 ⊢
        rcases h1 with h1 | ⟨rfl, h1⟩
        · rcases h2 with h2 | ⟨rfl, h2⟩
          · left; exact UInt8.lt_trans h1 h2
          · left; exact h1
        · rcases h2 with h2 | ⟨rfl, h2⟩
          · left; exact h2
          · right; exact ⟨rfl, ih h1 h2⟩
theorem blt_trans {a b c : ByteArray} (h1 : blt a b = true) (h2 : blt b c = true) : blt a c = true := bl_trans h1 h2
theorem blt_irrefl (a : ByteArray) : blt a a = false := bl_irrefl _
theorem sorted {l : List ByteArray} (h : ∀ i, i < l.length → KOk l i) : ∀ (j i : Nat) (x y : ByteArray), i < j → l[i]? = some x → l[j]? = some y → blt x y = true := by
  intro j
  induction j with
  | zero => intro i x y hi; omega
  | succ j ih =>
    intro i x y hi hx hy
    have hj := (List.getElem?_eq_some_iff.1 hy).1
    obtain ⟨z, hz⟩ : ∃ z, l[j]? = some z := ⟨l[j], by simp [show j < l.length by omega]⟩
    have h1 := (h (j + 1) hj y hy).2.2 (by omega) z hz
    rcases Nat.lt_succ_iff_lt_or_eq.1 hi with hh | rfl
    · exact blt_trans (ih i x z hh hx hz) h1
    · rw [hx] at hz; cases hz; exact h1
def fi : List ByteArray → ByteArray → Nat
  | [], _ => 0
  | a :: r, key => if blt a key = true then fi r key + 1 else 0
theorem fi_eq {key : ByteArray} : ∀ {l : List ByteArray} {i : Nat}, i ≤ l.length → (∀ j x, j < i → l[j]? = some x → blt x key = true) → (∀ x, l[i]? = some x → blt x key = false) → fi l key = i := by
  intro l
  induction l with
  | nil => intro i hi _ _; simp at hi; subst hi; rfl
  | cons a r ih =>
    intro i hi h1 h2
    cases i with
    | zero => rw [fi, if_neg (by rw [h2 a rfl]; decide)]
    | succ i =>
      rw [fi, if_pos (h1 0 a (by omega) rfl), ih (by simpa using hi) (fun j x hj hx => h1 (j + 1) x (by omega) (by simpa using hx)) (fun x hx => h2 x (by simpa using hx))]
theorem fi_le (l : List ByteArray) (key : ByteArray) : fi l key ≤ l.length := by
  induction l with
  | nil => exact Nat.le_refl _
  | cons a r ih => rw [fi]; split <;> simp <;> omega
theorem fi_lt {l : List ByteArray} {key : ByteArray} : ∀ {j : Nat} {x : ByteArray}, j < fi l key → l[j]? = some x → blt x key = true := by
  induction l with
  | nil => intro j x h; simp [fi] at h
  | cons a r ih =>
    intro j x h hx
    rw [fi] at h
    split at h
    · rename_i ha
      cases j with
      | zero => simp at hx; subst hx; exact ha
      | succ j => exact ih (j := j) (by omega) (by simpa using hx)
    · omega
theorem fi_at {l : List ByteArray} {key : ByteArray} : ∀ {x : ByteArray}, l[fi l key]? = some x → blt x key = false := by
  induction l with
  | nil => intro x h; simp [fi] at h
  | cons a r ih =>
    intro x h
    rw [fi] at h
    split at h
    · exact ih (by simpa using h)
    · rename_i ha
      simp at h; subst h; simpa using ha
def fd (l : List ByteArray) (key : ByteArray) : Bool := match l[fi l key]? with
  | some x => decide (x = key)
  | none => false
open Classical in
noncomputable def fiN (n : Nd) (key : ByteArray) : Nat := if MayN n then fi n.keys key else 0
open Classical in
noncomputable def fdN (n : Nd) (key : ByteArray) : Bool := if MayN n then fd n.keys key else false
theorem eqB (a b : ByteArray) : (a.toList == b.toList) = decide (a = b) := by
  rw [Bool.eq_iff_iff, str_eqIff, decide_eq_true_iff]
theorem body29 : hasBody prog 29 = true := by kernel_rfl
theorem half (i j : Nat) (h : i + j ≤ 2000000) : IntKind.wrap .i64 (Int.fdiv (IntKind.wrap .u64 (IntKind.wrap .i64 ((i : Int) + (j : Int)))) (2 ^ (min 1 64))) = (((i + j) / 2 : Nat) : Int) := by
  have e1 : IntKind.wrap .u64 (IntKind.wrap .i64 ((i : Int) + (j : Int))) = (i : Int) + (j : Int) := by rw [wrap64 _ (by omega), wu64 _ (by omega)]
  rw [e1, show ((2 : Int) ^ (min 1 64)) = 2 from rfl, Int.fdiv_eq_ediv_of_nonneg _ (by omega), wrap64 _ (by omega)]
  omega
set_option maxRecDepth 20000 in
theorem find_calls (w : World) (k v d : Sl) (n : Nd) (h : NdS w k v d n) (hsm : SmN n) (key : ByteArray) : Calls prog 14 #[.agg (ndc n.leaf k v d), .string key] w fun e w' => e = .returned (.tuple #[.int .i64 (fiN n key : Int), .bool (fdN n key)]) ∧ Frm none_ w w' := by
  refine callsRet (W14 (Q := fun v w' => v = .tuple #[.int .i64 (fiN n key : Int), .bool (fdN n key)] ∧ Frm none_ w w') ?_) (fun v w' ⟨h, h'⟩ => ⟨by rw [h], h'⟩)
  unfold F14
  intro b1 w1 hN b2 w2 hN2
  have f1 : Frm none_ w w1 := hN.mod _
  have f2 : Frm none_ w1 w2 := hN2.mod _
  have f12 := f1.n f2
  have hB := (Bk.new hN h).mod f2
  have hkl := has_sv h.hk
  have hs1 := hsm.k
  refine ⟨_, hB.la, (may_calls w2 k v d n hB.nd hsm).mono ?_⟩
  rintro _ w3 ⟨b, rfl, hb, f3⟩
  have f13 := f12.n f3
  refine ⟨_, rfl, IfB.intro (fun hc => ?_) (fun hc => ?_)⟩
  · have hc : b = false := by simpa using hc
    have hn : ¬ MayN n := fun hm => by have := hb.2 hm; rw [hc] at this; cases this
    exact ⟨by rw [fiN, if_neg hn, fdN, if_neg hn]; rfl, f13⟩
  have hm := hb.1 (by simpa using hc)
  have hB3 := hB.mod f3
  have hK3 : Blk w3 b2 #[.string key] 9 := hN2.blk.mod f3 (fun h => h)
  have hso := sorted hm.1
  have h28 : Calls prog 28 #[.int .i64 ((k.l : Nat) : Int), .func (.func 29) #[] #[.pointer (some (⟨b1, 0, none⟩ : Addr)), .pointer (some (⟨b2, 0, none⟩ : Addr))]] w3 fun e w' => e = .returned (.int .i64 (fi n.keys key : Int)) ∧ Frm none_ w3 w' := by
    refine callsRet (W28 (Q := fun v w' => v = .int .i64 (fi n.keys key : Int) ∧ Frm none_ w3 w') ?_) (fun v w' ⟨h, h'⟩ => ⟨by rw [h], h'⟩)
    unfold F28
    refine ⟨fun m x y w' => ∃ i j : Nat, x = (i : Int) ∧ y = (j : Int) ∧ i ≤ j ∧ j ≤ k.l ∧ m = j - i ∧ (∀ t x, t < i → n.keys[t]? = some x → blt x key = true) ∧ (∀ t x, j ≤ t → n.keys[t]? = some x → blt x key = false) ∧ Frm none_ w3 w', k.l, ⟨0, k.l, rfl, rfl, by omega, Nat.le_refl _, by omega, by omega, fun t x ht hx => by have := (List.getElem?_eq_some_iff.1 hx).1; omega, Frm.refl _ _⟩, ?_⟩
    rintro m u x y w4 ⟨i, j, rfl, rfl, hij, hj, rfl, hlo, hhi, f4⟩
    refine IfB.intro (fun hd => ?_) (fun hd => ?_)
    · have hlt := of_decide_eq_true hd
      rw [half i j (by omega)]
      have hh1 : (i + j) / 2 < j := by omega
      have hh2 : i ≤ (i + j) / 2 := by omega
      generalize (i + j) / 2 = g at hh1 hh2
      have hB4 := (hB3.mod f4).drew
      have hK4 := (hK3.mod f4 (fun h => h)).drew
      obtain ⟨q, z, hq, hz, hld⟩ := sv_at hB4.nd.hk (i := g) (by omega)
      refine ⟨by decide, callV_of body29 ?_⟩
      refine (W29 (x0 := (g : Int)) (x1 := ⟨b1, 0, none⟩) (x2 := ⟨b2, 0, none⟩) ?_)
      unfold F29
      refine ⟨k, hB4.l1, q, hq, by omega, by omega, z, hld, key, hK4.ld rfl, _, rfl, IfB.intro (fun he => ?_) (fun he => ?_)⟩
      · have he : blt z key = true := by simpa [blt] using he
        refine ⟨j - (g + 1), by omega, g + 1, j, by rw [wrap64 _ (by omega)]; omega, rfl, by omega, hj, rfl, fun t x ht hx => ?_, hhi, f4.drew⟩
        rcases Nat.lt_succ_iff_lt_or_eq.1 ht with hh | rfl
        · exact blt_trans (hso g t x z hh hx hz) he
        · rw [hz] at hx; cases hx; exact he
      · have he : blt z key = false := by
          cases hb : blt z key with
          | false => rfl
          | true => unfold blt at hb; rw [hb] at he; simp at he
        refine ⟨g - i, by omega, i, g, rfl, rfl, hh2, by omega, rfl, hlo, fun t x ht hx => ?_, f4.drew⟩
        cases hb : blt x key with
        | false => rfl
        | true =>
          rcases Nat.lt_or_eq_of_le ht with hh | rfl
          · have := blt_trans (hso t g z x hh hz hx) hb
            rw [this] at he; cases he
          · rw [hz] at hx; cases hx
            rw [hb] at he; cases he
    · have hge := of_decide_eq_false hd
      have hijE : i = j := by omega
      subst hijE
      refine ⟨?_, f4⟩
      rw [fi_eq (l := n.keys) (i := i) (by omega) hlo (fun x hx => hhi i x (Nat.le_refl _) hx)]
  refine ⟨k, hB3.l1, h28.mono ?_⟩
  rintro _ w4 ⟨rfl, f4⟩
  have hB4 := (hB3.mod f4).drew
  have hK4 := (hK3.mod f4 (fun h => h)).drew
  have hle := fi_le n.keys key
  refine ⟨_, rfl, k, hB4.l1, IfB.intro (fun hd => ?_) (fun hd => ?_)⟩
  · have hlt := of_decide_eq_true hd
    obtain ⟨q, z, hq, hz, hld⟩ := sv_at hB4.nd.hk (i := fi n.keys key) (by omega)
    refine ⟨k, hB4.l1, q, hq, by omega, by omega, z, hld, key, hK4.ld rfl, ?_, (f13.n f4).drew⟩
    rw [fiN, if_pos hm, fdN, if_pos hm, fd, hz, eqB]
  · have hge := of_decide_eq_false hd
    refine ⟨?_, (f13.n f4).drew⟩
    rw [fiN, if_pos hm, fdN, if_pos hm, fd, List.getElem?_eq_none (by omega)]
set_option maxRecDepth 20000 in
theorem Find_calls (w : World) (k v d : Sl) (n : Nd) (h : NdS w k v d n) (hsm : SmN n) (key : ByteArray) : Calls prog 15 #[.agg (ndc n.leaf k v d), .string key] w fun e w' => e = .returned (.tuple #[.int .i64 (fiN n key : Int), .bool (fdN n key)]) ∧ Frm none_ w w' := by
  refine callsRet (W15 (Q := fun v w' => v = .tuple #[.int .i64 (fiN n key : Int), .bool (fdN n key)] ∧ Frm none_ w w') ?_) (fun v w' ⟨h, h'⟩ => ⟨by rw [h], h'⟩)
  unfold F15
  intro b1 w1 hN
  have f1 : Frm none_ w w1 := hN.mod _
  have hB := Bk.new hN h
  have hkl := has_sv h.hk
  have hs1 := hsm.k
  refine ⟨_, hB.la, (May_calls w1 k v d n hB.nd hsm).mono ?_⟩
  rintro _ w3 ⟨b, rfl, hb, f3⟩
  have f13 := f1.n f3
  refine ⟨_, rfl, IfB.intro (fun hc => ?_) (fun hc => ?_)⟩
  · have hc : b = false := by simpa using hc
    have hn : ¬ MayN n := fun hm => by have := hb.2 hm; rw [hc] at this; cases this
    exact ⟨by rw [fiN, if_neg hn, fdN, if_neg hn]; rfl, f13⟩
  have hm := hb.1 (by simpa using hc)
  have hB3 := hB.mod f3
  refine ⟨fun m x w' => ∃ i : Nat, x = (i : Int) ∧ i ≤ k.l ∧ m = k.l - i ∧ (∀ t x, t < i → n.keys[t]? = some x → blt x key = true) ∧ w' = w3, k.l, ⟨0, rfl, Nat.zero_le _, by omega, by omega, rfl⟩, ?_⟩
  rintro m u x w4 ⟨i, rfl, hi, rfl, hlo, rfl⟩
  have hB4 := hB3.drew
  refine ⟨k, hB3.l1, IfB.intro (fun hd => ?_) (fun hd => ?_)⟩
  · have hlt := of_decide_eq_true hd
    obtain ⟨q, z, hq, hz, hld⟩ := sv_at hB3.nd.hk (i := i) (by omega)
    refine ⟨k, hB3.l1, q, hq, by omega, by omega, z, hld, IfB.intro (fun he => ?_) (fun he => ?_)⟩
    · refine ⟨k.l - (i + 1), by omega, i + 1, by rw [wrap64 _ (by omega)]; omega, by omega, rfl, fun t x ht hx => ?_, rfl⟩
      rcases Nat.lt_succ_iff_lt_or_eq.1 ht with hh | rfl
      · exact hlo t x hh hx
      · rw [hz] at hx; cases hx; exact he
    · obtain ⟨q', z', hq', hz', hld'⟩ := sv_at hB4.nd.hk (i := i) (by omega)
      have e := fi_eq (key := key) (l := n.keys) (i := i) (by omega) hlo (fun x hx => by rw [hz] at hx; cases hx; exact he)
      refine ⟨k, hB4.l1, IfB.t (decide_eq_true (by omega)) ⟨k, hB4.l1, q', hq', by omega, by omega, z', hld', ?_, f13.drew⟩⟩
      rw [fiN, if_pos hm, fdN, if_pos hm, fd, e, hz', eqB]
  · have hge := of_decide_eq_false hd
    have e := fi_eq (key := key) (l := n.keys) (i := i) (by omega) hlo (fun x hx => by have := (List.getElem?_eq_some_iff.1 hx).1; omega)
    refine ⟨k, hB4.l1, IfB.f (decide_eq_false (by omega)) ⟨?_, f13.drew⟩⟩
    rw [fiN, if_pos hm, fdN, if_pos hm, fd, e, List.getElem?_eq_none (by omega)]
set_option maxRecDepth 20000 in
theorem large_calls (w : World) (k v d : Sl) (n : Nd) (h : NdS w k v d n) (h1 : k.l ≤ 140737488355328 ∧ v.l ≤ 140737488355328 ∧ d.l ≤ 140737488355328) (h2 : ∀ x ∈ n.keys, x.size ≤ 140737488355328) (h3 : ∀ x ∈ n.vals, x.size ≤ 140737488355328) :
    Calls prog 9 #[.agg (ndc n.leaf k v d)] w fun e w' => ∃ b : Bool, e = .returned (.bool b) ∧ (b = false → n.keys.length + n.vals.length + n.kids.length ≤ 5000) ∧ Frm none_ w w' := by
  refine callsRet (W9 (Q := fun v w' => ∃ b : Bool, v = .bool b ∧ (b = false → n.keys.length + n.vals.length + n.kids.length ≤ 5000) ∧ Frm none_ w w') ?_) (fun v w' ⟨b, h, h'⟩ => ⟨b, by rw [h], h'⟩)
  unfold F9
  intro b1 w1 hN
  have f1 : Frm none_ w w1 := hN.mod _
  have hB := Bk.new hN h
  have hkl := has_sv h.hk
  have hvl := has_sv h.hv
  have hdl := has_iv h.hd
  obtain ⟨hk1, hv1, hd1⟩ := h1
  have e0 : IntKind.wrap .i64 ((IntKind.wrap .i64 ((k.l : Int) + (v.l : Int))) + (d.l : Int)) = ((k.l + v.l + d.l : Nat) : Int) := by
    rw [wrap64 ((k.l : Int) + (v.l : Int)) (by omega), wrap64 _ (by omega)]; omega
  refine ⟨k, hB.l1, v, hB.l2, d, hB.l3, fun x w' => ∃ s : Nat, x = (s : Int) ∧ k.l + v.l + d.l ≤ s ∧ s ≤ 42643458971664384 ∧ w' = w1, ?_, ?_⟩
  · rw [e0]
    refine ⟨fun m x y w' => ∃ i s : Nat, y = (i : Int) ∧ x = (s : Int) ∧ i ≤ 300 ∧ m = 300 - i ∧ k.l + v.l + d.l ≤ s ∧ s ≤ (3 + i) * 140737488355328 ∧ w' = w1, 300, ⟨0, _, rfl, rfl, by omega, by omega, by omega, by omega, rfl⟩, ?_⟩
    rintro m u x y w2 ⟨i, s, rfl, rfl, hi, rfl, hs, hs2, rfl⟩
    refine ⟨k, hB.l1, IfB.intro (fun hc => IfB.intro (fun hd => ?_) (fun hd => ⟨s, rfl, hs, by omega, rfl⟩)) (fun hc => ⟨s, rfl, hs, by omega, rfl⟩)⟩
    have hlt := of_decide_eq_true hc
    have hd := of_decide_eq_true hd
    obtain ⟨q, z, hq, hz, hld⟩ := sv_at hB.nd.hk (i := i) (by omega)
    have := h2 z (List.mem_of_getElem? hz)
    have w1 : IntKind.wrap .i64 ((s : Int) + (z.size : Int)) = ((s + z.size : Nat) : Int) := by rw [wrap64 _ (by omega)]; omega
    exact ⟨k, hB.l1, q, hq, by omega, by omega, z, hld, 300 - (i + 1), by omega, i + 1, s + z.size, by rw [wrap64 _ (by omega)]; omega, w1, by omega, rfl, by omega, by omega, rfl⟩
  rintro u x w2 ⟨s, rfl, hs, hs2, rfl⟩
  refine ⟨fun m x y w' => ∃ i s : Nat, y = (i : Int) ∧ x = (s : Int) ∧ i ≤ 300 ∧ m = 300 - i ∧ k.l + v.l + d.l ≤ s ∧ s ≤ (303 + i) * 140737488355328 ∧ w' = w2, 300, ⟨0, s, rfl, rfl, by omega, by omega, by omega, by omega, rfl⟩, ?_⟩
  clear hs hs2 s
  rintro m u x y w3 ⟨i, s, rfl, rfl, hi, rfl, hs, hs2, rfl⟩
  have fin : ∃ b : Bool, (Value.bool (decide ((s : Int) > 5000))) = .bool b ∧ (b = false → n.keys.length + n.vals.length + n.kids.length ≤ 5000) ∧ Frm none_ w w3 := ⟨_, rfl, fun e => by have e := of_decide_eq_false e; omega, f1⟩
  refine ⟨v, hB.l2, IfB.intro (fun hc => IfB.intro (fun hd => ?_) (fun hd => fin)) (fun hc => fin)⟩
  have hlt := of_decide_eq_true hc
  have hd := of_decide_eq_true hd
  obtain ⟨q, z, hq, hz, hld⟩ := sv_at hB.nd.hv (i := i) (by omega)
  have := h3 z (List.mem_of_getElem? hz)
  exact ⟨v, hB.l2, q, hq, by omega, by omega, z, hld, 300 - (i + 1), by omega, i + 1, s + z.size, by rw [wrap64 _ (by omega)]; omega, by rw [wrap64 _ (by omega)]; omega, by omega, rfl, by omega, by omega, rfl⟩
end Go.Proofs.Ytedkaegdfdcdaaa
