/- The plain laws of nodes: what is written is read as it was; room; a node without one of its keys. -/
import Derived.Test.YtedkaegdfdcdaaaDr
set_option linter.unusedVariables false
set_option linter.unusedSimpArgs false
namespace Go.Proofs.Ytedkaegdfdcdaaa
open Go Go.Proofs.YtedkaegdfdcdaaaV
theorem count_own {k m : Int} (h0 : 0 ≤ k) (h1 : k ≤ 2147483647) (h2 : k ≤ m) (t : List UInt8) : countR m (some (cb k ++ t)) = (k, some t) := by
  have e : cb k = gb k.toNat := by unfold cb; rw [if_neg (by omega)]
  rw [e]
  have h := cnt_some (num_gb (u := k.toNat) (by omega) t) (m := m) (by omega) (by omega)
  simp only [countR, h, List.drop_left]
  rw [Int.toNat_of_nonneg h0]
theorem str_own {s : ByteArray} {m : Int} (h1 : s.size ≤ 2147483647) (h2 : (s.size : Int) ≤ m) (t : List UInt8) : strR m (some (sb s ++ t)) = (s.data.toList, some t) := by
  have e : sb s = gb s.size ++ s.data.toList := by unfold sb; rw [if_neg (by omega)]
  have hl : s.data.toList.length = s.size := Array.length_toList
  rw [e, List.append_assoc]
  have h := cnt_some (num_gb (u := s.size) (by omega) (s.data.toList ++ t)) (m := m) (by omega) (by omega)
  simp only [strR, h]
  rw [if_pos (by simp only [List.length_append]; omega)]
  rw [List.drop_left, ← hl, List.take_left, ← List.length_append, ← List.append_assoc, List.drop_left]
theorem fb_cb (v : Bool) : fb v = cb (if v = true then 1 else 0) := by
  unfold fb cb
  cases v
  · simp [gb_small]
  · simp [gb_small]
theorem flag_own (v : Bool) (t : List UInt8) : flagR (some (fb v ++ t)) = (v, some t) := by
  unfold flagR
  rw [fb_cb]
  rw [count_own (by split <;> decide) (by split <;> decide) (by split <;> decide)]
  cases v <;> rfl
def zer (n : Nd) : List UInt8 := List.replicate (256 - (nb n).length) 0
def tail (n : Nd) (i : Nat) : List UInt8 := ((List.range n.keys.length).drop i).flatMap (item n) ++ zer n
theorem tail_next (n : Nd) {i : Nat} (hi : i < n.keys.length) : tail n i = item n i ++ tail n (i + 1) := by
  unfold tail
  rw [List.drop_eq_getElem_cons (by rw [List.length_range]; exact hi), List.flatMap_cons, List.append_assoc]
  simp
theorem tail_end (n : Nd) : tail n n.keys.length = zer n := by
  unfold tail
  rw [List.drop_of_length_le (by rw [List.length_range]; exact Nat.le_refl _)]; rfl
theorem enc_tail (n : Nd) : enc n = nb0 n ++ tail n 0 := by
  unfold enc nb nbT tail zer
  rw [List.append_assoc]; rfl
/-- What has been read behind i keys. -/
def part (n : Nd) (i : Nat) : Nd := if n.leaf = true then ⟨true, n.keys.take i, n.vals.take i, []⟩ else ⟨false, n.keys.take i, [], n.kids.take (i + 1)⟩
theorem item_pos (n : Nd) (i : Nat) (hx : (n.keys.getD i ⟨#[]⟩).size ≤ 32) : 1 ≤ (item n i).length := by
  unfold item
  have : 1 ≤ (sb (n.keys.getD i ⟨#[]⟩)).length := by
    unfold sb
    rw [if_neg (by omega), List.length_append]
    have := gb_pos (n.keys.getD i ⟨#[]⟩).size
    omega
  rw [List.length_append]; omega
theorem nbT_ge {n : Nd} (h : MayN n) : ∀ i, i ≤ n.keys.length → i ≤ (nbT n i).length := by
  intro i
  induction i with
  | zero => intro _; exact Nat.zero_le _
  | succ i ih =>
    intro hi
    have := ih (by omega)
    have hx : n.keys[i]? = some n.keys[i] := by simp [show i < n.keys.length by omega]
    have := item_pos n i (by rw [gdS hx]; exact (h.key hx).2)
    rw [nbT_succ, List.length_append]; omega
theorem keys_256 {n : Nd} (h : MayN n) (hl : (nb n).length ≤ 256) : n.keys.length ≤ 256 := by
  have := nbT_ge h n.keys.length (Nat.le_refl _)
  unfold nb at hl
  omega
theorem kid_in {n : Nd} (h : MayN n) {i : Nat} {d : Int} (hd : n.kids[i]? = some d) : 0 ≤ d ∧ d ≤ 32768 := h.2.2.1 i (List.getElem?_eq_some_iff.1 hd).1 d hd
theorem nb0_read {n : Nd} (h : MayN n) (hl : n.keys.length ≤ 256) (t : List UInt8) : dMany (nb0 n ++ t) = (n.keys.length : Int) ∧ dBeg (nb0 n ++ t) = (part n 0, some t) := by
  have h4 := h.2.2.2
  have e1 : flagR (some (nb0 n ++ t)) = (n.leaf, some (cb (n.keys.length : Int) ++ ((if n.leaf = true then [] else cb (n.kids.getD 0 0)) ++ t))) := by
    unfold nb0
    rw [List.append_assoc, List.append_assoc, flag_own]
  have e2 := count_own (k := (n.keys.length : Int)) (m := 256) (by omega) (by omega) (by omega) ((if n.leaf = true then [] else cb (n.kids.getD 0 0)) ++ t)
  refine ⟨by unfold dMany; rw [e1, e2], ?_⟩
  unfold dBeg
  rw [e1]
  simp only
  rw [e2]
  simp only
  by_cases hf : n.leaf = true
  · rw [if_pos hf, if_pos hf]
    unfold part
    rw [if_pos hf]; simp
  · rw [if_neg hf, if_neg hf]
    rw [if_neg hf] at h4
    have hx : n.kids[0]? = some n.kids[0] := by simp [show 0 < n.kids.length by omega]
    have hk := kid_in h hx
    rw [gdI hx, count_own hk.1 (by omega) hk.2]
    unfold part
    rw [if_neg hf, List.take_add_one, hx]; simp
theorem step_read {n : Nd} (h : MayN n) {i : Nat} (hi : i < n.keys.length) : dStep (part n i, some (tail n i)) = (part n (i + 1), some (tail n (i + 1))) := by
  have h4 := h.2.2.2
  have hx : n.keys[i]? = some n.keys[i] := by simp [hi]
  have hk := h.key hx
  rw [tail_next n hi]
  unfold item
  rw [gdS hx, List.append_assoc]
  unfold dStep
  simp only
  rw [str_own (by omega) (by omega)]
  simp only [str_list]
  by_cases hf : n.leaf = true
  · rw [if_pos hf] at h4
    have hy : n.vals[i]? = some n.vals[i] := by simp [show i < n.vals.length by omega]
    have hv := h.val hy
    have e1 : (part n i).leaf = true := by unfold part; rw [if_pos hf]
    rw [if_pos e1, if_pos hf, gdS hy, str_own (by omega) (by omega)]
    simp only [str_list]
    unfold part
    rw [if_pos hf, if_pos hf]
    simp only
    rw [List.take_add_one (i := i) (l := n.keys), hx, List.take_add_one (i := i) (l := n.vals), hy]; rfl
  · rw [if_neg hf] at h4
    have hy : n.kids[i + 1]? = some n.kids[i + 1] := by simp [show i + 1 < n.kids.length by omega]
    have hd := kid_in h hy
    have e1 : ¬ (part n i).leaf = true := by unfold part; rw [if_neg hf]; simp
    rw [if_neg e1, if_neg hf, gdI hy, count_own hd.1 (by omega) hd.2]
    unfold part
    rw [if_neg hf, if_neg hf]
    simp only
    rw [List.take_add_one (i := i) (l := n.keys), hx, List.take_add_one (i := i + 1) (l := n.kids), hy]; rfl
theorem iter_read {n : Nd} (h : MayN n) : ∀ i, i ≤ n.keys.length → dIter i (part n 0, some (tail n 0)) = (part n i, some (tail n i)) := by
  intro i
  induction i with
  | zero => intro _; rfl
  | succ i ih => intro hi; rw [dIter, ih (by omega), step_read h (by omega)]
theorem part_end {n : Nd} (h : MayN n) : part n n.keys.length = n := by
  have h4 := h.2.2.2
  unfold part
  by_cases hf : n.leaf = true
  · rw [if_pos hf] at h4 ⊢
    cases n
    simp only at hf h4 ⊢
    subst hf
    rw [List.take_length, List.take_of_length_le (by omega)]
    congr 1
    exact (List.eq_nil_of_length_eq_zero h4.2).symm
  · rw [if_neg hf] at h4 ⊢
    obtain ⟨leaf, keys, vals, kids⟩ := n
    simp only at hf h4 ⊢
    have hf : leaf = false := by simpa using hf
    subst hf
    rw [List.take_length, List.take_of_length_le (by omega)]
    congr 1
    exact (List.eq_nil_of_length_eq_zero h4.1).symm
theorem dEnd_enc {n : Nd} (h : MayN n) (hl : (nb n).length ≤ 256) : dEnd (enc n) = (n, some (zer n)) := by
  obtain ⟨h1, h2⟩ := nb0_read h (keys_256 h hl) (tail n 0)
  unfold dEnd
  rw [enc_tail, h1, h2, Int.toNat_natCast, iter_read h _ (Nat.le_refl _), part_end h, tail_end]
/-- What is written is read as it was. -/
theorem back_law {n : Nd} (h : MayN n) (hl : (nb n).length ≤ 256) : decN (enc n) = n ∧ decC (enc n) = 0 := by
  have he := dEnd_enc h hl
  have hc : encC n = 0 := by
    rcases encC_cases n with ⟨hn, _⟩ | ⟨_, h2, _⟩ | ⟨_, _, e, _⟩
    · exact absurd h hn
    · omega
    · exact e
  rcases good_iff (enc n) with ⟨_, e1, e2⟩ | ⟨hg, _⟩
  · rw [he] at e1; exact ⟨e1, e2⟩
  · exact absurd ⟨by rw [he]; rfl, by rw [he]; exact hc, by rw [he]⟩ hg
/-- What is read is written as it was. -/
theorem forth_law {l : List UInt8} (h : decC l = 0) : encC (decN l) = 0 ∧ encL (decN l) = l := by
  rcases good_iff l with ⟨hg, e1, _⟩ | ⟨_, _, e2⟩
  · rw [e1]
    refine ⟨hg.2.1, ?_⟩
    unfold encL
    rw [if_pos hg.2.1]; exact hg.2.2
  · rw [e2] at h; exact absurd h (by decide)
/-! ### Room -/
theorem gb_128 {u : Nat} (h : u < 128) : (gb u).length = 1 := by rw [gb_small h]; rfl
theorem gb_3 {u : Nat} (h : u ≤ 32768) : (gb u).length ≤ 3 := by
  have h1 := gb_mono 32768 u h
  have : (gb 32768).length = 3 := by
    rw [gb_big (by omega), gb_big (by omega), gb_small (by omega)]; rfl
  omega
theorem sb_32 {s : ByteArray} (h : s.size < 128) : (sb s).length = 1 + s.size := by
  have : s.data.toList.length = s.size := Array.length_toList
  unfold sb
  rw [if_neg (by omega), List.length_append, gb_128 h]; omega
theorem cb_3 {d : Int} (h : 0 ≤ d ∧ d ≤ 32768) : (cb d).length ≤ 3 := by
  unfold cb
  rw [if_neg (by omega)]
  exact gb_3 (by omega)
theorem cb_1 {m : Nat} (h : m < 128) : (cb (m : Int)).length = 1 := by
  unfold cb
  rw [if_neg (by omega), Int.toNat_natCast, gb_128 h]
theorem room_leaf {n : Nd} (h : MayN n) (hf : n.leaf = true) (hk : n.keys.length ≤ 2) : (nb n).length ≤ 256 := by
  have h4 := h.2.2.2
  rw [if_pos hf] at h4
  have hi : ∀ i, i < n.keys.length → (item n i).length ≤ 98 := by
    intro i hi
    have hx : n.keys[i]? = some n.keys[i] := by simp [hi]
    have hy : n.vals[i]? = some n.vals[i] := by simp [show i < n.vals.length by omega]
    have h1 := h.key hx
    have h2 := h.val hy
    unfold item
    rw [if_pos hf, gdS hx, gdS hy, List.length_append, sb_32 (by omega), sb_32 (by omega)]; omega
  have hT : ∀ i, i ≤ n.keys.length → (nbT n i).length ≤ 11 + i * 98 := by
    intro i
    induction i with
    | zero => intro _; have := nb0_len n; simp [nbT]; omega
    | succ i ih =>
      intro hi'
      have := ih (by omega)
      have := hi i (by omega)
      rw [nbT_succ, List.length_append]; omega
  have := hT n.keys.length (Nat.le_refl _)
  unfold nb; omega
theorem room_kids {n : Nd} (h : MayN n) (hf : n.leaf = false) (hk : n.keys.length ≤ 6) : (nb n).length ≤ 256 := by
  have h4 := h.2.2.2
  rw [if_neg (by rw [hf]; decide)] at h4
  have hi : ∀ i, i < n.keys.length → (item n i).length ≤ 36 := by
    intro i hi
    have hx : n.keys[i]? = some n.keys[i] := by simp [hi]
    have hy : n.kids[i + 1]? = some n.kids[i + 1] := by simp [show i + 1 < n.kids.length by omega]
    have h1 := h.key hx
    have h2 := cb_3 (kid_in h hy)
    unfold item
    rw [if_neg (by rw [hf]; decide), gdS hx, gdI hy, List.length_append, sb_32 (by omega)]; omega
  have hT : ∀ i, i ≤ n.keys.length → (nbT n i).length ≤ 11 + i * 36 := by
    intro i
    induction i with
    | zero => intro _; have := nb0_len n; simp [nbT]; omega
    | succ i ih =>
      intro hi'
      have := ih (by omega)
      have := hi i (by omega)
      rw [nbT_succ, List.length_append]; omega
  have := hT n.keys.length (Nat.le_refl _)
  unfold nb; omega
/-- A node without a key. -/
def wo (n : Nd) (i : Nat) : Nd := ⟨n.leaf, n.keys.eraseIdx i, n.vals.eraseIdx i, n.kids.eraseIdx (i + 1)⟩
theorem er_get {α : Type} (l : List α) (i j : Nat) : (l.eraseIdx i)[j]? = if j < i then l[j]? else l[j + 1]? := List.getElem?_eraseIdx ..
theorem wo_may {n : Nd} (h : MayN n) {i : Nat} (hi : i < n.keys.length) : MayN (wo n i) := by
  have hso := sorted h.1
  have hkl : (wo n i).keys.length = n.keys.length - 1 := by show (n.keys.eraseIdx i).length = _; rw [List.length_eraseIdx]; simp [hi]
  refine ⟨fun j hj k hk => ?_, fun j hj v hv => ?_, fun j hj d hd => ?_, ?_⟩
  · have hk' : (n.keys.eraseIdx i)[j]? = some k := hk
    rw [er_get] at hk'
    have h1 : 1 ≤ k.size ∧ k.size ≤ 32 := by
      split at hk'
      · exact h.key hk'
      · exact h.key hk'
    refine ⟨h1.1, h1.2, fun h0 p hp => ?_⟩
    have hp' : (n.keys.eraseIdx i)[j - 1]? = some p := hp
    rw [er_get] at hp'
    split at hp'
    · split at hk'
      · exact hso j (j - 1) p k (by omega) hp' hk'
      · exact hso (j + 1) (j - 1) p k (by omega) hp' hk'
    · split at hk'
      · omega
      · exact hso (j + 1) (j - 1 + 1) p k (by omega) hp' hk'
  · have hv' : (n.vals.eraseIdx i)[j]? = some v := hv
    rw [er_get] at hv'
    split at hv'
    · exact h.val hv'
    · exact h.val hv'
  · have hd' : (n.kids.eraseIdx (i + 1))[j]? = some d := hd
    rw [er_get] at hd'
    split at hd'
    · exact kid_in h hd'
    · exact kid_in h hd'
  · have h4 := h.2.2.2
    have hvl : (wo n i).vals.length = if i < n.vals.length then n.vals.length - 1 else n.vals.length := List.length_eraseIdx ..
    have hdl : (wo n i).kids.length = if i + 1 < n.kids.length then n.kids.length - 1 else n.kids.length := List.length_eraseIdx ..
    show if n.leaf = true then _ else _
    by_cases hf : n.leaf = true
    · rw [if_pos hf] at h4 ⊢
      rw [hkl, hvl, hdl, if_pos (by omega), if_neg (by omega)]; omega
    · rw [if_neg hf] at h4 ⊢
      rw [hkl, hvl, hdl, if_neg (by omega), if_pos (by omega)]; omega
def skip (i j : Nat) : Nat := if j < i then j else j + 1
theorem wo_item {n : Nd} {i : Nat} (j : Nat) : item (wo n i) j = item n (skip i j) := by
  have e1 : (wo n i).keys.getD j ⟨#[]⟩ = n.keys.getD (skip i j) ⟨#[]⟩ := by
    show (n.keys.eraseIdx i).getD j _ = _
    rw [List.getD_eq_getElem?_getD, List.getD_eq_getElem?_getD, er_get]
    unfold skip; split <;> rfl
  have e2 : (wo n i).vals.getD j ⟨#[]⟩ = n.vals.getD (skip i j) ⟨#[]⟩ := by
    show (n.vals.eraseIdx i).getD j _ = _
    rw [List.getD_eq_getElem?_getD, List.getD_eq_getElem?_getD, er_get]
    unfold skip; split <;> rfl
  have e3 : (wo n i).kids.getD (j + 1) 0 = n.kids.getD (skip i j + 1) 0 := by
    show (n.kids.eraseIdx (i + 1)).getD (j + 1) _ = _
    rw [List.getD_eq_getElem?_getD, List.getD_eq_getElem?_getD, er_get]
    unfold skip
    by_cases h : j < i
    · rw [if_pos h, if_pos (by omega)]
    · rw [if_neg h, if_neg (by omega)]
  unfold item
  rw [e1, e2, e3]
  rfl
def sumN (f : Nat → Nat) : Nat → Nat
  | 0 => 0
  | m + 1 => sumN f m + f m
theorem sum_skip (f : Nat → Nat) (i : Nat) : ∀ m, i ≤ m → sumN (fun j => f (skip i j)) m + f i = sumN f (m + 1) := by
  intro m
  induction m with
  | zero =>
    intro h
    have : i = 0 := by omega
    subst this; simp [sumN]
  | succ m ih =>
    intro h
    rcases Nat.lt_or_eq_of_le h with h1 | h1
    · have := ih (by omega)
      have e : f (skip i m) = f (m + 1) := by unfold skip; rw [if_neg (by omega)]
      simp only [sumN] at this ⊢
      omega
    · subst h1
      have hs : ∀ m', m' ≤ m + 1 → sumN (fun j => f (skip (m + 1) j)) m' = sumN f m' := by
        intro m'
        induction m' with
        | zero => intro _; rfl
        | succ m' ih' =>
          intro h'
          have e : f (skip (m + 1) m') = f m' := by unfold skip; rw [if_pos (by omega)]
          simp only [sumN]
          rw [ih' (by omega), e]
      rw [hs (m + 1) (Nat.le_refl _)]; rfl
theorem nbT_sum (n : Nd) (i : Nat) : (nbT n i).length = (nb0 n).length + sumN (fun j => (item n j).length) i := by
  induction i with
  | zero => simp [nbT, sumN]
  | succ i ih => rw [nbT_succ, List.length_append, ih]; simp only [sumN]; omega
theorem wo_len {n : Nd} (h : MayN n) (hbg : n.keys.length ≤ 2147483647) {i : Nat} (hi : i < n.keys.length) : (nb (wo n i)).length < (nb n).length := by
  have hkl : (wo n i).keys.length = n.keys.length - 1 := by show (n.keys.eraseIdx i).length = _; rw [List.length_eraseIdx]; simp [hi]
  have hx : n.keys[i]? = some n.keys[i] := by simp [hi]
  have hp := item_pos n i (by rw [gdS hx]; exact (h.key hx).2)
  have h0 : (nb0 (wo n i)).length ≤ (nb0 n).length := by
    unfold nb0
    have e1 : (wo n i).leaf = n.leaf := rfl
    have e2 : (wo n i).kids.getD 0 0 = n.kids.getD 0 0 := by
      show (n.kids.eraseIdx (i + 1)).getD 0 0 = _
      rw [List.getD_eq_getElem?_getD, List.getD_eq_getElem?_getD, er_get, if_pos (by omega)]
    have e3 : (cb ((wo n i).keys.length : Int)).length ≤ (cb (n.keys.length : Int)).length ∨ 2147483647 < n.keys.length := by
      rw [hkl]
      by_cases hbig : 2147483647 < n.keys.length
      · exact .inr hbig
      · left
        unfold cb
        rw [if_neg (by omega), if_neg (by omega)]
        exact gb_mono _ _ (by omega)
    rcases e3 with e3 | e3
    · rw [e1, e2, List.length_append, List.length_append, List.length_append, List.length_append]; omega
    · rw [e1, e2, List.length_append, List.length_append, List.length_append, List.length_append]
      have a1 := cb_len ((wo n i).keys.length : Int)
      omega
  unfold nb
  rw [nbT_sum, nbT_sum, hkl]
  have hsum := sum_skip (fun j => (item n j).length) i (n.keys.length - 1) (by omega)
  rw [show n.keys.length - 1 + 1 = n.keys.length by omega] at hsum
  have e : sumN (fun j => (item (wo n i) j).length) (n.keys.length - 1) = sumN (fun j => (item n (skip i j)).length) (n.keys.length - 1) := by
    congr 1
    funext j
    rw [wo_item]
  rw [e]
  have hsum : sumN (fun j => (item n (skip i j)).length) (n.keys.length - 1) + (item n i).length = sumN (fun j => (item n j).length) n.keys.length := hsum
  omega
end Go.Proofs.Ytedkaegdfdcdaaa
