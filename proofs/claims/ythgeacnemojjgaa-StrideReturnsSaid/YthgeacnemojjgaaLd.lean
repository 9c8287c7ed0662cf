/- Which bytes are projects'; the program's Load. -/
import Derived.Test.YthgeacnemojjgaaSv
set_option linter.unusedVariables false
set_option linter.unusedSimpArgs false
set_option maxRecDepth 20000
namespace Go.Proofs.Ythgeacnemojjgaa
open Go Go.Proofs.YthgeacnemojjgaaV
theorem cb_gb {k : Int} (h0 : 0 ≤ k) (h : k ≤ 2147483647) : cb k = gb k.toNat := by unfold cb; rw [if_neg (by omega)]
theorem sb_gb {s : ByteArray} (h : s.size ≤ 2147483647) : sb s = gb s.size ++ s.data.toList := by unfold sb; rw [if_neg (by omega)]
/-- A project's numbers are such that its bytes say them. -/
structure Fit (p : Pj) : Prop where
  n : p.n.size ≤ 24
  s0 : 0 ≤ p.sh
  s1 : p.sh ≤ 1000
  h0 : 0 ≤ p.had
  h1 : p.had ≤ 2147483647
theorem OkP.fit {p : Pj} (h : OkP p) : Fit p := ⟨h.name.2.1, by have := h.s1; omega, h.s2, h.h1, h.h2⟩
theorem sb_inj {p q : ByteArray} {s t : List UInt8} (hp : p.size ≤ 24) (hq : q.size ≤ 24) (h : sb p ++ s = sb q ++ t) : p = q ∧ s = t := by
  rw [sb_gb (by omega), sb_gb (by omega), List.append_assoc, List.append_assoc] at h
  obtain ⟨h1, h2⟩ := gb_inj (by omega) (by omega) h
  have l1 : p.data.toList.length = p.size := Array.length_toList
  have l2 : q.data.toList.length = q.size := Array.length_toList
  obtain ⟨h3, h4⟩ := List.append_inj h2 (by omega)
  exact ⟨ba_ext h3, h4⟩
theorem cb_inj {a b : Int} {s t : List UInt8} (ha : 0 ≤ a ∧ a ≤ 2147483647) (hb : 0 ≤ b ∧ b ≤ 2147483647) (h : cb a ++ s = cb b ++ t) : a = b ∧ s = t := by
  rw [cb_gb ha.1 ha.2, cb_gb hb.1 hb.2] at h
  obtain ⟨h1, h2⟩ := gb_inj (by omega) (by omega) h
  exact ⟨by omega, h2⟩
theorem fb_inj {a b : Bool} {s t : List UInt8} (h : fb a ++ s = fb b ++ t) : a = b ∧ s = t := by
  cases a <;> cases b <;> simp [fb] at h
  · exact ⟨rfl, h⟩
  · exact ⟨rfl, h⟩
theorem pb_inj {p q : Pj} {s t : List UInt8} (hp : Fit p) (hq : Fit q) (h : pb p ++ s = pb q ++ t) : p = q ∧ s = t := by
  unfold pb at h
  simp only [List.append_assoc] at h
  have hp1 := hp.s1; have hq1 := hq.s1
  obtain ⟨e1, h⟩ := sb_inj hp.n hq.n h
  obtain ⟨e2, h⟩ := cb_inj ⟨hp.s0, by omega⟩ ⟨hq.s0, by omega⟩ h
  obtain ⟨e3, h⟩ := cb_inj ⟨hp.h0, hp.h1⟩ ⟨hq.h0, hq.h1⟩ h
  obtain ⟨e4, h⟩ := fb_inj h
  refine ⟨?_, h⟩
  cases p; cases q
  simp only at e1 e2 e3 e4
  rw [e1, e2, e3, e4]
theorem det {qs : List Pj} (hq : ∀ p ∈ qs, Fit p) : ∀ {ps : List Pj} {rest : List UInt8}, (∀ p ∈ ps, Fit p) → ps.length ≤ qs.length → ps.flatMap pb ++ rest = qs.flatMap pb → ps = qs.take ps.length ∧ rest = (qs.drop ps.length).flatMap pb := by
  induction qs with
  | nil =>
    intro ps rest _ hl h
    have : ps = [] := List.eq_nil_of_length_eq_zero (by simpa using hl)
    subst this
    exact ⟨rfl, by simpa using h⟩
  | cons q qs ih =>
    intro ps rest hp hl h
    cases ps with
    | nil => exact ⟨rfl, by simpa using h⟩
    | cons p ps =>
      rw [List.flatMap_cons, List.flatMap_cons, List.append_assoc] at h
      obtain ⟨h1, h2⟩ := pb_inj (hp p (by simp)) (hq q (by simp)) h
      obtain ⟨h3, h4⟩ := ih (fun x hx => hq x (by simp [hx])) (fun x hx => hp x (by simp [hx])) (by simpa using hl) h2
      refine ⟨?_, by simpa using h4⟩
      rw [List.length_cons, List.take_succ_cons, ← h3, h1]
theorem saveP_inj {ps qs : List Pj} (hp : OkM ps) (hq : OkM qs) (h : saveP ps = saveP qs) : ps = qs := by
  have h1 := hp.n
  have h2 := hq.n
  unfold saveP at h
  obtain ⟨e1, e2⟩ := cb_inj (by omega) (by omega) h
  have := (det (fun p hp' => (hq.each p hp').fit) (ps := ps) (rest := []) (fun p hp' => (hp.each p hp').fit) (by omega) (by rw [List.append_nil]; exact e2)).1
  rw [this, show ps.length = qs.length by omega, List.take_length]
open Classical in
noncomputable def ldOf (l : List UInt8) : Option (List Pj) := if h : ∃ ps, OkM ps ∧ saveP ps = l then some h.choose else none
theorem ldOf_some {ps : List Pj} {l : List UInt8} (h : OkM ps) (e : saveP ps = l) : ldOf l = some ps := by
  have hx : ∃ ps, OkM ps ∧ saveP ps = l := ⟨ps, h, e⟩
  unfold ldOf
  rw [dif_pos hx]
  congr 1
  exact saveP_inj hx.choose_spec.1 h (by rw [hx.choose_spec.2, e])
theorem ldOf_none {l : List UInt8} (h : ∀ ps, OkM ps → saveP ps ≠ l) : ldOf l = none := by
  unfold ldOf
  rw [dif_neg]
  rintro ⟨ps, h1, h2⟩
  exact h ps h1 h2
theorem ldOf_spec {ps : List Pj} {l : List UInt8} (h : ldOf l = some ps) : OkM ps ∧ saveP ps = l := by
  unfold ldOf at h
  split at h
  · rename_i hx
    have := hx.choose_spec
    cases h
    exact this
  · cases h
/-- What has been taken off. -/
structure Off (l : List UInt8) (n : Int) (ps : List Pj) (rest : List UInt8) : Prop where
  n0 : 0 ≤ n
  nb : n ≤ 4
  le : (ps.length : Int) ≤ n
  srt : Srt ps
  each : ∀ p ∈ ps, OkP p
  eq : l = cb n ++ (ps.flatMap pb ++ rest)
theorem Off.of {l : List UInt8} {n : Int} {ps qs : List Pj} {rest : List UInt8} (h : Off l n ps rest) (hq : OkM qs) (e : saveP qs = l) : n = qs.length ∧ ps = qs.take ps.length ∧ rest = (qs.drop ps.length).flatMap pb := by
  have h1 := hq.n
  have h2 := h.nb
  have h4 := h.n0
  have h3 := h.eq
  rw [← e] at h3
  unfold saveP at h3
  obtain ⟨e1, e2⟩ := cb_inj (by omega) (by omega) h3
  have hle := h.le
  obtain ⟨e3, e4⟩ := det (fun p hp => (hq.each p hp).fit) (ps := ps) (rest := rest) (fun p hp => (h.each p hp).fit) (by omega) e2.symm
  exact ⟨e1.symm, e3, e4⟩
theorem Off.next {l : List UInt8} {n : Int} {ps : List Pj} {rest t : List UInt8} {p : Pj} (h : Off l n ps rest) (hl : (ps.length : Int) < n) (hp : OkP p) (hs : Srt (ps ++ [p])) (e : rest = pb p ++ t) : Off l n (ps ++ [p]) t := by
  refine ⟨h.n0, h.nb, by simp; omega, hs, fun q hq => ?_, ?_⟩
  · rcases List.mem_append.1 hq with hq | hq
    · exact h.each q hq
    · simp at hq; rw [hq]; exact hp
  · rw [h.eq, e, List.flatMap_append]; simp
theorem Off.done {l : List UInt8} {n : Int} {ps : List Pj} (h : Off l n ps []) (hl : (ps.length : Int) = n) : ldOf l = some ps := by
  have h1 := h.nb
  refine ldOf_some ⟨by omega, h.srt, h.each⟩ ?_
  unfold saveP
  rw [hl, h.eq, List.append_nil]
theorem Off.rest {l : List UInt8} {n : Int} {ps : List Pj} {rest : List UInt8} (h : Off l n ps rest) (hl : (ps.length : Int) = n) (hr : rest ≠ []) : ldOf l = none := by
  refine ldOf_none fun qs hq e => hr ?_
  obtain ⟨e1, e2, e3⟩ := h.of hq e
  rw [e3, List.drop_of_length_le (by omega)]; rfl
/-- The next one is none. -/
theorem Off.bad {l : List UInt8} {n : Int} {ps : List Pj} {rest : List UInt8} (h : Off l n ps rest) (hl : (ps.length : Int) < n) (hb : ∀ (p : Pj) (t : List UInt8), OkP p → (∀ q ∈ ps, blt q.n p.n = true) → rest ≠ pb p ++ t) : ldOf l = none := by
  refine ldOf_none fun qs hq e => ?_
  obtain ⟨e1, e2, e3⟩ := h.of hq e
  have hi : ps.length < qs.length := by omega
  rw [List.drop_eq_getElem_cons hi, List.flatMap_cons] at e3
  refine hb _ _ (hq.each qs[ps.length] (List.getElem_mem hi)) (fun q hq' => ?_) e3
  rw [e2] at hq'
  obtain ⟨j, hj⟩ := List.mem_iff_getElem?.1 hq'
  rw [List.getElem?_take] at hj
  split at hj
  · rename_i hjl
    exact hq.srt.lt hjl hj (List.getElem?_eq_getElem hi)
  · cases hj
/-! ### What a reader tells -/
theorem cnt_took {m : Int} (hm : m ≤ 2147483647) (rest : List UInt8) : ((countR m (some rest)) = (0, none) ∧ ∀ (k : Int) (t : List UInt8), 0 ≤ k → k ≤ m → rest ≠ cb k ++ t) ∨ ∃ (k : Int) (t : List UInt8), 0 ≤ k ∧ k ≤ m ∧ rest = cb k ++ t ∧ countR m (some rest) = (k, some t) := by
  cases hc : cnt rest m with
  | none =>
    left
    refine ⟨by simp [countR, hc], fun k t h0 h1 e => ?_⟩
    rw [cb_gb h0 (by omega)] at e
    have := cnt_some (m := m) (num_gb (u := k.toNat) (by omega) t) (by omega) (by omega)
    rw [← e, hc] at this
    cases this
  | some un =>
    obtain ⟨u, n⟩ := un
    obtain ⟨hn, hu1, hu2⟩ := cnt_num hc
    obtain ⟨n1, n2, n3⟩ := num_some hn
    right
    refine ⟨(u : Int), rest.drop n, by omega, by omega, ?_, by simp [countR, hc]⟩
    rw [cb_gb (by omega) (by omega), Int.toNat_natCast]
    exact n3
theorem str_own {s : ByteArray} {m : Int} (h1 : s.size ≤ 2147483647) (h2 : (s.size : Int) ≤ m) (t : List UInt8) : strR m (some (sb s ++ t)) = (s.data.toList, some t) := by
  have hl : s.data.toList.length = s.size := Array.length_toList
  rw [sb_gb h1, List.append_assoc]
  have h := cnt_some (num_gb (u := s.size) (by omega) (s.data.toList ++ t)) (m := m) (by omega) (by omega)
  simp only [strR, h]
  rw [if_pos (by simp only [List.length_append]; omega)]
  rw [List.drop_left, ← hl, List.take_left, ← List.length_append, ← List.append_assoc, List.drop_left]
theorem str_took (rest : List UInt8) : (strR 24 (some rest) = ([], none) ∧ ∀ (p : ByteArray) (t : List UInt8), p.size ≤ 24 → rest ≠ sb p ++ t) ∨ ∃ (p : ByteArray) (t : List UInt8), p.size ≤ 24 ∧ rest = sb p ++ t ∧ strR 24 (some rest) = (p.data.toList, some t) := by
  by_cases h : ∃ (p : ByteArray) (t : List UInt8), p.size ≤ 24 ∧ rest = sb p ++ t
  · obtain ⟨p, t, h2, e⟩ := h
    right
    refine ⟨p, t, h2, e, ?_⟩
    rw [e]
    exact str_own (by omega) (by omega) t
  · left
    refine ⟨?_, fun p t h2 e => h ⟨p, t, h2, e⟩⟩
    cases hc : cnt rest 24 with
    | none => simp [strR, hc]
    | some un =>
      obtain ⟨u, k⟩ := un
      obtain ⟨hn, hu1, hu2⟩ := cnt_num hc
      obtain ⟨n1, n2, n3⟩ := num_some hn
      simp only [strR, hc]
      split
      · rename_i hle
        exfalso
        have hlen : ((rest.drop k).take u).length = u := by rw [List.length_take, List.length_drop]; omega
        refine h ⟨str ((rest.drop k).take u), (rest.drop k).drop u, ?_, ?_⟩
        · show ((rest.drop k).take u).length ≤ 24; omega
        · have es : (str ((rest.drop k).take u)).size = u := hlen
          rw [sb_gb (by rw [es]; omega), es, List.append_assoc]
          show rest = gb u ++ ((rest.drop k).take u ++ (rest.drop k).drop u)
          rw [List.take_append_drop]
          exact n3
      · rfl
theorem fb_cb (v : Bool) : fb v = cb (if v then 1 else 0) := by cases v <;> (rw [cb_gb (by simp) (by simp)]; simp [fb, gb_small])
theorem flag_took (rest : List UInt8) : (flagR (some rest) = (false, none) ∧ ∀ (v : Bool) (t : List UInt8), rest ≠ fb v ++ t) ∨ ∃ (v : Bool) (t : List UInt8), rest = fb v ++ t ∧ flagR (some rest) = (v, some t) := by
  rcases cnt_took (m := 1) (by omega) rest with ⟨h1, h2⟩ | ⟨k, t, h0, h1, e, h⟩
  · left
    refine ⟨by unfold flagR; rw [h1]; rfl, fun v t e => ?_⟩
    rw [fb_cb] at e
    refine h2 _ t ?_ ?_ e <;> (cases v <;> simp)
  · right
    refine ⟨decide (k = 1), t, ?_, ?_⟩
    · rw [fb_cb, e]
      congr 2
      by_cases h1 : k = 1
      · simp [h1]
      · simp [h1]; omega
    · unfold flagR
      rw [h]
      by_cases h1 : k = 1
      · simp [h1]
      · simp [h1]
/-- A project is read off, or none is. -/
def rdP (r : Rd) : Pj × Rd :=
  let a := strR 24 r
  let b := countR 1000 a.2
  let c := countR 2147483647 b.2
  let d := flagR c.2
  (⟨str a.1, b.1, c.1, d.1⟩, d.2)
theorem rdP_none : rdP none = (⟨⟨#[]⟩, 0, 0, false⟩, none) := by simp [rdP, strR, countR, flagR, str]
theorem rd_took (rest : List UInt8) : (∃ p, rdP (some rest) = (p, none) ∧ Fit p ∧ ∀ (p : Pj) (t : List UInt8), Fit p → rest ≠ pb p ++ t) ∨ ∃ (p : Pj) (t : List UInt8), Fit p ∧ rest = pb p ++ t ∧ rdP (some rest) = (p, some t) := by
  have c0 : ∀ m, countR m none = (0, none) := fun m => rfl
  have f0 : flagR none = (false, none) := by simp [flagR, countR]
  have key : ∀ (p : Pj) (t : List UInt8), rest = pb p ++ t → rest = sb p.n ++ (cb p.sh ++ (cb p.had ++ (fb p.wt ++ t))) := fun p t e => by rw [e]; simp [pb]
  rcases str_took rest with ⟨h1, h2⟩ | ⟨s, t1, hs, e1, h1⟩
  · left
    refine ⟨⟨⟨#[]⟩, 0, 0, false⟩, by simp [rdP, h1, c0, f0, str], ⟨by decide, by simp, by simp, by simp, by simp⟩, fun p t hp e => h2 p.n _ hp.n (key p t e)⟩
  rcases cnt_took (m := 1000) (by omega) t1 with ⟨h3, h4⟩ | ⟨k, t2, k0, k1, e2, h3⟩
  · left
    refine ⟨⟨s, 0, 0, false⟩, by simp [rdP, h1, h3, c0, f0, str_list], ⟨hs, by simp, by simp, by simp, by simp⟩, fun p t hp e => ?_⟩
    have e := key p t e
    rw [e1] at e
    obtain ⟨_, e⟩ := sb_inj hs hp.n e
    exact h4 p.sh _ hp.s0 hp.s1 e
  rcases cnt_took (m := 2147483647) (by omega) t2 with ⟨h5, h6⟩ | ⟨d, t3, d0, d1, e3, h5⟩
  · left
    refine ⟨⟨s, k, 0, false⟩, by simp [rdP, h1, h3, h5, c0, f0, str_list], ⟨hs, k0, k1, by simp, by simp⟩, fun p t hp e => ?_⟩
    have e := key p t e
    rw [e1] at e
    obtain ⟨_, e⟩ := sb_inj hs hp.n e
    rw [e2] at e
    obtain ⟨_, e⟩ := cb_inj ⟨k0, by omega⟩ ⟨hp.s0, by have := hp.s1; omega⟩ e
    exact h6 p.had _ hp.h0 hp.h1 e
  rcases flag_took t3 with ⟨h7, h8⟩ | ⟨v, t4, e4, h7⟩
  · left
    refine ⟨⟨s, k, d, false⟩, by simp [rdP, h1, h3, h5, h7, str_list], ⟨hs, k0, k1, d0, d1⟩, fun p t hp e => ?_⟩
    have e := key p t e
    rw [e1] at e
    obtain ⟨_, e⟩ := sb_inj hs hp.n e
    rw [e2] at e
    obtain ⟨_, e⟩ := cb_inj ⟨k0, by omega⟩ ⟨hp.s0, by have := hp.s1; omega⟩ e
    rw [e3] at e
    obtain ⟨_, e⟩ := cb_inj ⟨d0, d1⟩ ⟨hp.h0, hp.h1⟩ e
    exact h8 p.wt _ e
  · right
    exact ⟨⟨s, k, d, v⟩, t4, ⟨hs, k0, k1, d0, d1⟩, by rw [e1, e2, e3, e4]; simp [pb], by simp [rdP, h1, h3, h5, h7, str_list]⟩
/-- A state of reading: so many are taken off, or it has failed. -/
def St (l : List UInt8) (n : Int) (ps : List Pj) (r : Rd) : Prop := (∃ rest, r = some rest ∧ Off l n ps rest) ∨ (r = none ∧ ldOf l = none ∧ Srt ps ∧ ∀ p ∈ ps, OkP p)
theorem St.srt {l : List UInt8} {n : Int} {ps : List Pj} {r : Rd} (h : St l n ps r) : Srt ps := by rcases h with ⟨_, _, h⟩ | ⟨_, _, h, _⟩; exact h.srt; exact h
theorem St.each {l : List UInt8} {n : Int} {ps : List Pj} {r : Rd} (h : St l n ps r) : ∀ p ∈ ps, OkP p := by rcases h with ⟨_, _, h⟩ | ⟨_, _, _, h⟩; exact h.each; exact h
theorem srt_snoc {ps : List Pj} {p : Pj} : Srt (ps ++ [p]) ↔ Srt ps ∧ ∀ q ∈ ps, blt q.n p.n = true := by
  unfold Srt
  rw [List.pairwise_append]
  constructor
  · rintro ⟨h1, _, h3⟩; exact ⟨h1, fun q hq => h3 q hq p (by simp)⟩
  · rintro ⟨h1, h3⟩; exact ⟨h1, List.pairwise_singleton _ _, fun q hq r hr => by simp at hr; rw [hr]; exact h3 q hq⟩
theorem St.first (l : List UInt8) : St l (countR 4 (some l)).1 [] (countR 4 (some l)).2 ∧ 0 ≤ (countR 4 (some l)).1 ∧ (countR 4 (some l)).1 ≤ 4 := by
  rcases cnt_took (m := 4) (by omega) l with ⟨h, h2⟩ | ⟨k, t, h0, h1, e, h⟩
  · rw [h]
    refine ⟨.inr ⟨rfl, ldOf_none fun qs hq e => ?_, List.Pairwise.nil, by simp⟩, by simp, by simp⟩
    have := hq.n
    exact h2 (qs.length : Int) _ (by omega) (by omega) e.symm
  · rw [h]
    exact ⟨.inl ⟨t, rfl, h0, h1, by simpa using h0, List.Pairwise.nil, by simp, by simpa using e⟩, h0, h1⟩
/-- One that does is taken on. -/
theorem St.step {l : List UInt8} {n : Int} {ps : List Pj} {r : Rd} (h : St l n ps r) (hl : (ps.length : Int) < n) (hg : goodP (rdP r).1.n) (hs : 1 ≤ (rdP r).1.sh) (hlt : ∀ q ∈ ps, blt q.n (rdP r).1.n = true) : St l n (ps ++ [(rdP r).1]) (rdP r).2 := by
  rcases h with ⟨rest, rfl, h⟩ | ⟨rfl, h1, h2, h3⟩
  · rcases rd_took rest with ⟨p, he, hf, hb⟩ | ⟨p, t, hf, e, he⟩
    · rw [he] at hg hs hlt ⊢
      refine .inr ⟨rfl, h.bad hl fun p' t hp' _ e => hb p' t hp'.fit e, srt_snoc.2 ⟨h.srt, hlt⟩, fun q hq => ?_⟩
      rcases List.mem_append.1 hq with hq | hq
      · exact h.each q hq
      · simp at hq; rw [hq]; exact ⟨hg, hs, hf.s1, hf.h0, hf.h1⟩
    · rw [he] at hg hs hlt ⊢
      exact .inl ⟨t, rfl, h.next hl ⟨hg, hs, hf.s1, hf.h0, hf.h1⟩ (srt_snoc.2 ⟨h.srt, hlt⟩) e⟩
  · rw [rdP_none] at hg
    exact absurd hg.1 (by decide)
/-- One that does not: there are none. -/
theorem St.refuse {l : List UInt8} {n : Int} {ps : List Pj} {r : Rd} (h : St l n ps r) (hl : (ps.length : Int) < n) (hb : ¬ ((rdP r).2 ≠ none ∧ goodP (rdP r).1.n ∧ 1 ≤ (rdP r).1.sh ∧ ∀ q ∈ ps, blt q.n (rdP r).1.n = true)) : ldOf l = none := by
  rcases h with ⟨rest, rfl, h⟩ | ⟨rfl, h1, h2, h3⟩
  · rcases rd_took rest with ⟨p, he, hf, hb'⟩ | ⟨p, t, hf, e, he⟩
    · exact h.bad hl fun p' t hp' _ e => hb' p' t hp'.fit e
    · rw [he] at hb
      refine h.bad hl fun p' t' hp' hlt e' => hb ?_
      rw [e] at e'
      obtain ⟨rfl, _⟩ := pb_inj hf hp'.fit e'
      exact ⟨by simp, hp'.name, hp'.s1, hlt⟩
  · exact h1
theorem St.end {l : List UInt8} {n : Int} {ps : List Pj} {r : Rd} (h : St l n ps r) (hl : (ps.length : Int) = n) : ldOf l = if doneR r then some ps else none := by
  rcases h with ⟨rest, rfl, h⟩ | ⟨rfl, h1, h2, h3⟩
  · by_cases hr : rest = []
    · subst hr
      rw [if_pos (by rfl)]
      exact h.done hl
    · rw [if_neg (by simpa [doneR] using hr)]
      exact h.rest hl hr
  · rw [if_neg (by simp [doneR])]
    exact h1
theorem lo_all {nm : ByteArray} {ps : List Pj} (h : ps.length ≤ lo nm ps) : ∀ q ∈ ps, blt q.n nm = true := by
  intro q hq
  obtain ⟨j, hj⟩ := List.mem_iff_getElem?.1 hq
  have := (List.getElem?_eq_some_iff.1 hj).1
  exact lo_below (by omega) hj
theorem all_lo {nm : ByteArray} {ps : List Pj} (h : ∀ q ∈ ps, blt q.n nm = true) : lo nm ps = ps.length ∧ ix nm ps = none := by
  have hl : lo nm ps = ps.length := lo_eq (Nat.le_refl _) (fun j p hj hp => h p (List.mem_of_getElem? hp)) (fun p hp => by rw [List.getElem?_eq_none (Nat.le_refl _)] at hp; cases hp)
  refine ⟨hl, ?_⟩
  unfold ix
  rw [hl, List.getElem?_eq_none (Nat.le_refl _)]
/-! ### The program's Load -/
theorem b77p (p : Pj) : BuildIs prog 77 #[(0, .string p.n), (1, .int .i64 p.sh), (2, .int .i64 p.had), (3, .bool p.wt)] (pc p false) := fun w => by kernel_rfl
def LoadedP (w : World) (l : List UInt8) (v : Value) (w' : World) : Prop := (∃ b M D, v = .tuple #[.pointer (some ⟨b, 0, none⟩), .int .i64 0] ∧ ldOf l = some M ∧ Shw w' D b M ∧ ∀ k, D k → w.heap.size ≤ k) ∨ (v = .tuple #[.pointer none, .int .i64 4] ∧ ldOf l = none)
theorem load_calls (w : World) (x : Sl) (l : List UInt8) (hx : Has w x 1 (bv l)) (hsz : x.l ≤ 1000000000000) : Calls prog 20 #[.slice x.a x.l x.c] w fun e w' => ∃ v, e = .returned v ∧ LoadedP w l v w' ∧ Frm none_ w w' := by
  refine calls_ret (W20 (x0 := x) (Q := fun v w' => LoadedP w l v w' ∧ Frm none_ w w') ?_) (fun v w' h => ⟨v, rfl, h⟩)
  unfold F20
  refine (newReader_calls w x l hx hsz).mono ?_
  rintro _ w1 ⟨g, rfl, hg, hR1, f1⟩
  refine ⟨_, rfl, _, b73, ?_⟩
  intro b w2 hN
  have hb : b = w1.heap.size := hN.2
  have f2 : Frm none_ w w2 := f1.n (hN.mod none_)
  have hgl : g < w1.heap.size := by obtain ⟨s, a, hB, _⟩ := hR1; exact hB.lt
  refine (count_read w2 (some ⟨g, 0, none⟩) (some l) 4 (.inr ⟨g, rfl, hR1.mod (hN.mod none_) (fun h => h)⟩)).mono ?_
  rintro _ w3 ⟨rfl, hR3, f3⟩
  have ofg : ∀ k, Of (some ⟨g, 0, none⟩) k → k = g := fun k hk => by simp at hk; exact hk.symm
  obtain ⟨hst, hN0, hN4⟩ := St.first l
  generalize hcn : (countR 4 (some l)).1 = N at *
  generalize hcr : (countR 4 (some l)).2 = r0 at *
  have f3' : Frm none_ w w3 := f2.trans f3 (fun _ _ h => h) (fun k hk h => by have := ofg k h; omega)
  have z1 := f1.size
  have hS3 : Shr w3 b ⟨none, 0, 0⟩ [] (fun _ => false) [] := (shr_new hN (fun _ => false)).mod f3 (fun k hk h => by have := ofg k h; have := ft_new hk; omega)
  refine ⟨_, rfl, fun n i W => ∃ (ps : List Pj) (r : Rd) (D : Nat → Prop), i = (ps.length : Int) ∧ (ps.length : Int) ≤ N ∧ n = (N - ps.length).toNat ∧ St l N ps r ∧ RdQ W (some ⟨g, 0, none⟩) r ∧ Shw W D b ps ∧ (∀ k, D k → w.heap.size ≤ k ∧ k ≠ g) ∧ Frm none_ w W, N.toNat, ⟨[], r0, ft b ⟨none, 0, 0⟩ [], rfl, by simpa using hN0, by simp, hst, hR3, ⟨_, _, _, hS3, fun _ h => h, hS3.lt⟩, fun k hk => by have := ft_new hk; omega, f3'⟩, ?_⟩
  rintro n u i w4 ⟨ps, r, D, rfl, hle, rfl, hS, hR, hM, hD, f4⟩
  refine IfB.dec (fun hlt => ?_) (fun hge => ?_)
  · refine (str_read w4 _ r 24 hR).mono ?_
    rintro _ w5 ⟨rfl, hR5, f5⟩
    refine ⟨_, rfl, (count_read w5 _ _ 1000 hR5).mono ?_⟩
    rintro _ w6 ⟨rfl, hR6, f6⟩
    refine ⟨_, rfl, (count_read w6 _ _ 2147483647 hR6).mono ?_⟩
    rintro _ w7 ⟨rfl, hR7, f7⟩
    refine ⟨_, rfl, (flag_read w7 _ _ hR7).mono ?_⟩
    rintro _ w8 ⟨rfl, hR8, f8⟩
    have f48 : Frm (Of (some ⟨g, 0, none⟩)) w4 w8 := ((f5.trans f6 (fun _ _ h => h) (fun _ _ h => h)).trans f7 (fun _ _ h => h) (fun _ _ h => h)).trans f8 (fun _ _ h => h) (fun _ _ h => h)
    obtain ⟨p, hp⟩ : ∃ p, p = (rdP r).1 := ⟨_, rfl⟩
    have p1 : str (strR 24 r).1 = p.n := by rw [hp]; rfl
    have p2 : (countR 1000 (strR 24 r).2).1 = p.sh := by rw [hp]; rfl
    have p3 : (countR 2147483647 (countR 1000 (strR 24 r).2).2).1 = p.had := by rw [hp]; rfl
    have p4 : (flagR (countR 2147483647 (countR 1000 (strR 24 r).2).2).2).1 = p.wt := by rw [hp]; rfl
    have p5 : (flagR (countR 2147483647 (countR 1000 (strR 24 r).2).2).2).2 = (rdP r).2 := rfl
    rw [p5] at hR8
    simp only [p1, p2, p3, p4]
    refine ⟨_, rfl, _, b77p p, ?_⟩
    intro b26 w9 hN9
    have e26 : b26 = w8.heap.size := hN9.2
    have hB9 : Blk w9 b26 (pc p false) 77 := hN9.blk
    have hR9 := hR8.mod (hN9.mod none_) (fun _ _ h => h)
    have hM9 : Shw w9 D b ps := (hM.mod f48 (fun k hk h => (hD k hk).2 (ofg k h))).n (hN9.mod none_)
    have f49 : Frm none_ w w9 := (f4.trans f48 (fun _ _ h => h) (fun k hk h => by have := ofg k h; omega)).n (hN9.mod none_)
    have hfin : ∀ {v : Value} {W : World}, v = .tuple #[.pointer none, .int .i64 4] → ldOf l = none → Frm none_ w W → LoadedP w l v W ∧ Frm none_ w W := fun hv hl hf => ⟨.inr ⟨hv, hl⟩, hf⟩
    obtain ⟨s, qs, nw, hSr, hDs, hDl⟩ := hM9
    refine ⟨_, rfl, p.n, by rw [addr_add]; exact hB9.ld rfl, (find_calls w9 b s qs nw ps hSr hS.srt (by omega) p.n).mono ?_⟩
    rintro _ w10 ⟨rfl, e⟩
    subst e
    refine ⟨_, _, rfl, fun c W => W = w10 ∧ ((c = true ∧ ldOf l = none) ∨ (c = false ∧ goodP p.n ∧ 1 ≤ p.sh ∧ ∀ q ∈ ps, blt q.n p.n = true)), ?_, ?_⟩
    · have ref : ¬ (goodP p.n ∧ 1 ≤ p.sh ∧ ∀ q ∈ ps, blt q.n p.n = true) → ldOf l = none := fun hb => hS.refuse hlt (by rw [← hp]; exact fun h => hb h.2)
      refine IfB.intro (fun hi => ⟨rfl, .inl ⟨rfl, ref fun h => ?_⟩⟩) (fun hi => ⟨_, rfl, s, by rw [addr_add]; exact hSr.blk.ld rfl, ?_⟩)
      · rw [(all_lo h.2.2).2] at hi; cases hi
      have hsl := hSr.sl
      refine IfB.dec (fun hll => ⟨rfl, .inl ⟨rfl, ref fun h => ?_⟩⟩) (fun hll => ⟨_, rfl, p.n, by rw [addr_add]; exact hB9.ld rfl, (good_calls w10 p.n).mono ?_⟩)
      · have := (all_lo h.2.2).1; omega
      rintro _ w11 ⟨rfl, e⟩
      subst e
      refine ⟨_, rfl, ?_⟩
      by_cases hg : goodP p.n
      rotate_left 1
      · exact IfB.t (by rw [decide_eq_false hg]; rfl) ⟨rfl, .inl ⟨rfl, ref fun h => hg h.1⟩⟩
      refine IfB.f (by rw [decide_eq_true hg]; rfl) ⟨_, rfl, p.sh, by rw [addr_add]; exact hB9.ld rfl, rfl, ?_⟩
      by_cases h1 : p.sh < 1
      · exact .inl ⟨decide_eq_true h1, ref fun h => by omega⟩
      · exact .inr ⟨decide_eq_false h1, hg, by omega, lo_all (by omega)⟩
    rintro u2 c w11 ⟨rfl, ⟨rfl, hl0⟩ | ⟨rfl, hg, h1, hlt'⟩⟩
    · exact IfB.t rfl (hfin rfl hl0 f49)
    refine IfB.f rfl ⟨_, rfl, s, by rw [addr_add]; exact hSr.blk.ld rfl, runT_lit1 st71 (by decide) rfl ?_⟩
    intro w12 hr12 f12 z12
    have hS12 := hSr.n f12
    have hsl := hSr.sl
    refine runT_append st71 hS12.row hr12.has (by intro u hu; simp [Value.cells] at hu; rw [hu]; rfl) (by simp only; omega) (by simp only [maxLen]; omega) ?_
    intro t w13 hr13 hl13 hn13 f13
    have hb13 : Blk w13 b #[.slice s.a s.l s.c] 73 := hS12.blk.mod f13 (fun e => hS12.row.g.blkNeB hS12.blk.g (by decide) e)
    refine ⟨_, rfl, by rw [addr_add]; exact hb13.wr (by show 0 < 1; omega), ?_⟩
    rintro w14 rfl
    rw [addr_add]
    have f14 : Frm (fun k => k = b) w13 (w13.setCell ⟨b, 0 + 0, none⟩ (.slice t.a t.l t.c)) := mod_setCell (a := ⟨b, 0 + 0, none⟩)
    have hb14 : Blk (w13.setCell ⟨b, 0 + 0, none⟩ (.slice t.a t.l t.c)) b #[.slice t.a t.l t.c] 73 := hb13.set (0 + 0) (.slice t.a t.l t.c)
    have hbl := hSr.blk.lt
    have htb : t.blk ≠ some b := by
      intro e
      rcases hn13.cases e with h | h
      · exact hS12.row.g.blkNeB hS12.blk.g (by decide) h
      · omega
    have hsb : ∀ k, s.blk = some k → k < w8.heap.size := fun k hk => by
      have h1 := hDl k (hDs k (.inr (.inl hk)))
      have h2 : k ≠ b26 := by rintro rfl; exact hSr.row.g.blkNeB hB9.g (by decide) hk
      have h3 := hN9.size
      omega
    have hB14 : Blk (w13.setCell ⟨b, 0 + 0, none⟩ (.slice t.a t.l t.c)) b26 (pc p false) 77 := ((hB9.mod f12 (fun h => h)).mod f13 (fun e => by have := hsb _ e; omega)).mod f14 (fun e => blk_ne hSr.blk hB9 (by decide) e.symm)
    have hnew : Shr (w13.setCell ⟨b, 0 + 0, none⟩ (.slice t.a t.l t.c)) b t (qs ++ [b26]) (fun j => if j < ps.length then nw j else false) (ps ++ [p]) := by
      refine ⟨hb14, ?_, by simp [hSr.len], ?_, ?_⟩
      · have e : pv (qs ++ [b26]) = pv qs ++ (Value.pointer (some ⟨b26, 0, none⟩)).cells.toList := by simp [pv, Value.cells]
        rw [e]
        exact hr13.mod f14 (fun k hk e => htb (by rw [← show k = b from e]; exact hk))
      · refine List.nodup_append.2 ⟨hSr.nd, by simp, fun a ha c hc => ?_⟩
        simp at hc
        subst hc
        rintro rfl
        obtain ⟨i, pp, hi, hpp, hB⟩ := hSr.mem ha
        have := hDl a (hDs a (.inr (.inr ha)))
        have h2 : D a := hDs a (.inr (.inr ha))
        have h3 := hM.lt a h2
        have h4 := f48.size
        omega
      · intro i k pp hk hpp
        by_cases hi : i < ps.length
        · rw [List.getElem?_append_left (by rw [hSr.len]; exact hi)] at hk
          rw [List.getElem?_append_left hi] at hpp
          simp only [if_pos hi]
          have hB := hSr.each i k pp hk hpp
          exact ((hB.mod f12 (fun h => h)).mod f13 (fun e => hS12.row.g.blkNeB (hB.mod f12 (fun h => h)).g (by decide) e)).mod f14 (fun e => blk_ne hSr.blk hB (by decide) (show k = b from e).symm)
        · have h1 := (List.getElem?_eq_some_iff.1 hpp).1
          simp only [List.length_append, List.length_singleton] at h1
          have hi' : i = ps.length := by omega
          subst hi'
          rw [List.getElem?_append_right (by rw [hSr.len]; omega), hSr.len, Nat.sub_self] at hk
          rw [List.getElem?_append_right (by omega), Nat.sub_self] at hpp
          cases hk; cases hpp
          simp only [Nat.lt_irrefl, if_false]
          exact hB14
    have hstep := hS.step hlt (by rw [← hp]; exact hg) (by rw [← hp]; exact h1) (by rw [← hp]; exact hlt')
    rw [← hp] at hstep
    have hgR : Frm (fun k => s.blk = some k ∨ k = b) _ (w13.setCell ⟨b, 0 + 0, none⟩ (.slice t.a t.l t.c)) := (f12.trans f13 (H := fun k => s.blk = some k ∨ k = b) (fun _ _ h => h.elim) (fun _ _ h => .inl h)).trans f14 (fun _ _ h => h) (fun _ _ h => .inr h)
    have hgD : ∀ k, (s.blk = some k ∨ k = b) → D k := fun k hk => hk.elim (fun h => hDs k (.inr (.inl h))) (fun h => hDs k (.inl h))
    have hgw4 : g < w4.heap.size := by
      rcases hR with ⟨h, _⟩ | ⟨g', hg', s', a', hB', _⟩
      · cases h
      · cases hg'; exact hB'.lt
    have h48 := f48.size
    have h912 := f12.size
    refine ⟨(N - (ps ++ [p]).length).toNat, by simp only [List.length_append, List.length_singleton]; omega, ps ++ [p], (rdP r).2, ft b t (qs ++ [b26]), ?_, by simp only [List.length_append, List.length_singleton]; omega, rfl, hstep, hR9.mod hgR (fun k hk hh => (hD k (hgD k hh)).2 (ofg k hk)), ⟨_, _, _, hnew, fun _ h => h, hnew.lt⟩, ?_, f49.trans hgR (fun _ _ h => h) (fun k hk hh => by have := (hD k (hgD k hh)).1; omega)⟩
    · simp only [List.length_append, List.length_singleton]
      rw [wi _ (by omega)]
      omega
    · rintro k (rfl | hk | hk)
      · exact hD _ (hDs _ (.inl rfl))
      · rcases hn13.cases hk with h | h
        · exact hD _ (hDs _ (.inr (.inl h)))
        · have := f49.size
          have := hN9.size
          omega
      · rcases List.mem_append.1 hk with hk | hk
        · exact hD _ (hDs _ (.inr (.inr hk)))
        · simp at hk
          have := f4.size
          omega
  · refine (done_calls w4 _ r hR).mono ?_
    rintro _ w5 ⟨rfl, f5⟩
    have hend := hS.end (by omega)
    refine ⟨_, rfl, IfB.intro (fun hnd => ⟨.inr ⟨rfl, ?_⟩, f4.n f5⟩) (fun hd => ⟨.inl ⟨b, ps, D, rfl, ?_, hM.n f5, fun k hk => (hD k hk).1⟩, f4.n f5⟩)⟩
    · rw [hend, if_neg]
      simpa using hnd
    · rw [hend, if_pos]
      simpa using hd
end Go.Proofs.Ythgeacnemojjgaa
