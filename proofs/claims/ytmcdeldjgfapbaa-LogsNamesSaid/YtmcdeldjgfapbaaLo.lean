/- Logs in memory; their bytes; the program's Load and the document's; the law LogsLoads. -/
import Derived.Test.YtmcdeldjgfapbaaX
import Derived.Test.YtmcdeldjgfapbaaG
set_option linter.unusedVariables false
set_option linter.unusedSimpArgs false
set_option maxRecDepth 20000
namespace Go.Proofs.Ytmcdeldjgfapbaa
open Go Go.Proofs.YtmcdeldjgfapbaaV
theorem rowLen {w : World} {r : Sl} {bs : List UInt8} (h : Row w r 5 1 (bv bs)) : r.l = bs.length := by have := h.len; rw [bv_length] at this; omega
theorem nilHas (w : World) : Has w ⟨none, 0, 0⟩ 1 (bv []) := Has.nil _ _ _ rfl
def sv (l : List ByteArray) : List Value := l.map Value.string
theorem sv_len (l : List ByteArray) : (sv l).length = l.length := by simp [sv]
theorem has_sv {w : World} {s : Sl} {l : List ByteArray} (h : Has w s 1 (sv l)) : s.l = l.length := by have := h.len; rw [sv_len] at this; omega
theorem sv_at {w : World} {s : Sl} {l : List ByteArray} (h : Has w s 1 (sv l)) {i : Nat} (hi : i < s.l) : ∃ q x, s.a = some q ∧ l[i]? = some x ∧ Ld w (q.add ((i : Int).toNat * 1)) (.string x) := by
  obtain ⟨q, v, hq, hv, hl⟩ := h.at1 (i := (i : Int)) (by omega) (by omega)
  rw [Int.toNat_natCast] at hv
  simp only [sv, List.getElem?_map, Option.map_eq_some_iff] at hv
  obtain ⟨x, hx, rfl⟩ := hv
  exact ⟨q, x, hq, hx, hl⟩
theorem sv_one (l : List ByteArray) : ∀ u ∈ sv l, u.oneCell' = true := by
  intro u hu
  obtain ⟨b, _, rfl⟩ := List.mem_map.1 hu
  rfl
theorem sv_snoc (l : List ByteArray) (x : ByteArray) : sv l ++ (Value.string x).cells.toList = sv (l ++ [x]) := by simp [sv, Value.cells]
theorem st31 : SlT prog 31 9 1 16 (.string (⟨#[]⟩ : ByteArray)) := ⟨by kernel_rfl, by kernel_rfl, rfl, by decide⟩
/-! ### Plain -/
def szs (ps : List ByteArray) : Nat := (ps.map ByteArray.size).sum
theorem szs_snoc (ps : List ByteArray) (x : ByteArray) : szs (ps ++ [x]) = szs ps + x.size := by simp [szs]
structure OkL (ps : List ByteArray) : Prop where
  n : ps.length ≤ 64
  each : ∀ p ∈ ps, 1 ≤ p.size ∧ p.size ≤ 256
def saveL (ps : List ByteArray) : List UInt8 := cb (ps.length : Int) ++ ps.flatMap sb
theorem cb_gb {k : Nat} (h : k ≤ 2147483647) : cb (k : Int) = gb k := by
  unfold cb
  rw [if_neg (by omega), Int.toNat_natCast]
theorem sb_gb {s : ByteArray} (h : s.size ≤ 2147483647) : sb s = gb s.size ++ s.data.toList := by unfold sb; rw [if_neg (by omega)]
theorem sb_inj {p q : ByteArray} {s t : List UInt8} (hp : p.size ≤ 256) (hq : q.size ≤ 256) (h : sb p ++ s = sb q ++ t) : p = q ∧ s = t := by
  rw [sb_gb (by omega), sb_gb (by omega), List.append_assoc, List.append_assoc] at h
  obtain ⟨h1, h2⟩ := gb_inj (by omega) (by omega) h
  have l1 : p.data.toList.length = p.size := Array.length_toList
  have l2 : q.data.toList.length = q.size := Array.length_toList
  obtain ⟨h3, h4⟩ := List.append_inj h2 (by omega)
  refine ⟨?_, h4⟩
  rw [← str_list p, ← str_list q, h3]
theorem det {qs : List ByteArray} (hq : ∀ p ∈ qs, p.size ≤ 256) : ∀ {ps : List ByteArray} {rest : List UInt8}, (∀ p ∈ ps, p.size ≤ 256) → ps.length ≤ qs.length → ps.flatMap sb ++ rest = qs.flatMap sb → ps = qs.take ps.length ∧ rest = (qs.drop ps.length).flatMap sb := by
  induction qs with
  | nil =>
    intro ps rest _ hl h
    have : ps = [] := List.eq_nil_of_length_eq_zero (by simpa using hl)
    subst this
    exact ⟨rfl, by simpa using h⟩
  | cons q qs ih =>
    intro ps rest hp hl h
    cases ps with
    | nil => exact ⟨rfl, by simpa using h⟩
    | cons p ps =>
      rw [List.flatMap_cons, List.flatMap_cons, List.append_assoc] at h
      obtain ⟨h1, h2⟩ := sb_inj (hp p (by simp)) (hq q (by simp)) h
      obtain ⟨h3, h4⟩ := ih (fun x hx => hq x (by simp [hx])) (fun x hx => hp x (by simp [hx])) (by simpa using hl) h2
      refine ⟨?_, by simpa using h4⟩
      rw [List.length_cons, List.take_succ_cons, ← h3, h1]
theorem saveL_inj {ps qs : List ByteArray} (hp : OkL ps) (hq : OkL qs) (h : saveL ps = saveL qs) : ps = qs := by
  have h1 := hp.n
  have h2 := hq.n
  unfold saveL at h
  rw [cb_gb (by omega), cb_gb (by omega)] at h
  obtain ⟨e1, e2⟩ := gb_inj (by omega) (by omega) h
  have := (det (fun p hp' => (hq.each p hp').2) (ps := ps) (rest := []) (fun p hp' => (hp.each p hp').2) (by omega) (by rw [List.append_nil]; exact e2)).1
  rw [this, e1, List.take_length]
open Classical in
noncomputable def ldOf (l : List UInt8) : Option (List ByteArray) := if h : ∃ ps, OkL ps ∧ saveL ps = l then some h.choose else none
theorem ldOf_some {ps : List ByteArray} {l : List UInt8} (h : OkL ps) (e : saveL ps = l) : ldOf l = some ps := by
  have hx : ∃ ps, OkL ps ∧ saveL ps = l := ⟨ps, h, e⟩
  unfold ldOf
  rw [dif_pos hx]
  congr 1
  exact saveL_inj hx.choose_spec.1 h (by rw [hx.choose_spec.2, e])
theorem ldOf_none {l : List UInt8} (h : ∀ ps, OkL ps → saveL ps ≠ l) : ldOf l = none := by
  unfold ldOf
  rw [dif_neg]
  rintro ⟨ps, h1, h2⟩
  exact h ps h1 h2
theorem ldOf_spec {ps : List ByteArray} {l : List UInt8} (h : ldOf l = some ps) : OkL ps ∧ saveL ps = l := by
  unfold ldOf at h
  split at h
  · rename_i hx
    have := hx.choose_spec
    cases h
    exact this
  · cases h
/-- What has been taken off. -/
structure Off (l : List UInt8) (n : Nat) (ps : List ByteArray) (rest : List UInt8) : Prop where
  nb : n ≤ 64
  le : ps.length ≤ n
  each : ∀ p ∈ ps, 1 ≤ p.size ∧ p.size ≤ 256
  eq : l = gb n ++ (ps.flatMap sb ++ rest)
theorem Off.of {l : List UInt8} {n : Nat} {ps qs : List ByteArray} {rest : List UInt8} (h : Off l n ps rest) (hq : OkL qs) (e : saveL qs = l) : n = qs.length ∧ ps = qs.take ps.length ∧ rest = (qs.drop ps.length).flatMap sb := by
  have h1 := hq.n
  have h2 := h.nb
  have h3 := h.eq
  rw [← e] at h3
  unfold saveL at h3
  rw [cb_gb (by omega)] at h3
  obtain ⟨e1, e2⟩ := gb_inj (by omega) (by omega) h3
  have hle := h.le
  obtain ⟨e3, e4⟩ := det (fun p hp => (hq.each p hp).2) (ps := ps) (rest := rest) (fun p hp => (h.each p hp).2) (by omega) e2.symm
  exact ⟨e1.symm, e3, e4⟩
theorem Off.next {l : List UInt8} {n : Nat} {ps : List ByteArray} {rest t : List UInt8} {p : ByteArray} (h : Off l n ps rest) (hl : ps.length < n) (hp : 1 ≤ p.size ∧ p.size ≤ 256) (e : rest = sb p ++ t) : Off l n (ps ++ [p]) t := by
  refine ⟨h.nb, by simp; omega, fun q hq => ?_, ?_⟩
  · rcases List.mem_append.1 hq with hq | hq
    · exact h.each q hq
    · simp at hq; rw [hq]; exact hp
  · rw [h.eq, e, List.flatMap_append]; simp
/-- All are taken off. -/
theorem Off.done {l : List UInt8} {n : Nat} {ps : List ByteArray} (h : Off l n ps []) (hl : ps.length = n) : OkL ps ∧ saveL ps = l := by
  have h1 := h.nb
  refine ⟨⟨by omega, h.each⟩, ?_⟩
  unfold saveL
  rw [cb_gb (by omega), hl, h.eq, List.append_nil]
theorem Off.rest {l : List UInt8} {n : Nat} {ps : List ByteArray} {rest : List UInt8} (h : Off l n ps rest) (hl : ps.length = n) (hr : rest ≠ []) : ldOf l = none := by
  refine ldOf_none fun qs hq e => hr ?_
  obtain ⟨e1, e2, e3⟩ := h.of hq e
  rw [e3, List.drop_of_length_le (by omega)]; rfl
/-- The next one is none. -/
theorem Off.bad {l : List UInt8} {n : Nat} {ps : List ByteArray} {rest : List UInt8} (h : Off l n ps rest) (hl : ps.length < n) (hb : ∀ (p : ByteArray) (t : List UInt8), 1 ≤ p.size → p.size ≤ 256 → rest ≠ sb p ++ t) : ldOf l = none := by
  refine ldOf_none fun qs hq e => ?_
  obtain ⟨e1, e2, e3⟩ := h.of hq e
  have hi : ps.length < qs.length := by omega
  rw [List.drop_eq_getElem_cons hi, List.flatMap_cons] at e3
  have := hq.each qs[ps.length] (List.getElem_mem hi)
  exact hb _ _ this.1 this.2 e3
theorem str_own {s : ByteArray} {m : Int} (h1 : s.size ≤ 2147483647) (h2 : (s.size : Int) ≤ m) (t : List UInt8) : strR m (some (sb s ++ t)) = (s.data.toList, some t) := by
  have hl : s.data.toList.length = s.size := Array.length_toList
  rw [sb_gb h1, List.append_assoc]
  have h := cnt_some (num_gb (u := s.size) (by omega) (s.data.toList ++ t)) (m := m) (by omega) (by omega)
  simp only [strR, h]
  rw [if_pos (by simp only [List.length_append]; omega)]
  rw [List.drop_left, ← hl, List.take_left, ← List.length_append, ← List.append_assoc, List.drop_left]
/-- What Str tells, is there, or nothing is. -/
theorem str_took (rest : List UInt8) : ((strR 256 (some rest)).1 = [] ∧ ∀ (p : ByteArray) (t : List UInt8), 1 ≤ p.size → p.size ≤ 256 → rest ≠ sb p ++ t) ∨ ∃ (p : ByteArray) (t : List UInt8), 1 ≤ p.size ∧ p.size ≤ 256 ∧ rest = sb p ++ t ∧ strR 256 (some rest) = (p.data.toList, some t) := by
  by_cases h : ∃ (p : ByteArray) (t : List UInt8), 1 ≤ p.size ∧ p.size ≤ 256 ∧ rest = sb p ++ t
  · obtain ⟨p, t, h1, h2, e⟩ := h
    right
    refine ⟨p, t, h1, h2, e, ?_⟩
    rw [e]
    exact str_own (by omega) (by omega) t
  · left
    refine ⟨?_, fun p t h1 h2 e => h ⟨p, t, h1, h2, e⟩⟩
    refine Classical.byContradiction fun hne => h ?_
    cases hc : cnt rest 256 with
    | none => simp [strR, hc] at hne
    | some un =>
      obtain ⟨u, k⟩ := un
      obtain ⟨hn, hu1, hu2⟩ := cnt_num hc
      obtain ⟨n1, n2, n3⟩ := num_some hn
      simp only [strR, hc] at hne
      split at hne
      · rename_i hle
        have hlen : ((rest.drop k).take u).length = u := by rw [List.length_take, List.length_drop]; omega
        have hpos : 1 ≤ u := by
          refine Nat.pos_of_ne_zero fun e0 => hne ?_
          exact List.eq_nil_of_length_eq_zero (by simp only; rw [hlen]; exact e0)
        refine ⟨str ((rest.drop k).take u), (rest.drop k).drop u, ?_, ?_, ?_⟩
        · show 1 ≤ ((rest.drop k).take u).length; omega
        · show ((rest.drop k).take u).length ≤ 256; omega
        · have es : (str ((rest.drop k).take u)).size = u := hlen
          rw [sb_gb (by rw [es]; omega), es, List.append_assoc]
          show rest = gb u ++ ((rest.drop k).take u ++ (rest.drop k).drop u)
          rw [List.take_append_drop]
          exact n3
      · simp at hne
/-! ### The document's count -/
def nm : List UInt8 → Int × Int
  | [] => (0, 0)
  | c :: r => if c.toNat < 128 then ((c.toNat : Int), 1) else match r with
    | [] => (0, 0)
    | d :: _ => if d.toNat = 0 ∨ 128 ≤ d.toNat then (0, 0) else ((c.toNat : Int) - 128 + 128 * (d.toNat : Int), 2)
theorem gb_two {c d : UInt8} (hc : 128 ≤ c.toNat) (hd : d.toNat ≠ 0 ∧ d.toNat < 128) : gb (c.toNat - 128 + 128 * d.toNat) = [c, d] := by
  have hcl := c.toNat_lt
  rw [gb_big (by omega), gb_small (by omega)]
  congr 1
  · apply UInt8.toNat_inj.1
    rw [u8_ofNat _ (by omega)]; omega
  · congr 1
    apply UInt8.toNat_inj.1
    rw [u8_ofNat _ (by omega)]; omega
theorem gb_one {c : UInt8} (hc : c.toNat < 128) : gb c.toNat = [c] := by
  rw [gb_small hc]
  congr 1
  apply UInt8.toNat_inj.1
  rw [u8_ofNat _ (by omega)]
/-- A count of at most two bytes, or none. -/
theorem nm_cases (t : List UInt8) : ((nm t).2 = 0 ∧ ∀ (u : Nat) (r : List UInt8), u < 16384 → t ≠ gb u ++ r) ∨ ∃ (u : Nat) (r : List UInt8), u < 16384 ∧ t = gb u ++ r ∧ nm t = ((u : Int), ((gb u).length : Int)) := by
  have hpos : ∀ u : Nat, gb u ≠ [] := fun u e => by have := gb_pos u; rw [e] at this; simp at this
  have key : ∀ {t : List UInt8}, (∀ (u : Nat) (r : List UInt8), u < 16384 → t = gb u ++ r → nm t = ((u : Int), ((gb u).length : Int))) := by
    intro t u r hu e
    by_cases h1 : u < 128
    · have eg := gb_small h1
      rw [eg] at e
      rw [e, eg]
      have : (UInt8.ofNat u).toNat = u := u8_ofNat u (by omega)
      simp only [nm, List.singleton_append, this, if_pos h1]; rfl
    · have eg : gb u = [UInt8.ofNat (128 + u % 128), UInt8.ofNat (u / 128)] := by rw [gb_big (by omega), gb_small (by omega)]
      rw [eg] at e
      rw [e, eg]
      have a1 : (UInt8.ofNat (128 + u % 128)).toNat = 128 + u % 128 := u8_ofNat _ (by omega)
      have a2 : (UInt8.ofNat (u / 128)).toNat = u / 128 := u8_ofNat _ (by omega)
      simp only [nm, List.cons_append, a1, a2]
      rw [if_neg (by omega), if_neg (by omega)]
      congr 1
      omega
  by_cases h : ∃ (u : Nat) (r : List UInt8), u < 16384 ∧ t = gb u ++ r
  · obtain ⟨u, r, hu, e⟩ := h
    exact .inr ⟨u, r, hu, e, key u r hu e⟩
  · left
    refine ⟨?_, fun u r hu e => h ⟨u, r, hu, e⟩⟩
    refine Classical.byContradiction fun hne => h ?_
    cases t with
    | nil => simp [nm] at hne
    | cons c r =>
      by_cases hc : c.toNat < 128
      · exact ⟨c.toNat, r, by omega, by rw [gb_one hc]; rfl⟩
      · cases r with
        | nil => simp [nm, hc] at hne
        | cons d r =>
          by_cases hd : d.toNat = 0 ∨ 128 ≤ d.toNat
          · simp [nm, hc, hd] at hne
          · have hcl := c.toNat_lt
            exact ⟨c.toNat - 128 + 128 * d.toNat, r, by omega, by rw [gb_two (by omega) (by omega)]; rfl⟩
end Go.Proofs.Ytmcdeldjgfapbaa
