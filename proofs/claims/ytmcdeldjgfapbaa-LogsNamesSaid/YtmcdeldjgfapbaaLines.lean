/- The law LogsLines walked. -/
import Derived.Test.YtmcdeldjgfapbaaTails
set_option linter.unusedVariables false
set_option linter.unusedSimpArgs false
set_option maxRecDepth 20000
namespace Go.Proofs.Ytmcdeldjgfapbaa
open Go Go.Proofs.YtmcdeldjgfapbaaV
theorem lns_join : ∀ (t cur : List UInt8), txt (lns cur t) = cur ++ t
  | [], cur => by
    unfold lns
    split
    · rename_i h; rw [h]; rfl
    · simp [txt, str]
  | c :: r, cur => by
    unfold lns
    split
    · have := lns_join r []
      simp only [txt, List.flatMap_cons] at this ⊢
      rw [this]; simp [str]
    · rw [lns_join r]; simp
theorem lns_len : ∀ (t cur : List UInt8), (lns cur t).length ≤ t.length + 1
  | [], cur => by unfold lns; split <;> simp
  | c :: r, cur => by
    unfold lns
    split
    · have := lns_len r []; simp only [List.length_cons]; omega
    · have := lns_len r (cur ++ [c]); simp only [List.length_cons]; omega
theorem lns_spec : ∀ (t cur : List UInt8), (∀ c ∈ cur, c.toNat ≠ 10) → ∀ (i : Nat) (s : ByteArray), (lns cur t)[i]? = some s →
    1 ≤ s.size ∧ (∀ (k : Nat) (c : UInt8), s.data.toList[k]? = some c → c.toNat = 10 → k = s.size - 1) ∧ (∀ c : UInt8, s.data.toList[s.size - 1]? = some c → c.toNat ≠ 10 → i = (lns cur t).length - 1)
  | [], cur, hcur, i, s, h => by
    unfold lns at h ⊢
    by_cases hc : cur = []
    · rw [if_pos hc] at h; simp at h
    · rw [if_neg hc] at h ⊢
      cases i with
      | succ i => simp at h
      | zero =>
        simp only [List.getElem?_cons_zero, Option.some.injEq] at h
        subst h
        refine ⟨?_, fun k c hk h10 => absurd h10 (hcur c (List.mem_of_getElem? hk)), fun c _ _ => rfl⟩
        rw [str_size]
        exact List.length_pos_iff.2 hc
  | d :: r, cur, hcur, i, s, h => by
    unfold lns at h ⊢
    by_cases hd : d.toNat = 10
    · rw [if_pos hd] at h ⊢
      cases i with
      | zero =>
        simp only [List.getElem?_cons_zero, Option.some.injEq] at h
        subst h
        have hsz : (str (cur ++ [d])).size = cur.length + 1 := by rw [str_size]; simp
        refine ⟨by omega, fun k c hk h10 => ?_, fun c hk h10 => ?_⟩
        · rw [str_data] at hk
          have hlt := (List.getElem?_eq_some_iff.1 hk).1
          by_cases hkl : k < cur.length
          · rw [List.getElem?_append_left hkl] at hk
            exact absurd h10 (hcur c (List.mem_of_getElem? hk))
          · simp at hlt; omega
        · rw [str_data, hsz, Nat.add_sub_cancel, List.getElem?_append_right (Nat.le_refl _)] at hk
          simp at hk
          rw [← hk] at h10
          exact absurd hd h10
      | succ i =>
        simp only [List.getElem?_cons_succ] at h
        obtain ⟨h1, h2, h3⟩ := lns_spec r [] (by simp) i s h
        have hlt := (List.getElem?_eq_some_iff.1 h).1
        exact ⟨h1, h2, fun c hk h10 => by have := h3 c hk h10; rw [List.length_cons]; omega⟩
    · rw [if_neg hd] at h ⊢
      exact lns_spec r (cur ++ [d]) (fun c hc => by
        rcases List.mem_append.1 hc with hc | hc
        · exact hcur c hc
        · simp at hc; subst hc; exact hd) i s h
theorem sel_len (l : List ByteArray) (f t : Int) : (selL l f t).length = min l.length t.toNat - min (min l.length t.toNat) f.toNat := by
  unfold selL
  rw [List.length_drop, List.length_take]
  omega
theorem sel_get {l : List ByteArray} {f t : Int} {i : Nat} {s : ByteArray} (h : (selL l f t)[i]? = some s) : l[f.toNat + i]? = some s := by
  unfold selL at h
  rw [List.getElem?_drop, List.getElem?_take] at h
  split at h
  · exact h
  · cases h
theorem lines_law (W : World) (s : Sl) (l : List ByteArray) (ha : ArgT W s l) (fr : Int) (hf : In64 fr) (to : Int) (ht : In64 to) : Calls prog 6 #[.slice s.a s.l s.c, .int .i64 fr, .int .i64 to] W fun e w' => e = .returned (.bool true) ∧ Frm none_ W w' := by
  refine callsRet (W6 (x0 := s) (x1 := fr) (x2 := to) (Q := fun v w' => v = .bool true ∧ Frm none_ W w') ?_) (fun v w' ⟨h, h'⟩ => ⟨by rw [h], h'⟩)
  obtain ⟨h1, h2⟩ := hf
  obtain ⟨h3, h4⟩ := ht
  unfold F6
  refine (pieces_calls W s l ha.has (by have := ha.2.2.2.2; have := ha.2.2.1; omega)).mono ?_
  rintro _ w1 ⟨r, rfl, hr, hrn, f1⟩
  have ok := pcs_ok l [] ok_nil
  generalize pcs [] l = ps at hr ok
  have hps := ok.n
  have hz := szs_le (fun p hp => (ok.each p hp).2)
  have hrl := has_sv hr.has
  refine ⟨r, rfl, (filled_calls w1 r ps hr.has ok).mono ?_⟩
  rintro _ w2 ⟨b, t, rfl, hb, htn, hL, f2⟩
  refine ⟨_, _, rfl, fun c w' => c = false ∧ Frm none_ w2 w', ?_, ?_⟩
  · refine (works_calls w2).mono ?_
    rintro _ w3 ⟨rfl, f3⟩
    exact ⟨_, rfl, IfB.f rfl ⟨rfl, f3⟩⟩
  rintro u c w3 ⟨rfl, f3⟩
  have hr3 := ((hr.mod f2 (fun _ _ h => h)).mod f3 (fun _ _ h => h))
  have hL3 := hL.n f3
  have F3 := (f1.n f2).n f3
  refine IfB.f rfl ⟨fun m x i w' => ∃ j : Nat, j ≤ ps.length ∧ i = (j : Int) ∧ x = str (txt (ps.take j)) ∧ m = ps.length - j ∧ w3 = w', ps.length, ⟨0, by omega, rfl, rfl, rfl, rfl⟩, ?_⟩
  rintro m u x i w3' ⟨j, hj, rfl, rfl, rfl, rfl⟩
  have hzj := szs_take (ps := ps) j
  have hzj1 := szs_take (ps := ps) (j + 1)
  refine IfB.dec (fun hlt => ?_) (fun hge => ?_)
  · obtain ⟨q, p, hq, hp, hld⟩ := sv_at hr3.has (i := j) (by omega)
    have hs2 : szs (ps.take (j + 1)) = szs (ps.take j) + p.size := by rw [take_snoc hp, szs_snoc]
    refine ⟨q, hq, by omega, by omega, p, hld, ?_, ps.length - (j + 1), by omega, j + 1, by omega, by rw [wi _ (by omega)]; omega, textLoop ps j hp, rfl, rfl⟩
    rw [str_size, txt_len]; omega
  have hjl : j = ps.length := by omega
  subst hjl
  rw [List.take_length]
  have hal := lns_len (txt ps) []
  rw [txt_len] at hal
  have hjn : szs (lns [] (txt ps)) = szs ps := by rw [← txt_len, lns_join, List.nil_append, txt_len]
  have hspec := lns_spec (txt ps) [] (by simp)
  have hjoin := lns_join (txt ps) []
  rw [List.nil_append] at hjoin
  have hall : selL (lns [] (txt ps)) 0 1099511627776 = lns [] (txt ps) := by
    unfold selL
    rw [List.take_of_length_le (by have : (1099511627776 : Int).toNat = 1099511627776 := rfl
                                   omega)]
    rfl
  refine (lines_calls w3 _ t ps 0 1099511627776 hL3.lp (by omega) (by omega)).mono ?_
  rw [hall]
  rintro _ w4 ⟨r4, rfl, hr4, hn4, f4⟩
  have hr4l := has_sv hr4.has
  have hLc : ∀ fr to, selL (lns [] (txt ps)) fr to = selL (lns [] (txt ps)) fr to := fun _ _ => rfl
  generalize hg : lns [] (txt ps) = ls at *
  refine ⟨r4, rfl, fun m x i w' => ∃ j : Nat, j ≤ ls.length ∧ i = (j : Int) ∧ x = str (txt (ls.take j)) ∧ m = ls.length - j ∧ w4 = w', ls.length, ⟨0, by omega, rfl, rfl, rfl, rfl⟩, ?_⟩
  rintro m u x i w4' ⟨j, hj, rfl, rfl, rfl, rfl⟩
  have hzl := szs_take (ps := ls) j
  have hzl1 := szs_take (ps := ls) (j + 1)
  refine IfB.dec (fun hlt => ?_) (fun hge => ?_)
  · obtain ⟨q, p, hq, hp, hld⟩ := sv_at hr4.has (i := j) (by omega)
    have hs2 : szs (ls.take (j + 1)) = szs (ls.take j) + p.size := by rw [take_snoc hp, szs_snoc]
    obtain ⟨hp1, hp2, hp3⟩ := hspec j p hp
    have hpl : p.data.toList.length = p.size := Array.length_toList
    refine ⟨q, hq, by omega, by omega, p, hld, fun m k w' => ∃ i : Nat, i ≤ p.size ∧ k = (i : Int) ∧ m = p.size - i ∧ w4 = w', p.size, ⟨0, by omega, rfl, rfl, rfl⟩, ?_⟩
    rintro m u2 k w4' ⟨i, hi, rfl, rfl, rfl⟩
    have ew : IntKind.wrap .i64 ((p.size : Int) - 1) = ((p.size - 1 : Nat) : Int) := by rw [wi _ (by omega)]; omega
    have ewi : IntKind.wrap .i64 ((i : Int) + 1) = ((i + 1 : Nat) : Int) := by rw [wi _ (by omega)]; omega
    refine IfB.dec (fun hik => ?_) (fun hik => ?_)
    · obtain ⟨c, hc, hbt⟩ := bt_get (s := p) (k := i) (by omega)
      have go : ∃ n', n' < p.size - i ∧ ∃ i_1 : Nat, i_1 ≤ p.size ∧ IntKind.wrap .i64 ((i : Int) + 1) = (i_1 : Int) ∧ n' = p.size - i_1 ∧ w4 = w4 := ⟨p.size - (i + 1), by omega, i + 1, by omega, ewi, rfl, rfl⟩
      refine ⟨by omega, by omega, ?_⟩
      rw [hbt]
      refine IfB.intro (fun h10 => ?_) (fun _ => go)
      have h10 : (c.toNat : Int) = 10 := by simpa using h10
      have := hp2 i c hc (by omega)
      refine IfB.f ?_ go
      rw [ew, this]
      simp
    · obtain ⟨c, hc, hbt⟩ := bt_get (s := p) (k := p.size - 1) (by omega)
      have go : p.size + 0 = p.size ∧ (str (txt (ls.take j))).size + p.size ≤ 9223372036854775807 ∧ ∃ n', n' < ls.length - j ∧ ∃ j_1 : Nat, j_1 ≤ ls.length ∧ IntKind.wrap .i64 ((j : Int) + 1) = (j_1 : Int) ∧ str (txt (ls.take j)) ++ p = str (txt (ls.take j_1)) ∧ n' = ls.length - j_1 ∧ w4 = w4 := by
        refine ⟨rfl, ?_, ls.length - (j + 1), by omega, j + 1, by omega, by rw [wi _ (by omega)]; omega, textLoop ls j hp, rfl, rfl⟩
        rw [str_size, txt_len]; omega
      refine IfB.f (beq_eq_false_iff_ne.2 (by omega)) ?_
      rw [ew]
      refine ⟨by omega, by omega, ?_⟩
      rw [hbt]
      refine IfB.intro (fun hn10 => ?_) (fun _ => go.2)
      have hn10 := iNe hn10
      have hjj := hp3 c hc (by omega)
      have el : IntKind.wrap .i64 ((r4.l : Int) - 1) = ((ls.length - 1 : Nat) : Int) := by rw [wi _ (by omega)]; omega
      rw [el]
      exact IfB.f (by rw [hjj]; simp) go.2
  have hjl : j = ls.length := by omega
  subst hjl
  rw [List.take_length, hjoin]
  have f34 := F3.n f4
  refine (lines_calls w4 _ t ps fr to (hL3.n f4).lp (by omega) (by omega)).mono ?_
  rw [hg]
  rintro _ w5 ⟨r5, rfl, hr5, hn5, f5⟩
  have hr5l := has_sv hr5.has
  have hsl := sel_len ls fr to
  refine ⟨r5, rfl, fun c w' => c = false ∧ w5 = w', IfB.f (by rw [(str_eqIff _ _).2 rfl]; rfl) ⟨?_, rfl⟩, ?_⟩
  · rw [hr4l, clampN, clampN]
    have e1 : IntKind.wrap .i64 (((min ls.length to.toNat : Nat) : Int) - ((min (min ls.length to.toNat) fr.toNat : Nat) : Int)) = ((min ls.length to.toNat - min (min ls.length to.toNat) fr.toNat : Nat) : Int) := by rw [wi _ (by omega)]; omega
    rw [e1, if_neg (by omega), hr5l, hsl]
    simp
  rintro u c w5' ⟨rfl, rfl⟩
  have hr45 := hr4.mod f5 (fun _ _ h => h)
  refine IfB.f rfl ⟨fun m i w' => ∃ j : Nat, j ≤ r5.l ∧ i = (j : Int) ∧ m = r5.l - j ∧ Frm none_ w5 w', r5.l, ⟨0, by omega, rfl, rfl, Frm.refl _ _⟩, ?_⟩
  rintro m u i w6 ⟨j, hj, rfl, rfl, f6⟩
  refine IfB.dec (fun hlt => ?_) (fun hge => ⟨rfl, (f34.n f5).n f6⟩)
  obtain ⟨q, p, hq, hp, hld⟩ := sv_at ((hr5.mod f6 (fun _ _ h => h)).drew.has) (i := j) (by omega)
  have hpg := sel_get hp
  have hlt2 := (List.getElem?_eq_some_iff.1 hpg).1
  have eidx : IntKind.wrap .i64 ((if (0 : Int) > fr then (0 : Int) else fr) + (j : Int)) = ((fr.toNat + j : Nat) : Int) := by
    have : (if (0 : Int) > fr then (0 : Int) else fr) = (fr.toNat : Int) := by split <;> omega
    rw [this, wi _ (by omega)]; omega
  obtain ⟨q', p', hq', hp', hld'⟩ := sv_at ((hr45.mod f6 (fun _ _ h => h)).drew.has) (i := fr.toNat + j) (by omega)
  rw [hpg] at hp'
  cases hp'
  rw [eidx]
  refine ⟨q, hq, by omega, by omega, p, hld, q', hq', by omega, by omega, p, hld', IfB.f (by rw [(str_eqIff _ _).2 rfl]; rfl) ⟨r5.l - (j + 1), by omega, j + 1, by omega, by rw [wi _ (by omega)]; omega, rfl, f6.drew⟩⟩
end Go.Proofs.Ytmcdeldjgfapbaa
