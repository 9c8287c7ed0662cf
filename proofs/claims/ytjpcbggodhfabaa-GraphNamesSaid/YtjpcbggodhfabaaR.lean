/- Which needs may be; what is reached from a thing: the program's way. -/
import Derived.Test.YtjpcbggodhfabaaC
set_option linter.unusedVariables false
set_option linter.unusedSimpArgs false
namespace Go.Proofs.Ytjpcbggodhfabaa
open Go Go.Proofs.YtjpcbggodhfabaaV
theorem st47 : SlT prog 47 4 1 1 (.bool false) := ⟨by kernel_rfl, by kernel_rfl, rfl, by decide⟩
theorem callV_of {P : Program} {f : FuncId} {first args captured : Array Value} {w : World} {R : Value → World → Prop} (hb : hasBody P f = true) (h : Calls P f ((first ++ args) ++ captured) w fun en w' => ∃ v, en = .returned v ∧ R v w') :
    CallV P (.func (.func f) first captured) args w R := by
  unfold CallV
  simp only [hb]
  exact h
theorem body31 : hasBody prog 31 = true := by kernel_rfl
theorem body33 : hasBody prog 33 = true := by kernel_rfl
theorem made_const {cells : Array Value} {v : Value} (h : ∀ i, i < cells.size → cells[i]! = v) (h0 : 0 < cells.size) (n : Nat) : (madeCells cells n).toList = List.replicate n v := by
  apply List.eq_replicate_iff.2
  refine ⟨by rw [Array.length_toList, size_madeCells], ?_⟩
  intro u hu
  simp only [madeCells, Array.toList_map, List.mem_map] at hu
  obtain ⟨i, _, rfl⟩ := hu
  exact h _ (Nat.mod_lt _ h0)
theorem made_one (v : Value) (hv : v.cells = #[v]) (n : Nat) : (madeCells v.cells n).toList = List.replicate n v := by
  rw [hv]
  exact made_const (by intro i hi; simp at hi; subst hi; rfl) (by simp) n
structure Small (ps : List (Sl × List Int)) : Prop where
  len : ps.length ≤ 100000
  each : ∀ p ∈ ps, p.2.length ≤ 1000000
def Bad (n : Nat) (k : Int) : Prop := k < 0 ∨ k ≥ (n : Int)
theorem bad_calls (w : World) (b1 : Nat) (s : Sl) (hB : Blk w b1 #[slv s] 22) (k : Int) : Calls prog 33 #[.int .i64 k, .pointer (some ⟨b1, 0, none⟩)] w fun e w' => ∃ b : Bool, e = .returned (.bool b) ∧ (b = true ↔ Bad s.l k) ∧ w = w' := by
  refine callsRet (W33 (Q := fun v w' => ∃ b : Bool, v = .bool b ∧ (b = true ↔ Bad s.l k) ∧ w = w') ?_) (fun v w' ⟨t, h, h'⟩ => ⟨t, by rw [h], h'⟩)
  unfold F33
  refine IfB.intro (fun h => ⟨true, rfl, by simp [Bad, of_decide_eq_true h], rfl⟩) (fun h => ⟨s, hB.ld rfl, _, rfl, ?_, rfl⟩)
  have h := of_decide_eq_false h
  simp only [decide_eq_true_iff, Bad]
  constructor
  · exact fun h => .inr h
  · rintro (h' | h')
    · exact absurd h' h
    · exact h'
theorem bad1_calls (w : World) (b1 : Nat) (s t : Sl) (l : List Int) (hB : Blk w b1 #[slv s] 22) (ht : Has w t 1 (iv l)) (hb : l.length ≤ 1000000) : Calls prog 31 #[.slice t.a t.l t.c, .pointer (some ⟨b1, 0, none⟩)] w fun e w' => ∃ b : Bool, e = .returned (.bool b) ∧ (b = true ↔ ∃ k ∈ l, Bad s.l k) ∧ w = w' := by
  have hl := has_iv ht
  have h37 : Calls prog 37 #[.slice t.a t.l t.c, .func (.func 33) #[] #[.pointer (some ⟨b1, 0, none⟩)]] w fun e w' => ∃ r : Int, e = .returned (.int .i64 r) ∧ (0 ≤ r ↔ ∃ k ∈ l, Bad s.l k) ∧ w = w' := by
    refine callsRet (W37 (Q := fun v w' => ∃ r : Int, v = .int .i64 r ∧ (0 ≤ r ↔ ∃ k ∈ l, Bad s.l k) ∧ w = w') ?_) (fun v w' ⟨t, h, h'⟩ => ⟨t, by rw [h], h'⟩)
    unfold F37
    refine ⟨fun n x w' => ∃ j : Nat, x = (j : Int) ∧ j ≤ t.l ∧ n = t.l - j ∧ (∀ i k, i < j → l[i]? = some k → ¬ Bad s.l k) ∧ w = w', t.l, ⟨0, rfl, Nat.zero_le _, by omega, by simp, rfl⟩, ?_⟩
    rintro n u x w1 ⟨j, rfl, hj, rfl, hno, rfl⟩
    refine IfB.intro (fun hc => ?_) (fun hc => ?_)
    · have hlt := of_decide_eq_true hc
      obtain ⟨q, k, hq, hk, hld⟩ := has_at ht (i := j) (by omega)
      refine ⟨q, hq, by omega, by omega, k, by rw [Int.toNat_natCast]; exact hld, callV_of body33 ((bad_calls w b1 s hB k).mono ?_)⟩
      rintro _ _ ⟨b, rfl, hb, rfl⟩
      refine ⟨_, rfl, b, rfl, IfB.intro (fun h => ⟨_, rfl, ?_, rfl⟩) (fun h => ?_)⟩
      · have := hb.1 h
        exact ⟨fun _ => ⟨k, List.mem_of_getElem? hk, this⟩, fun _ => by omega⟩
      · refine ⟨t.l - (j + 1), by omega, j + 1, by rw [wrap64 _ (by omega)]; omega, by omega, rfl, ?_, rfl⟩
        intro i k' hi hk'
        rcases Nat.lt_succ_iff_lt_or_eq.1 hi with hh | hh
        · exact hno i k' hh hk'
        · subst hh
          rw [hk] at hk'
          cases hk'
          intro hbad
          rw [hb.2 hbad] at h; cases h
    · have hge := of_decide_eq_false hc
      refine ⟨_, rfl, ⟨fun h => absurd h (by decide), ?_⟩, rfl⟩
      rintro ⟨k, hk, hbad⟩
      obtain ⟨i, hi⟩ := List.mem_iff_getElem?.1 hk
      have := (List.getElem?_eq_some_iff.1 hi).1
      exact absurd hbad (hno i k (by omega) hi)
  refine callsRet (W31 (Q := fun v w' => ∃ b : Bool, v = .bool b ∧ (b = true ↔ ∃ k ∈ l, Bad s.l k) ∧ w = w') ?_) (fun v w' ⟨t, h, h'⟩ => ⟨t, by rw [h], h'⟩)
  unfold F31
  have h32 : Calls prog 32 #[.slice t.a t.l t.c, .func (.func 33) #[] #[.pointer (some ⟨b1, 0, none⟩)]] w fun e w' => ∃ b : Bool, e = .returned (.bool b) ∧ (b = true ↔ ∃ k ∈ l, Bad s.l k) ∧ w = w' := by
    refine callsRet (W32 (Q := fun v w' => ∃ b : Bool, v = .bool b ∧ (b = true ↔ ∃ k ∈ l, Bad s.l k) ∧ w = w') ?_) (fun v w' ⟨t, h, h'⟩ => ⟨t, by rw [h], h'⟩)
    unfold F32
    refine h37.mono ?_
    rintro _ _ ⟨r, rfl, hr, rfl⟩
    exact ⟨r, rfl, _, rfl, by rw [decide_eq_true_iff]; exact hr, rfl⟩
  refine h32.mono ?_
  rintro _ _ ⟨b, rfl, hb, rfl⟩
  exact ⟨b, rfl, b, rfl, hb, rfl⟩
theorem bad2_calls (w : World) (b1 : Nat) (s : Sl) (ps : List (Sl × List Int)) (hB : Blk w b1 #[slv s] 22) (h : Gw w s ps) (hsm : Small ps) : Calls prog 30 #[.slice s.a s.l s.c, .func (.func 31) #[] #[.pointer (some ⟨b1, 0, none⟩)]] w fun e w' => ∃ b : Bool, e = .returned (.bool b) ∧ (b = true ↔ ∃ p ∈ ps, ∃ k ∈ p.2, Bad s.l k) ∧ w = w' := by
  have hl := h.len
  have hsl := hsm.len
  have h36 : Calls prog 36 #[.slice s.a s.l s.c, .func (.func 31) #[] #[.pointer (some ⟨b1, 0, none⟩)]] w fun e w' => ∃ r : Int, e = .returned (.int .i64 r) ∧ (0 ≤ r ↔ ∃ p ∈ ps, ∃ k ∈ p.2, Bad s.l k) ∧ w = w' := by
    refine callsRet (W36 (Q := fun v w' => ∃ r : Int, v = .int .i64 r ∧ (0 ≤ r ↔ ∃ p ∈ ps, ∃ k ∈ p.2, Bad s.l k) ∧ w = w') ?_) (fun v w' ⟨t, h, h'⟩ => ⟨t, by rw [h], h'⟩)
    unfold F36
    refine ⟨fun n x w' => ∃ j : Nat, x = (j : Int) ∧ j ≤ s.l ∧ n = s.l - j ∧ (∀ i p, i < j → ps[i]? = some p → ¬ ∃ k ∈ p.2, Bad s.l k) ∧ w = w', s.l, ⟨0, rfl, Nat.zero_le _, by omega, by simp, rfl⟩, ?_⟩
    rintro n u x w1 ⟨j, rfl, hj, rfl, hno, rfl⟩
    refine IfB.intro (fun hc => ?_) (fun hc => ?_)
    · have hlt := of_decide_eq_true hc
      obtain ⟨q, p, hq, hp, hpm, hld, hh⟩ := h.at (i := j) (by omega)
      refine ⟨q, hq, by omega, by omega, p.1, by rw [Int.toNat_natCast]; exact hld, callV_of body31 ((bad1_calls w b1 s p.1 p.2 hB hh (hsm.each p hpm)).mono ?_)⟩
      rintro _ _ ⟨b, rfl, hb, rfl⟩
      refine ⟨_, rfl, b, rfl, IfB.intro (fun h => ⟨_, rfl, ?_, rfl⟩) (fun h => ?_)⟩
      · have := hb.1 h
        exact ⟨fun _ => ⟨p, hpm, this⟩, fun _ => by omega⟩
      · refine ⟨s.l - (j + 1), by omega, j + 1, by rw [wrap64 _ (by omega)]; omega, by omega, rfl, ?_, rfl⟩
        intro i p' hi hp'
        rcases Nat.lt_succ_iff_lt_or_eq.1 hi with hh | hh
        · exact hno i p' hh hp'
        · subst hh
          rw [hp] at hp'
          cases hp'
          intro hbad
          rw [hb.2 hbad] at h; cases h
    · have hge := of_decide_eq_false hc
      refine ⟨_, rfl, ⟨fun h => absurd h (by decide), ?_⟩, rfl⟩
      rintro ⟨p, hp, hbad⟩
      obtain ⟨i, hi⟩ := List.mem_iff_getElem?.1 hp
      have := (List.getElem?_eq_some_iff.1 hi).1
      exact absurd hbad (hno i p (by omega) hi)
  refine callsRet (W30 (Q := fun v w' => ∃ b : Bool, v = .bool b ∧ (b = true ↔ ∃ p ∈ ps, ∃ k ∈ p.2, Bad s.l k) ∧ w = w') ?_) (fun v w' ⟨t, h, h'⟩ => ⟨t, by rw [h], h'⟩)
  unfold F30
  refine h36.mono ?_
  rintro _ _ ⟨r, rfl, hr, rfl⟩
  exact ⟨r, rfl, _, rfl, by rw [decide_eq_true_iff]; exact hr, rfl⟩
def May (g : List (List Int)) : Prop := g.length ≤ 4096 ∧ tot g ≤ 65536 ∧ ∀ l ∈ g, ∀ k ∈ l, 0 ≤ k ∧ k < (g.length : Int)
theorem may_calls (w : World) (s : Sl) (ps : List (Sl × List Int)) (h : Gw w s ps) (hsm : Small ps) (ht : tot (gOf ps) ≤ 1000000000) : Calls prog 23 #[.slice s.a s.l s.c] w fun e w' => ∃ b : Bool, e = .returned (.bool b) ∧ (b = true ↔ May (gOf ps)) ∧ Frm none_ w w' := by
  refine callsRet (W23 (Q := fun v w' => ∃ b : Bool, v = .bool b ∧ (b = true ↔ May (gOf ps)) ∧ Frm none_ w w') ?_) (fun v w' ⟨t, h, h'⟩ => ⟨t, by rw [h], h'⟩)
  unfold F23
  have hl := h.len
  have hsl := hsm.len
  have hgl := gOf_len ps
  intro b1 w1 hn
  have f1 := hn.mod none_
  have h1 := h.mod f1
  refine ⟨s, hn.blk.ld rfl, fun n x3 x8 w' => ∃ i : Nat, x8 = (i : Int) ∧ i ≤ s.l ∧ n = s.l - i ∧ x3 = (tot ((gOf ps).take i) : Int) ∧ w1 = w', s.l, ⟨0, rfl, Nat.zero_le _, by omega, by simp [tot], rfl⟩, ?_⟩
  rintro n u x3 x8 w2 ⟨i, rfl, hi, rfl, rfl, rfl⟩
  refine IfB.intro (fun hc => ?_) (fun hc => ?_)
  · have hlt := of_decide_eq_true hc
    obtain ⟨q, p, hq, hp, hpm, hld, hh⟩ := h1.at (i := i) (by omega)
    have hpl := has_iv hh
    have e := tot_take (gOf_get hp)
    have hle := tot_le (gOf ps) (i + 1)
    refine ⟨q, hq, by omega, by omega, p.1, by rw [Int.toNat_natCast]; exact hld, s.l - (i + 1), by omega, i + 1, by rw [wrap64 _ (by omega)]; omega, by omega, rfl, ?_, rfl⟩
    rw [wrap64 _ (by omega)]; omega
  · have hge := of_decide_eq_false hc
    have et : tot ((gOf ps).take i) = tot (gOf ps) := by rw [List.take_of_length_le (by omega)]
    rw [et]
    refine ⟨s, hn.blk.ld rfl, IfB.intro (fun hd => ?_) (fun hd => IfB.intro (fun he => ?_) (fun he => ?_))⟩
    · have hd := of_decide_eq_true hd
      exact ⟨false, rfl, by simp only [Bool.false_eq_true, false_iff]; intro hm; have := hm.1; omega, f1⟩
    · have he := of_decide_eq_true he
      exact ⟨false, rfl, by simp only [Bool.false_eq_true, false_iff]; intro hm; have := hm.2.1; omega, f1⟩
    · have hd := of_decide_eq_false hd
      have he := of_decide_eq_false he
      refine ⟨s, hn.blk.ld rfl, (bad2_calls w1 b1 s ps hn.blk h1 hsm).mono ?_⟩
      rintro _ _ ⟨b, rfl, hb, rfl⟩
      refine ⟨b, rfl, _, rfl, ?_, f1⟩
      constructor
      · intro hnb
        have hnb : b = false := by simpa using hnb
        refine ⟨by omega, by omega, ?_⟩
        intro l hl' k hk
        simp only [gOf, List.mem_map] at hl'
        obtain ⟨p, hp, rfl⟩ := hl'
        by_cases hbad : Bad s.l k
        · have := hb.2 ⟨p, hp, k, hk, hbad⟩
          rw [hnb] at this; cases this
        · unfold Bad at hbad; omega
      · intro hm
        have : b = false := by
          cases hbb : b with
          | false => rfl
          | true =>
            obtain ⟨p, hp, k, hk, hbad⟩ := hb.1 hbb
            have := hm.2.2 p.2 (by simp only [gOf, List.mem_map]; exact ⟨p, hp, rfl⟩) k hk
            unfold Bad at hbad; omega
        rw [this]; rfl
theorem May_calls (w : World) (s : Sl) (ps : List (Sl × List Int)) (h : Gw w s ps) (hsm : Small ps) (ht : tot (gOf ps) ≤ 1000000000) : Calls prog 13 #[.slice s.a s.l s.c] w fun e w' => ∃ b : Bool, e = .returned (.bool b) ∧ (b = true ↔ May (gOf ps)) ∧ w = w' := by
  refine callsRet (W13 (Q := fun v w' => ∃ b : Bool, v = .bool b ∧ (b = true ↔ May (gOf ps)) ∧ w = w') ?_) (fun v w' ⟨t, h, h'⟩ => ⟨t, by rw [h], h'⟩)
  unfold F13
  have hl := h.len
  have hsl := hsm.len
  have hgl := gOf_len ps
  refine ⟨fun n x3 x4 w' => ∃ i : Nat, x4 = (i : Int) ∧ i ≤ s.l ∧ n = s.l - i ∧ x3 = (tot ((gOf ps).take i) : Int) ∧ (∀ l ∈ (gOf ps).take i, ∀ k ∈ l, 0 ≤ k ∧ k < (ps.length : Int)) ∧ w = w', s.l, ⟨0, rfl, Nat.zero_le _, by omega, by simp [tot], by simp, rfl⟩, ?_⟩
  rintro n u x3 x4 w2 ⟨i, rfl, hi, rfl, rfl, hok, rfl⟩
  refine IfB.intro (fun hc => ?_) (fun hc => ?_)
  · have hlt := of_decide_eq_true hc
    obtain ⟨q, p, hq, hp, hpm, hld, hh⟩ := h.at (i := i) (by omega)
    have hpl := has_iv hh
    have hpb := hsm.each p hpm
    have e := tot_take (gOf_get hp)
    have hle := tot_le (gOf ps) (i + 1)
    have hld : Ld w (q.add ((i : Int).toNat * 1)) (.slice p.1.a p.1.l p.1.c) := by rw [Int.toNat_natCast]; exact hld
    refine ⟨q, hq, by omega, by omega, p.1, hld, fun n x5 w' => ∃ j : Nat, x5 = (j : Int) ∧ j ≤ p.1.l ∧ n = p.1.l - j ∧ (∀ k ∈ p.2.take j, 0 ≤ k ∧ k < (ps.length : Int)) ∧ w = w', p.1.l, ⟨0, rfl, Nat.zero_le _, by omega, by simp, rfl⟩, ?_⟩
    rintro n u x5 w3 ⟨j, rfl, hj, rfl, hok2, rfl⟩
    refine ⟨q, hq, by omega, by omega, p.1, hld, IfB.intro (fun hd => ?_) (fun hd => ?_)⟩
    · have hdl := of_decide_eq_true hd
      obtain ⟨q2, k, hq2, hk, hld2⟩ := has_at hh (i := j) (by omega)
      have hld2 : Ld w (q2.add ((j : Int).toNat * 1)) (.int .i64 k) := by rw [Int.toNat_natCast]; exact hld2
      have hbadM : (k < 0 ∨ k ≥ (s.l : Int)) → ¬ May (gOf ps) := by
        intro hbad hm
        have := hm.2.2 p.2 (by simp only [gOf, List.mem_map]; exact ⟨p, hpm, rfl⟩) k (List.mem_of_getElem? hk)
        omega
      refine ⟨q, hq, by omega, by omega, p.1, hld, q2, hq2, by omega, by omega, k, hld2, IfB.intro (fun hk0 => ?_) (fun hk0 => ⟨q, hq, by omega, by omega, p.1, hld, q2, hq2, by omega, by omega, k, hld2, IfB.intro (fun hk1 => ?_) (fun hk1 => ?_)⟩)⟩
      · have hk0 := of_decide_eq_true hk0
        exact ⟨false, rfl, by simp only [Bool.false_eq_true, false_iff]; exact hbadM (.inl hk0), rfl⟩
      · have hk1 := of_decide_eq_true hk1
        exact ⟨false, rfl, by simp only [Bool.false_eq_true, false_iff]; exact hbadM (.inr hk1), rfl⟩
      · have hk0 := of_decide_eq_false hk0
        have hk1 := of_decide_eq_false hk1
        refine ⟨p.1.l - (j + 1), by omega, j + 1, by rw [wrap64 _ (by omega)]; omega, by omega, rfl, ?_, rfl⟩
        intro k' hk'
        rw [List.take_add_one, hk] at hk'
        rcases List.mem_append.1 hk' with h' | h'
        · exact hok2 k' h'
        · simp at h'; subst h'; omega
    · have hdl := of_decide_eq_false hd
      refine ⟨s.l - (i + 1), by omega, i + 1, by rw [wrap64 _ (by omega)]; omega, by omega, rfl, by rw [wrap64 _ (by omega)]; omega, ?_, rfl⟩
      intro l hl' k hk
      rw [List.take_add_one, gOf_get hp] at hl'
      rcases List.mem_append.1 hl' with h' | h'
      · exact hok l h' k hk
      · simp at h'; subst h'
        exact hok2 k (by rw [List.take_of_length_le (by omega)]; exact hk)
  · have hge := of_decide_eq_false hc
    have et : (gOf ps).take i = gOf ps := List.take_of_length_le (by omega)
    rw [et] at hok ⊢
    refine IfB.intro (fun hd => ⟨_, rfl, ?_, rfl⟩) (fun hd => ⟨false, rfl, ?_, rfl⟩)
    · have hd := of_decide_eq_true hd
      rw [decide_eq_true_iff]
      constructor
      · intro he
        exact ⟨by omega, by omega, fun l hl' k hk => by rw [hgl]; exact hok l hl' k hk⟩
      · intro hm; have := hm.2.1; omega
    · have hd := of_decide_eq_false hd
      simp only [Bool.false_eq_true, false_iff]
      intro hm; have := hm.1; omega
/-- What is copied is the needs. -/
theorem copied_calls (w : World) (s : Sl) (ps : List (Sl × List Int)) (h : Gw w s ps) (hsm : Small ps) : Calls prog 10 #[.slice s.a s.l s.c] w fun e w' => ∃ t qs, e = .returned (.slice t.a t.l t.c) ∧ Gw w' t qs ∧ gOf qs = gOf ps ∧ Frm none_ w w' := by
  refine callsRet (W10 (Q := fun v w' => ∃ t qs, v = .slice t.a t.l t.c ∧ Gw w' t qs ∧ gOf qs = gOf ps ∧ Frm none_ w w') ?_) (fun v w' ⟨t, q, h, h'⟩ => ⟨t, q, by rw [h], h'⟩)
  unfold F10
  have hl := h.len
  have hsl := hsm.len
  refine ⟨fun n x3 x4 w' => ∃ (i : Nat) (qs : List (Sl × List Int)), x4 = (i : Int) ∧ i ≤ s.l ∧ n = s.l - i ∧ Row w' x3 25 1 (gv qs) ∧ (∀ q ∈ qs, Row w' q.1 3 1 (iv q.2)) ∧ gOf qs = (gOf ps).take i ∧ (∀ k, x3.blk = some k → w.heap.size ≤ k) ∧ Frm none_ w w', s.l, ⟨0, [], rfl, Nat.zero_le _, by omega, Row.nil _ _ _, by simp, rfl, by simp [Sl.blk], Frm.refl _ _⟩, ?_⟩
  rintro n u x3 x4 w1 ⟨i, qs, rfl, hi, rfl, hr, hqs, hg, hx3, f1⟩
  have hql : qs.length = i := by have := congrArg List.length hg; rw [gOf_len, List.length_take, gOf_len] at this; omega
  refine IfB.intro (fun hc => ?_) (fun hc => ?_)
  · have hlt := of_decide_eq_true hc
    refine runT_lit0 st25 ?_
    intro w2 hr2 f2 z2
    have f12 := f1.n f2
    obtain ⟨q, p, hq, hp, hpm, hld, hh⟩ := (h.mod f12).at (i := i) (by omega)
    have hpl := has_iv hh
    have hpb := hsm.each p hpm
    refine ⟨q, hq, by omega, by omega, p.1, by rw [Int.toNat_natCast]; exact hld, ?_⟩
    refine runT_append st25 hr2 hh (iv_one _) (by simp only; omega) (by simp only [maxLen]; omega) ?_
    intro t w3 hr3 hl3 hn3 f3
    rw [List.nil_append] at hr3
    have f3' : Frm none_ w1 w3 := f2.trans f3 (fun _ _ h => h) (fun k hk hf => by simp [Sl.blk] at hf; omega)
    refine runT_lit1 st22 (by decide) rfl ?_
    intro w4 hr4 f4 z4
    have f14 := f3'.n f4
    have hxr : Row w4 x3 25 1 (gv qs) := hr.mod f14 (fun _ _ h => h)
    have hxl := hxr.len
    rw [gv_len] at hxl
    refine runT_append st22 hxr hr4.has (by intro u hu; simp [Value.cells] at hu; subst hu; rfl) (by simp only; omega) (by simp only [maxLen]; omega) ?_
    intro t' w5 hr5 hl5 hn5 f5
    have hin : ∀ q, Row w4 q.1 3 1 (iv q.2) → Row w5 (q : Sl × List Int).1 3 1 (iv q.2) := fun q hq => hq.mod f5 (fun k hk hs => hq.g.blkNe hxr.g (by decide) k hk hs)
    refine ⟨s.l - (i + 1), by omega, i + 1, qs ++ [(t, p.2)], by rw [wrap64 _ (by omega)]; omega, by omega, rfl, ?_, ?_, ?_, ?_, (f1.n f14).trans f5 (fun _ _ h => h) (fun k hk hs => by have := hx3 k hs; omega)⟩
    · have e : gv qs ++ (slv t).cells.toList = gv (qs ++ [(t, p.2)]) := by simp [gv, Value.cells]
      rw [e] at hr5; exact hr5
    · intro q hq
      rcases List.mem_append.1 hq with hq | hq
      · exact hin q ((hqs q hq).mod f14 (fun _ _ h => h))
      · simp at hq; subst hq
        exact hin (t, p.2) (hr3.mod f4 (fun _ _ h => h))
    · rw [List.take_add_one, gOf_get hp, ← hg]; simp [gOf]
    · intro k hk
      rcases hn5.cases hk with hk | hk
      · exact hx3 k hk
      · have := (f1.n f14).size; omega
  · have hge := of_decide_eq_false hc
    refine ⟨x3, qs, rfl, ⟨hr.has, fun q hq => (hqs q hq).has⟩, ?_, f1⟩
    rw [hg, List.take_of_length_le (by rw [gOf_len]; omega)]
/-- Numbers from 0 up that are marked. -/
def outF (f : Nat → Bool) (n : Nat) : List Int := ((List.range n).filter f).map fun k : Nat => (k : Int)
theorem outF_succ (f : Nat → Bool) (n : Nat) : outF f (n + 1) = outF f n ++ (if f n then [(n : Int)] else []) := by
  unfold outF
  rw [List.range_succ, List.filter_append, List.map_append]
  congr 1
  cases h : f n <;> simp [List.filter, h]
theorem outF_len (f : Nat → Bool) (n : Nat) : (outF f n).length ≤ n := by
  unfold outF
  rw [List.length_map]
  have := List.length_filter_le f (List.range n)
  simpa using this
theorem outF_congr {f g : Nat → Bool} {n : Nat} (h : ∀ k, k < n → f k = g k) : outF f n = outF g n := by
  unfold outF
  congr 1
  exact List.filter_congr (fun k hk => h k (by simpa using hk))
theorem outF_mem {f : Nat → Bool} {n : Nat} {z : Int} : z ∈ outF f n ↔ ∃ k : Nat, z = k ∧ k < n ∧ f k = true := by
  unfold outF
  simp only [List.mem_map, List.mem_filter, List.mem_range]
  constructor
  · rintro ⟨k, ⟨h1, h2⟩, rfl⟩; exact ⟨k, rfl, h1, h2⟩
  · rintro ⟨k, rfl, h1, h2⟩; exact ⟨k, ⟨h1, h2⟩, rfl⟩
/-- An edge. -/
def E (g : List (List Int)) (a b : Nat) : Prop := ∃ l, g[a]? = some l ∧ (b : Int) ∈ l
/-- One rests on the other. -/
def TC (g : List (List Int)) : Nat → Nat → Prop := Relation.TransGen (E g)
theorem TC.one {g : List (List Int)} {a b : Nat} (h : E g a b) : TC g a b := Relation.TransGen.single h
theorem TC.more {g : List (List Int)} {a b c : Nat} (h : TC g a b) (k : E g b c) : TC g a c := Relation.TransGen.tail h k
/-- What is marked is closed: so it holds all that is reached. -/
theorem TC.all {g : List (List Int)} {i : Nat} {M : Nat → Prop} (h0 : ∀ y, E g i y → M y) (h1 : ∀ x, M x → ∀ y, E g x y → M y) {k : Nat} (h : TC g i k) : M k := by
  induction h with
  | single h => exact h0 _ h
  | tail _ h ih => exact h1 _ ih _ h
open Classical in
noncomputable def below (g : List (List Int)) (i : Nat) : List Int := outF (fun k => decide (TC g i k)) g.length
theorem count_set {l : List Bool} : ∀ {i : Nat}, l[i]? = some false → (l.set i true).count false + 1 = l.count false := by
  induction l with
  | nil => intro i h; simp at h
  | cons a r ih =>
    intro i h
    cases i with
    | zero => simp at h; subst h; simp
    | succ i =>
      simp only [List.getElem?_cons_succ] at h
      have := ih h
      simp only [List.set_cons_succ, List.count_cons]
      omega
def bvs (l : List Bool) : List Value := l.map Value.bool
theorem bvs_get {l : List Bool} {i : Nat} {v : Value} (h : (bvs l)[i]? = some v) : ∃ b, l[i]? = some b ∧ v = .bool b := by
  simp only [bvs, List.getElem?_map, Option.map_eq_some_iff] at h
  obtain ⟨b, hb, rfl⟩ := h
  exact ⟨b, hb, rfl⟩
structure Dfs (g : List (List Int)) (i : Nat) (seen : List Bool) (todo : List Nat) (ex : Nat → Prop) : Prop where
  len : seen.length = g.length
  snd : ∀ k, seen[k]? = some true → TC g i k
  td : ∀ k ∈ todo, k < g.length ∧ (k = i ∨ seen[k]? = some true)
  cl : ∀ k, (k = i ∨ seen[k]? = some true) → k ∈ todo ∨ ex k ∨ ∀ y, E g k y → seen[y]? = some true
theorem set_true {l : List Bool} {y z : Nat} (hy : y < l.length) (h : l[z]? = some true) : (l.set y true)[z]? = some true := by
  by_cases e : y = z
  · subst e; simp [hy]
  · rw [List.getElem?_set_ne e]; exact h
theorem set_true_inv {l : List Bool} {y z : Nat} (h : (l.set y true)[z]? = some true) : z = y ∨ l[z]? = some true := by
  by_cases e : y = z
  · exact .inl e.symm
  · rw [List.getElem?_set_ne e] at h; exact .inr h
theorem Dfs.push {g : List (List Int)} {i x y : Nat} {seen : List Bool} {todo : List Nat} {ex : Nat → Prop} (h : Dfs g i seen todo ex) (hx : x = i ∨ seen[x]? = some true) (he : E g x y) (hy : y < g.length) : Dfs g i (seen.set y true) (todo ++ [y]) ex := by
  have hyl : y < seen.length := by rw [h.len]; exact hy
  refine ⟨by rw [List.length_set]; exact h.len, ?_, ?_, ?_⟩
  · intro k hk
    rcases set_true_inv hk with rfl | hk
    · rcases hx with rfl | hx
      · exact TC.one he
      · exact (h.snd x hx).more he
    · exact h.snd k hk
  · intro k hk
    rcases List.mem_append.1 hk with hk | hk
    · exact ⟨(h.td k hk).1, (h.td k hk).2.imp_right (set_true hyl)⟩
    · simp at hk; subst hk; exact ⟨hy, .inr (by simp [hyl])⟩
  · intro k hk
    by_cases hky : k = y
    · subst hky; exact .inl (by simp)
    · have hk' : k = i ∨ seen[k]? = some true := hk.imp_right (fun h => (set_true_inv h).resolve_left hky)
      rcases h.cl k hk' with h1 | h1 | h1
      · exact .inl (by simp [h1])
      · exact .inr (.inl h1)
      · exact .inr (.inr fun z hz => set_true hyl (h1 z hz))
end Go.Proofs.Ytjpcbggodhfabaa
