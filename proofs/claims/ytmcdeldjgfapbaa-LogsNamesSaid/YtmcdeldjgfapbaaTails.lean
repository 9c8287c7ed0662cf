/- The laws LogsTails and LogsOrder walked. -/
import Derived.Test.YtmcdeldjgfapbaaLw
set_option linter.unusedVariables false
set_option linter.unusedSimpArgs false
set_option maxRecDepth 20000
namespace Go.Proofs.Ytmcdeldjgfapbaa
open Go Go.Proofs.YtmcdeldjgfapbaaV
abbrev ArgT (W : World) (s : Sl) (l : List ByteArray) : Prop := HasL W s 1 (fun s : ByteArray => [Value.string s]) l ∧ (∀ a ∈ l, a.size ≤ 140737488351232) ∧ s.l ≤ s.c ∧ s.c ≤ maxLen ∧ s.c * 16 ≤ 140737488351232
theorem ArgT.has {W : World} {s : Sl} {l : List ByteArray} (h : ArgT W s l) : Has W s 1 (sv l) := h.1.one
abbrev In64 (n : Int) : Prop := -9223372036854775808 ≤ n ∧ n ≤ 9223372036854775807
theorem clampN (m : Nat) (n : Int) : (if (m : Int) < (if (0 : Int) > n then (0 : Int) else n) then (m : Int) else (if (0 : Int) > n then (0 : Int) else n)) = ((min m n.toNat : Nat) : Int) := by
  split <;> split <;> omega
theorem textLoop (ps : List ByteArray) (j : Nat) {p : ByteArray} (h : ps[j]? = some p) : str (txt (ps.take j)) ++ p = str (txt (ps.take (j + 1))) := by
  rw [take_snoc h, txt_snoc]
  apply ByteArray.ext
  apply Array.toList_inj.1
  rw [str_data, ByteArray.data_append, Array.toList_append, str_data]
theorem tails_law (W : World) (s : Sl) (l : List ByteArray) (ha : ArgT W s l) (n : Int) (hn : In64 n) (no : Int) (hno : In64 no) : Calls prog 7 #[.slice s.a s.l s.c, .int .i64 n, .int .i64 no] W fun e w' => e = .returned (.bool true) ∧ Frm none_ W w' := by
  refine callsRet (W7 (x0 := s) (x1 := n) (x2 := no) (Q := fun v w' => v = .bool true ∧ Frm none_ W w') ?_) (fun v w' ⟨h, h'⟩ => ⟨by rw [h], h'⟩)
  obtain ⟨h1, h2⟩ := hn
  obtain ⟨h3, h4⟩ := hno
  unfold F7
  refine (pieces_calls W s l ha.has (by have := ha.2.2.2.2; have := ha.2.2.1; omega)).mono ?_
  rintro _ w1 ⟨r, rfl, hr, hrn, f1⟩
  have ok := pcs_ok l [] ok_nil
  generalize pcs [] l = ps at hr ok
  have hps := ok.n
  have hz := szs_le (fun p hp => (ok.each p hp).2)
  have hrl := has_sv hr.has
  refine ⟨r, rfl, (filled_calls w1 r ps hr.has ok).mono ?_⟩
  rintro _ w2 ⟨b, t, rfl, hb, ht, hL, f2⟩
  refine ⟨_, _, rfl, fun c w' => c = false ∧ Frm none_ w2 w', ?_, ?_⟩
  · refine (works_calls w2).mono ?_
    rintro _ w3 ⟨rfl, f3⟩
    exact ⟨_, rfl, IfB.f rfl ⟨rfl, f3⟩⟩
  rintro u c w3 ⟨rfl, f3⟩
  have hr3 := ((hr.mod f2 (fun _ _ h => h)).mod f3 (fun _ _ h => h))
  have hL3 := hL.n f3
  have F3 := (f1.n f2).n f3
  refine IfB.f rfl ⟨fun m x i w' => ∃ j : Nat, j ≤ ps.length ∧ i = (j : Int) ∧ x = str (txt (ps.take j)) ∧ m = ps.length - j ∧ w3 = w', ps.length, ⟨0, by omega, rfl, rfl, rfl, rfl⟩, ?_⟩
  rintro m u x i w3' ⟨j, hj, rfl, rfl, rfl, rfl⟩
  have hzj := szs_take (ps := ps) j
  have hzj1 := szs_take (ps := ps) (j + 1)
  refine IfB.dec (fun hlt => ?_) (fun hge => ?_)
  · obtain ⟨q, p, hq, hp, hld⟩ := sv_at hr3.has (i := j) (by omega)
    have hs2 : szs (ps.take (j + 1)) = szs (ps.take j) + p.size := by rw [take_snoc hp, szs_snoc]
    refine ⟨q, hq, by omega, by omega, p, hld, ?_, ps.length - (j + 1), by omega, j + 1, by omega, by rw [wi _ (by omega)]; omega, textLoop ps j hp, rfl, rfl⟩
    rw [str_size, txt_len]; omega
  have hjl : j = ps.length := by omega
  subst hjl
  rw [List.take_length]
  have hsz : (str (txt ps)).size = szs ps := by rw [str_size, txt_len]
  rw [hsz, hrl, clampN, clampN]
  refine (from_calls 0 w3 _ ps hL3.q (by omega) no).mono ?_
  rintro _ w4 ⟨r4, rfl, hr4, hn4, f4⟩
  have hr4l := has_sv hr4.has
  rw [List.length_drop] at hr4l
  have e1 : IntKind.wrap .i64 (((szs ps : Nat) : Int) - ((min (szs ps) n.toNat : Nat) : Int)) = ((szs ps - min (szs ps) n.toNat : Nat) : Int) := by rw [wi _ (by omega)]; omega
  rw [e1]
  refine ⟨r4, rfl, ⟨by omega, by omega⟩, (tail_calls w4.drew b t ps ((hL3.n f4).n (frm_drew _)) (by omega) (by omega) n h2).mono ?_⟩
  rintro _ w5 ⟨rfl, f5⟩
  have f5 := f5.ofDrew
  have f45 := f4.n f5
  have ext : (str (txt ps)).extract ((szs ps - min (szs ps) n.toNat : Nat) : Int).toNat (szs ps) = str (tailL (txt ps) n) := by
    apply ByteArray.ext
    apply Array.toList_inj.1
    rw [ext_list, str_data, str_data, Int.toNat_natCast, List.take_of_length_le (by rw [List.length_drop, txt_len]; omega)]
    unfold tailL
    rw [txt_len]
    congr 1
    omega
  rw [ext]
  refine ⟨_, rfl, IfB.f (by rw [(str_eqIff _ _).2 rfl]; rfl) ((size15_calls 0 w5 _ ps (hL3.n f45).q).mono ?_)⟩
  rintro _ w6 ⟨rfl, f6⟩
  refine ⟨_, rfl, IfB.f (by simp) ((len_calls w6 _ _ ps ((hL3.n f45).n f6).lp).mono ?_)⟩
  rintro _ _ ⟨rfl, rfl⟩
  rename_i w6
  have e2 : IntKind.wrap .i64 (((ps.length : Nat) : Int) - ((min ps.length no.toNat : Nat) : Int)) = ((ps.length - no.toNat : Nat) : Int) := by rw [wi _ (by omega)]; omega
  rw [e2, hr4l]
  refine ⟨_, rfl, IfB.f (by simp) (IfB.f (by simp) ⟨⟨by omega, by omega⟩, ?_⟩)⟩
  rw [Int.toNat_natCast]
  have hlc : r.l ≤ r.c := by
    rcases hr.cases with ⟨rfl, _⟩ | ⟨g, cur, ha, hB, h3, _⟩
    · exact Nat.le_refl _
    · exact h3
  have f36 := f45.n f6
  have hcut := (hr3.has.mod f36 (fun _ _ h => h)).cut (min ps.length no.toNat) (by omega) hlc
  have es : (sv ps).drop (min ps.length no.toNat * 1) = sv (ps.drop (min ps.length no.toNat)) := by rw [Nat.mul_one]; unfold sv; rw [List.map_drop]
  rw [es, hrl] at hcut
  rw [← hr4l]
  refine (begins_calls w6 r4 ⟨slA r.a (min ps.length no.toNat) r.c 1, ps.length - min ps.length no.toNat, r.c - min ps.length no.toNat⟩ (ps.drop no.toNat) (ps.drop (min ps.length no.toNat)) ((hr4.mod f5 (fun _ _ h => h)).mod f6 (fun _ _ h => h)).has hcut (by rw [List.length_drop]; omega)).mono ?_
  rintro _ w7 ⟨rfl, f7⟩
  refine ⟨_, rfl, ?_, (F3.n f36).n f7⟩
  rw [decide_eq_true]
  by_cases hc : no.toNat ≤ ps.length
  · rw [Nat.min_eq_right hc]; exact List.prefix_refl _
  · rw [List.drop_of_length_le (by omega)]; exact List.nil_prefix
/-! ### LogsOrder -/
theorem uq (n : Int) (m : Nat) (hn : In64 n) (hm : 0 < m) (hm2 : m ≤ 1000000) : ∃ k : Nat, k < m ∧ IntKind.wrap .u64 ((m : Nat) : Int) ≠ 0 ∧ IntKind.wrap .i64 (Int.tmod (IntKind.wrap .u64 n) (IntKind.wrap .u64 ((m : Nat) : Int))) = (k : Int) := by
  have e : IntKind.wrap .u64 ((m : Nat) : Int) = (m : Int) := wu64 _ (by omega)
  rw [e, wu64m]
  have h0 : 0 ≤ n % 18446744073709551616 := Int.emod_nonneg _ (by omega)
  rw [Int.tmod_eq_emod_of_nonneg h0]
  have h1 := Int.emod_nonneg (n % 18446744073709551616) (show (m : Int) ≠ 0 by omega)
  have h2 := Int.emod_lt_of_pos (n % 18446744073709551616) (show (0 : Int) < m by omega)
  refine ⟨(n % 18446744073709551616 % (m : Int)).toNat, by omega, by omega, ?_⟩
  rw [wi _ (by omega)]; omega
theorem addA_take {l : List ByteArray} (ok : OkL l) {kept k : Nat} {p : ByteArray} (hk : l[k]? = some p) (hkept : kept ≤ l.length) :
    addA (l.take kept) (k : Int) p = if k < kept then (false, 0, l.take kept) else if k = kept then (true, 0, l.take (kept + 1)) else (false, 50, l.take kept) := by
  obtain ⟨h1, h2⟩ := List.getElem?_eq_some_iff.1 hk
  have h3 := ok.each p (List.mem_of_getElem? hk)
  have h4 := ok.n
  have hl : (l.take kept).length = kept := by rw [List.length_take]; omega
  by_cases hlt : k < kept
  · rw [if_pos hlt]
    unfold addA
    rw [if_neg (by omega), if_neg (by omega), if_pos (by omega), Int.toNat_natCast, if_pos]
    rw [List.getElem?_take, if_pos hlt, hk]
  · rw [if_neg hlt]
    by_cases he : k = kept
    · subst he
      rw [if_pos rfl, addA_next ok hk]
    · rw [if_neg he]
      unfold addA
      rw [if_neg (by omega), if_neg (by omega), if_neg (by omega), if_neg (by omega), if_pos (by omega)]
abbrev ArgI (W : World) (s : Sl) (l : List Int) : Prop := HasL W s 1 (fun n : Int => [Value.int .i64 n]) l ∧ (∀ a ∈ l, -9223372036854775808 ≤ a ∧ a ≤ 9223372036854775807) ∧ s.l ≤ s.c ∧ s.c ≤ maxLen ∧ s.c * 8 ≤ 140737488351232
theorem order_law (W : World) (s : Sl) (l : List ByteArray) (ha : ArgT W s l) (q : Sl) (os : List Int) (ho : ArgI W q os) : Calls prog 4 #[.slice s.a s.l s.c, .slice q.a q.l q.c] W fun e w' => e = .returned (.bool true) ∧ Frm none_ W w' := by
  refine callsRet (W4 (x0 := s) (x1 := q) (Q := fun v w' => v = .bool true ∧ Frm none_ W w') ?_) (fun v w' ⟨h, h'⟩ => ⟨by rw [h], h'⟩)
  unfold F4
  refine (pieces_calls W s l ha.has (by have := ha.2.2.2.2; have := ha.2.2.1; omega)).mono ?_
  rintro _ w1 ⟨r, rfl, hr, hrn, f1⟩
  have ok := pcs_ok l [] ok_nil
  generalize pcs [] l = ps at hr ok
  have hps := ok.n
  have hz := szs_le (fun p hp => (ok.each p hp).2)
  have hrl := has_sv hr.has
  have hoh : Has W q 1 (os.map (Value.int .i64)) := ho.1.one
  have hol : os.length = q.l := ho.1.len
  refine ⟨r, rfl, fun c w' => Frm none_ w1 w' ∧ (c = false → q.l ≤ 400 ∧ 0 < ps.length), ?_, ?_⟩
  · refine (works_calls w1).mono ?_
    rintro _ w2 ⟨rfl, f2⟩
    refine ⟨_, rfl, IfB.f rfl (IfB.dec (fun h => ⟨f2, by simp⟩) (fun h => ⟨f2, fun h2 => ⟨by omega, ?_⟩⟩))⟩
    have h2 : ¬ ((r.l : Nat) : Int) = 0 := by simpa using h2
    omega
  rintro u c w2 ⟨f2, hc⟩
  have F2 := f1.n f2
  refine IfB.intro (fun hct => ?_) (fun hcf => ?_)
  · refine (works_calls w2).mono ?_
    rintro _ w3 ⟨rfl, f3⟩
    exact ⟨_, rfl, rfl, F2.n f3⟩
  obtain ⟨hq4, hpos⟩ := hc hcf
  refine (new_calls w2).mono ?_
  rintro _ w3 ⟨b, rfl, hb, hL3, f3⟩
  have hr2 := hr.mod f2 (fun _ _ h => h)
  have hoh2 := hoh.mod F2 (fun _ _ h => h)
  refine ⟨_, rfl, fun m kept i w' => ∃ (j kp : Nat) (t : Sl), i = (j : Int) ∧ kept = (kp : Int) ∧ j ≤ os.length ∧ kp ≤ ps.length ∧ m = os.length - j ∧ LgS w' b t (ps.take kp) ∧ New w2 t ∧ Frm none_ w2 w', os.length,
    ⟨0, 0, _, rfl, rfl, by omega, by omega, rfl, by simpa using hL3, fun k hk => by simp [Sl.blk] at hk, f3⟩, ?_⟩
  rintro m u kept i w4 ⟨j, kp, t, rfl, rfl, hj, hkp, rfl, hL4, hn4, f4⟩
  have hlk : (ps.take kp).length = kp := by rw [List.length_take]; omega
  refine IfB.dec (fun hlt => ?_) (fun hge => ?_)
  · obtain ⟨qa, v, hqa, hv, hld⟩ := (hoh2.mod f4 (fun _ _ h => h)).at1 (i := (j : Int)) (by omega) (by omega)
    rw [Int.toNat_natCast, List.getElem?_map, Option.map_eq_some_iff] at hv
    obtain ⟨o, hoj, rfl⟩ := hv
    have hob := ho.2.1 o (List.mem_of_getElem? hoj)
    obtain ⟨k, hk, hne, ek⟩ := uq o r.l hob (by omega) (by omega)
    obtain ⟨qb, p, hqb, hp, hldp⟩ := sv_at (hr2.mod f4 (fun _ _ h => h)).has (i := k) (by omega)
    refine ⟨qa, hqa, by omega, by omega, o, hld, hne, ?_⟩
    rw [ek]
    refine ⟨qb, hqb, by omega, by omega, p, hldp, (add_calls w4 b t _ (k : Int) p hL4 (ok.take kp)).mono ?_⟩
    rw [addA_take ok hp hkp]
    have hwj : IntKind.wrap .i64 ((j : Int) + 1) = ((j + 1 : Nat) : Int) := by rw [wi _ (by omega)]; omega
    have rest : ∀ (w5 : World) (t5 : Sl) (kp5 : Nat), kp5 ≤ ps.length → LgS w5 b t5 (ps.take kp5) → New w2 t5 → Frm none_ w2 w5 → Calls prog 14 #[.pointer (some ⟨b, 0, none⟩), .int .i64 0] w5 fun en w1_6 => ∃ t85 : Sl, en = .returned (.slice t85.a t85.l t85.c) ∧
        IfB (((t85.l : Nat) : Int) != (kp5 : Int)) (Value.bool false = Value.bool true ∧ Frm none_ W w1_6) (Calls prog 22 #[.slice t85.a t85.l t85.c, .slice r.a r.l r.c] w1_6 fun en w1_7 => ∃ t93 : Bool, en = .returned (.bool t93) ∧
          IfB (!t93) (Value.bool false = Value.bool true ∧ Frm none_ W w1_7) (∃ n', n' < os.length - j ∧ ∃ (j_1 kp : Nat) (t : Sl), IntKind.wrap .i64 ((j : Int) + 1) = (j_1 : Int) ∧ (kp5 : Int) = (kp : Int) ∧ j_1 ≤ os.length ∧ kp ≤ ps.length ∧ n' = os.length - j_1 ∧ LgS w1_7 b t (ps.take kp) ∧ New w2 t ∧ Frm none_ w2 w1_7)) := by
      intro w5 t5 kp5 hkp5 hL5 hn5 f5
      refine (from_calls 0 w5 _ _ hL5.q (by rw [List.length_take]; omega) 0).mono ?_
      rintro _ w6 ⟨r6, rfl, hr6, hn6, f6⟩
      rw [show (0 : Int).toNat = 0 from rfl, List.drop_zero] at hr6
      have hr6l := has_sv hr6.has
      rw [List.length_take, Nat.min_eq_left hkp5] at hr6l
      refine ⟨r6, rfl, IfB.f (by rw [hr6l]; simp) ((begins_calls w6 r6 r _ ps hr6.has ((hr2.mod f5 (fun _ _ h => h)).mod f6 (fun _ _ h => h)).has (by rw [List.length_take]; omega)).mono ?_)⟩
      rintro _ w7 ⟨rfl, f7⟩
      refine ⟨_, rfl, IfB.f ?_ ⟨os.length - (j + 1), by omega, j + 1, kp5, t5, hwj, rfl, by omega, hkp5, rfl, (hL5.n f6).n f7, hn5, (f5.n f6).n f7⟩⟩
      rw [decide_eq_true (List.take_prefix _ _)]
      rfl
    rintro _ w5 ⟨rfl, t5, hL5, hn5, f5⟩
    have F5 := frm_lg f4 f5 (by omega) hn4
    have hn5' := hn5.new hn4 f4.size
    refine ⟨_, _, rfl, fun c w' => c = false ∧ w5 = w', ?_, ?_⟩
    · by_cases hlt : k < kp
      · simp only [if_pos hlt]
        refine ⟨_, bneq _ _ _ _, IfB.f ?_ ⟨_, bneq _ _ _ _, IfB.f ?_ (IfB.df (by omega) (by simp))⟩⟩
        · have : ((k : Int) == (kp : Int)) = false := beq_eq_false_iff_ne.2 (by omega)
          rw [this]; rfl
        · rw [decide_eq_true (by omega)]; rfl
      · simp only [if_neg hlt]
        by_cases he : k = kp
        · simp only [if_pos he]
          refine ⟨_, bneq _ _ _ _, IfB.f ?_ ⟨_, bneq _ _ _ _, IfB.f ?_ (IfB.df (by omega) (by simp))⟩⟩
          · rw [he]; simp
          · rw [decide_eq_true (by omega)]; rfl
        · simp only [if_neg he]
          refine ⟨_, bneq _ _ _ _, IfB.f ?_ ⟨_, bneq _ _ _ _, IfB.f ?_ (IfB.dt (by omega) (by simp))⟩⟩
          · have : ((k : Int) == (kp : Int)) = false := beq_eq_false_iff_ne.2 (by omega)
            rw [this]; rfl
          · rw [decide_eq_false (by omega)]; rfl
    rintro u c w5' ⟨rfl, rfl⟩
    refine IfB.f rfl ?_
    by_cases he : k = kp
    · rw [if_neg (by omega), if_pos he] at hL5 ⊢
      have ew : IntKind.wrap .i64 ((kp : Int) + 1) = ((kp + 1 : Nat) : Int) := by rw [wi _ (by omega)]; omega
      refine IfB.t rfl ?_
      rw [ew]
      have := rest w5 t5 (kp + 1) (by omega) hL5 hn5' F5
      exact this
    · have hL5' : LgS w5 b t5 (ps.take kp) := by
        by_cases hlt : k < kp
        · rw [if_pos hlt] at hL5; exact hL5
        · rw [if_neg hlt, if_neg he] at hL5; exact hL5
      refine IfB.f ?_ (rest w5 t5 kp hkp hL5' hn5' F5)
      by_cases hlt : k < kp
      · rw [if_pos hlt]
      · rw [if_neg hlt, if_neg he]
  · refine ⟨fun m i w' => ∃ (j : Nat) (t : Sl), i = (j : Int) ∧ j ≤ ps.length ∧ m = ps.length - j ∧ LgS w' b t (ps.take (max kp j)) ∧ New w2 t ∧ Frm none_ w2 w', ps.length, ⟨0, t, rfl, by omega, rfl, by simpa using hL4, hn4, f4⟩, ?_⟩
    rintro m u i w5 ⟨j, t5, rfl, hj, rfl, hL5, hn5, f5⟩
    refine IfB.dec (fun hlt => ?_) (fun hge => ?_)
    · obtain ⟨qb, p, hqb, hp, hldp⟩ := sv_at (hr2.mod f5 (fun _ _ h => h)).has (i := j) (by omega)
      refine ⟨qb, hqb, by omega, by omega, p, hldp, (add_calls w5 b t5 _ (j : Int) p hL5 (ok.take _)).mono ?_⟩
      rw [addA_take ok hp (by omega)]
      rintro _ w6 ⟨rfl, t6, hL6, hn6, f6⟩
      have F6 := frm_lg f5 f6 (by omega) hn5
      have hn6' := hn6.new hn5 f5.size
      have ew : IntKind.wrap .i64 ((j : Int) + 1) = ((j + 1 : Nat) : Int) := by rw [wi _ (by omega)]; omega
      by_cases hlt2 : j < kp
      · have hm : j < max kp j := by omega
        simp only [if_pos hm] at hL6 ⊢
        refine ⟨_, _, rfl, IfB.f rfl ⟨_, bneq _ _ _ _, IfB.f (by rw [decide_eq_false (by omega)]; rfl) ⟨ps.length - (j + 1), by omega, j + 1, t6, ew, by omega, rfl, ?_, hn6', F6⟩⟩⟩
        have : max kp (j + 1) = max kp j := by omega
        rw [this]; exact hL6
      · have hm : ¬ j < max kp j := by omega
        have hm2 : j = max kp j := by omega
        simp only [if_neg hm, if_pos hm2] at hL6 ⊢
        refine ⟨_, _, rfl, IfB.f rfl ⟨_, bneq _ _ _ _, IfB.f (by rw [decide_eq_true (by omega)]; rfl) ⟨ps.length - (j + 1), by omega, j + 1, t6, ew, by omega, rfl, ?_, hn6', F6⟩⟩⟩
        have : max kp (j + 1) = max kp j + 1 := by omega
        rw [this]; exact hL6
    · rw [List.take_of_length_le (by omega)] at hL5
      refine (from_calls 0 w5 _ _ hL5.q (by omega) 0).mono ?_
      rintro _ w6 ⟨r6, rfl, hr6, hn6, f6⟩
      rw [show (0 : Int).toNat = 0 from rfl, List.drop_zero] at hr6
      have hr6l := has_sv hr6.has
      refine ⟨r6, rfl, IfB.t (by rw [hr6l, hrl]; simp) ((begins_calls w6 r6 r _ ps hr6.has ((hr2.mod f5 (fun _ _ h => h)).mod f6 (fun _ _ h => h)).has (by omega)).mono ?_)⟩
      rintro _ w7 ⟨rfl, f7⟩
      refine ⟨_, rfl, ?_, F2.n ((f5.n f6).n f7)⟩
      rw [decide_eq_true (List.prefix_refl _)]
end Go.Proofs.Ytmcdeldjgfapbaa
