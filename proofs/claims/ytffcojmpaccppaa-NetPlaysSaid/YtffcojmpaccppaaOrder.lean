/- The law NetOrder walked: it returns true, and turns nothing that was there. -/
import Derived.Test.YtffcojmpaccppaaW
import Derived.Test.YtffcojmpaccppaaOps
set_option linter.unusedVariables false
set_option linter.unusedSimpArgs false
namespace Go.Proofs.Ytffcojmpaccppaa
open Go Go.Proofs.YtffcojmpaccppaaV
/-- The datagrams of the numbers from t up to p. -/
def mails (t p : Nat) : List Ml := (List.range' t (p - t)).map fun n : Nat => mailM (n : Int)
theorem mails_len (t p : Nat) : (mails t p).length = p - t := by simp [mails]
theorem mails_push {t p : Nat} (h : t ≤ p) : mails t p ++ [mailM (p : Int)] = mails t (p + 1) := by
  unfold mails
  rw [show p + 1 - t = (p - t) + 1 by omega, List.range'_concat, List.map_append]
  simp [show t + (p - t) = p by omega]
theorem mails_get {t p i : Nat} (h : t + i < p) : (mails t p)[i]? = some (mailM ((t + i : Nat) : Int)) := by
  unfold mails
  rw [List.getElem?_map, List.getElem?_range' (by omega)]
  simp
theorem mails_tail {t p : Nat} (h : t < p) : (mails t p).eraseIdx 0 = mails (t + 1) p := by
  unfold mails
  rw [show p - t = (p - (t + 1)) + 1 by omega, List.range'_succ]
  simp
set_option maxRecDepth 20000 in
theorem order_calls (w : World) (x : Sl) (l : List UInt8) (hx : Has w x 1 (bv l)) (hxl : x.l ≤ 140737488351232) : Calls prog 3 #[.slice x.a x.l x.c] w fun e w' => e = .returned (.bool true) ∧ Frm none_ w w' := by
  refine calls_ret (W3 (Q := fun v w' => v = .bool true ∧ Frm none_ w w') ?_) (fun v w' ⟨h, h'⟩ => ⟨by rw [h], h'⟩)
  unfold F3
  refine ⟨fun b w' => Frm none_ w w' ∧ b = decide ((x.l : Int) > 500), ?_, ?_⟩
  · refine (works_calls w).mono ?_
    rintro _ w1 ⟨rfl, f1⟩
    exact ⟨_, rfl, IfB.f rfl ⟨f1, rfl⟩⟩
  rintro u b w1 ⟨f1, rfl⟩
  refine IfB.intro (fun hc => ?_) (fun hc => ?_)
  · refine (works_calls w1).mono ?_
    rintro _ w2 ⟨rfl, f2⟩
    exact ⟨_, rfl, rfl, trN f1 f2⟩
  have hsm := of_decide_eq_false hc
  have hll : l.length = x.l := by have := hx.len; rw [bv_length] at this; omega
  refine (st_new w1 400 (by decide) (by decide)).mono ?_
  rintro _ w2 ⟨b, rfl, h2⟩
  refine ⟨_, _, rfl, IfB.f rfl ?_⟩
  refine ⟨fun n x5 x6 x7 w' => ∃ i p t : Nat, x7 = (i : Int) ∧ x5 = (p : Int) ∧ x6 = (t : Int) ∧ t ≤ p ∧ p ≤ i ∧ i ≤ x.l ∧ n = x.l - i ∧ St w1 w' (some ⟨b, 0, none⟩) ⟨400, mails t p⟩, x.l, ⟨0, 0, 0, rfl, rfl, rfl, by omega, by omega, by omega, by omega, h2⟩, ?_⟩
  rintro n u x5 x6 x7 w3 ⟨i, p, t, rfl, rfl, rfl, htp, hpi, hi, rfl, h3⟩
  have hml := mails_len t p
  have h400 : p - t ≤ 400 := by have := st_small h3; simp only [hml] at this; omega
  refine IfB.intro (fun hc => ?_) (fun hc => ?_)
  rotate_left
  · exact ⟨rfl, trN f1 h3.f⟩
  have hlt := of_decide_eq_true hc
  refine ⟨fun a c w' => ∃ p t : Nat, a = (p : Int) ∧ c = (t : Int) ∧ t ≤ p ∧ p ≤ i + 1 ∧ St w1 w' (some ⟨b, 0, none⟩) ⟨400, mails t p⟩, ?_, ?_⟩
  · obtain ⟨pa, v, hpa, hv, hld⟩ := (hx.mod (trN f1 h3.f) (fun _ _ h => h)).at1 (i := (i : Int)) (by omega) (by omega)
    obtain ⟨c, hc, rfl⟩ := bv_get hv
    refine ⟨pa, hpa, by omega, by omega, _, hld, by decide, IfB.intro (fun _ => ?_) (fun _ => IfB.intro (fun _ => ?_) (fun _ => ?_))⟩
    · -- one is put
      refine (mail_has w3 (p : Int)).mono ?_
      rintro _ w4 ⟨s, rfl, hs, f4⟩
      refine ⟨_, rfl, (st_put (h3.fr f4) hs (mail_ok _)).mono ?_⟩
      rw [wi _ (by omega)]
      by_cases hroom : p - t < 400
      · rw [putN_ok (by simp only [hml]; omega), mails_push htp]
        rintro _ w5 ⟨rfl, h5⟩
        refine ⟨_, rfl, _, bool_neq _ _ _ _, ?_⟩
        rw [decide_eq_true (show ((p : Int) - (t : Int) < 400) by omega)]
        exact IfB.f rfl (IfB.t rfl ⟨p + 1, t, by rw [wi _ (by omega)]; omega, rfl, by omega, by omega, h5⟩)
      · rw [putN_no (by simp only [hml]; omega)]
        rintro _ w5 ⟨rfl, h5⟩
        refine ⟨_, rfl, _, bool_neq _ _ _ _, ?_⟩
        rw [decide_eq_false (show ¬ ((p : Int) - (t : Int) < 400) by omega)]
        exact IfB.f rfl (IfB.f rfl ⟨p, t, rfl, rfl, by omega, by omega, h5⟩)
    · -- the first one is taken
      by_cases hin : t < p
      · refine (st_take h3 (i := 0) ⟨by omega, by simp only [hml]; omega⟩).mono ?_
        rintro _ w4 ⟨m, s, hm, rfl, hs, hok, h4⟩
        have hm : m = mailM (t : Int) := by
          have e := mails_get (t := t) (p := p) (i := 0) (by omega)
          have hm' : (mails t p)[0]? = some m := hm
          rw [e] at hm'; simpa using hm'.symm
        subst hm
        have h4 : St w1 w4 (some ⟨b, 0, none⟩) ⟨400, mails (t + 1) p⟩ := by
          have := h4
          simp only [Int.toNat_zero] at this
          rwa [mails_tail hin] at this
        refine ⟨_, _, rfl, ?_⟩
        intro b9 w5 hn
        have e5 := hn.b
        refine Blk.setW hn.blk rfl rfl (mc_one _ _) ?_
        intro w6 B6 f6
        have f6' : Frm none_ w4 w6 := trB (hn.mod none_) f6 (by omega)
        have fd : Frm none_ w6 w6.drew := (Frm.refl _ _).drew
        refine ⟨_, bool_neq _ _ _ _, ?_⟩
        rw [decide_eq_true (show ((p : Int) > (t : Int)) by omega)]
        refine IfB.f rfl (IfB.t rfl ⟨fun w' => Frm none_ w6 w', fd, mc (mailM (t : Int)) s, fun w' f => (B6.mod f (fun h => h)).ldA rfl, (mail_has w6.drew (t : Int)).mono ?_⟩)
        rintro _ w7 ⟨s7, rfl, hs7, f7⟩
        refine ⟨_, rfl, trN fd f7, (same_calls w7 _ _ s s7 (hs.mod (trN f6' (trN fd f7)) (fun _ _ h => h)) hs7 (by rw [has_l hs]; show 1 ≤ 9223372036854775807; decide)).mono ?_⟩
        rintro _ w8 ⟨c8, rfl, hc8, f8⟩
        obtain rfl : c8 = true := hc8.2 rfl
        exact ⟨_, rfl, IfB.f rfl ⟨p, t + 1, rfl, by rw [wi _ (by omega)]; omega, by omega, by omega, h4.fr (trN f6' (trN (trN fd f7) f8))⟩⟩
      · refine (st_takeNo h3 (i := 0) (by simp only [hml]; omega)).mono ?_
        rintro _ w4 ⟨rfl, h4⟩
        refine ⟨_, _, rfl, ?_⟩
        intro b9 w5 hn
        have e5 := hn.b
        refine Blk.setW hn.blk rfl rfl (mc_one _ _) ?_
        intro w6 B6 f6
        have f6' : Frm none_ w4 w6 := trB (hn.mod none_) f6 (by omega)
        refine ⟨_, bool_neq _ _ _ _, ?_⟩
        rw [decide_eq_false (show ¬ ((p : Int) > (t : Int)) by omega)]
        exact IfB.f rfl (IfB.f rfl ⟨p, t, rfl, rfl, by omega, by omega, h4.fr f6'⟩)
    · -- the last one is doubled and dropped
      refine (st_len h3).mono ?_
      rintro _ _ ⟨rfl, rfl⟩
      refine ⟨_, rfl, ?_⟩
      simp only [hml]
      rw [wi _ (by omega)]
      refine (st_double h3).mono ?_
      by_cases hin : t < p
      · have hg := mails_get (t := t) (p := p) (i := p - t - 1) (by omega)
        rw [dblN_ok (m := mailM ((t + (p - t - 1) : Nat) : Int)) (by omega) (by show (mails t p)[_]? = _; rw [show (((p - t : Nat) : Int) - 1).toNat = p - t - 1 by omega]; exact hg)]
        by_cases hroom : p - t < 400
        · rw [putN_ok (by simp only [hml]; omega)]
          rintro _ w4 ⟨rfl, h4⟩
          refine ⟨_, rfl, IfB.t rfl ((st_drop h4 (i := ((p - t : Nat) : Int)) ⟨by omega, by simp only [List.length_append, hml]; simp; omega⟩).mono ?_)⟩
          rintro _ w5 ⟨rfl, h5⟩
          refine ⟨_, rfl, IfB.f rfl ⟨p, t, rfl, rfl, by omega, by omega, ?_⟩⟩
          simp only [Int.toNat_natCast] at h5
          rw [← hml, List.eraseIdx_append_of_length_le (Nat.le_refl _)] at h5
          simpa using h5
        · rw [putN_no (by simp only [hml]; omega)]
          rintro _ w4 ⟨rfl, h4⟩
          exact ⟨_, rfl, IfB.f rfl ⟨p, t, rfl, rfl, by omega, by omega, h4⟩⟩
      · rw [dblN_no (by simp only [hml]; omega)]
        rintro _ w4 ⟨rfl, h4⟩
        exact ⟨_, rfl, IfB.f rfl ⟨p, t, rfl, rfl, by omega, by omega, h4⟩⟩
  rintro u2 a c w4 ⟨p, t, rfl, rfl, htp, hpi, h4⟩
  have hml := mails_len t p
  refine (st_len h4).mono ?_
  rintro _ _ ⟨rfl, rfl⟩
  rw [wi _ (by omega)]
  refine ⟨_, rfl, IfB.f (by simp only [hml]; rw [bne_eq_false_iff_eq]; omega) ((st_all h4).mono ?_)⟩
  rintro _ w5 ⟨q, qs, rfl, hq, hqs, h5⟩
  have hql : q.l = p - t := by
    have := hq.len
    have h2 := congrArg List.length hqs
    simp only [List.length_map, hml] at h2
    omega
  exact ⟨_, rfl, IfB.f (by rw [bne_eq_false_iff_eq]; omega) ⟨x.l - (i + 1), by omega, i + 1, p, t, by rw [wi _ (by omega)]; omega, rfl, rfl, htp, hpi, by omega, rfl, h5⟩⟩
theorem order_law (W : World) (s : Sl) (l : List UInt8) (hl : HasL W s 1 (fun b : UInt8 => [Value.int .u8 (b.toNat : Int)]) l ∧ (∀ a ∈ l, True) ∧ s.l ≤ s.c ∧ s.c ≤ maxLen ∧ s.c * 1 ≤ 140737488351232) :
    Calls prog 3 #[.slice s.a s.l s.c] W fun e w' => e = .returned (.bool true) ∧ Frm none_ W w' := order_calls W s l hl.1.bytes (by omega)
end Go.Proofs.Ytffcojmpaccppaa
