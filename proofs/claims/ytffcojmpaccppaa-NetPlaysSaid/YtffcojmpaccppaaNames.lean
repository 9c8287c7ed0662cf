/- The law NetNames walked: it returns true, and turns nothing that was there. -/
import Derived.Test.YtffcojmpaccppaaOrder
set_option linter.unusedVariables false
set_option linter.unusedSimpArgs false
namespace Go.Proofs.Ytffcojmpaccppaa
open Go Go.Proofs.YtffcojmpaccppaaV
theorem put_nil (w : World) (m : Ml) (s : Sl) : Calls prog 8 #[.pointer none, .agg (mc m s)] w fun e w' => e = .returned (.int .i64 2) ∧ Frm none_ w w' := by
  refine calls_ret (W8 (Q := fun v w' => v = .int .i64 2 ∧ Frm none_ w w') ?_) (fun v w' ⟨h, h'⟩ => ⟨by rw [h], h'⟩)
  unfold F8
  intro b3 w1 hn
  exact ⟨_, nil_eql _, IfB.t rfl ⟨rfl, hn.mod _⟩⟩
theorem double_nil (w : World) (i : Int) : Calls prog 13 #[.pointer none, .int .i64 i] w fun e w' => e = .returned (.int .i64 2) ∧ w = w' := by
  refine calls_ret (W13 (Q := fun v w' => v = .int .i64 2 ∧ w = w') ?_) (fun v w' ⟨h, h'⟩ => ⟨by rw [h], h'⟩)
  unfold F13
  have hth : Calls prog 24 #[.pointer none, .int .i64 i] w fun e w' => e = .returned (.int .i64 2) ∧ w = w' := by
    refine calls_ret (W24 (Q := fun v w' => v = .int .i64 2 ∧ w = w') ?_) (fun v w' ⟨h, h'⟩ => ⟨by rw [h], h'⟩)
    unfold F24
    exact ⟨_, nil_eql _, IfB.t rfl ⟨rfl, rfl⟩⟩
  refine hth.mono ?_
  rintro _ _ ⟨rfl, rfl⟩
  exact ⟨_, rfl, IfB.t rfl ⟨rfl, rfl⟩⟩
theorem len_nil (w : World) : Calls prog 12 #[.pointer none] w fun e w' => e = .returned (.int .i64 0) ∧ w = w' := by
  refine calls_ret (W12 (Q := fun v w' => v = .int .i64 0 ∧ w = w') ?_) (fun v w' ⟨h, h'⟩ => ⟨by rw [h], h'⟩)
  unfold F12
  exact ⟨_, nil_eql _, IfB.t rfl ⟨rfl, rfl⟩⟩
theorem copy_nil (w : World) : Calls prog 16 #[.pointer none] w fun e w' => e = .returned (.pointer none) ∧ w = w' := by
  refine calls_ret (W16 (Q := fun v w' => v = .pointer none ∧ w = w') ?_) (fun v w' ⟨h, h'⟩ => ⟨by rw [h], h'⟩)
  unfold F16
  exact ⟨_, nil_eql _, IfB.t rfl ⟨rfl, rfl⟩⟩
set_option maxRecDepth 20000 in
theorem names_law (w : World) : Calls prog 4 #[] w fun e w' => e = .returned (.bool true) ∧ Frm none_ w w' := by
  refine calls_ret (W4 (Q := fun v w' => v = .bool true ∧ Frm none_ w w') ?_) (fun v w' ⟨h, h'⟩ => ⟨by rw [h], h'⟩)
  unfold F4
  refine (works_calls w).mono ?_
  rintro _ w1 ⟨rfl, f1⟩
  refine ⟨_, rfl, IfB.f rfl ((new_no w1 (-1) (by decide)).mono ?_)⟩
  rintro _ _ ⟨rfl, rfl⟩
  refine ⟨_, _, rfl, (new_no w1 401 (by decide)).mono ?_⟩
  rintro _ _ ⟨rfl, rfl⟩
  refine ⟨_, _, rfl, (st_new w1 400 (by decide) (by decide)).mono ?_⟩
  rintro _ w2 ⟨c, rfl, h2⟩
  refine ⟨_, _, rfl, (st_new w2 0 (by decide) (by decide)).mono ?_⟩
  rintro _ w3 ⟨z, rfl, h3⟩
  refine ⟨_, _, rfl, fun x w' => x = false ∧ St w1 w' (some ⟨c, 0, none⟩) ⟨400, []⟩, ?_, ?_⟩
  · refine IfB.f rfl (IfB.f rfl (IfB.f rfl (IfB.f rfl ((mail_has w3 1).mono ?_))))
    rintro _ w4 ⟨t, rfl, ht, f4⟩
    refine ⟨_, rfl, (st_put (h3.fr f4) ht (mail_ok 1)).mono ?_⟩
    rw [putN_no (by decide)]
    rintro _ w5 ⟨rfl, h5⟩
    have hc5 := h2.fr h5.f
    refine ⟨_, rfl, IfB.f rfl ((st_double hc5 (i := 0)).mono ?_)⟩
    rw [dblN_no (by decide)]
    rintro _ w6 ⟨rfl, h6⟩
    refine ⟨_, rfl, IfB.f rfl ((st_dropNo h6 (i := -1) (by decide)).mono ?_)⟩
    rintro _ w7 ⟨rfl, h7⟩
    exact ⟨_, rfl, rfl, h7⟩
  rintro u x w4 ⟨rfl, h4⟩
  refine IfB.f rfl ⟨fun n x w' => ∃ i : Nat, x = (i : Int) ∧ i ≤ 400 ∧ n = 400 - i ∧ St w1 w' (some ⟨c, 0, none⟩) ⟨400, mails 0 i⟩, 400, ⟨0, rfl, by omega, by omega, h4⟩, ?_⟩
  rintro n u x w5 ⟨i, rfl, hi, rfl, h5⟩
  have hml := mails_len 0 i
  refine IfB.intro (fun hc => ?_) (fun hc => ?_)
  · have hlt := of_decide_eq_true hc
    refine (mail_has w5 (i : Int)).mono ?_
    rintro _ w6 ⟨t, rfl, ht, f6⟩
    refine ⟨_, rfl, (st_put (h5.fr f6) ht (mail_ok _)).mono ?_⟩
    rw [putN_ok (by simp only [hml]; omega), mails_push (by omega)]
    rintro _ w7 ⟨rfl, h7⟩
    exact ⟨_, rfl, IfB.f rfl ⟨400 - (i + 1), by omega, i + 1, by rw [wi _ (by omega)]; omega, by omega, rfl, h7⟩⟩
  have hge := of_decide_eq_false hc
  have hi4 : i = 400 := by omega
  subst hi4
  refine (take_nil w5 0).mono ?_
  rintro _ w6 ⟨rfl, f6⟩
  refine ⟨_, _, rfl, ?_⟩
  intro b11 w7 hn
  have e7 := hn.b
  refine Blk.setW hn.blk rfl rfl (mc_one _ _) ?_
  intro w8 B8 f8
  have f8' : Frm none_ w6 w8 := trB (hn.mod none_) f8 (by omega)
  refine (mail_has w8 0).mono ?_
  rintro _ w9 ⟨t, rfl, ht, f9⟩
  refine ⟨_, rfl, (st_put (h5.fr (trN f6 (trN f8' f9))) ht (mail_ok 0)).mono ?_⟩
  rw [putN_no (by simp only [hml]; decide)]
  rintro _ w10 ⟨rfl, h10⟩
  refine ⟨_, rfl, IfB.t rfl ((st_len h10).mono ?_)⟩
  rintro _ _ ⟨rfl, rfl⟩
  refine ⟨_, rfl, IfB.t (by simp only [hml]; decide) (IfB.t rfl ((mail_has w10 1).mono ?_))⟩
  rintro _ w11 ⟨t1, rfl, ht1, f11⟩
  refine ⟨_, rfl, (put_nil w11 _ t1).mono ?_⟩
  rintro _ w12 ⟨rfl, f12⟩
  refine ⟨_, rfl, IfB.t rfl ((drop_nil w12 0).mono ?_)⟩
  rintro _ w13 ⟨rfl, f13⟩
  refine ⟨_, rfl, IfB.t rfl ((double_nil w13 0).mono ?_)⟩
  rintro _ _ ⟨rfl, rfl⟩
  refine ⟨_, rfl, IfB.t rfl ((len_nil w13).mono ?_)⟩
  rintro _ _ ⟨rfl, rfl⟩
  refine ⟨_, rfl, (all_nil w13).mono ?_⟩
  rintro _ _ ⟨rfl, rfl⟩
  refine ⟨⟨none, 0, 0⟩, rfl, IfB.t (by decide) ((copy_nil w13).mono ?_)⟩
  rintro _ _ ⟨rfl, rfl⟩
  exact ⟨_, rfl, _, nil_eql _, rfl, trN f1 (trN h10.f (trN f11 (trN f12 f13)))⟩
end Go.Proofs.Ytffcojmpaccppaa
