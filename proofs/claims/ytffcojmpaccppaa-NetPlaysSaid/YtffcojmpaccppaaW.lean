/- The example that each statement asks first (works), and calls on a net of one's own. -/
import Derived.Test.YtffcojmpaccppaaN2
set_option linter.unusedVariables false
set_option linter.unusedSimpArgs false
namespace Go.Proofs.Ytffcojmpaccppaa
open Go Go.Proofs.YtffcojmpaccppaaV
/-- A net that was made since the world w0; nothing that was there then has turned. -/
def St (w0 w : World) (x : Option Addr) (N : Nt) : Prop := ∃ G, NetQ 55 G w x N ∧ (∀ k, G k → w0.heap.size ≤ k) ∧ Frm none_ w0 w
theorem St.f {w0 w : World} {x : Option Addr} {N : Nt} (h : St w0 w x N) : Frm none_ w0 w := by obtain ⟨_, _, _, f⟩ := h; exact f
theorem St.fr {w0 w w' : World} {x : Option Addr} {N : Nt} (h : St w0 w x N) (f : Frm none_ w w') : St w0 w' x N := by
  obtain ⟨G, hq, hg, f0⟩ := h
  exact ⟨G, hq.mod f (fun _ _ h => h), hg, trN f0 f⟩
theorem St.step {w0 w w' : World} {x : Option Addr} {N' : Nt} {G G' : Nat → Prop} (hg : ∀ k, G k → w0.heap.size ≤ k) (f0 : Frm none_ w0 w) (h : NetQ 55 G' w' x N') (hg' : ∀ k, G' k → G k ∨ w.heap.size ≤ k) (f : Frm G w w') : St w0 w' x N' :=
  ⟨G', h, fun k hk => (hg' k hk).elim (fun h => hg k h) (fun h => Nat.le_trans f0.size h), f0.trans f (fun _ _ h => h) (fun k hk h => by have := hg k h; omega)⟩
theorem st_new (w : World) (n : Int) (h0 : 0 ≤ n) (h1 : n ≤ 400) : Calls prog 7 #[.int .i64 n] w fun e w' => ∃ b, e = .returned (.tuple #[.pointer (some ⟨b, 0, none⟩), .int .i64 0]) ∧ St w w' (some ⟨b, 0, none⟩) ⟨n, []⟩ :=
  (new_calls w n h0 h1).mono fun _ _ ⟨b, G, e, h, hg, f⟩ => ⟨b, e, G, h, hg, f⟩
theorem st_put {w0 w : World} {x : Option Addr} {N : Nt} {m : Ml} {s : Sl} (h : St w0 w x N) (hm : Has w s 1 (sv m.tags)) (hok : OkM m) : Calls prog 8 #[.pointer x, .agg (mc m s)] w fun e w' => e = .returned (.int .i64 (putN m N).1) ∧ St w0 w' x (putN m N).2 := by
  obtain ⟨G, hq, hg, f0⟩ := h
  exact (put_calls G w x N m s hq hm hok).mono fun _ _ ⟨e, G', h', hg', f⟩ => ⟨e, St.step hg f0 h' hg' f⟩
theorem st_double {w0 w : World} {x : Option Addr} {N : Nt} {i : Int} (h : St w0 w x N) : Calls prog 13 #[.pointer x, .int .i64 i] w fun e w' => e = .returned (.int .i64 (dblN i N).1) ∧ St w0 w' x (dblN i N).2 := by
  obtain ⟨G, hq, hg, f0⟩ := h
  exact (double_calls G w x N i hq).mono fun _ _ ⟨e, G', h', hg', f⟩ => ⟨e, St.step hg f0 h' hg' f⟩
theorem st_take {w0 w : World} {x : Option Addr} {N : Nt} {i : Int} (h : St w0 w x N) (hi : 0 ≤ i ∧ i < N.l.length) : Calls prog 10 #[.pointer x, .int .i64 i] w fun e w' => ∃ m t, N.l[i.toNat]? = some m ∧ e = .returned (.tuple #[.agg (mc m t), .int .i64 0]) ∧ Has w' t 1 (sv m.tags) ∧ OkM m ∧ St w0 w' x ⟨N.most, N.l.eraseIdx i.toNat⟩ := by
  obtain ⟨G, hq, hg, f0⟩ := h
  exact (take_ok G w x N i hq hi).mono fun _ _ ⟨m, t, hm, e, hr, hok, _, ⟨G', h', hg'⟩, f⟩ => ⟨m, t, hm, e, hr.has, hok, St.step hg f0 h' (fun k hk => .inl (hg' k hk).1) f⟩
theorem st_takeNo {w0 w : World} {x : Option Addr} {N : Nt} {i : Int} (h : St w0 w x N) (hi : ¬ (0 ≤ i ∧ i < N.l.length)) : Calls prog 10 #[.pointer x, .int .i64 i] w fun e w' => e = .returned (.tuple #[.agg (mc zeroM ⟨none, 0, 0⟩), .int .i64 5]) ∧ St w0 w' x N := by
  have h' := h
  obtain ⟨G, hq, hg, f0⟩ := h
  exact (take_no G w x N i hq hi).mono fun _ _ ⟨e, f⟩ => ⟨e, h'.fr f⟩
theorem st_drop {w0 w : World} {x : Option Addr} {N : Nt} {i : Int} (h : St w0 w x N) (hi : 0 ≤ i ∧ i < N.l.length) : Calls prog 14 #[.pointer x, .int .i64 i] w fun e w' => e = .returned (.int .i64 0) ∧ St w0 w' x ⟨N.most, N.l.eraseIdx i.toNat⟩ := by
  obtain ⟨G, hq, hg, f0⟩ := h
  exact (drop_ok G w x N i hq hi).mono fun _ _ ⟨e, ⟨G', h', hg'⟩, f⟩ => ⟨e, St.step hg f0 h' (fun k hk => .inl (hg' k hk)) f⟩
theorem st_dropNo {w0 w : World} {x : Option Addr} {N : Nt} {i : Int} (h : St w0 w x N) (hi : ¬ (0 ≤ i ∧ i < N.l.length)) : Calls prog 14 #[.pointer x, .int .i64 i] w fun e w' => e = .returned (.int .i64 5) ∧ St w0 w' x N := by
  have h' := h
  obtain ⟨G, hq, hg, f0⟩ := h
  exact (drop_no G w x N i hq hi).mono fun _ _ ⟨e, f⟩ => ⟨e, h'.fr f⟩
theorem st_len {w0 w : World} {x : Option Addr} {N : Nt} (h : St w0 w x N) : Calls prog 12 #[.pointer x] w fun e w' => e = .returned (.int .i64 (N.l.length : Int)) ∧ w = w' := by
  obtain ⟨G, hq, hg, f0⟩ := h
  exact len_calls G w x N hq
theorem st_all {w0 w : World} {x : Option Addr} {N : Nt} (h : St w0 w x N) : Calls prog 15 #[.pointer x] w fun e w' => ∃ t qs, e = .returned (.slice t.a t.l t.c) ∧ Rds w' t qs ∧ qs.map (·.1) = N.l ∧ St w0 w' x N := by
  have h' := h
  obtain ⟨G, hq, hg, f0⟩ := h
  exact (all_calls G w x N hq).mono fun _ _ ⟨t, qs, G', e, hM, hqs, _, f⟩ => ⟨t, qs, e, hM.rds, hqs, h'.fr f⟩
theorem st_small {w0 w : World} {x : Option Addr} {N : Nt} (h : St w0 w x N) : N.l.length ≤ 400 := by
  obtain ⟨G, ⟨b, s, ps, _, h, hpl⟩, hg, f0⟩ := h
  have := h.lm; have := h.m
  rw [← hpl, List.length_map]; omega
theorem mail_has (w : World) (n : Int) : Calls prog 9 #[.int .i64 n] w fun e w' => ∃ t : Sl, e = .returned (.agg (mc (mailM n) t)) ∧ Has w' t 1 (sv (mailM n).tags) ∧ Frm none_ w w' :=
  (mail_calls w n).mono fun _ _ ⟨t, e, hr, _, f⟩ => ⟨t, e, hr.has, f⟩
theorem fill2 (t t' : Sl) : Instr.fill (fun i => some (i * 12, 12)) ((Array.range (2 * 12)).map fun j => (Value.agg zm).cells[j % (Value.agg zm).cells.size]!) (#[(0, .agg (mc (mailM 1) t)), (1, .agg (mc (mailM 1) t'))] : Array (Nat × Value)).toList = some (mc (mailM 1) t ++ mc (mailM 1) t') := by kernel_rfl
theorem putN_ok {m : Ml} {N : Nt} (h : (N.l.length : Int) < N.most) : putN m N = (0, ⟨N.most, N.l ++ [m]⟩) := by unfold putN; rw [if_neg (by omega)]
theorem putN_no {m : Ml} {N : Nt} (h : N.most ≤ (N.l.length : Int)) : putN m N = (3, N) := by unfold putN; rw [if_pos h]
theorem dblN_ok {i : Int} {N : Nt} {m : Ml} (h0 : 0 ≤ i) (h : N.l[i.toNat]? = some m) : dblN i N = putN m N := by
  have hl := (List.getElem?_eq_some_iff.1 h)
  obtain ⟨h1, h2⟩ := hl
  unfold dblN
  rw [dif_pos ⟨h0, h1⟩, h2]
theorem dblN_no {i : Int} {N : Nt} (h : ¬ (0 ≤ i ∧ i.toNat < N.l.length)) : dblN i N = (5, N) := by unfold dblN; rw [dif_neg h]
set_option maxRecDepth 20000 in
theorem works_calls (w : World) : Calls prog 6 #[] w fun e w' => e = .returned (.bool true) ∧ Frm none_ w w' := by
  refine calls_ret (W6 (Q := fun v w' => v = .bool true ∧ Frm none_ w w') ?_) (fun v w' ⟨h, h'⟩ => ⟨by rw [h], h'⟩)
  unfold F6
  refine (st_new w 2 (by decide) (by decide)).mono ?_
  rintro _ w1 ⟨b, rfl, h1⟩
  refine ⟨_, _, rfl, fun x w' => x = false ∧ St w w' (some ⟨b, 0, none⟩) ⟨2, [mailM 1, mailM 2]⟩, ?_, ?_⟩
  · refine IfB.f rfl ((mail_has w1 1).mono ?_)
    rintro _ w2 ⟨t, rfl, ht, f2⟩
    refine ⟨_, rfl, (st_put (h1.fr f2) ht (mail_ok 1)).mono ?_⟩
    rw [putN_ok (by decide)]
    rintro _ w3 ⟨rfl, h3⟩
    refine ⟨_, rfl, IfB.f rfl ((mail_has w3 2).mono ?_)⟩
    rintro _ w4 ⟨t, rfl, ht, f4⟩
    refine ⟨_, rfl, (st_put (h3.fr f4) ht (mail_ok 2)).mono ?_⟩
    rw [putN_ok (by decide)]
    rintro _ w5 ⟨rfl, h5⟩
    refine ⟨_, rfl, IfB.f rfl ((mail_has w5 3).mono ?_)⟩
    rintro _ w6 ⟨t, rfl, ht, f6⟩
    refine ⟨_, rfl, (st_put (h5.fr f6) ht (mail_ok 3)).mono ?_⟩
    rw [putN_no (by decide)]
    rintro _ w7 ⟨rfl, h7⟩
    refine ⟨_, rfl, IfB.f rfl ((st_double h7).mono ?_)⟩
    rw [dblN_ok (i := 0) (m := mailM 1) (by decide) rfl, putN_no (by decide)]
    rintro _ w8 ⟨rfl, h8⟩
    exact ⟨_, rfl, rfl, h8⟩
  rintro u x w2 ⟨rfl, h2⟩
  refine IfB.f rfl ((st_take h2 (i := 1) (by decide)).mono ?_)
  rintro _ w3 ⟨m, t, hm, rfl, ht, hok, h3⟩
  have hm : m = mailM 2 := by simpa using hm.symm
  subst hm
  refine ⟨_, _, rfl, ?_⟩
  intro b3 w4 hn
  have e4 := hn.b
  refine Blk.setW hn.blk rfl rfl (mc_one _ _) ?_
  intro w5 B5 f5
  have f5' : Frm none_ w3 w5 := trB (hn.mod none_) f5 (by omega)
  have h5 := h3.fr f5'
  have fd : Frm none_ w5 w5.drew := (Frm.refl _ _).drew
  refine ⟨fun w' => Frm none_ w5 w', fd, IfB.t rfl ⟨mc (mailM 2) t, fun w' f => (B5.mod f (fun h => h)).ldA rfl, (mail_has w5.drew 2).mono ?_⟩⟩
  rintro _ w6 ⟨t6, rfl, ht6, f6⟩
  have hl : t.l ≤ 9223372036854775807 := by rw [has_l ht]; decide
  refine ⟨_, rfl, trN fd f6, (same_calls w6 _ _ t t6 (ht.mod (trN f5' (trN fd f6)) (fun _ _ h => h)) ht6 hl).mono ?_⟩
  rintro _ w7 ⟨c, rfl, hc, f7⟩
  obtain rfl : c = true := hc.2 rfl
  refine ⟨_, rfl, IfB.t rfl ((st_double (h5.fr (trN (trN fd f6) f7))).mono ?_)⟩
  rw [dblN_ok (i := 0) (m := mailM 1) (by decide) rfl, putN_ok (by decide)]
  rintro _ w8 ⟨rfl, h8⟩
  refine ⟨_, rfl, IfB.t rfl ((st_all h8).mono ?_)⟩
  rintro _ w9 ⟨q, qs, rfl, hq, hqs, h9⟩
  refine ⟨_, rfl, (mail_has w9 1).mono ?_⟩
  rintro _ w10 ⟨ta, rfl, hta, f10⟩
  refine ⟨_, rfl, (mail_has w10 1).mono ?_⟩
  rintro _ w11 ⟨tb, rfl, htb, f11⟩
  refine ⟨_, rfl, runT_lit st40 (by decide) (by decide) (fill2 ta tb) rfl ?_⟩
  intro w12 hr12 f12 z12
  have hR : Rds w12 ⟨some ⟨w11.heap.size, 0, none⟩, 2, 2⟩ [(mailM 1, ta), (mailM 1, tb)] := by
    refine ⟨?_, rfl, ?_⟩
    · have := hr12.has
      have e : (mc (mailM 1) ta ++ mc (mailM 1) tb).toList = flat [(mailM 1, ta), (mailM 1, tb)] := by simp [flat]
      rw [e] at this; exact this
    · intro p hp
      simp only [List.mem_cons, List.not_mem_nil, or_false] at hp
      rcases hp with rfl | rfl
      · exact ⟨hta.mod (trN f11 f12) (fun _ _ h => h), mail_ok 1⟩
      · exact ⟨htb.mod f12 (fun _ _ h => h), mail_ok 1⟩
  have hql : q.l = 2 := by
    have := hq.len
    have h2 := congrArg List.length hqs
    simp at h2; omega
  refine (sames_calls w12 q _ qs _ (hq.mod (trN (trN f10 f11) f12)) hR (by omega)).mono ?_
  rintro _ w13 ⟨c, rfl, hc, f13⟩
  obtain rfl : c = true := hc.2 (by rw [hqs]; rfl)
  refine ⟨_, rfl, IfB.t rfl ((st_drop (h9.fr (trN (trN (trN f10 f11) f12) f13)) (i := 0) (by decide)).mono ?_)⟩
  rintro _ w14 ⟨rfl, h14⟩
  refine ⟨_, rfl, IfB.t rfl ((st_dropNo h14 (i := 1) (by decide)).mono ?_)⟩
  rintro _ w15 ⟨rfl, h15⟩
  refine ⟨_, rfl, IfB.t rfl ((st_len h15).mono ?_)⟩
  rintro _ _ ⟨rfl, rfl⟩
  exact ⟨_, rfl, rfl, h15.f⟩
end Go.Proofs.Ytffcojmpaccppaa
