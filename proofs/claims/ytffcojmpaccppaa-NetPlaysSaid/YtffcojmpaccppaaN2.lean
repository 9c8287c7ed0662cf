/- A net in memory: Take, Drop, All, Copy. -/
import Derived.Test.YtffcojmpaccppaaN
set_option linter.unusedVariables false
set_option linter.unusedSimpArgs false
namespace Go.Proofs.Ytffcojmpaccppaa
open Go Go.Proofs.YtffcojmpaccppaaV
def zeroM : Ml := ⟨0, 0, 0, 0, 0, 0, 0, 0, 0, 0, [], ⟨#[]⟩⟩
theorem b33z : BuildIs prog 33 #[] (mc zeroM ⟨none, 0, 0⟩) := fun w => by kernel_rfl
theorem flat_erase (ps : List (Ml × Sl)) (j : Nat) : flat (ps.eraseIdx j) = (flat ps).take (j * 12) ++ (flat ps).drop ((j + 1) * 12) := by
  rw [List.eraseIdx_eq_take_drop_succ]
  unfold flat
  rw [List.flatMap_append, fmTake (flat_each ps), fmDrop (flat_each ps)]
theorem erase_apart {ps : List (Ml × Sl)} {j : Nat} {a : Ml × Sl} (h : ps.Pairwise fun p q => ∀ k, p.2.blk = some k → q.2.blk ≠ some k) (ha : ps[j]? = some a) : ∀ p ∈ ps.eraseIdx j, ∀ k, p.2.blk = some k → a.2.blk ≠ some k := by
  have hj := (List.getElem?_eq_some_iff.1 ha).1
  have e : ps = ps.take j ++ a :: ps.drop (j + 1) := by
    have := (List.getElem?_eq_some_iff.1 ha).2
    rw [← this, List.getElem_cons_drop, List.take_append_drop]
  rw [e, List.pairwise_append, List.pairwise_cons] at h
  intro p hp k hk
  rw [List.eraseIdx_eq_take_drop_succ] at hp
  rcases List.mem_append.1 hp with hp | hp
  · exact h.2.2 p hp a (by simp) k hk
  · exact fun hk' => h.2.1.1 p hp k hk' hk
set_option maxRecDepth 20000 in
theorem take_ok (G : Nat → Prop) (w : World) (x : Option Addr) (N : Nt) (i : Int) (h : NetQ 55 G w x N) (hi : 0 ≤ i ∧ i < N.l.length) : Calls prog 10 #[.pointer x, .int .i64 i] w fun e w' =>
    ∃ m t, N.l[i.toNat]? = some m ∧ e = .returned (.tuple #[.agg (mc m t), .int .i64 0]) ∧ RowG w' t 9 1 (sv m.tags) ∧ OkM m ∧ (∀ k, t.blk = some k → G k) ∧ (∃ G', NetQ 55 G' w' x ⟨N.most, N.l.eraseIdx i.toNat⟩ ∧ (∀ k, G' k → G k ∧ t.blk ≠ some k)) ∧ Frm G w w' := by
  refine calls_ret (W10 (Q := fun v w' => ∃ m t, N.l[i.toNat]? = some m ∧ v = .tuple #[.agg (mc m t), .int .i64 0] ∧ RowG w' t 9 1 (sv m.tags) ∧ OkM m ∧ (∀ k, t.blk = some k → G k) ∧ (∃ G', NetQ 55 G' w' x ⟨N.most, N.l.eraseIdx i.toNat⟩ ∧ (∀ k, G' k → G k ∧ t.blk ≠ some k)) ∧ Frm G w w') ?_) (fun v w' ⟨m, t, h0, h, h'⟩ => ⟨m, t, h0, by rw [h], h'⟩)
  unfold F10
  obtain ⟨b, s, ps, rfl, h, hpl⟩ := h
  intro b4 w1 hn1
  have f1 := hn1.mod none_
  have e1 := hn1.b; have z1 := hn1.size
  have h1 := h.mod f1 (fun _ _ h => h)
  have hlen : s.l = N.l.length := by rw [← hpl, List.length_map, h.ls.len]
  have hN : N.l.length ≤ 400 := by have := h.lm; have := h.m; have := h.ls.len; omega
  refine (there_calls G w1 _ N i ⟨b, s, ps, rfl, h1, hpl⟩).mono ?_
  rintro _ _ ⟨rfl, rfl⟩
  refine ⟨_, rfl, ?_⟩
  rw [if_pos hi]
  obtain ⟨p, a, hp, ha, ham, _, hla⟩ := h1.ls.rds.hasL.at (by omega) hi.1 (i := i) (by omega)
  refine IfB.f rfl ⟨_, rfl, s, by rw [addr_add]; exact h1.blk.ld rfl, p, hp, hi.1, by omega, mc a.1 a.2, hla, ?_⟩
  intro b7 w2 hn2
  have e2 := hn2.b; have z2 := hn2.size
  refine Blk.setW hn2.blk rfl rfl (mc_one _ _) ?_
  intro w3 B7 f3
  have f3' : Frm none_ w1 w3 := trB (hn2.mod none_) f3 (by omega)
  have h3 := h1.mod f3' (fun _ _ h => h)
  have B4 := hn1.blk.mod f3' (fun h => h)
  have fd : Frm none_ w3 w3.drew := (Frm.refl _ _).drew
  refine ⟨fun w' => Frm none_ w3 w', fd, _, rfl, s, fun w' f => by rw [addr_add]; exact (h3.blk.mod f (fun h => h)).ld rfl, ⟨hi.1, by omega⟩, _, rfl, s, fun w' f => by rw [addr_add]; exact (h3.blk.mod f (fun h => h)).ld rfl, ?_⟩
  rw [wi (i + 1) (by omega)]
  refine ⟨by omega, ?_⟩
  obtain ⟨j, rfl⟩ := Int.eq_ofNat_of_zero_le hi.1
  have ha : ps[j]? = some a := by simpa using ha
  rcases h3.ls.row.2 with hnil | ⟨g, cur, hg, hBg, hlc, hcm, hcs, htake⟩
  · rw [hnil] at hlen; simp at hlen; omega
  have hsg : s.blk = some g := by simp [Sl.blk, hg]
  have hGg := h.ls.gs g hsg
  have hgl := h.lt g hGg
  have hbl := h.lt b h.gb
  have hgb : g ≠ b := fun e => h.neS (by rw [hsg, e])
  have hd : slA s.a j s.c 12 = some ⟨g, j * 12, none⟩ := by unfold slA; rw [if_neg (by omega), hg, Option.map_some, addr_add, Nat.zero_add]
  obtain ⟨a2, ha2⟩ : ∃ a2, slA s.a (j + 1) s.c 12 = some a2 := by
    unfold slA; split
    · exact ⟨_, hg⟩
    · rw [hg]; exact ⟨_, rfl⟩
  have hcut := (h3.ls.row.has).cut (j + 1) (by omega) hlc
  rw [ha2] at hcut
  rw [Int.toNat_natCast, show ((j : Int) + 1).toNat = j + 1 by omega, hd, ha2]
  have hmin : Nat.min (s.l - (j + 1)) (s.l - j) = s.l - (j + 1) := Nat.min_eq_left (by omega)
  have hfl := h3.ls.row.len
  refine runT_copyG st40 (show BlkG w3.drew g cur 33 from hBg) hcut.drew (by rw [hmin]; omega) (fun v hv => flat_one ps v (List.mem_of_mem_drop hv)) ?_
  rw [hmin]
  intro w4 hB4 f4
  have htk : ((flat ps).drop ((j + 1) * 12)).take ((s.l - (j + 1)) * 12) = (flat ps).drop ((j + 1) * 12) := List.take_of_length_le (by rw [List.length_drop]; omega)
  rw [htk] at hB4
  have hbB := (h3.blk.mod fd (fun h => h)).mod f4 (fun e => hgb e.symm)
  refine ⟨_, rfl, s, by rw [addr_add]; exact hbB.ld rfl, _, rfl, s, by rw [addr_add]; exact hbB.ld rfl, ?_⟩
  rw [wi ((s.l : Int) - 1) (by omega), show (((s.l : Int) - 1).toNat) = s.l - 1 by omega]
  refine ⟨by omega, by omega, _, rfl, by rw [addr_add]; exact hbB.wr (show 1 < 2 by decide), ?_⟩
  rintro w5 rfl
  rw [addr_add, slA_zero, Nat.sub_zero]
  have f5 : Frm (fun k => k = b) w4 (w4.setCell ⟨b, 0 + 1, none⟩ (.slice s.a (s.l - 1) (s.l - 1))) := mod_setCell (a := ⟨b, 0 + 1, none⟩)
  have B7' := ((B7.mod fd (fun h => h)).mod f4 (fun e => by omega)).mod f5 (fun e => by omega)
  have B4' := ((B4.mod fd (fun h => h)).mod f4 (fun e => by omega)).mod f5 (fun e => by omega)
  refine ⟨mc a.1 a.2, B7'.ldA rfl, Blk.setW B4' rfl rfl (mc_one _ _) ?_⟩
  intro w6 B46 f6
  refine ⟨mc a.1 a.2, B46.ldA rfl, a.1, a.2, ?_⟩
  have hrow4 : RowG w4 ⟨some ⟨g, 0, none⟩, s.l - 1, s.l - 1⟩ 33 12 (flat (ps.eraseIdx j)) := by
    have := RowG.mk (n := s.l - 1) (c := s.l - 1) (sz := 12) hB4 (Nat.le_refl _) (by omega) (by rw [setList_size]; omega)
    have e : (setList cur (j * 12) ((flat ps).drop ((j + 1) * 12))).toList.take ((s.l - 1) * 12) = flat (ps.eraseIdx j) := by
      rw [setList_toList _ _ _ (by rw [List.length_drop]; omega), flat_erase]
      have ec : cur.toList.take (j * 12) = (flat ps).take (j * 12) := by rw [← htake, List.take_take, Nat.min_eq_left (by omega)]
      rw [ec]
      have el : ((flat ps).take (j * 12) ++ (flat ps).drop ((j + 1) * 12)).length = (s.l - 1) * 12 := by rw [List.length_append, List.length_take, List.length_drop]; omega
      rw [← el]; exact List.take_left
    rw [e] at this
    exact this
  have hrow6 := (hrow4.mod f5 (fun k hk e => by simp [Sl.blk] at hk; omega)).mod f6 (fun k hk e => by simp [Sl.blk] at hk; omega)
  have hmem : ∀ p, p ∈ ps.eraseIdx j → p ∈ ps := fun p hp => (List.eraseIdx_sublist ps j).subset hp
  have hown : ∀ q ∈ ps, RowG w6 q.2 9 1 (sv q.1.tags) := by
    intro q hq
    refine (((( h3.ls.own q hq).mod fd (fun _ _ h => h)).mod f4 (fun k hk e => ?_)).mod f5 (fun k hk e => ?_)).mod f6 (fun k hk e => ?_)
    · exact (h3.ls.own q hq).blkNe h3.ls.row (by decide) k hk (by rw [hsg, e])
    · exact h.neP q hq (by rw [hk, e])
    · have := h.lt k (h.ls.gp q hq k hk); omega
  have hb6 := (hbB.set 1 (.slice s.a (s.l - 1) (s.l - 1))).mod f6 (fun e => by omega)
  have hap := erase_apart h.ls.ap ha
  have htm : ∀ k, a.2.blk = some k → G k := fun k hk => h.ls.gp a ham k hk
  have hsz := ((trN f1 f3').size)
  have z4 := f4.size; have z5 := f5.size; have z6 := f6.size
  have z3d : w3.drew.heap.size = w3.heap.size := rfl
  refine ⟨by rw [← hpl, List.getElem?_map, ha]; rfl, rfl, hown a ham, h.ls.ok a ham, htm, ⟨fun k => G k ∧ a.2.blk ≠ some k, ⟨b, ⟨some ⟨g, 0, none⟩, s.l - 1, s.l - 1⟩, ps.eraseIdx j, rfl, ?_, ?_⟩, fun k hk => hk⟩, ?_⟩
  · refine ⟨.inl rfl, by rw [hg] at hb6; exact hb6, ⟨hrow6, fun q hq => hown q (hmem q hq), h.ls.ap.sublist (List.eraseIdx_sublist ps j), ?_, ?_, fun q hq => h.ls.ok q (hmem q hq)⟩, ⟨h.gb, h.neP a ham⟩, ?_, h.m, ?_⟩
    · intro k hk
      simp [Sl.blk] at hk; subst hk
      exact ⟨hGg, fun e => (h3.ls.own a ham).blkNe h3.ls.row (by decide) g e hsg⟩
    · exact fun q hq k hk => ⟨h.ls.gp q (hmem q hq) k hk, hap q hq k hk⟩
    · intro k hk; have := h.lt k hk.1; omega
    · have hlm := h.lm; show ((ps.eraseIdx j).length : Int) ≤ N.most; rw [List.length_eraseIdx]; split <;> omega
  · show _ = N.l.eraseIdx j
    rw [← hpl, List.eraseIdx_eq_take_drop_succ, List.eraseIdx_eq_take_drop_succ, List.map_append, List.map_take, List.map_drop]
  · have fA : Frm G w w4 := ((trN (trN f1 f3') fd)).trans f4 (fun _ _ h => h.elim) (fun k _ hk => hk ▸ hGg)
    exact (fA.trans f5 (fun _ _ h => h) (fun k _ hk => hk ▸ h.gb) (H := G)).trans f6 (fun _ _ h => h) (fun k hk e => by omega)
theorem take_no (G : Nat → Prop) (w : World) (x : Option Addr) (N : Nt) (i : Int) (h : NetQ 55 G w x N) (hi : ¬ (0 ≤ i ∧ i < N.l.length)) : Calls prog 10 #[.pointer x, .int .i64 i] w fun e w' =>
    e = .returned (.tuple #[.agg (mc zeroM ⟨none, 0, 0⟩), .int .i64 5]) ∧ Frm none_ w w' := by
  refine calls_ret (W10 (Q := fun v w' => v = .tuple #[.agg (mc zeroM ⟨none, 0, 0⟩), .int .i64 5] ∧ Frm none_ w w') ?_) (fun v w' ⟨h, h'⟩ => ⟨by rw [h], h'⟩)
  unfold F10
  intro b4 w1 hn1
  have f1 := hn1.mod none_
  have e1 := hn1.b
  refine (there_calls G w1 _ N i (h.mod f1 (fun _ _ h => h))).mono ?_
  rintro _ _ ⟨rfl, rfl⟩
  refine ⟨_, rfl, ?_⟩
  rw [if_neg hi]
  refine IfB.t rfl ⟨_, b33z, Blk.setW hn1.blk rfl rfl (mc_one _ _) ?_⟩
  intro w2 B4 f2
  exact ⟨_, B4.ldA rfl, rfl, trB f1 f2 (by omega)⟩
theorem take_nil (w : World) (i : Int) : Calls prog 10 #[.pointer none, .int .i64 i] w fun e w' =>
    e = .returned (.tuple #[.agg (mc zeroM ⟨none, 0, 0⟩), .int .i64 2]) ∧ Frm none_ w w' := by
  refine calls_ret (W10 (Q := fun v w' => v = .tuple #[.agg (mc zeroM ⟨none, 0, 0⟩), .int .i64 2] ∧ Frm none_ w w') ?_) (fun v w' ⟨h, h'⟩ => ⟨by rw [h], h'⟩)
  unfold F10
  intro b4 w1 hn1
  have f1 := hn1.mod none_
  have e1 := hn1.b
  have hth : Calls prog 24 #[.pointer none, .int .i64 i] w1 fun e w' => e = .returned (.int .i64 2) ∧ w1 = w' := by
    refine calls_ret (W24 (Q := fun v w' => v = .int .i64 2 ∧ w1 = w') ?_) (fun v w' ⟨h, h'⟩ => ⟨by rw [h], h'⟩)
    unfold F24
    exact ⟨_, nil_eql _, IfB.t rfl ⟨rfl, rfl⟩⟩
  refine hth.mono ?_
  rintro _ _ ⟨rfl, rfl⟩
  refine ⟨_, rfl, IfB.t rfl ⟨_, b33z, Blk.setW hn1.blk rfl rfl (mc_one _ _) ?_⟩⟩
  intro w2 B4 f2
  exact ⟨_, B4.ldA rfl, rfl, trB f1 f2 (by omega)⟩
theorem drop_of {x : Option Addr} {i : Int} {w : World} {c : Int} {Φ : World → Prop} (h : Calls prog 10 #[.pointer x, .int .i64 i] w fun e w' => ∃ m t, e = .returned (.tuple #[.agg (mc m t), .int .i64 c]) ∧ ∀ w2, Frm none_ w' w2 → Φ w2) :
    Calls prog 14 #[.pointer x, .int .i64 i] w fun e w' => e = .returned (.int .i64 c) ∧ Φ w' := by
  refine calls_ret (W14 (Q := fun v w' => v = .int .i64 c ∧ Φ w') ?_) (fun v w' ⟨h, h'⟩ => ⟨by rw [h], h'⟩)
  unfold F14
  refine h.mono ?_
  rintro _ w1 ⟨m, t, rfl, hΦ⟩
  refine ⟨mc m t, c, rfl, ?_⟩
  intro b5 w2 hn
  have e2 := hn.b
  refine Blk.setW hn.blk rfl rfl (mc_one _ _) ?_
  intro w3 B f3
  exact ⟨rfl, hΦ _ (trB (hn.mod none_) f3 (by omega))⟩
theorem drop_ok (G : Nat → Prop) (w : World) (x : Option Addr) (N : Nt) (i : Int) (h : NetQ 55 G w x N) (hi : 0 ≤ i ∧ i < N.l.length) : Calls prog 14 #[.pointer x, .int .i64 i] w fun e w' =>
    e = .returned (.int .i64 0) ∧ (∃ G', NetQ 55 G' w' x ⟨N.most, N.l.eraseIdx i.toNat⟩ ∧ ∀ k, G' k → G k) ∧ Frm G w w' := by
  refine drop_of ((take_ok G w x N i h hi).mono ?_)
  rintro _ w1 ⟨m, t, _, rfl, _, _, _, ⟨G', hq, hg⟩, f⟩
  exact ⟨m, t, rfl, fun w2 f2 => ⟨⟨G', hq.mod f2 (fun _ _ h => h), fun k hk => (hg k hk).1⟩, f.trans f2 (fun _ _ h => h) (fun _ _ h => h.elim)⟩⟩
theorem drop_no (G : Nat → Prop) (w : World) (x : Option Addr) (N : Nt) (i : Int) (h : NetQ 55 G w x N) (hi : ¬ (0 ≤ i ∧ i < N.l.length)) : Calls prog 14 #[.pointer x, .int .i64 i] w fun e w' => e = .returned (.int .i64 5) ∧ Frm none_ w w' := by
  refine drop_of ((take_no G w x N i h hi).mono ?_)
  rintro _ w1 ⟨rfl, f⟩
  exact ⟨_, _, rfl, fun w2 f2 => trN f f2⟩
theorem drop_nil (w : World) (i : Int) : Calls prog 14 #[.pointer none, .int .i64 i] w fun e w' => e = .returned (.int .i64 2) ∧ Frm none_ w w' := by
  refine drop_of ((take_nil w i).mono ?_)
  rintro _ w1 ⟨rfl, f⟩
  exact ⟨_, _, rfl, fun w2 f2 => trN f f2⟩
set_option maxRecDepth 20000 in
theorem all_calls (G : Nat → Prop) (w : World) (x : Option Addr) (N : Nt) (h : NetQ 55 G w x N) : Calls prog 15 #[.pointer x] w fun e w' =>
    ∃ t qs G', e = .returned (.slice t.a t.l t.c) ∧ Mls G' w' t qs ∧ qs.map (·.1) = N.l ∧ (∀ k, G' k → w.heap.size ≤ k ∧ k < w'.heap.size) ∧ Frm none_ w w' := by
  refine calls_ret (W15 (Q := fun v w' => ∃ t qs G', v = .slice t.a t.l t.c ∧ Mls G' w' t qs ∧ qs.map (·.1) = N.l ∧ (∀ k, G' k → w.heap.size ≤ k ∧ k < w'.heap.size) ∧ Frm none_ w w') ?_) (fun v w' ⟨t, qs, G', h, h'⟩ => ⟨t, qs, G', by rw [h], h'⟩)
  unfold F15
  obtain ⟨b, s, ps, rfl, h, hpl⟩ := h
  have hsl := h.ls.len
  have hN : s.l ≤ 400 := by have := h.lm; have := h.m; omega
  refine ⟨_, some_eql _ b, IfB.f rfl ⟨_, rfl, s, by rw [addr_add]; exact h.blk.ld rfl, ?_⟩⟩
  refine ⟨fun n x3 x13 w' => ∃ (j : Nat) (qs : List (Ml × Sl)) (Gj : Nat → Prop), x13 = (j : Int) ∧ j ≤ s.l ∧ n = s.l - j ∧ Mls Gj w' x3 qs ∧ qs.map (·.1) = (ps.take j).map (·.1) ∧ (∀ k, Gj k → w.heap.size ≤ k ∧ k < w'.heap.size) ∧ Frm none_ w w', s.l, ⟨0, [], fun _ => False, rfl, Nat.zero_le _, by omega, Mls.nil _ _, by simp, by simp, Frm.refl _ _⟩, ?_⟩
  rintro n u x3 x13 w1 ⟨j, qs, Gj, rfl, hj, rfl, hM, hq, hg, f1⟩
  have hql : qs.length = j := by have := congrArg List.length hq; simp at this; omega
  refine IfB.intro (fun hc => ?_) (fun hc => ?_)
  · have hlt := of_decide_eq_true hc
    have h1 := h.mod f1 (fun _ _ h => h)
    obtain ⟨p, a, hp, ha, ham, _, hla⟩ := h1.ls.rds.hasL.at (by omega) (i := (j : Int)) (by omega) (by omega)
    have ha : ps[j]? = some a := by simpa using ha
    refine ⟨p, hp, by omega, by omega, mc a.1 a.2, hla, ?_⟩
    intro b5 w2 hn2
    have e2 := hn2.b; have z2 := hn2.size
    refine Blk.setW hn2.blk rfl rfl (mc_one _ _) ?_
    intro w3 B5 f3
    have f3' : Frm none_ w1 w3 := trB (hn2.mod none_) f3 (by omega)
    refine ⟨mc a.1 a.2, B5.ldA rfl, ?_⟩
    refine (own_calls w3 a.1 a.2 ((h1.ls.own a ham).has.mod f3' (fun _ _ h => h)) (h1.ls.ok a ham)).mono ?_
    rintro _ w4 ⟨t, rfl, hrt, ht, f4⟩
    refine ⟨_, rfl, ?_⟩
    refine runT_lit1 st40 (by decide) rfl ?_
    intro w5 hr5 f5 z5
    have f5' := trN (trN f3' f4) f5
    have z3' := f3'.size; have z4 := f4.size
    have z1 := f1.size
    refine mls_push (hM.modG f5' (fun _ _ h => h)) (hrt.mod f5 (fun _ _ h => h)) (fun k hk hgk => by have := ht k hk; have := (hg k hgk).2; omega) (h1.ls.ok a ham) (by omega) hr5.has rfl ?_
    intro s' w6 hM6 hs6 f6
    have z6 := f6.size
    refine ⟨s.l - (j + 1), by omega, j + 1, _, _, by rw [wi _ (by omega)]; omega, by omega, rfl, hM6, ?_, ?_, (trN f1 f5').trans f6 (fun _ _ h => h) (fun k hk he => by have := (hg k (hM.gs k he)).1; omega)⟩
    · rw [List.map_append, hq, List.take_add_one, ha]; simp
    · rintro k (hk | hk | hk)
      · have := hg k hk; omega
      · have := ht k hk; have := hrt.lt k hk; omega
      · have := hM6.row.lt k hk
        rcases hs6 k hk with hk | hk
        · have := hg k (hM.gs k hk); omega
        · omega
  · have hge := of_decide_eq_false hc
    refine ⟨x3, qs, Gj, rfl, hM, ?_, hg, f1⟩
    rw [hq, List.take_of_length_le (by omega), hpl]
theorem all_nil (w : World) : Calls prog 15 #[.pointer none] w fun e w' => e = .returned (.slice none 0 0) ∧ w = w' := by
  refine calls_ret (W15 (Q := fun v w' => v = .slice none 0 0 ∧ w = w') ?_) (fun v w' ⟨h, h'⟩ => ⟨by rw [h], h'⟩)
  unfold F15
  exact ⟨_, nil_eql _, IfB.t rfl ⟨rfl, rfl⟩⟩
theorem b55c (n : Int) (s : Sl) : BuildIs prog 55 #[(0, .int .i64 n), (1, .slice s.a s.l s.c)] #[.int .i64 n, .slice s.a s.l s.c] := fun w => by kernel_rfl
theorem copy_calls (G : Nat → Prop) (w : World) (x : Option Addr) (N : Nt) (h : NetQ 55 G w x N) : Calls prog 16 #[.pointer x] w fun e w' =>
    ∃ b G', e = .returned (.pointer (some ⟨b, 0, none⟩)) ∧ NetQ 55 G' w' (some ⟨b, 0, none⟩) N ∧ (∀ k, G' k → w.heap.size ≤ k ∧ k < w'.heap.size) ∧ Frm none_ w w' := by
  refine calls_ret (W16 (Q := fun v w' => ∃ b G', v = .pointer (some ⟨b, 0, none⟩) ∧ NetQ 55 G' w' (some ⟨b, 0, none⟩) N ∧ (∀ k, G' k → w.heap.size ≤ k ∧ k < w'.heap.size) ∧ Frm none_ w w') ?_) (fun v w' ⟨b, G', h, h'⟩ => ⟨b, G', by rw [h], h'⟩)
  unfold F16
  have hq := h
  obtain ⟨b, s, ps, rfl, h, hpl⟩ := h
  have fd : Frm none_ w w.drew := (Frm.refl _ _).drew
  refine ⟨_, some_eql _ b, IfB.f rfl ⟨fun w' => Frm none_ w w', fd, _, rfl, N.most, fun w' f => by rw [addr_add]; exact (h.blk.mod f (fun h => h)).ld rfl, ?_⟩⟩
  refine (all_calls G w.drew _ N (hq.mod fd (fun _ _ h => h))).mono ?_
  rintro _ w1 ⟨t, qs, G', rfl, hM, hqs, hg, f1⟩
  have f1' := trN fd f1
  have z1 := f1'.size
  refine ⟨t, rfl, f1', _, b55c _ t, ?_⟩
  intro b2 w2 hn
  have e2 := hn.b; have z2 := hn.size
  have f2 := hn.mod none_
  have hl : qs.length = ps.length := by have := congrArg List.length hqs; rw [← hpl] at this; simpa using this
  refine ⟨b2, fun k => k = b2 ∨ G' k, rfl, ⟨b2, t, qs, rfl, ⟨.inl rfl, hn.blk, (hM.modG f2 (fun _ _ h => h)).mono (fun k hk => .inr hk), .inl rfl, ?_, h.m, by rw [hl]; exact h.lm⟩, hqs⟩, ?_, trN f1' f2⟩
  · rintro k (hk | hk)
    · omega
    · have := hg k hk; omega
  · rintro k (hk | hk)
    · omega
    · have := hg k hk; have : w.drew.heap.size = w.heap.size := rfl; omega
end Go.Proofs.Ytffcojmpaccppaa
