/- The law StridePlays walked. -/
import Derived.Test.YthgeacnemojjgaaPl
set_option linter.unusedVariables false
set_option linter.unusedSimpArgs false
set_option maxRecDepth 20000
namespace Go.Proofs.Ythgeacnemojjgaa
open Go Go.Proofs.YthgeacnemojjgaaV
/-- Whom Next tells is charged. -/
def tellP (f : Int) (q : ByteArray) (n : Int) (M : List Pj) : List Pj := if f = 0 ∧ 0 ≤ n then (chgP q n M).2 else M
theorem plays_law (W : World) (s : Sl) (l : List Stp) (ha : ArgS W s l) : Calls prog 4 #[.slice s.a s.l s.c] W fun e w' => e = .returned (.bool true) ∧ Frm none_ W w' := by
  refine callsRet (W4 (x0 := s) (Q := fun v w' => v = .bool true ∧ Frm none_ W w') ?_) (fun v w' ⟨h, h'⟩ => ⟨by rw [h], h'⟩)
  have hsl : s.l ≤ 100000000000000 := by have := ha.2.2.2.2; have := ha.2.2.1; omega
  have hl := ha.1.len
  unfold F4
  refine (large_calls W s l ha.1 hsl).mono ?_
  rintro _ w1 ⟨c, rfl, hc, e⟩
  subst e
  refine ⟨c, rfl, IfB.intro (fun _ => ⟨rfl, Frm.refl _ _⟩) (fun hcf => ?_)⟩
  obtain ⟨hlen, hns⟩ := hc hcf
  refine (new_calls w1).mono ?_
  rintro _ w2 ⟨a, rfl, f2, DA, hA, hDA⟩
  refine ⟨_, rfl, _, b43, ?_⟩
  intro d w3 hN3
  have e3 := hN3.2
  have z3 := hN3.size
  have ok0 : OkM [] := ⟨by simp, List.Pairwise.nil, by simp⟩
  have z2 := f2.size
  have hP0 : PI w1 DA (fun k => k = d) a d [] [] w3 :=
    ⟨ok0, ok0, hA.n (hN3.mod none_), ⟨⟨none, 0, 0⟩, ⟨hN3.blk, Row.nil _ _ _⟩, rfl, fun k hk => by simp [Sl.blk] at hk, fun k hk => by omega⟩, hDA, fun k hk => by omega, fun k hk hh => by have := hA.lt k hk; omega, f2.n (hN3.mod none_)⟩
  refine ⟨fun n x3 i V => ∃ (j a : Nat) (DA DD : Nat → Prop) (M : List Pj), i = (j : Int) ∧ x3 = some ⟨a, 0, none⟩ ∧ j ≤ l.length ∧ n = l.length - j ∧ PI w1 DA DD a d M M V, l.length, ⟨0, a, DA, _, [], rfl, rfl, by omega, rfl, hP0⟩, ?_⟩
  rintro n u x3 i V ⟨j, a, DA, DD, M, rfl, rfl, hj, rfl, hP⟩
  have hlw := hP.frm
  refine IfB.dec (fun hlt => ?_) (fun hge => ?_)
  rotate_left 1
  · refine (names_calls V DA a M hP.sa hP.oa).mono ?_
    rintro _ V1 ⟨r1, rfl, hr1, hn1, g1⟩
    refine ⟨r1, rfl, (dNames_calls V1 DD d M (hP.n g1).sd hP.od).mono ?_⟩
    rintro _ V2 ⟨r2, rfl, hr2, hn2, g2⟩
    refine ⟨r2, rfl, (texts_calls V2 r1 r2 _ _ (hr1.mod g2 (fun _ _ h => h)).has hr2.has (by have := hP.oa.n; rw [List.length_map]; omega)).mono ?_⟩
    rintro _ V3 ⟨rfl, g3⟩
    exact ⟨_, rfl, by rw [decide_eq_true rfl], (hlw.n g1).n (g2.n g3)⟩
  obtain ⟨qa, st, hqa, hst, hstm, hld, hldA⟩ := (ha.1.mod hlw (fun _ _ h => h)).at (by decide) (i := (j : Int)) (by omega) (by omega)
  rw [Int.toNat_natCast] at hst
  have oks := ha.2.1 st hstm
  have hns1 := hns st hstm
  have hnames : Has w1 st.l 1 (sv st.ns) := oks.has.one
  have hnl := has_sv hnames
  refine ⟨qa, hqa, by omega, by omega, (stc st).toArray, hldA, ?_⟩
  intro b6 V4 hN6
  have hb6 : b6 = V.heap.size := hN6.2
  refine Blk.setW hN6.blk rfl rfl (by simp [stc, Value.oneCell']) ?_
  intro V5 hB5 g5
  have F5 : Frm none_ V V5 := (hN6.mod none_).b g5 (by omega)
  have hP5 := hP.n F5
  have G5 : Gd V5 DA DD b6 := Gd.new hP (by omega) hB5.lt
  have ld : ∀ {V' : World}, Blk V' b6 (stc st).toArray 45 → ∀ c v, (stc st)[c]? = some v → Ld V' ((⟨b6, 0, none⟩ : Addr).add c) v := fun h c v hv => by rw [addr_add, Nat.zero_add]; exact h.ld (by simpa using hv)
  clear hldA hld hN6 g5
  have hz5 := hP5.frm.size
  refine ⟨fun x3 e f p q V => ∃ (a : Nat) (DA DD : Nat → Prop) (M : List Pj), x3 = some ⟨a, 0, none⟩ ∧ e = f ∧ p = q ∧ PI w1 DA DD a d M M V ∧ Blk V b6 (stc st).toArray 45 ∧ Gd V DA DD b6, ⟨st.k, ld hB5 0 _ rfl, ?_⟩, ?_⟩
  · refine IfB.intro (fun _ => ?_) (fun _ => IfB.intro (fun _ => ?_) (fun _ => IfB.intro (fun _ => ?_) (fun _ => IfB.intro (fun _ => ?_) (fun _ => ?_))))
    · refine ⟨st.s, ld hB5 2 _ rfl, st.n, ld hB5 1 _ rfl, (set_calls V5 DA a M hP5.sa hP5.oa st.s st.n).mono ?_⟩
      rintro _ V6 ⟨rfl, hw6⟩
      obtain ⟨f6, DA6, hP6, hs6⟩ := hP5.went1 hw6 (setP_ok hP5.oa _ _ )
      have hB6 := hB5.mod f6 G5.a
      have G6 := G5.w1 f6 hs6
      refine ⟨_, rfl, st.s, ld hB6 2 _ rfl, st.n, ld hB6 1 _ rfl, (dSet_calls V6 DD d M hP6.sd hP6.od st.s st.n).mono ?_⟩
      rintro _ V7 ⟨rfl, hw7⟩
      obtain ⟨f7, DD7, hP7, hs7⟩ := hP6.went2 hw7 (setP_ok hP6.od _ _ )
      exact ⟨_, rfl, a, DA6, DD7, _, rfl, rfl, rfl, hP7, hB6.mod f7 G6.d, G6.w2 f7 hs7⟩
    · refine ⟨st.s, ld hB5 2 _ rfl, (drop_calls V5 DA a M hP5.sa hP5.oa st.s).mono ?_⟩
      rintro _ V6 ⟨rfl, hw6⟩
      obtain ⟨f6, DA6, hP6, hs6⟩ := hP5.went1 hw6 (dropP_ok hP5.oa _ )
      have hB6 := hB5.mod f6 G5.a
      have G6 := G5.w1 f6 hs6
      refine ⟨_, rfl, st.s, ld hB6 2 _ rfl, (dDrop_calls V6 DD d M hP6.sd hP6.od st.s).mono ?_⟩
      rintro _ V7 ⟨rfl, hw7⟩
      obtain ⟨f7, DD7, hP7, hs7⟩ := hP6.went2 hw7 (dropP_ok hP6.od _ )
      exact ⟨_, rfl, a, DA6, DD7, _, rfl, rfl, rfl, hP7, hB6.mod f7 G6.d, G6.w2 f7 hs7⟩
    · refine ⟨st.s, ld hB5 2 _ rfl, st.n, ld hB5 1 _ rfl, (chg_calls V5 DA a M hP5.sa hP5.oa st.s st.n).mono ?_⟩
      rintro _ V6 ⟨rfl, hw6⟩
      obtain ⟨f6, DA6, hP6, hs6⟩ := hP5.went1 hw6 (chgP_ok hP5.oa _ _ )
      have hB6 := hB5.mod f6 G5.a
      have G6 := G5.w1 f6 hs6
      refine ⟨_, rfl, st.s, ld hB6 2 _ rfl, st.n, ld hB6 1 _ rfl, (dChg_calls V6 DD d M hP6.sd hP6.od st.s st.n).mono ?_⟩
      rintro _ V7 ⟨rfl, hw7⟩
      obtain ⟨f7, DD7, hP7, hs7⟩ := hP6.went2 hw7 (chgP_ok hP6.od _ _ )
      exact ⟨_, rfl, a, DA6, DD7, _, rfl, rfl, rfl, hP7, hB6.mod f7 G6.d, G6.w2 f7 hs7⟩
    · refine (save_calls V5 DA a M hP5.sa hP5.oa).mono ?_
      rintro _ V6 ⟨r, rfl, hr, hn, f6⟩
      have hsl := save_len hP5.oa
      have hrl := rowLen hr
      refine ⟨r, rfl, (load_calls V6 r (saveP M) hr.has (by omega)).mono ?_⟩
      rintro _ V7 ⟨v, rfl, hv, f7⟩
      have hld := ldOf_some hP5.oa rfl
      have hP6 := hP5.n f6
      have hP7 := hP6.n f7
      rcases hv with ⟨a', M', D', rfl, he, hS', hD'⟩ | ⟨_, he⟩
      · rw [hld] at he; cases he
        have z6 := hP6.frm.size
        have l6 := f6.size
        have b5 := hB5.lt
        refine ⟨_, _, rfl, IfB.f rfl ⟨a', D', DD, M, rfl, rfl, rfl, ⟨hP7.oa, hP7.od, hS', hP7.sd, fun k hk => by have := hD' k hk; omega, hP7.nd, fun k hk hh => by have := hD' k hk; have := hP6.sd.lt k hh; omega, hP7.frm⟩, (hB5.mod f6 (fun h => h)).mod f7 (fun h => h), ⟨fun hh => by have := hD' b6 hh; omega, G5.d, ((G5.n f6).n f7).lt⟩⟩⟩
      · rw [hld] at he; cases he
    · refine ⟨st.l, ld hB5 3 _ rfl, (copied_calls V5 st.l st.ns (hnames.mod hP5.frm (fun _ _ h => h)) (by omega)).mono ?_⟩
      rintro _ V6 ⟨t, rfl, ht, htn, f6⟩
      have hP6 := hP5.n f6
      have G6 := G5.n f6
      have hB6 := hB5.mod f6 (fun h => h)
      have htl : t.l = st.ns.length := has_sv ht.has
      have htd : ∀ k, t.blk = some k → Gd V6 DA DD k := fun k hk => Gd.new hP5 (htn k hk) (ht.lt k hk)
      refine ⟨t, rfl, (next_calls V6 DA a M hP6.sa hP6.oa t st.ns ht.has (fun _ k hk => (htd k hk).a) (by omega)).mono ?_⟩
      rintro _ V7 ⟨rfl, hw7⟩
      obtain ⟨f7, DA7, hP7, hs7⟩ := hP6.went1 hw7 (nextP_ok hP6.oa _)
      have G7 := G6.w1 f7 hs7
      have hB7 := hB6.mod f7 G6.a
      have ht7 := ht.mod f7 (fun k hk => (htd k hk).a)
      refine ⟨_, _, rfl, st.l, ld hB7 3 _ rfl, (dNext_calls V7 DD d M hP7.sd hP7.od st.l st.ns (hnames.mod hP7.frm (fun _ _ h => h)) (by omega)).mono ?_⟩
      rintro _ V8 ⟨rfl, hw8⟩
      obtain ⟨f8, DD8, hP8, hs8⟩ := hP7.went2 hw8 (nextP_ok hP7.od _)
      have G8 := G7.w2 f8 hs8
      have hB8 := hB7.mod f8 G7.d
      have ht8 := ht7.mod f8 (fun k hk => ((htd k hk).w1 f7 hs7).d)
      have htd8 : ∀ k, t.blk = some k → Gd V8 DA7 DD8 k := fun k hk => ((htd k hk).w1 f7 hs7).w2 f8 hs8
      refine ⟨_, _, rfl, st.l, ld hB8 3 _ rfl, (texts_calls V8 t st.l st.ns st.ns ht8.has (hnames.mod hP8.frm (fun _ _ h => h)) (by omega)).mono ?_⟩
      rintro _ V9 ⟨rfl, f9⟩
      refine ⟨_, rfl, IfB.f (by rw [decide_eq_true rfl]; rfl) ?_⟩
      have hP9 := hP8.n f9
      have G9 := G8.n f9
      have hB9 := hB8.mod f9 (fun h => h)
      have ht9 := ht8.mod f9 (fun _ _ h => h)
      refine ⟨fun n i V => ∃ (k : Nat) (cs : List Value), i = (k : Int) ∧ k ≤ st.ns.length ∧ n = st.ns.length - k ∧ cs.length = st.ns.length ∧ Row V t 9 1 cs ∧ Frm (fun k => t.blk = some k) V9 V, st.ns.length, ⟨0, sv st.ns, rfl, by omega, rfl, sv_len _, ht9, Frm.refl _ _⟩, ?_⟩
      rintro n u i V10 ⟨k, cs, rfl, hk, rfl, hcl, hr10, f10⟩
      refine IfB.dec (fun hlt => ?_) (fun hge => ?_)
      · obtain ⟨g, hg, hwr, hrow, hf⟩ := scrub (w0 := V10) (v := .string (⟨#[63]⟩ : ByteArray)) hr10 (j := k) (by omega)
        refine ⟨g, hg, by omega, by omega, hwr, ?_⟩
        rintro V11 rfl
        exact ⟨st.ns.length - (k + 1), by omega, k + 1, _, by rw [wi _ (by omega)]; omega, by omega, rfl, by simpa using hcl, hrow, f10.trans hf (fun _ _ h => h) (fun _ _ h => h)⟩
      · have hP10 := hP9.mod f10 (fun k hk => (htd8 k hk).a) (fun k hk => (htd8 k hk).d) (fun k hk => by have := htn k hk; omega)
        have hB10 := hB9.mod f10 (fun e => by have := htn b6 e; have := hB5.lt; omega)
        have G10 := G9.n f10
        refine ⟨fun c V => V = V10 ∧ c = decide ((nextP st.ns M).2.1 = 0 ∧ 0 ≤ st.n), ?_, ?_⟩
        · refine IfB.intro (fun h => ⟨st.n, ld hB10 1 _ rfl, rfl, ?_⟩) (fun h => ⟨rfl, ?_⟩)
          · have h : (nextP st.ns M).2.1 = 0 := by simpa using h
            simp [h]
          · have h : ¬ (nextP st.ns M).2.1 = 0 := by simpa using h
            simp [h]
        rintro u c V ⟨rfl, rfl⟩
        refine IfB.dec (fun hc => ?_) (fun hc => ⟨a, DA7, DD8, _, rfl, rfl, rfl, hP10, hB10, G10⟩)
        refine ⟨st.n, ld hB10 1 _ rfl, (chg_calls V DA7 a _ hP10.sa hP10.oa _ st.n).mono ?_⟩
        rintro _ V11 ⟨rfl, hw11⟩
        obtain ⟨f11, DA11, hP11, hs11⟩ := hP10.went1 hw11 (chgP_ok hP10.oa _ _)
        have hB11 := hB10.mod f11 G10.a
        have G11 := G10.w1 f11 hs11
        refine ⟨_, rfl, st.n, ld hB11 1 _ rfl, (dChg_calls V11 DD8 d _ hP11.sd hP11.od _ st.n).mono ?_⟩
        rintro _ V12 ⟨rfl, hw12⟩
        obtain ⟨f12, DD12, hP12, hs12⟩ := hP11.went2 hw12 (chgP_ok hP11.od _ _)
        exact ⟨_, rfl, IfB.f (by simp) ⟨a, DA11, DD12, _, rfl, rfl, rfl, hP12, hB11.mod f12 G11.d, G11.w2 f12 hs12⟩⟩
  clear hB5 G5 F5 hP5 hlw hP
  rintro u x3 e f p q V6 ⟨a, DA, DD, M, rfl, rfl, rfl, hP, hB, hG⟩
  have hM4 := hP.oa.n
  refine (names_calls V6 DA a M hP.sa hP.oa).mono ?_
  rintro _ V7 ⟨r, rfl, hr, hrn, f7⟩
  refine ⟨r, rfl, (save_calls V7 DA a M (hP.n f7).sa hP.oa).mono ?_⟩
  rintro _ V8 ⟨t, rfl, ht, htn, f8⟩
  have hr8 := hr.mod f8 (fun _ _ h => h)
  have hP8 := (hP.n f7).n f8
  have hB8 := (hB.mod f7 (fun h => h)).mod f8 (fun h => h)
  have hG8 := (hG.n f7).n f8
  refine ⟨t, rfl, fun c V => c = false ∧ Frm none_ V8 V, ?_, ?_⟩
  · refine IfB.f (by simp) (IfB.f (by rw [(str_eqIff _ _).2 rfl]; rfl) ((dNames_calls V8.drew DD d M (hP8.n (frm_drew _)).sd hP.od).mono ?_))
    rintro _ V9 ⟨r', rfl, hr', hrn', f9'⟩
    have f9 : Frm none_ V8 V9 := f9'.ofDrew
    refine ⟨r', rfl, (texts_calls V9 r r' _ _ (hr8.mod f9 (fun _ _ h => h)).has hr'.has (by rw [List.length_map]; omega)).mono ?_⟩
    rintro _ V10 ⟨rfl, f10'⟩
    have f10 := f9.n f10'
    have ht10 := (ht.mod f10 (fun _ _ h => h)).has
    refine ⟨_, rfl, IfB.f (by rw [decide_eq_true rfl]; rfl) ⟨?_, ?_⟩⟩
    · refine runT_str un22 un5 un9 ht10 ((dSave_calls V10 DD d M (hP8.n f10).sd hP.od).mono ?_)
      rintro _ V11 ⟨t', rfl, ht', htn', f11⟩
      refine ⟨t', rfl, runT_str un22 un5 un9 ht'.has ⟨?_, f10.n f11⟩⟩
      rw [(str_eqIff _ _).2 rfl]; rfl
    · refine (dSave_calls V10 DD d M (hP8.n f10).sd hP.od).mono ?_
      rintro _ V11 ⟨t', rfl, ht', htn', f11⟩
      have ht11 := ht10.mod f11 (fun _ _ h => h)
      refine ⟨t', rfl, runT_str un22 un5 un9 ht11 (runT_str un22 un5 un9 ht'.has ⟨?_, f10.n f11⟩), runT_str un22 un5 un9 ht'.has (runT_str un22 un5 un9 ht11 ⟨?_, f10.n f11⟩)⟩
      all_goals rw [(str_eqIff _ _).2 rfl]; rfl
  rintro u1 c V9 ⟨rfl, f9⟩
  have hB9 := hB8.mod f9 (fun h => h)
  refine IfB.f rfl ⟨st.s, ld hB9 2 _ rfl, (had_calls V9 DA a M (hP8.n f9).sa hP.oa st.s).mono ?_⟩
  rintro _ V10 ⟨rfl, f10⟩
  have hB10 := hB9.mod f10 (fun h => h)
  refine ⟨_, _, _, rfl, st.s, ld hB10 2 _ rfl, ?_⟩
  have hP10 := (hP8.n f9).n f10
  obtain ⟨s', hS', hDb, hDs, hDl⟩ := hP10.sd
  refine (dAt_calls V10 d s' M hS' hP.od.srt (by omega) st.s).mono ?_
  rintro _ V11 ⟨rfl, e⟩
  subst e
  refine ⟨_, rfl, fun c V => c = false ∧ V = V11, ?_, ?_⟩
  · unfold hadP ixI
    cases hi : ix st.s M with
    | none => exact ⟨_, bneq _ _ _ _, IfB.f (by simp) (IfB.f rfl (IfB.t rfl (IfB.f (by simp) ⟨by simp, rfl⟩)))⟩
    | some i =>
      obtain ⟨_, pp, hpp, hpe⟩ := ix_some hi
      obtain ⟨q1, hq1, hil, _, hldp⟩ := hS'.at hpp
      simp only [hpp]
      refine ⟨_, bneq _ _ _ _, IfB.f (by simp) (IfB.t rfl ⟨_, rfl, s', hS'.ld0, q1, hq1, by omega, by omega, pp.sh, hldp 1 _ rfl, IfB.f (by simp) ⟨_, rfl, s', hS'.ld0, q1, hq1, by omega, by omega, pp.had, hldp 2 _ rfl, IfB.f (by simp) (IfB.f rfl (by simp))⟩⟩)⟩
  rintro u2 c V12 ⟨rfl, e⟩
  subst e
  have f8x := f9.n f10
  have hr12 := hr8.mod f8x (fun _ _ h => h)
  have ht12 := ht.mod f8x (fun _ _ h => h)
  have hrl : r.l = M.length := by have := has_sv hr.has; rw [List.length_map] at this; exact this
  have htl := rowLen ht
  have hrlt := hr.lt
  have htlt := ht.lt
  have z6 := hP.frm.size
  have z7 := f7.size
  have hrb : ∀ k, r.blk = some k → ¬ DA k ∧ ¬ DD k ∧ w1.heap.size ≤ k ∧ k ≠ b6 := fun k hk => by
    have h1 := hrn k hk
    exact ⟨fun hh => by have := hP.sa.lt k hh; omega, fun hh => by have := hP.sd.lt k hh; omega, by omega, by have := hB.lt; omega⟩
  have htb : ∀ k, t.blk = some k → ¬ DA k ∧ ¬ DD k ∧ w1.heap.size ≤ k ∧ k ≠ b6 := fun k hk => by
    have h1 := htn k hk
    exact ⟨fun hh => by have := hP.sa.lt k hh; omega, fun hh => by have := hP.sd.lt k hh; omega, by omega, by have := hB.lt; omega⟩
  have hrt : ∀ k, r.blk = some k → t.blk ≠ some k := fun k hk e => by have := htn k e; have := hrlt k hk; omega
  have hsv := save_len hP.oa
  refine IfB.f rfl ⟨fun n i V => ∃ (k : Nat) (cs : List Value), i = (k : Int) ∧ k ≤ M.length ∧ n = M.length - k ∧ cs.length = M.length ∧ Row V r 9 1 cs ∧ Frm (fun k => r.blk = some k) V12 V, M.length, ⟨0, _, rfl, by omega, rfl, by rw [sv_len, List.length_map], hr12, Frm.refl _ _⟩, ?_⟩
  rintro n u3 i V13 ⟨k, cs, rfl, hk, rfl, hcl, hr13, f13⟩
  refine IfB.dec (fun hlt => ?_) (fun hge => ?_)
  · obtain ⟨g, hg, hwr, hrow, hf⟩ := scrub (w0 := V13) (v := .string (⟨#[63]⟩ : ByteArray)) hr13 (j := k) (by omega)
    refine ⟨g, hg, by omega, by omega, hwr, ?_⟩
    rintro V14 rfl
    exact ⟨M.length - (k + 1), by omega, k + 1, _, by rw [wi _ (by omega)]; omega, by omega, rfl, by simpa using hcl, hrow, f13.trans hf (fun _ _ h => h) (fun _ _ h => h)⟩
  have ht13 := ht12.mod f13 (fun k hk e => hrt k e hk)
  refine ⟨fun n i V => ∃ (k : Nat) (cs : List Value), i = (k : Int) ∧ k ≤ (saveP M).length ∧ n = (saveP M).length - k ∧ cs.length = (saveP M).length ∧ Row V t 5 1 cs ∧ Frm (fun k => t.blk = some k) V13 V, (saveP M).length, ⟨0, _, rfl, by omega, rfl, bv_length _, ht13, Frm.refl _ _⟩, ?_⟩
  rintro n u4 i V14 ⟨k2, cs2, rfl, hk2, rfl, hcl2, hr14, f14⟩
  refine IfB.dec (fun hlt => ?_) (fun hge2 => ?_)
  · obtain ⟨g, hg, hwr, hrow, hf⟩ := scrub (w0 := V14) (v := .int .u8 255) hr14 (j := k2) (by omega)
    refine ⟨g, hg, by omega, by omega, hwr, ?_⟩
    rintro V15 rfl
    exact ⟨(saveP M).length - (k2 + 1), by omega, k2 + 1, _, by rw [wi _ (by omega)]; omega, by omega, rfl, by simpa using hcl2, hrow, f14.trans hf (fun _ _ h => h) (fun _ _ h => h)⟩
  have hP14 := (hP10.mod f13 (fun k hk => (hrb k hk).1) (fun k hk => (hrb k hk).2.1) (fun k hk => (hrb k hk).2.2.1)).mod f14 (fun k hk => (htb k hk).1) (fun k hk => (htb k hk).2.1) (fun k hk => (htb k hk).2.2.1)
  exact ⟨l.length - (j + 1), by omega, j + 1, a, DA, DD, M, by rw [wi _ (by omega)]; omega, rfl, by omega, rfl, hP14⟩
end Go.Proofs.Ythgeacnemojjgaa
