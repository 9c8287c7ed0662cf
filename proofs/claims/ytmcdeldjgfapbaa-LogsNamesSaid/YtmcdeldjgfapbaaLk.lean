/- Lines: a stretch of a log's lines. -/
import Derived.Test.YtmcdeldjgfapbaaLj
set_option linter.unusedVariables false
set_option linter.unusedSimpArgs false
set_option maxRecDepth 20000
namespace Go.Proofs.Ytmcdeldjgfapbaa
open Go Go.Proofs.YtmcdeldjgfapbaaV
def selL (l : List ByteArray) (f t : Int) : List ByteArray := (l.take t.toNat).drop f.toNat
theorem sel_add {l : List ByteArray} {f t : Int} (y : ByteArray) (h1 : (l.length : Int) < t) (h2 : f ≤ l.length) : selL (l ++ [y]) f t = selL l f t ++ [y] := by
  unfold selL
  rw [List.take_of_length_le (by simp; omega), List.take_of_length_le (by omega), List.drop_append_of_le_length (by omega)]
theorem sel_skip {l : List ByteArray} {f t : Int} (y : ByteArray) (h1 : (l.length : Int) < t) (h2 : (l.length : Int) < f) : selL (l ++ [y]) f t = selL l f t := by
  unfold selL
  rw [List.drop_of_length_le (by simp; omega), List.drop_of_length_le (by simp; omega)]
theorem sel_pre {l m : List ByteArray} {f t : Int} (h1 : t ≤ l.length) (h2 : l <+: m) : selL m f t = selL l f t := by
  obtain ⟨r, rfl⟩ := h2
  unfold selL
  rw [List.take_append_of_le_length (by omega)]
theorem rec_not {B : Nat} {w : World} {l : Nat} {rec : Loop} {st : LoopState} {pe : Option Code} (h : RecR w l rec st pe) : ¬ Ib B w l := by
  rintro ⟨_, cs, fr, T, hk, _⟩
  unfold RecR at h
  rw [hk] at h; cases h
theorem blk_not {B : Nat} {w : World} {b : Nat} {cs : Array Value} {T : TypeId} (h : Blk w b cs T) (hT : T ≠ 5 ∧ T ≠ 90) : ¬ Ib B w b := by
  rintro ⟨_, cs', fr, T', hk, hT'⟩
  have h : w.heap[b]? = _ := h
  rw [hk] at h
  cases h
  rcases hT' with h | h
  · exact hT.1 h
  · exact hT.2 h
theorem row_not {B : Nat} {w : World} {s : Sl} {E : TypeId} {sz : Nat} {cs : List Value} (h : Row w s E sz cs) (hT : E ≠ 5 ∧ E ≠ 90) : ∀ k, s.blk = some k → ¬ Ib B w k := by
  intro k hk
  rcases h.cases with ⟨rfl, _⟩ | ⟨g, cur, ha, hB, _⟩
  · simp [Sl.blk] at hk
  · simp [Sl.blk, ha] at hk
    subst hk
    exact blk_not hB hT
theorem mark_not {B : Nat} {w : World} {D : Nat} (h : MarkR w D) : ¬ Ib B w D := by
  rintro ⟨_, cs, fr, T, hk, _⟩
  unfold MarkR at h
  rw [hk] at h; cases h
/-- What holds between the rounds. -/
structure LnJ (w : World) (b4 b5 b7 b8 D l : Nat) (rec : Loop) (fr to : Int) (B : Nat) (pre : List ByteArray) (t : Sl) (W : World) : Prop where
  h4 : Blk W b4 #[.int .i64 fr] 3
  h5 : Blk W b5 #[.int .i64 to] 3
  h7 : Blk W b7 #[.slice t.a t.l t.c] 31
  h8 : Blk W b8 #[.int .i64 (pre.length : Int)] 3
  row : Row W t 9 1 (sv (selL pre fr to))
  new : New w t
  rc : RecR W l rec .ready none
  mark : MarkR W D
  frm : Frm none_ w W
  size : B ≤ W.heap.size
structure LnX (w : World) (b7 D l : Nat) (rec : Loop) (fr to : Int) (pre : List ByteArray) (t : Sl) (W : World) : Prop where
  h7 : Blk W b7 #[.slice t.a t.l t.c] 31
  row : Row W t 9 1 (sv (selL pre fr to))
  new : New w t
  rc : RecR W l rec .done (some (.exit 0))
  mark : MarkR W D
  frm : Frm none_ w W
  len : to ≤ pre.length
theorem LnJ.mod {w : World} {b4 b5 b7 b8 D l : Nat} {rec : Loop} {fr to : Int} {B : Nat} {pre : List ByteArray} {t : Sl} {W W' : World} {F : Nat → Prop} (h : LnJ w b4 b5 b7 b8 D l rec fr to B pre t W) (hm : Frm F W W')
    (h4 : ¬ F b4) (h5 : ¬ F b5) (h7 : ¬ F b7) (h8 : ¬ F b8) (hl : ¬ F l) (hD : ¬ F D) (ht : ∀ k, t.blk = some k → ¬ F k) (hw : ∀ k, k < w.heap.size → ¬ F k) : LnJ w b4 b5 b7 b8 D l rec fr to B pre t W' :=
  ⟨h.h4.mod hm h4, h.h5.mod hm h5, h.h7.mod hm h7, h.h8.mod hm h8, h.row.mod hm ht, h.new, h.rc.mod hm hl, h.mark.mod hm hD, h.frm.trans hm (fun _ _ h => h) (fun k hk hf => hw k hk hf), Nat.le_trans h.size hm.size⟩
theorem lines_calls (w : World) (x : Option Addr) (s : Sl) (ps : List ByteArray) (fr to : Int) (h : LpS w x s ps) (hz : szs ps ≤ 1000000000000) (hn : ps.length ≤ 1000000) : Calls prog 25 #[.pointer x, .int .i64 fr, .int .i64 to] w (MadeT w (selL (lns [] (txt ps)) fr to)) := by
  refine calls_ret (W25 (x0 := x) (x1 := fr) (x2 := to) (Q := fun v w' => ∃ r : Sl, v = .slice r.a r.l r.c ∧ Row w' r 9 1 (sv (selL (lns [] (txt ps)) fr to)) ∧ New w r ∧ Frm none_ w w') ?_) (fun v w' ⟨r, h, h'⟩ => ⟨r, by rw [h], h'⟩)
  unfold F25
  intro b4 w1 hN4 b5 w2 hN5 b7 w3 hN7 b8 w4 hN8
  have e4 := hN4.2; have e5 := hN5.2; have e7 := hN7.2; have e8 := hN8.2
  have z4 := hN4.size; have z5 := hN5.size; have z7 := hN7.size; have z8 := hN8.size
  have f4 : Frm none_ w w4 := (((hN4.mod none_).n (hN5.mod none_)).n (hN7.mod none_)).n (hN8.mod none_)
  refine ⟨hN8.blk.wr (by show 0 < 1; omega), ?_⟩
  rintro w5 rfl
  have f5 : Frm (fun k => k = b8) w4 (w4.setCell ⟨b8, 0, none⟩ (.int .i64 0)) := mod_setCell (a := ⟨b8, 0, none⟩)
  have hK4 : Blk _ b4 #[.int .i64 fr] 3 := ((((hN4.blk.mod (hN5.mod none_) (fun h => h)).mod (hN7.mod none_) (fun h => h)).mod (hN8.mod none_) (fun h => h))).mod f5 (by omega)
  have hK5 : Blk _ b5 #[.int .i64 to] 3 := ((hN5.blk.mod (hN7.mod none_) (fun h => h)).mod (hN8.mod none_) (fun h => h)).mod f5 (by omega)
  have hK7 : Blk _ b7 #[.slice none 0 0] 31 := (hN7.blk.mod (hN8.mod none_) (fun h => h)).mod f5 (by omega)
  have hK8 := hN8.blk.set 0 (.int .i64 0)
  have z5' := f5.size
  have fw5 : Frm none_ w (w4.setCell ⟨b8, 0, none⟩ (.int .i64 0)) := f4.b f5 (by omega)
  generalize hw5 : w4.setCell ⟨b8, 0, none⟩ (.int .i64 0) = w5 at *
  have hc6 : Calls prog 47 #[.pointer x] w5 fun e w' => ∃ c, e = .returned (.func (.func 60) #[] #[.pointer (some ⟨c, 0, none⟩)]) ∧ c = w5.heap.size ∧ Blk w' c #[.pointer x] 23 ∧ Frm none_ w5 w' ∧ w'.heap.size = w5.heap.size + 1 := by
    refine calls_ret (W47 (x0 := x) (Q := fun v w' => ∃ c, v = .func (.func 60) #[] #[.pointer (some ⟨c, 0, none⟩)] ∧ c = w5.heap.size ∧ Blk w' c #[.pointer x] 23 ∧ Frm none_ w5 w' ∧ w'.heap.size = w5.heap.size + 1) ?_) (fun v w' ⟨r, h, h'⟩ => ⟨r, by rw [h], h'⟩)
    unfold F47
    intro c w6 hN
    exact ⟨c, rfl, hN.2, hN.blk, hN.mod _, hN.size⟩
  refine hc6.mono ?_
  rintro _ w6 ⟨c, rfl, hc, hKc, f6, z6⟩
  refine ⟨_, rfl, ?_⟩
  intro D l rec w7 hD hl z7' f7 hmk hrc hY
  have fw7 := (fw5.n f6).n f7
  have hbase : LnJ w b4 b5 b7 b8 D l rec fr to w7.heap.size [] ⟨none, 0, 0⟩ w7 :=
    ⟨(hK4.mod f6 (fun h => h)).mod f7 (fun h => h), (hK5.mod f6 (fun h => h)).mod f7 (fun h => h), (hK7.mod f6 (fun h => h)).mod f7 (fun h => h), (hK8.mod f6 (fun h => h)).mod f7 (fun h => h), by simpa [selL, sv] using Row.nil w7 9 1, fun k hk => by simp [Sl.blk] at hk, hrc, hmk, fw7, Nat.le_refl _⟩
  have hx7 : LpS w7 x s ps := h.mod fw7 (fun _ _ h => h) (fun _ _ h => h)
  have hcall := lines_iter l w7 c x s ps (fun pre W => ∃ t, LnJ w b4 b5 b7 b8 D l rec fr to w7.heap.size pre t W) (fun pre W => ∃ t, LnX w b7 D l rec fr to pre t W) ((hKc.mod f7 (fun h => h)).ld rfl) hx7 hz hn ?_ ?_ ?_ ?_ ⟨_, hbase⟩
  rotate_left 1
  · rintro pre W W' ⟨t, hJ⟩ hf
    exact ⟨t, hJ.mod hf (blk_not hJ.h4 (by decide)) (blk_not hJ.h5 (by decide)) (blk_not hJ.h7 (by decide)) (blk_not hJ.h8 (by decide)) (rec_not hJ.rc) (mark_not hJ.mark) (row_not hJ.row (by decide)) (fun k hk hi => by have := hi.1; omega)⟩
  · rintro pre W W' ⟨t, hJ⟩ hf
    exact ⟨t, hJ.h7.mod hf (blk_not hJ.h7 (by decide)), hJ.row.mod hf (row_not hJ.row (by decide)), hJ.new, hJ.rc.mod hf (rec_not hJ.rc), hJ.mark.mod hf (mark_not hJ.mark), hJ.frm.trans hf (fun _ _ h => h) (fun k hk hi => by have := hi.1; omega), hJ.len⟩
  · rintro pre W ⟨t, hJ⟩
    rcases h with ⟨_, rfl⟩ | ⟨b, _, _, hR⟩
    · exact .inr rfl
    · exact .inl (hR.has.mod hJ.frm (fun _ _ h => h))
  · rintro pre y W R ⟨t, hJ⟩ hpre hR
    refine hY W y R hJ.rc ⟨hJ.rc, ?_⟩
    intro W7 g7 zz7 rec7
    have ne4 : b4 ≠ l := by omega
    have ne5 : b5 ≠ l := by omega
    have ne7 : b7 ≠ l := by omega
    have ne8 : b8 ≠ l := by omega
    have neD : D ≠ l := by omega
    have net : ∀ k, t.blk = some k → k ≠ l := fun k hk e => by
      subst e
      rcases hJ.row.cases with ⟨rfl, _⟩ | ⟨g, cur, ha, hB, _⟩
      · simp [Sl.blk] at hk
      · simp [Sl.blk, ha] at hk
        subst hk
        have h1 := hJ.rc
        unfold RecR at h1
        have h2 : W.heap[g]? = _ := hB
        rw [h2] at h1; cases h1
    have hlw : w.heap.size ≤ l := by omega
    refine ⟨_, (hJ.h8.mod g7 ne8).ld rfl, _, (hJ.h5.mod g7 ne5).ld rfl, IfB.intro (fun hge => ?_) (fun hlt => ?_)⟩
    · have hge := of_decide_eq_true hge
      refine ⟨rec7, fun W8 g8 zz8 rec8 => hR _ W8 ?_ (.inr ⟨rfl, t, ?_⟩)⟩
      · exact g7.trans g8 (fun k _ hk => by have hk : k = l := hk; subst hk; exact rec_not hJ.rc) (fun k _ hk => by have hk : k = l := hk; subst hk; exact rec_not hJ.rc)
      · have g78 : Frm (fun k => k = l) W W8 := g7.trans g8 (fun _ _ h => h) (fun _ _ h => h)
        refine ⟨hJ.h7.mod g78 ne7, ?_, hJ.new, rec8, hJ.mark.mod g78 neD, hJ.frm.b g78 hlw, by simp; omega⟩
        rw [sel_pre (l := pre) (m := pre ++ [y]) (by omega) ⟨_, rfl⟩]
        exact hJ.row.mod g78 (fun k hk => net k hk)
    have hlt := of_decide_eq_false hlt
    have hsl : (selL pre fr to).length ≤ pre.length := by unfold selL; simp; omega
    have hpl : pre.length < 1000000000000 := by
      have h1 := hpre.length_le
      have key : ∀ (a cur : List UInt8), (lns cur a).length ≤ a.length + 1 := by
        intro a
        induction a with
        | nil => intro cur; unfold lns; split <;> simp
        | cons c r ih =>
          intro cur
          unfold lns
          split
          · have := ih []; simp only [List.length_cons]; omega
          · have := ih (cur ++ [c]); simp only [List.length_cons]; omega
      have := key (txt ps) []
      have hh : 0 = 0 := rfl
      rw [txt_len] at this
      simp only [List.length_append, List.length_singleton] at h1
      have key2 : ∀ (a cur : List UInt8), a ≠ [] → (lns cur a).length ≤ a.length := by
        intro a
        induction a with
        | nil => intro cur h; exact absurd rfl h
        | cons c r ih =>
          intro cur _
          unfold lns
          by_cases hr : r = []
          · subst hr
            split
            · simp [lns]
            · simp [lns]
          · split
            · have := ih [] hr; simp only [List.length_cons]; omega
            · have := ih (cur ++ [c]) hr; simp only [List.length_cons]; omega
      by_cases ht : txt ps = []
      · rw [ht] at h1; simp [lns] at h1
      · have := key2 (txt ps) [] ht
        rw [txt_len] at this
        omega
    refine ⟨_, (hJ.h8.mod g7 ne8).ld rfl, _, (hJ.h4.mod g7 ne4).ld rfl, IfB.intro (fun hge => ?_) (fun hlt2 => ?_)⟩
    · have hge := of_decide_eq_true hge
      have hrow7 := hJ.row.mod g7 (fun k hk => net k hk)
      have htl := has_sv hrow7.has
      refine ⟨t, (hJ.h7.mod g7 ne7).ld rfl, runT_lit1 st31 (by decide) rfl ?_⟩
      intro W8 hr8 g8 z8'
      have hx8 : Has W8 ⟨some ⟨W7.heap.size, 0, none⟩, 1, 1⟩ 1 (sv [y]) := hr8.has
      refine runT_append st31 (hrow7.mod g8 (fun _ _ h => h)) hx8 (sv_one _) (by simp only; omega) (by simp only [maxLen]; omega) ?_
      intro q W9 hr9 hl9 hn9 g9
      have k7 := (((hJ.h7.mod g7 ne7).mod g8 (fun h => h)))
      have k8 := (((hJ.h8.mod g7 ne8).mod g8 (fun h => h)))
      have k4 := (((hJ.h4.mod g7 ne4).mod g8 (fun h => h)))
      have k5 := (((hJ.h5.mod g7 ne5).mod g8 (fun h => h)))
      have hrow8 := hrow7.mod g8 (fun _ _ h => h)
      have n7 : t.blk ≠ some b7 := hrow8.g.blkNeB k7.g (by decide)
      have n8 : t.blk ≠ some b8 := hrow8.g.blkNeB k8.g (by decide)
      have n4 : t.blk ≠ some b4 := hrow8.g.blkNeB k4.g (by decide)
      have n5 : t.blk ≠ some b5 := hrow8.g.blkNeB k5.g (by decide)
      have m7 := k7.mod g9 n7
      have m8 := k8.mod g9 n8
      have m4 := k4.mod g9 n4
      have m5 := k5.mod g9 n5
      have q7 : q.blk ≠ some b7 := hr9.g.blkNeB m7.g (by decide)
      have q8 : q.blk ≠ some b8 := hr9.g.blkNeB m8.g (by decide)
      have rec8 := rec7.mod g8 (fun h => h)
      have nl : t.blk ≠ some l := fun e => net l e rfl
      have rec9 := rec8.mod g9 nl
      have ntD : t.blk ≠ some D := fun e => by
        rcases hJ.row.cases with ⟨rfl, _⟩ | ⟨g, cur, ha, hB, _⟩
        · simp [Sl.blk] at e
        · simp [Sl.blk, ha] at e
          subst e
          have h1 := hJ.mark
          unfold MarkR at h1
          have h2 : W.heap[g]? = _ := hB
          rw [h2] at h1; cases h1
      have mark9 := ((hJ.mark.mod g7 neD).mod g8 (fun h => h)).mod g9 ntD
      refine ⟨m7.wr (by show 0 < 1; omega), ?_⟩
      rintro W10 rfl
      have g10 : Frm (fun k => k = b7) W9 (W9.setCell ⟨b7, 0, none⟩ (.slice q.a q.l q.c)) := mod_setCell (a := ⟨b7, 0, none⟩)
      have p7 := m7.set 0 (.slice q.a q.l q.c)
      have p8 := m8.mod g10 (by omega)
      refine ⟨_, p8.ld rfl, p8.wr (by show 0 < 1; omega), ?_⟩
      rintro W11 rfl
      have g11 : Frm (fun k => k = b8) (W9.setCell ⟨b7, 0, none⟩ (.slice q.a q.l q.c)) ((W9.setCell ⟨b7, 0, none⟩ (.slice q.a q.l q.c)).setCell ⟨b8, 0, none⟩ (.int .i64 (IntKind.wrap .i64 ((pre.length : Int) + 1)))) := mod_setCell (a := ⟨b8, 0, none⟩)
      have p8' := p8.set 0 (.int .i64 (IntKind.wrap .i64 ((pre.length : Int) + 1)))
      have p7' := p7.mod g11 (by omega)
      have p4 := (m4.mod g10 (by omega)).mod g11 (by omega)
      have p5 := (m5.mod g10 (by omega)).mod g11 (by omega)
      have prow := (hr9.mod g10 (fun k hk hkb => q7 (by have hkb : k = b7 := hkb; subst hkb; exact hk))).mod g11 (fun k hk hkb => q8 (by have hkb : k = b8 := hkb; subst hkb; exact hk))
      have prec := (rec9.mod g10 (Ne.symm ne7)).mod g11 (Ne.symm ne8)
      have pmark := (mark9.mod g10 (by omega)).mod g11 (by omega)
      have gall : Frm (fun k => k = l ∨ t.blk = some k ∨ k = b7 ∨ k = b8) W _ :=
        ((((g7.trans g8 (H := fun k => k = l ∨ t.blk = some k ∨ k = b7 ∨ k = b8) (fun _ _ h => .inl h) (fun _ _ h => h.elim)).trans g9 (fun _ _ h => h) (fun _ _ h => .inr (.inl h))).trans g10 (fun _ _ h => h) (fun _ _ h => .inr (.inr (.inl h)))).trans g11 (fun _ _ h => h) (fun _ _ h => .inr (.inr (.inr h))))
      refine ⟨prec, fun W12 g12 z12 rec12 => hR _ W12 ?_ (.inl ⟨rfl, q, ?_⟩)⟩
      · refine (gall.trans g12 (fun _ _ h => h) (fun _ _ h => .inl h)).mono fun k _ hk => ?_
        rcases hk with rfl | hk | rfl | rfl
        · exact rec_not hJ.rc
        · exact row_not hJ.row (by decide) k hk
        · exact blk_not hJ.h7 (by decide)
        · exact blk_not hJ.h8 (by decide)
      · have nql : ∀ k, q.blk = some k → k ≠ l := fun k hk e => by
          subst e
          rcases hr9.cases with ⟨rfl, _⟩ | ⟨g, cur, ha, hB, _⟩
          · simp [Sl.blk] at hk
          · simp [Sl.blk, ha] at hk
            subst hk
            have h1 := rec9
            unfold RecR at h1
            have h2 : W9.heap[g]? = _ := hB
            rw [h2] at h1; cases h1
        have hwn : IntKind.wrap .i64 ((pre.length : Int) + 1) = ((pre ++ [y]).length : Int) := by rw [wi _ (by omega)]; simp
        refine ⟨p4.mod g12 ne4, p5.mod g12 ne5, p7'.mod g12 ne7, ?_, ?_, ?_, rec12, pmark.mod g12 neD, ?_, ?_⟩
        · rw [← hwn]; exact p8'.mod g12 ne8
        · rw [sel_add y (by omega) (by omega)]
          have e : sv (selL pre fr to ++ [y]) = sv (selL pre fr to) ++ sv [y] := by simp [sv]
          rw [e]
          exact prow.mod g12 nql
        · exact hJ.new.near (w2 := W9) hn9 (by have := hJ.frm.size; have := g7.size; have := g8.size; omega)
        · refine hJ.frm.trans (gall.trans g12 (fun _ _ h => h) (fun _ _ h => .inl h)) (fun _ _ h => h) (fun k hk hf => ?_)
          rcases hf with rfl | hf | rfl | rfl
          · omega
          · have := hJ.new k hf; omega
          · omega
          · omega
        · have := gall.size; have := hJ.size; have := g12.size; omega
    · have hlt2 := of_decide_eq_false hlt2
      have k8 := hJ.h8.mod g7 ne8
      refine ⟨_, k8.ld rfl, k8.wr (by show 0 < 1; omega), ?_⟩
      rintro W8 rfl
      have g8 : Frm (fun k => k = b8) W7 (W7.setCell ⟨b8, 0, none⟩ (.int .i64 (IntKind.wrap .i64 ((pre.length : Int) + 1)))) := mod_setCell (a := ⟨b8, 0, none⟩)
      have k8' := k8.set 0 (.int .i64 (IntKind.wrap .i64 ((pre.length : Int) + 1)))
      refine ⟨rec7.mod g8 (Ne.symm ne8), fun W9 g9 z9 rec9 => ?_⟩
      have gall : Frm (fun k => k = l ∨ k = b8) W W9 := (g7.trans g8 (H := fun k => k = l ∨ k = b8) (fun _ _ h => .inl h) (fun _ _ h => .inr h)).trans g9 (fun _ _ h => h) (fun _ _ h => .inl h)
      refine hR _ W9 (gall.mono fun k _ hk => ?_) (.inl ⟨rfl, t, ?_⟩)
      · rcases hk with rfl | rfl
        · exact rec_not hJ.rc
        · exact blk_not hJ.h8 (by decide)
      · have n8 : t.blk ≠ some b8 := hJ.row.g.blkNeB hJ.h8.g (by decide)
        have hwn : IntKind.wrap .i64 ((pre.length : Int) + 1) = ((pre ++ [y]).length : Int) := by rw [wi _ (by omega)]; simp
        refine ⟨hJ.h4.mod gall (by omega), hJ.h5.mod gall (by omega), hJ.h7.mod gall (by omega), ?_, ?_, hJ.new, rec9, hJ.mark.mod gall (by omega), ?_, ?_⟩
        · rw [← hwn]; exact k8'.mod g9 ne8
        · rw [sel_skip y (by omega) (by omega)]
          refine hJ.row.mod gall (fun k hk hf => ?_)
          rcases hf with rfl | rfl
          · exact net _ hk rfl
          · exact n8 hk
        · exact hJ.frm.trans gall (fun _ _ h => h) (fun k hk hf => by rcases hf with rfl | rfl <;> omega)
        · have := gall.size; have := hJ.size; omega
  refine (show RangeCall prog (.func (.func 60) #[] #[.pointer (some ⟨c, 0, none⟩)]) l w7 _ from ?_)
  have hb60 : hasBody prog 60 = true := by kernel_rfl
  unfold RangeCall
  simp only [hb60]
  refine hcall.mono ?_
  rintro _ w8 ⟨rfl, hfin⟩
  refine ⟨_, rfl, ?_⟩
  have fin : ∀ (t : Sl) (W : World), Blk W b7 #[.slice t.a t.l t.c] 31 → Row W t 9 1 (sv (selL (lns [] (txt ps)) fr to)) → New w t → MarkR W D → Frm none_ w W → RecR W l rec .ready none ∨ RecR W l rec .done (some (.exit 0)) → ∀ w3, Frm (fun b => b = l) W w3 → w3.heap.size = W.heap.size →
      ∃ t25 : Sl, Ld w3 (⟨b7, 0, none⟩ : Addr) (.slice t25.a t25.l t25.c) ∧ RetD ([D] : List Nat) w3 fun w1_7 => ∃ r : Sl, Value.slice t25.a t25.l t25.c = .slice r.a r.l r.c ∧ Row w1_7 r 9 1 (sv (selL (lns [] (txt ps)) fr to)) ∧ New w r ∧ Frm none_ w w1_7 := by
    intro t W k7 row new mark frm hrec w9 g9 z9
    have nl : ∀ k, t.blk = some k → k ≠ l := fun k hk e => by
      subst e
      rcases row.cases with ⟨rfl, _⟩ | ⟨g, cur, ha, hB, _⟩
      · simp [Sl.blk] at hk
      · simp [Sl.blk, ha] at hk
        subst hk
        have h2 : W.heap[g]? = _ := hB
        rcases hrec with h1 | h1 <;> (unfold RecR at h1; rw [h2] at h1; cases h1)
    have nD : ∀ k, t.blk = some k → k ≠ D := fun k hk e => by
      subst e
      rcases row.cases with ⟨rfl, _⟩ | ⟨g, cur, ha, hB, _⟩
      · simp [Sl.blk] at hk
      · simp [Sl.blk, ha] at hk
        subst hk
        have h2 : W.heap[g]? = _ := hB
        have h1 := mark
        unfold MarkR at h1
        rw [h2] at h1; cases h1
    refine ⟨t, (k7.mod g9 (by omega)).ld rfl, mark.mod g9 (by omega), fun w10 g10 z10 => ⟨t, rfl, (row.mod g9 nl).mod g10 nD, new, (frm.b g9 (by omega)).b g10 (by omega)⟩⟩
  rcases hfin with ⟨t, hJ⟩ | ⟨pre, hpre, t, hX⟩
  · exact .inl ⟨hJ.rc, fin t w8 hJ.h7 hJ.row hJ.new hJ.mark hJ.frm (.inl hJ.rc)⟩
  · refine .inr ⟨hX.rc, fin t w8 hX.h7 ?_ hX.new hX.mark hX.frm (.inr hX.rc)⟩
    rw [sel_pre hX.len hpre]
    exact hX.row
end Go.Proofs.Ytmcdeldjgfapbaa
