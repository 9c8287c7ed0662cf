/- Logs in memory: the program's and the document's, loaded. -/
import Derived.Test.YtmcdeldjgfapbaaLo
import Derived.Test.YtmcdeldjgfapbaaShelf
set_option linter.unusedVariables false
set_option linter.unusedSimpArgs false
set_option maxRecDepth 20000
namespace Go.Proofs.Ytmcdeldjgfapbaa
open Go Go.Proofs.YtmcdeldjgfapbaaV
theorem Frm.of_below {w w' : World} (h : RowKit.Below w.heap.size w w') : Frm none_ w w' := ⟨h.os, h.tape, h.output, h.size, fun b hb _ => h.block b hb⟩
/-- A log in memory, all of it from block B on. -/
def LpN (B : Nat) (w : World) (b : Nat) (ps : List ByteArray) : Prop := ∃ s : Sl, B ≤ b ∧ (∀ k, s.blk = some k → B ≤ k) ∧ Blk w b #[.slice s.a s.l s.c, .int .i64 (szs ps : Int)] 63 ∧ Row w s 9 1 (sv ps)
theorem LpN.mod {B : Nat} {F : Nat → Prop} {w w' : World} {b : Nat} {ps : List ByteArray} (h : LpN B w b ps) (hm : Frm F w w') (hn : ∀ k, B ≤ k → ¬ F k) : LpN B w' b ps := by
  obtain ⟨s, h1, h2, h3, h4⟩ := h
  exact ⟨s, h1, h2, h3.mod hm (hn b h1), h4.mod hm (fun k hk => hn k (h2 k hk))⟩
theorem LpN.n {B : Nat} {w w' : World} {b : Nat} {ps : List ByteArray} (h : LpN B w b ps) (hm : Frm none_ w w') : LpN B w' b ps := h.mod hm (fun _ _ h => h)
theorem LpN.lower {B B' : Nat} {w : World} {b : Nat} {ps : List ByteArray} (h : LpN B w b ps) (hB : B' ≤ B) : LpN B' w b ps := by
  obtain ⟨s, h1, h2, h3, h4⟩ := h
  exact ⟨s, by omega, fun k hk => by have := h2 k hk; omega, h3, h4⟩
theorem clone_str (w : World) (x : ByteArray) (hx : x.size ≤ 281474976710656) : Calls prog 56 #[.string x] w fun e w' => e = .returned (.string x) ∧ Frm none_ w w' := by
  refine calls_ret (W56 (Q := fun v w' => v = .string x ∧ Frm none_ w w') ?_) (fun v w' ⟨h, h'⟩ => ⟨by rw [h], h'⟩)
  unfold F56
  refine (Try.stringslite_Clone x w hx).mono ?_
  rintro _ w1 ⟨rfl, hb⟩
  exact ⟨x, rfl, rfl, Frm.of_below hb⟩
theorem keep_calls (B : Nat) (w : World) (b : Nat) (ps : List ByteArray) (x : ByteArray) (h : LpN B w b ps) (hB : B ≤ w.heap.size) (hps : ps.length ≤ 100000) (hx : x.size ≤ 281474976710656) (hsz : szs ps ≤ 281474976710656) :
    Calls prog 40 #[.pointer (some ⟨b, 0, none⟩), .string x] w fun e w' => e = .returned (.tuple #[]) ∧ LpN B w' b (ps ++ [x]) ∧ Frm (fun k => B ≤ k) w w' := by
  refine calls_ret (W40 (x0 := some ⟨b, 0, none⟩) (Q := fun v w' => v = .tuple #[] ∧ LpN B w' b (ps ++ [x]) ∧ Frm (fun k => B ≤ k) w w') ?_) (fun v w' ⟨h, h'⟩ => ⟨by rw [h], h'⟩)
  obtain ⟨s, h1, h2, hK, hR⟩ := h
  have hl := has_sv hR.has
  unfold F40
  refine ⟨fun w' => Frm none_ w w', frm_drew w, ⟨b, 0, none⟩, rfl, s, fun w' hf => (hK.mod hf (fun h => h)).ld rfl, (clone_str w.drew x hx).mono ?_⟩
  rintro _ w1 ⟨rfl, f1⟩
  have f1 := f1.ofDrew
  refine ⟨x, rfl, f1, runT_lit1 st31 (by decide) rfl ?_⟩
  intro w2 hr2 f2 z2
  have f12 := f1.n f2
  refine ⟨f12, ?_⟩
  have hx2 : Has w2 ⟨some ⟨w1.heap.size, 0, none⟩, 1, 1⟩ 1 (sv [x]) := hr2.has
  refine runT_append st31 (hR.mod f12 (fun _ _ h => h)) hx2 (sv_one _) (by simp only; omega) (by simp only [maxLen]; omega) ?_
  intro t w3 hr3 hl3 hn3 f3
  have hne : s.blk ≠ some b := hR.g.blkNeB hK.g (by decide)
  have hK3 := (hK.mod f12 (fun h => h)).mod f3 hne
  refine ⟨⟨b, 0, none⟩, rfl, hK3.wr (by show 0 < 2; omega), ?_⟩
  rintro w4 rfl
  have hK4 := hK3.set 0 (.slice t.a t.l t.c)
  refine ⟨⟨b, 0, none⟩, rfl, (szs ps : Int), hK4.ld rfl, ⟨b, 0, none⟩, rfl, hK4.wr (by show 1 < 2; omega), ?_⟩
  rintro w5 rfl
  have hK5 := hK4.set 1 (.int .i64 (IntKind.wrap .i64 ((szs ps : Int) + (x.size : Int))))
  have hne3 : t.blk ≠ some b := hr3.g.blkNeB hK3.g (by decide)
  have f123 : Frm (fun k => B ≤ k) w w3 := f12.trans f3 (fun _ _ h => h.elim) (fun k _ h => h2 k h)
  have f5 : Frm (fun k => k = b) w3 ((w3.setCell ⟨b, 0, none⟩ (.slice t.a t.l t.c)).setCell ⟨b, 1, none⟩ (.int .i64 (IntKind.wrap .i64 ((szs ps : Int) + (x.size : Int))))) := mod_setCell.trans mod_setCell (fun _ _ h => h) (fun _ _ h => h)
  refine ⟨rfl, ⟨t, h1, ?_, ?_, ?_⟩, f123.trans f5 (fun _ _ h => h) (fun k _ h => by have h : k = b := h; subst h; exact h1)⟩
  · intro k hk
    rcases hn3.cases hk with hk | rfl
    · exact h2 k hk
    · have := f12.size; omega
  · have hw : IntKind.wrap .i64 ((szs ps : Int) + (x.size : Int)) = ((szs ps + x.size : Nat) : Int) := by rw [wi _ (by omega)]; omega
    rw [szs_snoc, ← hw]
    exact hK5
  · have e : sv (ps ++ [x]) = sv ps ++ sv [x] := by simp [sv]
    rw [e]
    exact hr3.mod f5 (fun k hk hkb => hne3 (by have hkb : k = b := hkb; subst hkb; exact hk))
theorem b63L : BuildIs prog 63 #[] #[.slice none 0 0, .int .i64 0] := fun w => by kernel_rfl
theorem cnt_cases (lb : List UInt8) : (cnt lb 64 = none ∧ ldOf lb = none) ∨ ∃ (N : Nat) (r : List UInt8), cnt lb 64 = some (N, (gb N).length) ∧ lb.drop (gb N).length = r ∧ Off lb N [] r := by
  cases h : cnt lb 64 with
  | none =>
    left
    refine ⟨rfl, ldOf_none fun qs hq e => ?_⟩
    unfold saveL at e
    have := hq.n
    rw [cb_gb (by omega)] at e
    rw [← e, cnt_some (num_gb (u := qs.length) (by omega) (qs.flatMap sb)) (m := 64) (by omega) (by omega)] at h
    cases h
  | some un =>
    obtain ⟨u, k⟩ := un
    obtain ⟨hn, hu1, hu2⟩ := cnt_num h
    obtain ⟨n1, n2, n3⟩ := num_some hn
    right
    refine ⟨u, lb.drop (gb u).length, by rw [n2], rfl, ⟨by omega, by simp, by simp, ?_⟩⟩
    rw [n2] at n3
    simpa using n3
/-- What Load tells. -/
def Loaded (B : Nat) (w : World) (lb : List UInt8) (v : Value) : Prop := (∃ b ps, v = .tuple #[.pointer (some ⟨b, 0, none⟩), .int .i64 0] ∧ ldOf lb = some ps ∧ LpN B w b ps) ∨ (v = .tuple #[.pointer none, .int .i64 4] ∧ ldOf lb = none)
theorem szs_le {ps : List ByteArray} {n : Nat} (h : ∀ p ∈ ps, p.size ≤ n) : szs ps ≤ ps.length * n := by
  induction ps with
  | nil => simp [szs]
  | cons p ps ih =>
    have h1 := h p (by simp)
    have h2 := ih (fun q hq => h q (by simp [hq]))
    simp only [szs, List.map_cons, List.sum_cons, List.length_cons, Nat.add_mul] at h2 ⊢
    omega
theorem load_calls (w : World) (b : Sl) (lb : List UInt8) (hb : Has w b 1 (bv lb)) (hsz : b.l ≤ 1000000000000) :
    Calls prog 11 #[.slice b.a b.l b.c] w fun e w' => ∃ v, e = .returned v ∧ Loaded w.heap.size w' lb v ∧ Frm none_ w w' := by
  refine calls_ret (W11 (x0 := b) (Q := fun v w' => Loaded w.heap.size w' lb v ∧ Frm none_ w w') ?_) (fun v w' h => ⟨v, rfl, h⟩)
  unfold F11
  refine (newReader_calls w b lb hb hsz).mono ?_
  rintro _ w1 ⟨k, rfl, hk, hrd, f1⟩
  refine ⟨_, rfl, _, b63L, ?_⟩
  intro b10 w2 hN
  have f2 : Frm none_ w1 w2 := hN.mod _
  have hklt : k < w1.heap.size := by obtain ⟨s, a, hB, _⟩ := hrd; exact hB.lt
  have hb10 : b10 = w1.heap.size := hN.2
  have hrq : RdQ w2 (some ⟨k, 0, none⟩) (some lb) := (show RdQ w1 (some ⟨k, 0, none⟩) (some lb) from .inr ⟨k, rfl, hrd⟩).mod f2 (fun _ _ h => h)
  have hL2 : LpN w1.heap.size w2 b10 [] := ⟨⟨none, 0, 0⟩, by omega, fun k hk => by simp [Sl.blk] at hk, hN.blk, Row.nil _ _ _⟩
  have f12 := f1.n f2
  have hofk : ∀ j, Of (some (⟨k, 0, none⟩ : Addr)) j → j = k := fun j hj => by simp [Of] at hj; exact hj.symm
  refine (count_read w2 _ _ 64 hrq).mono ?_
  rintro _ w3 ⟨rfl, hrq3, f3⟩
  have f13 : Frm none_ w w3 := f12.b (f3.mono (fun j _ h => hofk j h)) hk
  have hL3 : LpN w1.heap.size w3 b10 [] := hL2.mod f3 (fun j hj h => by have := hofk j h; omega)
  rcases cnt_cases lb with ⟨hc, hld⟩ | ⟨N, r, hc, hdr, hoff⟩
  · have e3 : countR 64 (some lb) = (0, none) := by simp only [countR, hc]
    rw [e3] at hrq3 ⊢
    refine ⟨0, rfl, fun _ x w' => x = 0 ∧ w' = w3, 0, ⟨rfl, rfl⟩, ?_⟩
    rintro n u x w' ⟨rfl, rfl⟩
    refine IfB.df (by omega) ((done_calls w' _ _ hrq3).mono ?_)
    rintro _ w4 ⟨rfl, f4⟩
    exact ⟨_, rfl, IfB.t rfl ⟨.inr ⟨rfl, hld⟩, f13.n f4⟩⟩
  · have e3 : countR 64 (some lb) = ((N : Int), some r) := by simp only [countR, hc, hdr]
    rw [e3] at hrq3 ⊢
    have hN64 := hoff.nb
    refine ⟨(N : Int), rfl, fun n x w' => ∃ (ps : List ByteArray) (rest : List UInt8), x = (ps.length : Int) ∧ n = N - ps.length ∧ Off lb N ps rest ∧ RdQ w' (some ⟨k, 0, none⟩) (some rest) ∧ LpN w1.heap.size w' b10 ps ∧ Frm none_ w w' ∧ w1.heap.size ≤ w'.heap.size, N, ⟨[], r, rfl, rfl, hoff, hrq3, hL3, f13, by have := f2.size; have := f3.size; omega⟩, ?_⟩
    rintro n u x w4 ⟨ps, rest, rfl, rfl, ho, hq4, hL4, f4, hs4⟩
    have hple := ho.le
    refine IfB.intro (fun hlt => ?_) (fun hge => ?_)
    · have hlt := of_decide_eq_true hlt
      refine (str_read w4 _ _ 256 hq4).mono ?_
      rintro _ w5 ⟨rfl, hq5, f5⟩
      have f45 : Frm none_ w w5 := f4.b (f5.mono (fun j _ h => hofk j h)) hk
      have hL5 : LpN w1.heap.size w5 b10 ps := hL4.mod f5 (fun j hj h => by have := hofk j h; omega)
      refine ⟨_, rfl, ?_⟩
      rcases str_took rest with ⟨he, hbad⟩ | ⟨p, t, hp1, hp2, erest, es⟩
      · rw [he]
        exact IfB.t ((str_eqIff _ _).2 rfl) ⟨.inr ⟨rfl, ho.bad (by omega) hbad⟩, f45⟩
      · rw [es] at hq5 ⊢
        simp only [str_list]
        refine IfB.f ?_ ?_
        · cases hh : p.toList == (⟨#[]⟩ : ByteArray).toList with
          | false => rfl
          | true =>
            have := (str_eqIff _ _).1 hh
            rw [this] at hp1
            exact absurd hp1 (by decide)
        have hzs := szs_le (fun q hq => (ho.each q hq).2)
        refine (keep_calls w1.heap.size w5 b10 ps p hL5 (by have := f5.size; omega) (by omega) (by omega) (by omega)).mono ?_
        rintro _ w6 ⟨rfl, hL6, f6⟩
        refine ⟨rfl, N - (ps.length + 1), by omega, ps ++ [p], t, by rw [List.length_append, List.length_singleton, wi _ (by omega)]; omega, by simp, ho.next (by omega) ⟨hp1, hp2⟩ erest, ?_, hL6, ?_, by have := f5.size; have := f6.size; omega⟩
        · exact hq5.mod f6 (fun j hj h => by have := hofk j hj; omega)
        · exact f45.trans f6 (fun _ _ h => h) (fun j hj h => by have := f1.size; omega)
    · have hge := of_decide_eq_false hge
      refine (done_calls w4 _ _ hq4).mono ?_
      rintro _ w5 ⟨rfl, f5⟩
      refine ⟨_, rfl, ?_⟩
      have hpl : ps.length = N := by omega
      by_cases hr : rest = []
      · subst hr
        obtain ⟨h1, h2⟩ := ho.done hpl
        refine IfB.f rfl ⟨.inl ⟨b10, ps, rfl, ldOf_some h1 h2, (hL4.n f5).lower f1.size⟩, f4.n f5⟩
      · refine IfB.t ?_ ⟨.inr ⟨rfl, ho.rest hpl hr⟩, f4.n f5⟩
        simp only [doneR]
        cases rest with
        | nil => exact absurd rfl hr
        | cons a r => rfl
/-! ### The document's -/
theorem num42_calls (w : World) (b : Sl) (lb : List UInt8) (hb : Has w b 1 (bv lb)) (hlc : b.l ≤ maxLen) (i : Nat) :
    Calls prog 42 #[.slice b.a b.l b.c, .int .i64 (i : Int)] w fun e w' => e = .returned (.tuple #[.int .i64 (nm (lb.drop i)).1, .int .i64 (nm (lb.drop i)).2]) ∧ Frm none_ w w' := by
  refine calls_ret (W42 (x0 := b) (x1 := (i : Int)) (Q := fun v w' => v = .tuple #[.int .i64 (nm (lb.drop i)).1, .int .i64 (nm (lb.drop i)).2] ∧ Frm none_ w w') ?_) (fun v w' ⟨h, h'⟩ => ⟨by rw [h], h'⟩)
  have hl : lb.length = b.l := by have := hb.len; rw [bv_length] at this; omega
  simp only [maxLen] at hlc
  have hat : ∀ {j : Nat}, j < b.l → ∃ q c, b.a = some q ∧ lb[j]? = some c ∧ Ld w (q.add ((j : Int).toNat * 1)) (.int .u8 (c.toNat : Int)) := by
    intro j hj
    obtain ⟨q, v, hq, hv, hld⟩ := hb.at1 (i := (j : Int)) (by omega) (by omega)
    rw [Int.toNat_natCast] at hv
    obtain ⟨c, hc, rfl⟩ := bv_get hv
    exact ⟨q, c, hq, hc, hld⟩
  unfold F42
  refine IfB.intro (fun hge => ?_) (fun hlt => ?_)
  · have hge := of_decide_eq_true hge
    rw [List.drop_of_length_le (by omega)]
    exact ⟨rfl, Frm.refl _ _⟩
  have hlt := of_decide_eq_false hlt
  obtain ⟨q, c, hq, hc, hld⟩ := hat (j := i) (by omega)
  have hcl := c.toNat_lt
  have ed : lb.drop i = c :: lb.drop (i + 1) := by
    rw [List.drop_eq_getElem_cons (by omega)]
    rw [List.getElem?_eq_some_iff] at hc
    obtain ⟨_, hc⟩ := hc
    rw [hc]
  refine ⟨q, hq, by omega, by omega, _, hld, IfB.intro (fun h1 => ?_) (fun h1 => ?_)⟩
  · have h1 := of_decide_eq_true h1
    refine ⟨q, hq, by omega, by omega, _, hld, ?_, Frm.refl _ _⟩
    rw [ed]
    simp only [nm]
    rw [if_pos (by omega), wi _ (by omega)]
  have h1 := of_decide_eq_false h1
  have ei : IntKind.wrap .i64 ((i : Int) + 1) = ((i + 1 : Nat) : Int) := by rw [wi _ (by omega)]; omega
  rw [ei]
  refine ⟨fun c' w' => w' = w ∧ (c' = true ∧ nm (lb.drop i) = (0, 0) ∨ c' = false ∧ ∃ d, i + 1 < b.l ∧ lb[i + 1]? = some d ∧ nm (lb.drop i) = ((c.toNat : Int) - 128 + 128 * (d.toNat : Int), 2)), IfB.intro (fun h2 => ?_) (fun h2 => ?_), ?_⟩
  · have h2 := of_decide_eq_true h2
    refine ⟨rfl, .inl ⟨rfl, ?_⟩⟩
    rw [ed, List.drop_of_length_le (by omega)]
    simp only [nm]
    rw [if_neg (by omega)]
  · have h2 := of_decide_eq_false h2
    obtain ⟨q', d, hq', hd, hld'⟩ := hat (j := i + 1) (by omega)
    have ed2 : lb.drop (i + 1) = d :: lb.drop (i + 1 + 1) := by
      rw [List.drop_eq_getElem_cons (by omega)]
      have hd := hd
      rw [List.getElem?_eq_some_iff] at hd
      obtain ⟨_, hd⟩ := hd
      rw [hd]
    have hdl := d.toNat_lt
    refine ⟨q', hq', by omega, by omega, _, hld', IfB.intro (fun h3 => ?_) (fun h3 => ?_)⟩
    · have h3 : (d.toNat : Int) = 0 := by simpa using h3
      refine ⟨rfl, .inl ⟨rfl, ?_⟩⟩
      rw [ed, ed2]
      simp only [nm]
      rw [if_neg (by omega), if_pos (by omega)]
    · have h3 : ¬ (d.toNat : Int) = 0 := by simpa using h3
      refine ⟨q', hq', by omega, by omega, _, hld', rfl, ?_⟩
      by_cases h4 : 128 ≤ d.toNat
      · refine .inl ⟨decide_eq_true (by omega), ?_⟩
        rw [ed, ed2]
        simp only [nm]
        rw [if_neg (by omega), if_pos (by omega)]
      · refine .inr ⟨decide_eq_false (by omega), d, by omega, hd, ?_⟩
        rw [ed, ed2]
        simp only [nm]
        rw [if_neg (by omega), if_neg (by omega)]
  rintro u c' w' ⟨rfl, ⟨rfl, e⟩ | ⟨rfl, d, hlt2, hd, e⟩⟩
  · refine IfB.t rfl ⟨by rw [e], Frm.refl _ _⟩
  · have hdl := d.toNat_lt
    obtain ⟨q', d', hq', hd', hld'⟩ := hat (j := i + 1) (by omega)
    rw [hd] at hd'; cases hd'
    refine IfB.f rfl ⟨q, hq, by omega, by omega, _, hld, q', hq', by omega, by omega, _, hld', ?_, frm_drew _⟩
    rw [e, wi (c.toNat : Int) (by omega), wi (d.toNat : Int) (by omega), wi (128 * (d.toNat : Int)) (by omega), wi ((c.toNat : Int) - 128) (by omega), wi _ (by omega)]
end Go.Proofs.Ytmcdeldjgfapbaa
