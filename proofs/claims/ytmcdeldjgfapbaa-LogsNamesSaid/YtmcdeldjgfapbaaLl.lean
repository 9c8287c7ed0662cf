/- The document's Load; what a log tells; the law LogsLoads. -/
import Derived.Test.YtmcdeldjgfapbaaLm
set_option linter.unusedVariables false
set_option linter.unusedSimpArgs false
set_option maxRecDepth 20000
namespace Go.Proofs.Ytmcdeldjgfapbaa
open Go Go.Proofs.YtmcdeldjgfapbaaV
/-- A document's log in memory. -/
def DpN (B : Nat) (w : World) (b : Nat) (ps : List ByteArray) : Prop := ∃ s : Sl, B ≤ b ∧ (∀ k, s.blk = some k → B ≤ k) ∧ Blk w b #[.slice s.a s.l s.c] 34 ∧ Row w s 9 1 (sv ps)
theorem DpN.mod {B : Nat} {F : Nat → Prop} {w w' : World} {b : Nat} {ps : List ByteArray} (h : DpN B w b ps) (hm : Frm F w w') (hn : ∀ k, B ≤ k → ¬ F k) : DpN B w' b ps := by
  obtain ⟨s, h1, h2, h3, h4⟩ := h
  exact ⟨s, h1, h2, h3.mod hm (hn b h1), h4.mod hm (fun k hk => hn k (h2 k hk))⟩
theorem DpN.n {B : Nat} {w w' : World} {b : Nat} {ps : List ByteArray} (h : DpN B w b ps) (hm : Frm none_ w w') : DpN B w' b ps := h.mod hm (fun _ _ h => h)
theorem DpN.lower {B B' : Nat} {w : World} {b : Nat} {ps : List ByteArray} (h : DpN B w b ps) (hB : B' ≤ B) : DpN B' w b ps := by
  obtain ⟨s, h1, h2, h3, h4⟩ := h
  exact ⟨s, by omega, fun k hk => by have := h2 k hk; omega, h3, h4⟩
def LoadedD (B : Nat) (w : World) (lb : List UInt8) (v : Value) : Prop := (∃ b ps, v = .tuple #[.pointer (some ⟨b, 0, none⟩), .int .i64 0] ∧ ldOf lb = some ps ∧ DpN B w b ps) ∨ (v = .tuple #[.pointer none, .int .i64 4] ∧ ldOf lb = none)
theorem b34L : BuildIs prog 34 #[] #[.slice none 0 0] := fun w => by kernel_rfl
theorem sb_split {p : ByteArray} {t r : List UInt8} {u : Nat} (hu : u < 16384) (hp : p.size ≤ 256) (h : gb u ++ r = sb p ++ t) : u = p.size ∧ r = p.data.toList ++ t := by
  rw [sb_gb (by omega), List.append_assoc] at h
  exact gb_inj (by omega) (by omega) h
theorem loadD_calls (w : World) (b : Sl) (lb : List UInt8) (hb : Has w b 1 (bv lb)) (hlc : b.l ≤ b.c) (hc : b.c ≤ maxLen) (hsz : b.l ≤ 1000000000000) :
    Calls prog 12 #[.slice b.a b.l b.c] w fun e w' => ∃ v, e = .returned v ∧ LoadedD w.heap.size w' lb v ∧ Frm none_ w w' := by
  refine calls_ret (W12 (x0 := b) (Q := fun v w' => LoadedD w.heap.size w' lb v ∧ Frm none_ w w') ?_) (fun v w' h => ⟨v, rfl, h⟩)
  have hl : lb.length = b.l := by have := hb.len; rw [bv_length] at this; omega
  simp only [maxLen] at hc
  unfold F12
  refine (num42_calls w b lb hb (by simp only [maxLen]; omega) 0).mono ?_
  rintro _ w1 ⟨rfl, f1⟩
  refine ⟨_, _, rfl, ?_⟩
  rw [List.drop_zero]
  refine ⟨fun c w' => w' = w1 ∧ (c = true ∧ ldOf lb = none ∨ c = false ∧ ∃ N r, Off lb N [] r ∧ nm lb = ((N : Int), ((gb N).length : Int))), ?_, ?_⟩
  · rcases nm_cases lb with ⟨h2, hbad⟩ | ⟨u, r, hu, e, h⟩
    · refine IfB.t (by simp [h2]) ⟨rfl, .inl ⟨rfl, ldOf_none fun qs hq e => ?_⟩⟩
      have := hq.n
      unfold saveL at e
      rw [cb_gb (by omega)] at e
      exact hbad qs.length _ (by omega) e.symm
    · have hgp := gb_pos u
      rw [h]
      refine IfB.f (beq_eq_false_iff_ne.2 (by show ¬ ((gb u).length : Int) = 0; omega)) ⟨rfl, ?_⟩
      by_cases h64 : u ≤ 64
      · exact .inr ⟨decide_eq_false (by simp only; omega), u, r, ⟨h64, by simp, by simp, by simpa using e⟩, rfl⟩
      · refine .inl ⟨decide_eq_true (by simp only; omega), ldOf_none fun qs hq e' => ?_⟩
        have := hq.n
        unfold saveL at e'
        rw [cb_gb (by omega), e] at e'
        have := (gb_inj (by omega) (by omega) e').1
        omega
  rintro u c w1' ⟨rfl, ⟨rfl, hld⟩ | ⟨rfl, N, r, hoff, hnm⟩⟩
  · exact IfB.t rfl ⟨.inr ⟨rfl, hld⟩, f1⟩
  refine IfB.f rfl ⟨_, b34L, ?_⟩
  intro b22 w2 hN
  have f2 : Frm none_ w1' w2 := hN.mod _
  have f12 := f1.n f2
  have hb22 : b22 = w1'.heap.size := hN.2
  have hN64 := hoff.nb
  have hgp := gb_pos N
  rw [hnm]
  have hlbN : (gb N).length ≤ lb.length := by rw [hoff.eq]; simp
  have hdN : lb.drop (gb N).length = r := by rw [hoff.eq]; simp
  refine ⟨fun n x5 x7 w' => ∃ (at_ : Nat) (ps : List ByteArray), x5 = (at_ : Int) ∧ x7 = (ps.length : Int) ∧ n = N - ps.length ∧ at_ ≤ lb.length ∧ Off lb N ps (lb.drop at_) ∧ DpN w1'.heap.size w' b22 ps ∧ Frm none_ w w' ∧ w1'.heap.size ≤ w'.heap.size, N, ⟨(gb N).length, [], rfl, rfl, rfl, hlbN, by rw [hdN]; exact hoff, ⟨⟨none, 0, 0⟩, by omega, fun k hk => by simp [Sl.blk] at hk, hN.blk, Row.nil _ _ _⟩, f12, f2.size⟩, ?_⟩
  rintro n u1 x5 x7 w3 ⟨at_, ps, rfl, rfl, rfl, hat, ho, hD3, f3, hs3⟩
  have hple := ho.le
  refine IfB.intro (fun hlt => ?_) (fun hge => ?_)
  · have hlt := of_decide_eq_true hlt
    simp only at hlt
    have hb3 := hb.mod f3 (fun _ _ h => h)
    refine (num42_calls w3 b lb hb3 (by simp only [maxLen]; omega) at_).mono ?_
    rintro _ w4 ⟨rfl, f4⟩
    have f34 := f3.n f4
    refine ⟨_, _, rfl, fun c w' => w' = w4 ∧ (c = true ∧ ldOf lb = none ∨ c = false ∧ ∃ (v : Nat) (t : List UInt8), 1 ≤ v ∧ v ≤ 256 ∧ lb.drop at_ = gb v ++ t ∧ v ≤ t.length ∧ nm (lb.drop at_) = ((v : Int), ((gb v).length : Int))), ?_, ?_⟩
    · rcases nm_cases (lb.drop at_) with ⟨h2, hbad⟩ | ⟨v, t, hv, e, h⟩
      · refine IfB.t (by simp [h2]) ⟨rfl, .inl ⟨rfl, ho.bad (by omega) fun p t hp1 hp2 e => ?_⟩⟩
        rw [sb_gb (by omega), List.append_assoc] at e
        exact hbad _ _ (by omega) e
      · have hgv := gb_pos v
        have hlen : lb.length - at_ = (gb v).length + t.length := by
          have := congrArg List.length e
          rwa [List.length_drop, List.length_append] at this
        rw [h]
        refine IfB.f (beq_eq_false_iff_ne.2 (by show ¬ ((gb v).length : Int) = 0; omega)) ?_
        have hsp : ∀ (p : ByteArray) (t' : List UInt8), p.size ≤ 256 → lb.drop at_ = sb p ++ t' → v = p.size ∧ p.size ≤ t.length := by
          intro p t' hp e'
          obtain ⟨h1, h2⟩ := sb_split (t := t') hv hp (by rw [← e, ← e'])
          refine ⟨h1, ?_⟩
          have : p.data.toList.length = p.size := Array.length_toList
          rw [h2, List.length_append]; omega
        refine IfB.intro (fun h1 => ⟨rfl, .inl ⟨rfl, ho.bad (by omega) fun p t' hp1 hp2 e' => ?_⟩⟩) (fun h1 => ?_)
        · have h1 := of_decide_eq_true h1
          have := (hsp p t' hp2 e').1
          simp only at h1; omega
        have h1 := of_decide_eq_false h1
        refine IfB.intro (fun h2 => ⟨rfl, .inl ⟨rfl, ho.bad (by omega) fun p t' hp1 hp2 e' => ?_⟩⟩) (fun h2 => ?_)
        · have h2 := of_decide_eq_true h2
          have := (hsp p t' hp2 e').1
          simp only at h2; omega
        have h2 := of_decide_eq_false h2
        simp only at h1 h2
        have ew : IntKind.wrap .i64 ((IntKind.wrap .i64 (((b.l : Nat) : Int) - (at_ : Int))) - ((gb v).length : Int)) = (t.length : Int) := by
          rw [wi (((b.l : Nat) : Int) - (at_ : Int)) (by omega), wi _ (by omega)]; omega
        refine ⟨rfl, ?_⟩
        by_cases h3 : v ≤ t.length
        · exact .inr ⟨decide_eq_false (by simp only; rw [ew]; omega), v, t, by omega, by omega, e, h3, rfl⟩
        · refine .inl ⟨decide_eq_true (by simp only; rw [ew]; omega), ho.bad (by omega) fun p t' hp1 hp2 e' => ?_⟩
          have := hsp p t' hp2 e'
          omega
    rintro u2 c w4' ⟨rfl, ⟨rfl, hld⟩ | ⟨rfl, v, t, hv1, hv2, e, hvt, h⟩⟩
    · exact IfB.t rfl ⟨.inr ⟨rfl, hld⟩, f34⟩
    rw [h]
    simp only
    have hlen : lb.length - at_ = (gb v).length + t.length := by
      have := congrArg List.length e
      rwa [List.length_drop, List.length_append] at this
    have ew1 : IntKind.wrap .i64 ((at_ : Int) + ((gb v).length : Int)) = ((at_ + (gb v).length : Nat) : Int) := by rw [wi _ (by omega)]; omega
    have ew2 : IntKind.wrap .i64 (((at_ + (gb v).length : Nat) : Int) + (v : Int)) = ((at_ + (gb v).length + v : Nat) : Int) := by rw [wi _ (by omega)]; omega
    rw [ew1, ew2]
    have hdt : lb.drop (at_ + (gb v).length) = t := by rw [← List.drop_drop, e, List.drop_left]
    have hdt2 : lb.drop (at_ + (gb v).length + v) = t.drop v := by rw [← List.drop_drop, hdt]
    have hD4 := hD3.n f4
    obtain ⟨s, h1, h2, hK4, hR4⟩ := hD4
    have hsl := has_sv hR4.has
    have hb4 := (hb.mod f34 (fun _ _ h => h)).drew
    have hcut := (hb4.cut (at_ + (gb v).length) (by omega) hlc).head v (b.c - (at_ + (gb v).length)) (by simp only; omega)
    rw [bv_drop, hdt, bv_take] at hcut
    refine IfB.f rfl ⟨fun w' => Frm none_ w4' w', frm_drew _, ⟨b22, 0, none⟩, rfl, s, fun w' hf => (hK4.mod hf (fun h => h)).ld rfl, ⟨by omega, by omega⟩, ⟨by omega, by omega⟩, ?_⟩
    have e1 : ((at_ + (gb v).length : Nat) : Int).toNat = at_ + (gb v).length := Int.toNat_natCast _
    have e2 : ((at_ + (gb v).length + v : Nat) : Int).toNat = at_ + (gb v).length + v := Int.toNat_natCast _
    rw [e1, e2, show at_ + (gb v).length + v - (at_ + (gb v).length) = v by omega]
    refine runT_str un22 un5 un9 hcut ⟨frm_drew _, runT_lit1 st31 (by decide) rfl ?_⟩
    intro w5 hr5 f5 z5
    have f5 := f5.ofDrew
    refine ⟨f5, ?_⟩
    have hx5 : Has w5 ⟨some ⟨w4'.drew.heap.size, 0, none⟩, 1, 1⟩ 1 (sv [str (t.take v)]) := hr5.has
    refine runT_append st31 (hR4.mod f5 (fun _ _ h => h)) hx5 (sv_one _) (by simp only; omega) (by simp only [maxLen]; omega) ?_
    intro q w6 hr6 hl6 hn6 f6
    have hne : s.blk ≠ some b22 := hR4.g.blkNeB hK4.g (by decide)
    have hK6 := (hK4.mod f5 (fun h => h)).mod f6 hne
    refine ⟨⟨b22, 0, none⟩, rfl, hK6.wr (by show 0 < 1; omega), ?_⟩
    rintro w7 rfl
    have hK7 := hK6.set 0 (.slice q.a q.l q.c)
    have hne6 : q.blk ≠ some b22 := hr6.g.blkNeB hK6.g (by decide)
    have f7 : Frm (fun k => k = b22) w6 (w6.setCell ⟨b22, 0, none⟩ (.slice q.a q.l q.c)) := mod_setCell (a := ⟨b22, 0, none⟩)
    have hp : (str (t.take v)).size = v := by show (t.take v).length = v; rw [List.length_take]; omega
    have f36 : Frm none_ w w6 := (f34.n f5).trans f6 (fun _ _ h => h) (fun k hk h => by have := h2 k h; have := f1.size; omega)
    have hz5 : w1'.heap.size ≤ w4'.heap.size := by have := f4.size; omega
    refine ⟨N - (ps.length + 1), by omega, at_ + (gb v).length + v, ps ++ [str (t.take v)], rfl, by rw [List.length_append, List.length_singleton, wi _ (by omega)]; omega, by simp, by omega, ?_, ⟨q, h1, ?_, hK7, ?_⟩, f36.b f7 (by have := f1.size; omega), ?_⟩
    · rw [hdt2]
      refine ho.next (by omega) (by rw [hp]; exact ⟨hv1, hv2⟩) ?_
      rw [sb_gb (by omega), hp, List.append_assoc]
      show lb.drop at_ = gb v ++ (t.take v ++ t.drop v)
      rw [List.take_append_drop]
      exact e
    · intro k hk
      rcases hn6.cases hk with hk | rfl
      · exact h2 k hk
      · have := f5.size; omega
    · have e : sv (ps ++ [str (t.take v)]) = sv ps ++ sv [str (t.take v)] := by simp [sv]
      rw [e]
      exact hr6.mod f7 (fun k hk hkb => hne6 (by have hkb : k = b22 := hkb; subst hkb; exact hk))
    · have h5 : w4'.heap.size ≤ w5.heap.size := f5.size
      have h6 := f6.size
      have h7 := f7.size
      exact Nat.le_trans hz5 (Nat.le_trans h5 (Nat.le_trans h6 h7))
  · have hge := of_decide_eq_false hge
    simp only at hge
    have hpl : ps.length = N := by omega
    refine IfB.intro (fun hne => ?_) (fun heq => ?_)
    · have hne : ¬ (at_ : Int) = ((b.l : Nat) : Int) := iNe hne
      refine ⟨.inr ⟨rfl, ho.rest hpl fun h => ?_⟩, f3⟩
      have := congrArg List.length h
      rw [List.length_drop, List.length_nil] at this
      omega
    · have heq : (at_ : Int) = ((b.l : Nat) : Int) := iEq heq
      have hnil : lb.drop at_ = [] := List.drop_of_length_le (by omega)
      rw [hnil] at ho
      obtain ⟨h1, h2⟩ := ho.done hpl
      exact ⟨.inl ⟨b22, ps, rfl, ldOf_some h1 h2, hD3.lower f1.size⟩, f3⟩
/-! ### What a log tells -/
theorem none31 (c : Nat) : BinIs prog .eql 31 (.tmp 3) (.const (.slice none 0 0)) (.slice none 0 c) (.slice none 0 0) true := fun w => by kernel_rfl
theorem nil31 : BinIs prog .eql 31 (.tmp 3) (.const (.slice none 0 0)) (.slice none 0 0) (.slice none 0 0) true := fun w => by kernel_rfl
theorem some31 (a : Addr) (l c : Nat) : BinIs prog .eql 31 (.tmp 3) (.const (.slice none 0 0)) (.slice (some a) l c) (.slice none 0 0) false := fun w => by kernel_rfl
theorem some23 {t : Nat} (b : Nat) : BinIs prog .eql 23 (.tmp t) (.const (.pointer none)) (.pointer (some ⟨b, 0, none⟩)) (.pointer none) false := fun w => by kernel_rfl
theorem none23 {t : Nat} : BinIs prog .eql 23 (.tmp t) (.const (.pointer none)) (.pointer none) (.pointer none) true := fun w => by kernel_rfl
/-- A slice of texts handed out anew. -/
abbrev MadeT (w : World) (l : List ByteArray) : Ending → World → Prop := fun e w' => ∃ r : Sl, e = .returned (.slice r.a r.l r.c) ∧ Row w' r 9 1 (sv l) ∧ New w r ∧ Frm none_ w w'
theorem cloneT_calls (w : World) (s : Sl) (l : List ByteArray) (hs : Has w s 1 (sv l)) (hsz : l.length ≤ 100000) : Calls prog 43 #[.slice s.a s.l s.c] w (MadeT w l) := by
  refine calls_ret (W43 (x0 := s) (Q := fun v w' => ∃ r : Sl, v = .slice r.a r.l r.c ∧ Row w' r 9 1 (sv l) ∧ New w r ∧ Frm none_ w w') ?_) (fun v w' ⟨r, h, h'⟩ => ⟨r, by rw [h], h'⟩)
  have hl := has_sv hs
  unfold F43
  obtain ⟨a, n, c⟩ := s
  cases a with
  | none =>
    have : l = [] := by
      refine List.eq_nil_of_length_eq_zero (Nat.eq_zero_of_not_pos fun hp => ?_)
      obtain ⟨q, hq, _⟩ := hs.ex (j := 0) (by rw [sv_len]; exact hp)
      cases hq
    subst this
    simp only [List.length_nil] at hl
    subst hl
    exact ⟨true, none31 c, IfB.t rfl ⟨⟨none, 0, 0⟩, rfl, Row.nil _ _ _, fun k hk => by simp [Sl.blk] at hk, Frm.refl _ _⟩⟩
  | some a =>
    refine ⟨false, some31 a n c, IfB.f rfl (runT_lit0 st31 ?_)⟩
    intro w1 hr1 f1 z1
    refine runT_append st31 hr1 (hs.mod f1 (fun _ _ h => h)) (sv_one _) (by simp only at hl ⊢; omega) (by simp only [maxLen] at hl ⊢; omega) ?_
    intro t w2 hr2 hl2 hn2 f2
    have hnew : New w ⟨some ⟨w.heap.size, 0, none⟩, 0, 0⟩ := fun k hk => by simp [Sl.blk] at hk; omega
    exact ⟨t, rfl, by simpa using hr2, hnew.near (w2 := w2) hn2 f1.size, hnew.frm f1 f2⟩

def LpQ (B : Nat) (w : World) (x : Option Addr) (ps : List ByteArray) : Prop := (x = none ∧ ps = []) ∨ ∃ b, x = some ⟨b, 0, none⟩ ∧ LpN B w b ps
theorem LpQ.n {B : Nat} {w w' : World} {x : Option Addr} {ps : List ByteArray} (h : LpQ B w x ps) (hm : Frm none_ w w') : LpQ B w' x ps := by
  rcases h with h | ⟨b, h1, h2⟩
  · exact .inl h
  · exact .inr ⟨b, h1, h2.n hm⟩
theorem LpQ.mod {B : Nat} {F : Nat → Prop} {w w' : World} {x : Option Addr} {ps : List ByteArray} (h : LpQ B w x ps) (hm : Frm F w w') (hn : ∀ k, B ≤ k → ¬ F k) : LpQ B w' x ps := by
  rcases h with h | ⟨b, h1, h2⟩
  · exact .inl h
  · exact .inr ⟨b, h1, h2.mod hm hn⟩
theorem rest44_calls (B : Nat) (w : World) (x : Option Addr) (ps : List ByteArray) (h : LpQ B w x ps) (i : Int) : Calls prog 44 #[.pointer x, .int .i64 i] w fun e w' => ∃ s : Sl, e = .returned (.slice s.a s.l s.c) ∧ Has w' s 1 (sv (ps.drop i.toNat)) ∧ Frm none_ w w' := by
  refine calls_ret (W44 (x0 := x) (x1 := i) (Q := fun v w' => ∃ s : Sl, v = .slice s.a s.l s.c ∧ Has w' s 1 (sv (ps.drop i.toNat)) ∧ Frm none_ w w') ?_) (fun v w' ⟨r, h, h'⟩ => ⟨r, by rw [h], h'⟩)
  unfold F44
  rcases h with ⟨rfl, rfl⟩ | ⟨b, rfl, h⟩
  · exact ⟨true, none23, IfB.t rfl ⟨⟨none, 0, 0⟩, rfl, by rw [List.drop_nil]; exact Has.nil _ _ _ rfl, Frm.refl _ _⟩⟩
  · obtain ⟨s, h1, h2, hK, hR⟩ := h
    have hl := has_sv hR.has
    refine ⟨false, some23 b, IfB.f rfl ⟨⟨b, 0, none⟩, rfl, s, hK.ld rfl, IfB.intro (fun hge => ?_) (fun hlt => ?_)⟩⟩
    · have hge := of_decide_eq_true hge
      refine ⟨⟨none, 0, 0⟩, rfl, ?_, Frm.refl _ _⟩
      rw [List.drop_of_length_le (by omega)]
      exact Has.nil _ _ _ rfl
    · have hlt := of_decide_eq_false hlt
      have hlc : s.l ≤ s.c := by
        rcases hR.cases with ⟨rfl, _⟩ | ⟨g, cur, ha, hB, h3, _⟩
        · exact Nat.le_refl _
        · exact h3
      have hm : (if (0 : Int) > i then (0 : Int) else i) = (i.toNat : Int) := by split <;> omega
      rw [hm]
      refine ⟨⟨b, 0, none⟩, rfl, s, hK.ld rfl, ⟨by omega, by omega⟩, ?_⟩
      rw [Int.toNat_natCast]
      refine ⟨⟨slA s.a i.toNat s.c 1, s.l - i.toNat, s.c - i.toNat⟩, rfl, ?_, Frm.refl _ _⟩
      have := hR.has.cut i.toNat (by omega) hlc
      rw [Nat.mul_one] at this
      rwa [show (sv ps).drop i.toNat = sv (ps.drop i.toNat) by unfold sv; rw [List.map_drop]] at this
theorem from_calls (B : Nat) (w : World) (x : Option Addr) (ps : List ByteArray) (h : LpQ B w x ps) (hps : ps.length ≤ 100000) (i : Int) : Calls prog 14 #[.pointer x, .int .i64 i] w (MadeT w (ps.drop i.toNat)) := by
  refine calls_ret (W14 (x0 := x) (x1 := i) (Q := fun v w' => ∃ r : Sl, v = .slice r.a r.l r.c ∧ Row w' r 9 1 (sv (ps.drop i.toNat)) ∧ New w r ∧ Frm none_ w w') ?_) (fun v w' ⟨r, h, h'⟩ => ⟨r, by rw [h], h'⟩)
  unfold F14
  refine (rest44_calls B w x ps h i).mono ?_
  rintro _ w1 ⟨s, rfl, hs, f1⟩
  refine ⟨s, rfl, (cloneT_calls w1 s _ hs (by rw [List.length_drop]; omega)).mono ?_⟩
  rintro _ w2 ⟨r, rfl, hr, hn, f2⟩
  exact ⟨r, rfl, r, rfl, hr, fun k hk => Nat.le_trans f1.size (hn k hk), f1.n f2⟩
theorem size15_calls (B : Nat) (w : World) (x : Option Addr) (ps : List ByteArray) (h : LpQ B w x ps) : Calls prog 15 #[.pointer x] w fun e w' => e = .returned (.int .i64 (szs ps : Int)) ∧ Frm none_ w w' := by
  refine calls_ret (W15 (x0 := x) (Q := fun v w' => v = .int .i64 (szs ps : Int) ∧ Frm none_ w w') ?_) (fun v w' ⟨h, h'⟩ => ⟨by rw [h], h'⟩)
  unfold F15
  rcases h with ⟨rfl, rfl⟩ | ⟨b, rfl, h⟩
  · exact ⟨true, none23, IfB.t rfl ⟨rfl, Frm.refl _ _⟩⟩
  · obtain ⟨s, h1, h2, hK, hR⟩ := h
    exact ⟨false, some23 b, IfB.f rfl ⟨⟨b, 0, none⟩, rfl, _, hK.ld rfl, rfl, Frm.refl _ _⟩⟩
def txt (ps : List ByteArray) : List UInt8 := ps.flatMap fun p => p.data.toList
theorem txt_len (ps : List ByteArray) : (txt ps).length = szs ps := by
  induction ps with
  | nil => rfl
  | cons p ps ih =>
    have : p.data.toList.length = p.size := Array.length_toList
    simp only [txt, szs, List.flatMap_cons, List.length_append, List.map_cons, List.sum_cons] at ih ⊢
    omega
theorem txt_snoc (ps : List ByteArray) (x : ByteArray) : txt (ps ++ [x]) = txt ps ++ x.data.toList := by simp [txt]
theorem szs_take {ps : List ByteArray} (i : Nat) : szs (ps.take i) ≤ szs ps := by
  have : szs ps = szs (ps.take i) + szs (ps.drop i) := by
    unfold szs
    rw [← List.sum_append, ← List.map_append, List.take_append_drop]
  omega
theorem take_snoc {α : Type} {l : List α} {i : Nat} {x : α} (h : l[i]? = some x) : l.take (i + 1) = l.take i ++ [x] := by
  obtain ⟨h1, h2⟩ := List.getElem?_eq_some_iff.1 h
  rw [List.take_add_one, h]; rfl
theorem text16_calls (B : Nat) (w : World) (b : Nat) (ps : List ByteArray) (h : DpN B w b ps) (hps : ps.length ≤ 100000) (hsz : szs ps ≤ 1000000000000000) : Calls prog 16 #[.pointer (some ⟨b, 0, none⟩)] w fun e w' => e = .returned (.string (str (txt ps))) ∧ Frm none_ w w' := by
  refine calls_ret (W16 (x0 := some ⟨b, 0, none⟩) (Q := fun v w' => v = .string (str (txt ps)) ∧ Frm none_ w w') ?_) (fun v w' ⟨h, h'⟩ => ⟨by rw [h], h'⟩)
  obtain ⟨s, h1, h2, hK, hR⟩ := h
  have hl := has_sv hR.has
  unfold F16
  refine ⟨fun n x i w' => ∃ j : Nat, j ≤ ps.length ∧ i = (j : Int) ∧ x = str (txt (ps.take j)) ∧ n = ps.length - j ∧ w' = w, ps.length, ⟨0, by omega, rfl, rfl, rfl, rfl⟩, ?_⟩
  rintro n u x i w' ⟨j, hj, rfl, rfl, rfl, rfl⟩
  refine ⟨⟨b, 0, none⟩, rfl, s, hK.ld rfl, IfB.intro (fun hlt => ?_) (fun hge => ?_)⟩
  · have hlt := of_decide_eq_true hlt
    obtain ⟨q, p, hq, hp, hld⟩ := sv_at hR.has (i := j) (by omega)
    have e := take_snoc hp
    have hs1 := szs_take (ps := ps) (j + 1)
    have hs2 : szs (ps.take (j + 1)) = szs (ps.take j) + p.size := by rw [e, szs_snoc]
    refine ⟨⟨b, 0, none⟩, rfl, s, hK.ld rfl, q, hq, by omega, by omega, p, hld, ?_, ps.length - (j + 1), by omega, j + 1, by omega, by rw [wi _ (by omega)]; omega, ?_, rfl, rfl⟩
    · rw [str_size, txt_len]; omega
    · rw [e, txt_snoc, ← str_list (str (txt (ps.take j)) ++ p)]
      congr 1
  · have hge := of_decide_eq_false hge
    refine ⟨?_, Frm.refl _ _⟩
    rw [List.take_of_length_le (by omega)]
theorem sb_len (p : ByteArray) : (sb p).length ≤ p.size + 5 := by
  have hl : p.data.toList.length = p.size := Array.length_toList
  by_cases h : p.size ≤ 2147483647
  · rw [sb_gb h, List.length_append]
    have := gb_len5 h
    omega
  · unfold sb; rw [if_pos (by omega)]; simp
theorem saveL_len (ps : List ByteArray) (h : ps.length ≤ 2147483647) : (saveL ps).length ≤ 5 + szs ps + 5 * ps.length := by
  have h1 : ∀ ps : List ByteArray, (ps.flatMap sb).length ≤ szs ps + 5 * ps.length := by
    intro ps
    induction ps with
    | nil => simp [szs]
    | cons p ps ih =>
      have := sb_len p
      simp only [szs, List.flatMap_cons, List.length_append, List.map_cons, List.sum_cons, List.length_cons] at ih ⊢
      omega
  unfold saveL
  rw [cb_gb h, List.length_append]
  have := gb_len5 h
  have := h1 ps
  omega
theorem save_calls (B : Nat) (w : World) (x : Option Addr) (ps : List ByteArray) (h : LpQ B w x ps) (hps : ps.length ≤ 100000) (hsz : szs ps ≤ 1000000000000) : Calls prog 17 #[.pointer x] w (Made w (if x = none then [] else saveL ps)) := by
  refine calls_ret (W17 (x0 := x) (Q := fun v w' => MadeV w (if x = none then [] else saveL ps) v w') ?_) (fun v w' h => madeV h)
  unfold F17
  rcases h with ⟨rfl, rfl⟩ | ⟨b, rfl, h⟩
  · exact ⟨true, none23, IfB.t rfl ⟨⟨none, 0, 0⟩, rfl, by rw [if_pos rfl]; exact Row.nil _ _ _, fun k hk => by simp [Sl.blk] at hk, Frm.refl _ _⟩⟩
  · rw [if_neg (by simp)]
    obtain ⟨s, h1, h2, hK, hR⟩ := h
    have hl := has_sv hR.has
    refine ⟨false, some23 b, IfB.f rfl ⟨⟨b, 0, none⟩, rfl, s, hK.ld rfl, (count_calls w ⟨none, 0, 0⟩ [] ((s.l : Nat) : Int) (nilHas w) (by simp only; omega)).mono ?_⟩⟩
    rintro _ w1 ⟨r, rfl, hr, hn, f1⟩
    obtain ⟨rb, hrb, hrn⟩ := hn
    rw [List.nil_append, hl] at hr
    refine ⟨r, rfl, ⟨b, 0, none⟩, rfl, s, (hK.mod f1 (fun h => h)).ld rfl, fun n x i w' => ∃ j : Nat, j ≤ ps.length ∧ i = (j : Int) ∧ n = ps.length - j ∧ Row w' x 5 1 (bv (cb (ps.length : Int) ++ (ps.take j).flatMap sb)) ∧ New w x ∧ Frm none_ w w', ps.length, ⟨0, by omega, rfl, rfl, by simpa using hr, fun k hk => by rw [hrb] at hk; cases hk; exact hrn, f1⟩, ?_⟩
    rintro n u x i w2 ⟨j, hj, rfl, rfl, hx, hxn, f2⟩
    refine IfB.intro (fun hlt => ?_) (fun hge => ?_)
    · have hlt := of_decide_eq_true hlt
      obtain ⟨q, p, hq, hp, hld⟩ := sv_at (hR.has.mod f2 (fun _ _ h => h)) (i := j) (by omega)
      have e := take_snoc hp
      have hxl := rowLen hx
      have hsv := saveL_len (ps.take j) (by rw [List.length_take]; omega)
      have hxl2 : (cb (ps.length : Int) ++ (ps.take j).flatMap sb).length ≤ 1000000000000 + 10 + 5 * 100000 := by
        have h3 := szs_take (ps := ps) j
        have hmin : (ps.take j).length ≤ 100000 := by rw [List.length_take]; omega
        have hz : (cb ((ps.take j).length : Int)).length = (gb (ps.take j).length).length := by rw [cb_gb (by omega)]
        unfold saveL at hsv
        rw [List.length_append] at hsv ⊢
        rw [cb_gb (by omega)] at hsv ⊢
        have := gb_len5 (u := ps.length) (by omega)
        omega
      refine ⟨q, hq, by omega, by omega, p, hld, (str_calls w2 x _ p hx.has (by omega)).mono ?_⟩
      rintro _ w3 ⟨t, rfl, ht, ⟨tb, htb, htn⟩, f3⟩
      refine ⟨t, rfl, ps.length - (j + 1), by omega, j + 1, by omega, by rw [wi _ (by omega)]; omega, rfl, ?_, fun k hk => by rw [htb] at hk; cases hk; have := f2.size; omega, f2.n f3⟩
      rw [e, List.flatMap_append]
      simpa using ht
    · have hge := of_decide_eq_false hge
      refine ⟨x, rfl, ?_, hxn, f2⟩
      rw [List.take_of_length_le (by omega)] at hx
      exact hx
theorem texts_calls (w : World) (s t : Sl) (l m : List ByteArray) (hs : Has w s 1 (sv l)) (ht : Has w t 1 (sv m)) (hl : l.length ≤ 1000000000000) : Calls prog 13 #[.slice s.a s.l s.c, .slice t.a t.l t.c] w fun e w' => e = .returned (.bool (decide (l = m))) ∧ Frm none_ w w' := by
  refine calls_ret (W13 (x0 := s) (x1 := t) (Q := fun v w' => v = .bool (decide (l = m)) ∧ Frm none_ w w') ?_) (fun v w' ⟨h, h'⟩ => ⟨by rw [h], h'⟩)
  have h1 := has_sv hs
  have h2 := has_sv ht
  unfold F13
  refine IfB.intro (fun hne => ?_) (fun heq => ?_)
  · have hne := iNe hne
    refine ⟨?_, Frm.refl _ _⟩
    rw [decide_eq_false]
    rintro rfl
    omega
  have heq := iEq heq
  refine ⟨fun n i w' => ∃ j : Nat, j ≤ l.length ∧ i = (j : Int) ∧ n = l.length - j ∧ l.take j = m.take j ∧ Frm none_ w w', l.length, ⟨0, by omega, rfl, rfl, rfl, Frm.refl _ _⟩, ?_⟩
  rintro n u i w1 ⟨j, hj, rfl, rfl, he, f1⟩
  refine IfB.intro (fun hlt => ?_) (fun hge => ?_)
  · have hlt := of_decide_eq_true hlt
    obtain ⟨q, a, hq, ha, hld⟩ := sv_at ((hs.mod f1 (fun _ _ h => h)).drew) (i := j) (by omega)
    obtain ⟨q', a', hq', ha', hld'⟩ := sv_at ((ht.mod f1 (fun _ _ h => h)).drew) (i := j) (by omega)
    refine ⟨q, hq, by omega, by omega, a, hld, q', hq', by omega, by omega, a', hld', IfB.intro (fun hn => ?_) (fun hy => ?_)⟩
    · refine ⟨?_, f1.drew⟩
      rw [decide_eq_false]
      rintro rfl
      rw [ha] at ha'; cases ha'
      simp at hn
    · have : (a.toList == a'.toList) = true := by simpa using hy
      have : a = a' := (str_eqIff _ _).1 this
      subst this
      refine ⟨l.length - (j + 1), by omega, j + 1, by omega, by rw [wi _ (by omega)]; omega, rfl, ?_, f1.drew⟩
      rw [take_snoc ha, take_snoc ha', he]
  · have hge := of_decide_eq_false hge
    refine ⟨?_, f1⟩
    rw [List.take_of_length_le (by omega), List.take_of_length_le (by omega)] at he
    rw [decide_eq_true he]
end Go.Proofs.Ytmcdeldjgfapbaa
