/- Steps played; two side by side; the law StrideOrder walked. -/
import Derived.Test.YthgeacnemojjgaaWk
set_option linter.unusedVariables false
set_option linter.unusedSimpArgs false
set_option maxRecDepth 20000
namespace Go.Proofs.Ythgeacnemojjgaa
open Go Go.Proofs.YthgeacnemojjgaaV
structure P2 (W : World) (D E : Nat → Prop) (a c : Nat) (M N : List Pj) (V : World) : Prop where
  om : OkM M
  on : OkM N
  sa : Shw V D a M
  sc : Shw V E c N
  na : ∀ k, D k → W.heap.size ≤ k
  nc : ∀ k, E k → W.heap.size ≤ k
  sep : ∀ k, D k → ¬ E k
  frm : Frm none_ W V
theorem P2.swap {W V : World} {D E : Nat → Prop} {a c : Nat} {M N : List Pj} (h : P2 W D E a c M N V) : P2 W E D c a N M V := ⟨h.on, h.om, h.sc, h.sa, h.nc, h.na, fun k h1 h2 => h.sep k h2 h1, h.frm⟩
theorem P2.n {W V V' : World} {D E : Nat → Prop} {a c : Nat} {M N : List Pj} (h : P2 W D E a c M N V) (hm : Frm none_ V V') : P2 W D E a c M N V' := ⟨h.om, h.on, h.sa.n hm, h.sc.n hm, h.na, h.nc, h.sep, h.frm.n hm⟩
theorem P2.went {W V V' : World} {D E : Nat → Prop} {a c : Nat} {M N M' : List Pj} (h : P2 W D E a c M N V) (hw : Went V D a M' V') (ok : OkM M') : Frm D V V' ∧ ∃ D', P2 W D' E a c M' N V' ∧ ∀ k, D' k → D k ∨ V.heap.size ≤ k := by
  obtain ⟨hf, D', hs, hsub⟩ := hw
  have hz := h.frm.size
  refine ⟨hf, D', ⟨ok, h.on, hs, h.sc.mod hf (fun k hk hh => h.sep k hh hk), fun k hk => ?_, h.nc, fun k hk hh => ?_, h.frm.trans hf (fun _ _ h => h) (fun k hk hh => by have := h.na k hh; omega)⟩, hsub⟩
  · rcases hsub k hk with h' | h'
    · exact h.na k h'
    · omega
  · rcases hsub k hk with h' | h'
    · exact h.sep k h' hh
    · have := h.sc.lt k hh; omega
theorem played_calls (W : World) (s : Sl) (l : List Stp) (ha : ArgS W s l) (w : World) (hw : Frm none_ W w) (hlen : l.length ≤ 4000) (hns : ∀ p ∈ l, p.l.l ≤ 4000) : Calls prog 37 #[.slice s.a s.l s.c] w fun e w' => ∃ a M, e = .returned (.pointer (some ⟨a, 0, none⟩)) ∧ Hs W a M w' := by
  refine calls_ret (W37 (x0 := s) (Q := fun v w' => ∃ a M, v = .pointer (some ⟨a, 0, none⟩) ∧ Hs W a M w') ?_) (fun v w' ⟨a, M, h, h'⟩ => ⟨a, M, by rw [h], h'⟩)
  have hl := ha.1.len
  have hzw := hw.size
  unfold F37
  refine new1 (W := w) fun V0 a h0 => ⟨_, rfl, ?_⟩
  have h0 : Hs W a [] V0 := by
    obtain ⟨D, h1, h2⟩ := h0.sh
    exact ⟨h0.ok, hw.n h0.frm, D, h1, fun k hk => by have := h2 k hk; omega⟩
  refine ⟨fun n i V => ∃ (j : Nat) (M : List Pj), i = (j : Int) ∧ j ≤ l.length ∧ n = l.length - j ∧ Hs W a M V, l.length, ⟨0, [], rfl, by omega, rfl, h0⟩, ?_⟩
  rintro n u i V ⟨j, M, rfl, hj, rfl, h⟩
  refine IfB.dec (fun hlt => ?_) (fun hge => ⟨a, M, rfl, h⟩)
  obtain ⟨qa, st, hqa, hst, hstm, hld, hldA⟩ := (ha.1.mod h.frm (fun _ _ h => h)).at (by decide) (i := (j : Int)) (by omega) (by omega)
  have oks := ha.2.1 st hstm
  have hns1 := hns st hstm
  have hnames : Has W st.l 1 (sv st.ns) := oks.has.one
  have hnl := has_sv hnames
  refine ⟨qa, hqa, by omega, by omega, (stc st).toArray, hldA, ?_⟩
  intro b5 V4 hN
  have hb5 : b5 = V.heap.size := hN.2
  refine Blk.setW hN.blk rfl rfl (by simp [stc, Value.oneCell']) ?_
  intro V5 hB5 g5
  have F5 : Frm none_ V V5 := (hN.mod none_).b g5 (by omega)
  have h5 := h.n F5
  obtain ⟨D, hD1, hD2⟩ := h.sh
  have hDb : ¬ D b5 := fun hh => by have := hD1.lt b5 hh; omega
  have ld : ∀ {V' : World}, Blk V' b5 (stc st).toArray 45 → ∀ c v, (stc st)[c]? = some v → Ld V' ((⟨b5, 0, none⟩ : Addr).add c) v := fun h c v hv => by rw [addr_add, Nat.zero_add]; exact h.ld (by simpa using hv)
  have nxt : ∀ {M' : List Pj} {V' : World}, Hs W a M' V' → ∃ n', n' < l.length - j ∧ ∃ (j' : Nat) (M : List Pj), IntKind.wrap .i64 ((j : Int) + (1 : Int)) = (j' : Int) ∧ j' ≤ l.length ∧ n' = l.length - j' ∧ Hs W a M V' := fun {M' V'} h' => ⟨l.length - (j + 1), by omega, j + 1, M', by rw [wi _ (by omega)]; omega, by omega, rfl, h'⟩
  refine ⟨st.k, ld hB5 0 _ rfl, IfB.intro (fun _ => ?_) (fun _ => IfB.intro (fun _ => ?_) (fun _ => IfB.intro (fun _ => ?_) (fun _ => ?_)))⟩
  · exact ⟨st.s, ld hB5 2 _ rfl, st.n, ld hB5 1 _ rfl, set1 h5 rfl fun V' h' => ⟨_, rfl, nxt h'⟩⟩
  · exact ⟨st.s, ld hB5 2 _ rfl, drop1 h5 rfl fun V' h' => ⟨_, rfl, nxt h'⟩⟩
  · exact ⟨st.s, ld hB5 2 _ rfl, st.n, ld hB5 1 _ rfl, chg1 h5 rfl fun V' h' => ⟨_, rfl, nxt h'⟩⟩
  · refine ⟨st.l, ld hB5 3 _ rfl, (next_calls V5 D a M (hD1.n F5) h.ok st.l st.ns (hnames.mod h5.frm (fun _ _ h => h)) (fun hne k hk hh => by have := arg_lt hnames hne k hk; have := hD2 k hh; omega) (by omega)).mono ?_⟩
    rintro _ V6 ⟨rfl, hw6⟩
    have hB6 : Blk V6 b5 _ 45 := hB5.mod hw6.1 hDb
    have h6 := h5.went hD2 hw6 (nextP_ok h.ok _)
    refine ⟨_, _, rfl, IfB.intro (fun _ => ⟨st.n, ld hB6 1 _ rfl, IfB.dec (fun hn => ⟨st.n, ld hB6 1 _ rfl, chg1 h6 rfl fun V' h' => ⟨_, rfl, nxt h'⟩⟩) (fun hn => nxt h6)⟩) (fun _ => nxt h6)⟩
theorem nextP_congr {M : List Pj} {ws ws' : List ByteArray} (h : ∀ p ∈ M, isW ws p = isW ws' p) : nextP ws M = nextP ws' M := by
  have l1 : ∀ (f g : Nat → Pj → Bool) (N : List Pj), (∀ i p, N[i]? = some p → f i p = g i p) → lst f N N.length = lst g N N.length := fun f g N hh => lst_congr (fun i p _ hp => hh i p hp)
  have at_ : ∀ {i : Nat} {p : Pj}, M[i]? = some p → isW ws p = isW ws' p := fun hp => h _ (List.mem_of_getElem? hp)
  have e1 := l1 (fun _ p => isW ws p) (fun _ p => isW ws' p) M (fun i p hp => at_ hp)
  have e2 := l1 (fun _ p => isW ws p && p.wt) (fun _ p => isW ws' p && p.wt) M (fun i p hp => by show (isW ws p && p.wt) = (isW ws' p && p.wt); rw [at_ hp])
  have e3 : lifted ws M = lifted ws' M := by
    unfold lifted
    rw [e2]
    split
    · rfl
    · split
      · rfl
      · exact List.map_congr_left fun p hp => by rw [h p hp]
  have nm : ∀ p ∈ lifted ws' M, ∃ p0 ∈ M, p0.n = p.n := by
    intro p hp
    unfold lifted at hp
    split at hp
    · exact ⟨p, hp, rfl⟩
    · split at hp
      · exact ⟨p, hp, rfl⟩
      · obtain ⟨p0, hp0, rfl⟩ := List.mem_map.1 hp
        refine ⟨p0, hp0, ?_⟩
        split
        · exact (lift_n _ _).symm
        · rfl
  have hl : ∀ p ∈ lifted ws' M, isW ws p = isW ws' p := by
    intro p hp
    obtain ⟨p0, hp0, he⟩ := nm p hp
    have := h p0 hp0
    unfold isW at this ⊢
    rw [← he]; exact this
  have e4 := l1 (fun _ p => isW ws p) (fun _ p => isW ws' p) (lifted ws' M) (fun i p hp => hl p (List.mem_of_getElem? hp))
  unfold nextP
  rw [e1, e3, e4]
  split
  · rfl
  · split
    · rfl
    · congr 2
      exact List.map_congr_left fun p hp => by rw [hl p hp]
theorem hadP_some {M : List Pj} {nm : ByteArray} (hs : Srt M) (h : (hadP nm M).2.2 = false) : ∀ p ∈ M, p.n ≠ nm := by
  intro p hp he
  obtain ⟨i, hi⟩ := List.mem_iff_getElem?.1 hp
  subst he
  rw [hadP_at hs hi] at h; cases h
theorem app2 {w w' : World} {x y : Sl} {o o' : List ByteArray} {w0 : World} (hx : Row w x 9 1 (sv o)) (hxn : New w0 x) (hf0 : Frm none_ w0 w) (hy : Row w' y 9 1 (sv o')) (hf : Frm none_ w w') (hl : o.length ≤ 100000) (hl' : o'.length ≤ 100000) {K : Sl → World → Prop} (hk : ∀ t w2, Row w2 t 9 1 (sv (o ++ o')) → New w0 t → Frm none_ w0 w2 → K t w2) :
    RunT prog .slice (Builtin.append_ #[28, 28] 28 #[.slice x.a x.l x.c, .slice y.a y.l y.c]) w' K := by
  have hxl := has_sv hx.has
  have hyl := has_sv hy.has
  refine runT_append st28 (hx.mod hf (fun _ _ h => h)) hy.has (sv_one _) (by omega) (by simp only [maxLen]; omega) ?_
  intro t w2 hr hl2 hn f
  refine hk t w2 ?_ (hxn.near (w2 := w2) hn (hf0.n hf).size) (hxn.frm (hf0.n hf) f)
  simpa [sv] using hr
theorem order_law (W : World) (s : Sl) (l : List Stp) (ha : ArgS W s l) (x : Sl) (ns : List ByteArray) (hx : HasL W x 1 (fun s : ByteArray => [Value.string s]) ns ∧ (∀ a ∈ ns, a.size ≤ 140737488351232) ∧ x.l ≤ x.c ∧ x.c ≤ maxLen ∧ x.c * 16 ≤ 140737488351232)
    (y : Sl) (ss : List ByteArray) (hy : HasL W y 1 (fun s : ByteArray => [Value.string s]) ss ∧ (∀ a ∈ ss, a.size ≤ 140737488351232) ∧ y.l ≤ y.c ∧ y.c ≤ maxLen ∧ y.c * 16 ≤ 140737488351232) :
    Calls prog 10 #[.slice s.a s.l s.c, .slice x.a x.l x.c, .slice y.a y.l y.c] W fun e w' => e = .returned (.bool true) ∧ Frm none_ W w' := by
  refine callsRet (W10 (x0 := s) (x1 := x) (x2 := y) (Q := fun v w' => v = .bool true ∧ Frm none_ W w') ?_) (fun v w' ⟨h, h'⟩ => ⟨by rw [h], h'⟩)
  have hsl : s.l ≤ 100000000000000 := by have := ha.2.2.2.2; have := ha.2.2.1; omega
  have hxh : Has W x 1 (sv ns) := hx.1.one
  have hyh : Has W y 1 (sv ss) := hy.1.one
  have hxl := has_sv hxh
  have hyl := has_sv hyh
  have hxb : x.l ≤ 100000000000000 := by have := hx.2.2.2.2; have := hx.2.2.1; omega
  have hyb : y.l ≤ 100000000000000 := by have := hy.2.2.2.2; have := hy.2.2.1; omega
  unfold F10
  refine ⟨fun c V => Frm none_ W V ∧ (c = false → (l.length ≤ 4000 ∧ ∀ p ∈ l, p.l.l ≤ 4000) ∧ ns.length + ss.length ≤ 400), ?_, ?_⟩
  · refine (works_calls W).mono ?_
    rintro _ w1 ⟨rfl, f1⟩
    refine ⟨_, rfl, IfB.f rfl ((large_calls w1 s l (ha.1.mod f1 (fun _ _ h => h)) hsl).mono ?_)⟩
    rintro _ w2 ⟨c, rfl, hc, e⟩
    subst e
    refine ⟨c, rfl, IfB.intro (fun _ => ⟨f1, fun h => by cases h⟩) (fun hcf => ⟨f1, fun h => ⟨hc hcf, ?_⟩⟩)⟩
    have h := of_decide_eq_false h
    rw [wi _ (by omega)] at h
    omega
  rintro u c w1 ⟨f1, hc⟩
  refine IfB.intro (fun _ => ?_) (fun hcf => ?_)
  · refine (works_calls w1).mono ?_
    rintro _ w2 ⟨rfl, f2⟩
    exact ⟨_, rfl, rfl, f1.n f2⟩
  obtain ⟨⟨hlen, hns⟩, h400⟩ := hc hcf
  refine (played_calls W s l ha w1 f1 hlen hns).mono ?_
  rintro _ w2 ⟨a, M, rfl, h2⟩
  obtain ⟨D, hD1, hD2⟩ := h2.sh
  have ok := h2.ok
  refine ⟨_, rfl, (save_calls w2 D a M hD1 ok).mono ?_⟩
  rintro _ w3 ⟨r, rfl, hr, hrn, f3⟩
  have hsv := save_len ok
  have hrl := rowLen hr
  refine ⟨r, rfl, (load_calls w3 r (saveP M) hr.has (by omega)).mono ?_⟩
  rintro _ w4 ⟨v, rfl, hv, f4⟩
  have hld := ldOf_some ok rfl
  rcases hv with ⟨c', M', E, rfl, he, hE1, hE2⟩ | ⟨_, he⟩
  rotate_left 1
  · rw [hld] at he; cases he
  rw [hld] at he; cases he
  have f24 : Frm none_ w2 w4 := f3.n f4
  have hz2 := h2.frm.size
  have z3 := f3.size
  have hP : P2 W D E a c' M M w4 := ⟨ok, ok, hD1.n f24, hE1, hD2, fun k hk => by have := hE2 k hk; omega, fun k hk hh => by have := hE2 k hh; have := hD1.lt k hk; omega, h2.frm.n f24⟩
  refine ⟨_, _, rfl, IfB.f rfl ⟨fun n t i V => ∃ (j : Nat) (o : List ByteArray), i = (j : Int) - 1 ∧ j ≤ ns.length ∧ j = n ∧ Row V t 9 1 (sv o) ∧ New w4 t ∧ Frm none_ w4 V ∧ o.length ≤ 3 * (ns.length - j) ∧ (∀ p ∈ M, p.n ∈ o ↔ p.n ∈ ns.drop j), ns.length, ⟨ns.length, [], by rw [wi _ (by omega), hxl], by omega, rfl, Row.nil _ _ _, fun k hk => by simp [Sl.blk] at hk, Frm.refl _ _, by simp, fun p hp => by simp⟩, ?_⟩⟩
  rintro n u1 t i V ⟨j, o, rfl, hj, rfl, ht, htn, fV, hol, hmem⟩
  have hPV := hP.n fV
  refine IfB.dec (fun hge => ?_) (fun hlt => ?_)
  · obtain ⟨k, rfl⟩ : ∃ k, j = k + 1 := ⟨j - 1, by omega⟩
    have ei : ((k + 1 : Nat) : Int) - 1 = (k : Int) := by omega
    rw [ei]
    obtain ⟨q, nm, hq, hnm, hld1⟩ := sv_at (hxh.mod hPV.frm (fun _ _ h => h)) (i := k) (by omega)
    have ew : IntKind.wrap .i64 ((k : Int) - (1 : Int)) = (k : Int) - 1 := wi _ (by omega)
    rw [ew]
    have hdrop : ns.drop k = nm :: ns.drop (k + 1) := by
      obtain ⟨h1, h2⟩ := List.getElem?_eq_some_iff.1 hnm
      rw [List.drop_eq_getElem_cons h1, h2]
    have m1 : ∀ p ∈ M, p.n ∈ o ++ [nm] ↔ p.n ∈ ns.drop k := fun p hp => by
      rw [hdrop, List.mem_append, hmem p hp, List.mem_singleton]
      exact ⟨fun h => h.elim (fun h => List.mem_cons_of_mem _ h) (fun h => by rw [h]; exact List.mem_cons_self), fun h => (List.mem_cons.1 h).elim .inr .inl⟩
    refine ⟨q, hq, by omega, by omega, nm, hld1, litT [nm] (by decide) (by decide) (by kernel_rfl) rfl fun t1 V1 ht1 hn1 f1' => ?_⟩
    refine app2 ht htn fV ht1 f1' (by omega) (by simp) ?_
    intro t2 V2 ht2 hn2 f2'
    have hP2 := hP.n f2'
    refine IfB.dec (fun hlt2 => ?_) (fun hge2 => ⟨k, by omega, k, o ++ [nm], rfl, by omega, rfl, ht2, hn2, f2', by simp only [List.length_append, List.length_singleton]; omega, m1⟩)
    obtain ⟨q', sn, hq', hsn, hld2⟩ := sv_at (hyh.mod hP2.frm (fun _ _ h => h)) (i := k) (by omega)
    refine ⟨q', hq', by omega, by omega, sn, hld2, (had_calls V2 D a M hP2.sa ok sn).mono ?_⟩
    rintro _ V3 ⟨rfl, f3'⟩
    have f43 := f2'.n f3'
    have hP3 := hP.n f43
    refine ⟨_, _, _, rfl, IfB.intro (fun hno => ?_) (fun hyes => ⟨k, by omega, k, o ++ [nm], rfl, by omega, rfl, ht2.mod f3' (fun _ _ h => h), hn2, f43, by simp only [List.length_append, List.length_singleton]; omega, m1⟩)⟩
    have hstr := hadP_some ok.srt (show (hadP sn M).2.2 = false by simpa using hno)
    have fd : Frm none_ W V3.drew := hP3.frm.drew
    refine ⟨fun W' => W' = V3.drew, rfl, q', hq', by omega, by omega, sn, fun W' e => by subst e; obtain ⟨q2, sn2, hq2, hsn2, hl2⟩ := sv_at (hyh.mod fd (fun _ _ h => h)) (i := k) (by omega); rw [hq'] at hq2; cases hq2; rw [hsn] at hsn2; cases hsn2; exact hl2, q, hq, by omega, by omega, nm, fun W' e => by subst e; obtain ⟨q2, sn2, hq2, hsn2, hl2⟩ := sv_at (hxh.mod fd (fun _ _ h => h)) (i := k) (by omega); rw [hq] at hq2; cases hq2; rw [hnm] at hsn2; cases hsn2; exact hl2, ?_⟩
    refine litT [sn, nm] (by decide) (by decide) (by kernel_rfl) rfl fun t4 V4 ht4 hn4 f4' => ?_
    have f34 : Frm none_ V2 V4 := f3'.n f4'.ofDrew
    refine app2 ht2 hn2 f2' ht4 f34 (by simp; omega) (by simp) ?_
    intro t5 V5 ht5 hn5 f5'
    refine ⟨k, by omega, k, (o ++ [nm]) ++ [sn, nm], rfl, by omega, rfl, ht5, hn5, f5', by simp only [List.length_append, List.length_singleton, List.length_cons, List.length_nil]; omega, fun p hp => ?_⟩
    rw [List.mem_append, m1 p hp]
    constructor
    · rintro (h | h)
      · exact h
      · simp only [List.mem_cons, List.not_mem_nil, or_false] at h
        rcases h with h | h
        · exact (hstr p hp h).elim
        · rw [hdrop, h]; exact List.mem_cons_self
    · exact fun h => .inl h
  · have hj0 : j = 0 := by omega
    subst hj0
    rw [List.drop_zero] at hmem
    have hcg : nextP ns M = nextP o M := nextP_congr fun p hp => by
      have := hmem p hp
      cases h1 : isW ns p with
      | true => exact (isW_iff.2 (this.2 (isW_iff.1 h1))).symm
      | false =>
        cases h2 : isW o p with
        | false => rfl
        | true => rw [isW_iff.2 (this.1 (isW_iff.1 h2))] at h1; cases h1
    have hD4 : ∀ k, E k → k < w4.heap.size := hE1.lt
    refine (next_calls V D a M hPV.sa ok x ns (hxh.mod hPV.frm (fun _ _ h => h)) (fun hne k hk hh => by have := arg_lt hxh hne k hk; have := hD2 k hh; omega) (by omega)).mono ?_
    rintro _ V1 ⟨rfl, hw1⟩
    obtain ⟨g1, D1, hP1, hs1⟩ := hPV.went hw1 (nextP_ok ok _)
    have htb : ∀ k, t.blk = some k → ¬ D k := fun k hk hh => by have := htn k hk; have := (hP.sa).lt k hh; omega
    have ht1 := ht.mod g1 htb
    have hol2 := has_sv ht.has
    refine ⟨_, _, rfl, (next_calls V1 E c' M hP1.sc ok t o ht1.has (fun _ k hk hh => by have := htn k hk; have := hD4 k hh; omega) (by omega)).mono ?_⟩
    rintro _ V2 ⟨rfl, hw2⟩
    obtain ⟨g2, E2, hP2, hs2⟩ := hP1.swap.went hw2 (nextP_ok ok _)
    rw [← hcg] at hP2 ⊢
    have hP2 := hP2.swap
    have hPd := hP2.n (frm_drew (F := none_) V2)
    refine ⟨_, _, rfl, IfB.t ((str_eqIff _ _).2 rfl) (IfB.t (beq_self_eq_true _) ((save_calls V2.drew D1 a _ hPd.sa hPd.om).mono ?_))⟩
    rintro _ V3 ⟨r3, rfl, hr3, hn3, g3⟩
    have hP3 := hPd.n g3
    refine ⟨r3, rfl, ?_, ?_⟩
    · refine runT_str un22 un5 un9 hr3.has ((save_calls V3 E2 c' _ hP3.sc hP3.on).mono ?_)
      rintro _ V4 ⟨r4, rfl, hr4, hn4, g4⟩
      refine ⟨r4, rfl, runT_str un22 un5 un9 hr4.has ⟨?_, (hP3.n g4).frm⟩⟩
      rw [(str_eqIff _ _).2 rfl]
    · refine (save_calls V3 E2 c' _ hP3.sc hP3.on).mono ?_
      rintro _ V4 ⟨r4, rfl, hr4, hn4, g4⟩
      have hr3' := (hr3.mod g4 (fun _ _ h => h)).has
      refine ⟨r4, rfl, runT_str un22 un5 un9 hr3' (runT_str un22 un5 un9 hr4.has ⟨?_, (hP3.n g4).frm⟩), runT_str un22 un5 un9 hr4.has (runT_str un22 un5 un9 hr3' ⟨?_, (hP3.n g4).frm⟩)⟩
      all_goals rw [(str_eqIff _ _).2 rfl]
end Go.Proofs.Ythgeacnemojjgaa
