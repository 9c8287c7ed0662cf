/- The law StrideBack walked. -/
import Derived.Test.YthgeacnemojjgaaOr
set_option linter.unusedVariables false
set_option linter.unusedSimpArgs false
set_option maxRecDepth 20000
namespace Go.Proofs.Ythgeacnemojjgaa
open Go Go.Proofs.YthgeacnemojjgaaV
theorem saveP_pre {p q : List Pj} {t : List UInt8} (hp : OkM p) (hq : OkM q) (h : saveP p ++ t = saveP q) : t = [] := by
  have h1 := hp.n
  have h2 := hq.n
  unfold saveP at h
  rw [List.append_assoc] at h
  obtain ⟨e1, e2⟩ := cb_inj (by omega) (by omega) h
  have := (det (fun p hp' => (hq.each p hp').fit) (ps := p) (rest := t) (fun p hp' => (hp.each p hp').fit) (by omega) e2).2
  rw [this, List.drop_of_length_le (by omega)]; rfl
theorem saveP_pos (M : List Pj) (h : OkM M) : 1 ≤ (saveP M).length := by
  have := h.n
  unfold saveP
  rw [List.length_append, cb_gb (by omega) (by omega)]
  have := gb_pos (M.length : Int).toNat
  omega
theorem ld_short {M : List Pj} (h : OkM M) : ldOf ((saveP M).take ((saveP M).length - 1)) = none := by
  refine ldOf_none fun qs hq e => ?_
  have hp := saveP_pos M h
  have h1 : saveP qs ++ (saveP M).drop ((saveP M).length - 1) = saveP M := by rw [e, List.take_append_drop]
  have h2 := saveP_pre hq h h1
  have h3 := congrArg List.length h2
  rw [List.length_drop, List.length_nil] at h3
  omega
theorem ld_long {M : List Pj} (h : OkM M) (x : UInt8) : ldOf (saveP M ++ [x]) = none := by
  refine ldOf_none fun qs hq e => ?_
  have := saveP_pre h hq e.symm
  cases this
/-- Two that are the same, and a block that is neither's. -/
def Duo (W : World) (a c b : Nat) (cs : Array Value) (V : World) : Prop := ∃ D E M, P2 W D E a c M M V ∧ Blk V b cs 45 ∧ ¬ D b ∧ ¬ E b
theorem Duo.n {W V V' : World} {a c b : Nat} {cs : Array Value} (h : Duo W a c b cs V) (hf : Frm none_ V V') : Duo W a c b cs V' := by
  obtain ⟨D, E, M, h1, h2, h3, h4⟩ := h
  exact ⟨D, E, M, h1.n hf, h2.mod hf (fun h => h), h3, h4⟩
theorem Duo.blk {W V : World} {a c b : Nat} {cs : Array Value} (h : Duo W a c b cs V) : Blk V b cs 45 := by obtain ⟨D, E, M, h1, h2, h3, h4⟩ := h; exact h2
theorem Duo.frm {W V : World} {a c b : Nat} {cs : Array Value} (h : Duo W a c b cs V) : Frm none_ W V := by obtain ⟨D, E, M, h1, h2, h3, h4⟩ := h; exact h1.frm
/-- A call of the one, then of the other one. -/
theorem duo {W V : World} {a c b : Nat} {cs : Array Value} {f : FuncId} {xa xc : Array Value} (h : Duo W a c b cs V) (res : List Pj → Value) (nxt : List Pj → List Pj) (okn : ∀ M, OkM M → OkM (nxt M))
    (h1 : ∀ (V : World) (D : Nat → Prop) (M : List Pj), Frm none_ W V → (∀ k, D k → W.heap.size ≤ k) → Shw V D a M → OkM M → Calls prog f xa V fun e V' => e = .returned (res M) ∧ Went V D a (nxt M) V')
    (h2 : ∀ (V : World) (D : Nat → Prop) (M : List Pj), Frm none_ W V → (∀ k, D k → W.heap.size ≤ k) → Shw V D c M → OkM M → Calls prog f xc V fun e V' => e = .returned (res M) ∧ Went V D c (nxt M) V') :
    ∃ M, Calls prog f xa V fun e V1 => e = .returned (res M) ∧ Blk V1 b cs 45 ∧ Calls prog f xc V1 fun e V2 => e = .returned (res M) ∧ Duo W a c b cs V2 := by
  obtain ⟨D, E, M, hP, hB, hD, hE⟩ := h
  refine ⟨M, (h1 V D M hP.frm hP.na hP.sa hP.om).mono ?_⟩
  rintro _ V1 ⟨rfl, hw1⟩
  obtain ⟨f1, D1, hP1, hs1⟩ := hP.went hw1 (okn M hP.om)
  have hB1 := hB.mod f1 hD
  have hD1 : ¬ D1 b := fun hh => (hs1 b hh).elim hD (fun h => by have := hB.lt; omega)
  refine ⟨rfl, hB1, (h2 V1 E M hP1.frm hP1.nc hP1.sc hP1.on).mono ?_⟩
  rintro _ V2 ⟨rfl, hw2⟩
  obtain ⟨f2, E2, hP2, hs2⟩ := hP1.swap.went hw2 (okn M hP1.on)
  exact ⟨rfl, D1, E2, _, hP2.swap, hB1.mod f2 hE, hD1, fun hh => (hs2 b hh).elim hE (fun h => by have := hB1.lt; omega)⟩
theorem duoSet {W V : World} {a c b : Nat} {cs : Array Value} (h : Duo W a c b cs V) (nm : ByteArray) (k : Int) : ∃ e : Int, Calls prog 15 #[.pointer (some ⟨a, 0, none⟩), .string nm, .int .i64 k] V fun en V1 => en = .returned (.int .i64 e) ∧ Blk V1 b cs 45 ∧ Calls prog 15 #[.pointer (some ⟨c, 0, none⟩), .string nm, .int .i64 k] V1 fun en V2 => en = .returned (.int .i64 e) ∧ Duo W a c b cs V2 := by
  obtain ⟨M, h⟩ := duo h (fun M => .int .i64 (setP nm k M).1) (fun M => (setP nm k M).2) (fun M ok => setP_ok ok nm k) (fun V D M _ _ hs ok => set_calls V D a M hs ok nm k) (fun V D M _ _ hs ok => set_calls V D c M hs ok nm k)
  exact ⟨_, h⟩
theorem duoDrop {W V : World} {a c b : Nat} {cs : Array Value} (h : Duo W a c b cs V) (nm : ByteArray) : ∃ e : Int, Calls prog 17 #[.pointer (some ⟨a, 0, none⟩), .string nm] V fun en V1 => en = .returned (.int .i64 e) ∧ Blk V1 b cs 45 ∧ Calls prog 17 #[.pointer (some ⟨c, 0, none⟩), .string nm] V1 fun en V2 => en = .returned (.int .i64 e) ∧ Duo W a c b cs V2 := by
  obtain ⟨M, h⟩ := duo h (fun M => .int .i64 (dropP nm M).1) (fun M => (dropP nm M).2) (fun M ok => dropP_ok ok nm) (fun V D M _ _ hs ok => drop_calls V D a M hs ok nm) (fun V D M _ _ hs ok => drop_calls V D c M hs ok nm)
  exact ⟨_, h⟩
theorem duoChg {W V : World} {a c b : Nat} {cs : Array Value} (h : Duo W a c b cs V) (nm : ByteArray) (k : Int) : ∃ e : Int, Calls prog 18 #[.pointer (some ⟨a, 0, none⟩), .string nm, .int .i64 k] V fun en V1 => en = .returned (.int .i64 e) ∧ Blk V1 b cs 45 ∧ Calls prog 18 #[.pointer (some ⟨c, 0, none⟩), .string nm, .int .i64 k] V1 fun en V2 => en = .returned (.int .i64 e) ∧ Duo W a c b cs V2 := by
  obtain ⟨M, h⟩ := duo h (fun M => .int .i64 (chgP nm k M).1) (fun M => (chgP nm k M).2) (fun M ok => chgP_ok ok nm k) (fun V D M _ _ hs ok => chg_calls V D a M hs ok nm k) (fun V D M _ _ hs ok => chg_calls V D c M hs ok nm k)
  exact ⟨_, h⟩
theorem duoNext {W V : World} {a c b : Nat} {cs : Array Value} (h : Duo W a c b cs V) (x : Sl) (ws : List ByteArray) (hx : Has W x 1 (sv ws)) (hws : ws.length ≤ 1000000000000) : ∃ (q : ByteArray) (e : Int), Calls prog 13 #[.pointer (some ⟨a, 0, none⟩), .slice x.a x.l x.c] V fun en V1 => en = .returned (.tuple #[.string q, .int .i64 e]) ∧ Blk V1 b cs 45 ∧ Calls prog 13 #[.pointer (some ⟨c, 0, none⟩), .slice x.a x.l x.c] V1 fun en V2 => en = .returned (.tuple #[.string q, .int .i64 e]) ∧ Duo W a c b cs V2 := by
  obtain ⟨M, h⟩ := duo h (fun M => .tuple #[.string (nextP ws M).1, .int .i64 (nextP ws M).2.1]) (fun M => (nextP ws M).2.2) (fun M ok => nextP_ok ok ws)
    (fun V D M hf hD hs ok => next_calls V D a M hs ok x ws (hx.mod hf (fun _ _ h => h)) (fun hne k hk hh => by have := arg_lt hx hne k hk; have := hD k hh; omega) hws)
    (fun V D M hf hD hs ok => next_calls V D c M hs ok x ws (hx.mod hf (fun _ _ h => h)) (fun hne k hk hh => by have := arg_lt hx hne k hk; have := hD k hh; omega) hws)
  exact ⟨_, _, h⟩
theorem back_law (W : World) (s : Sl) (l : List Stp) (ha : ArgS W s l) (y : Sl) (m : List Stp) (hm : ArgS W y m) : Calls prog 9 #[.slice s.a s.l s.c, .slice y.a y.l y.c] W fun e w' => e = .returned (.bool true) ∧ Frm none_ W w' := by
  refine callsRet (W9 (x0 := s) (x1 := y) (Q := fun v w' => v = .bool true ∧ Frm none_ W w') ?_) (fun v w' ⟨h, h'⟩ => ⟨by rw [h], h'⟩)
  have hsl : s.l ≤ 100000000000000 := by have := ha.2.2.2.2; have := ha.2.2.1; omega
  have hyl : y.l ≤ 100000000000000 := by have := hm.2.2.2.2; have := hm.2.2.1; omega
  have hml := hm.1.len
  unfold F9
  refine ⟨fun c V => Frm none_ W V ∧ (c = false → (l.length ≤ 4000 ∧ ∀ p ∈ l, p.l.l ≤ 4000) ∧ (m.length ≤ 4000 ∧ ∀ p ∈ m, p.l.l ≤ 4000)), ?_, ?_⟩
  · refine (works_calls W).mono ?_
    rintro _ w1 ⟨rfl, f1⟩
    refine ⟨_, rfl, IfB.f rfl ((large_calls w1 s l (ha.1.mod f1 (fun _ _ h => h)) hsl).mono ?_)⟩
    rintro _ w2 ⟨c, rfl, hc, e⟩
    subst e
    refine ⟨c, rfl, IfB.intro (fun _ => ⟨f1, fun h => by cases h⟩) (fun hcf => (large_calls w2 y m (hm.1.mod f1 (fun _ _ h => h)) hyl).mono ?_)⟩
    rintro _ w3 ⟨c', rfl, hc', e⟩
    subst e
    exact ⟨c', rfl, f1, fun h => ⟨hc hcf, hc' h⟩⟩
  rintro u c w1 ⟨f1, hc⟩
  refine IfB.intro (fun _ => ?_) (fun hcf => ?_)
  · refine (works_calls w1).mono ?_
    rintro _ w2 ⟨rfl, f2⟩
    exact ⟨_, rfl, rfl, f1.n f2⟩
  obtain ⟨⟨hlen, hns⟩, hlen2, hns2⟩ := hc hcf
  refine (played_calls W s l ha w1 f1 hlen hns).mono ?_
  rintro _ w2 ⟨a, M, rfl, h2⟩
  obtain ⟨D, hD1, hD2⟩ := h2.sh
  have ok := h2.ok
  refine ⟨_, rfl, (save_calls w2 D a M hD1 ok).mono ?_⟩
  rintro _ w3 ⟨r, rfl, hr, hrn, f3⟩
  have hsv := save_len ok
  have hsp := saveP_pos M ok
  have hrl := rowLen hr
  have hrc : r.l ≤ r.c := by
    rcases hr.cases with ⟨rfl, _⟩ | ⟨g, cur, ha, hB, h3, _⟩
    · exact Nat.le_refl _
    · exact h3
  refine ⟨r, rfl, (load_calls w3 r (saveP M) hr.has (by omega)).mono ?_⟩
  rintro _ w4 ⟨v, rfl, hv, f4⟩
  have hld := ldOf_some ok rfl
  rcases hv with ⟨c', M', E, rfl, he, hE1, hE2⟩ | ⟨_, he⟩
  rotate_left 1
  · rw [hld] at he; cases he
  rw [hld] at he; cases he
  have f24 : Frm none_ w2 w4 := f3.n f4
  have hz2 := h2.frm.size
  have z3 := f3.size
  have hP : P2 W D E a c' M M w4 := ⟨ok, ok, hD1.n f24, hE1, hD2, fun k hk => by have := hE2 k hk; omega, fun k hk hh => by have := hE2 k hh; have := hD1.lt k hk; omega, h2.frm.n f24⟩
  have e1 : IntKind.wrap .i64 (((r.l : Nat) : Int) - (1 : Int)) = ((r.l - 1 : Nat) : Int) := by rw [wi _ (by omega)]; omega
  refine ⟨_, _, rfl, ?_⟩
  rw [e1, Int.toNat_natCast, slA_zero]
  refine ⟨by omega, ?_⟩
  have hr4 := hr.mod f4 (fun _ _ h => h)
  have hshort : Has w4 ⟨r.a, r.l - 1 - 0, r.c - 0⟩ 1 (bv ((saveP M).take ((saveP M).length - 1))) := by
    have := hr4.has.head (r.l - 1 - 0) (r.c - 0) (by omega)
    rw [bv_take] at this
    rw [show (saveP M).length - 1 = r.l - 1 - 0 by omega]
    exact this
  refine (load_calls w4 ⟨r.a, r.l - 1 - 0, r.c - 0⟩ _ hshort (by simp only; omega)).mono ?_
  rintro _ w5 ⟨v, rfl, hv, f5⟩
  rcases hv with ⟨_, _, _, _, he, _⟩ | ⟨rfl, _⟩
  · rw [ld_short ok] at he; cases he
  refine ⟨_, _, rfl, runT_lit0 st22 ?_⟩
  intro w6 hr6 f6 z6
  have hr6' := (hr4.mod f5 (fun _ _ h => h)).mod f6 (fun _ _ h => h)
  refine runT_append st22 hr6 hr6'.has (bv_one _) (by simp only; omega) (by simp only [maxLen]; omega) ?_
  intro t7 w7 hr7 hl7 hn7 f7
  rw [List.nil_append] at hr7
  have hnew6 : New w5 ⟨some ⟨w5.heap.size, 0, none⟩, 0, 0⟩ := fun k hk => by simp [Sl.blk] at hk; omega
  have htn7 : New w5 t7 := hnew6.near (w2 := w7) hn7 f6.size
  have f57 : Frm none_ w5 w7 := hnew6.frm f6 f7
  refine runT_lit1 st22 (by decide) rfl ?_
  intro w8 hr8 f8 z8
  have hl7' := rowLen hr7
  refine runT_append st22 (hr7.mod f8 (fun _ _ h => h)) hr8.has (by intro u hu; simp [Value.cells] at hu; rw [hu]; rfl) (by simp only; omega) (by simp only [maxLen]; omega) ?_
  intro t9 w9 hr9 hl9 hn9 f9
  have hr9' : Row w9 t9 5 1 (bv (saveP M ++ [0])) := by
    rw [bv_append]
    simpa [Value.cells, bv] using hr9
  have f59 : Frm none_ w5 w9 := htn7.frm (f57.n f8) f9
  have hl9' := rowLen hr9'
  simp only [List.length_append, List.length_singleton] at hl9'
  refine (load_calls w9 t9 _ hr9'.has (by omega)).mono ?_
  rintro _ w10 ⟨v, rfl, hv, f10⟩
  rcases hv with ⟨_, _, _, _, he, _⟩ | ⟨rfl, _⟩
  · rw [ld_long ok] at he; cases he
  have f4x : Frm none_ w4 w10 := (f5.n f59).n f10
  have hP10 := (hP.n f4x).n (frm_drew (F := none_) w10)
  have hrx : Has w10.drew r 1 (bv (saveP M)) := (hr4.mod f4x (fun _ _ h => h)).has.drew
  refine ⟨_, _, rfl, fun c V => c = false ∧ ∃ D E M, P2 W D E a c' M M V, ?_, ?_⟩
  · refine IfB.f rfl (IfB.f rfl (IfB.f rfl ⟨?_, ?_⟩))
    · refine (save_calls w10.drew E c' M hP10.sc ok).mono ?_
      rintro _ w11 ⟨q, rfl, hq, hqn, f11⟩
      have hrx2 := hrx.mod f11 (fun _ _ h => h)
      refine ⟨q, rfl, runT_str un22 un5 un9 hq.has (runT_str un22 un5 un9 hrx2 ⟨nb _, D, E, M, hP10.n f11⟩), runT_str un22 un5 un9 hrx2 (runT_str un22 un5 un9 hq.has ⟨nb _, D, E, M, hP10.n f11⟩)⟩
    · refine runT_str un22 un5 un9 hrx ((save_calls w10.drew E c' M hP10.sc ok).mono ?_)
      rintro _ w11 ⟨q, rfl, hq, hqn, f11⟩
      exact ⟨q, rfl, runT_str un22 un5 un9 hq.has ⟨nb _, D, E, M, hP10.n f11⟩⟩
  clear hP hP10 hld ok hsv hsp hD1 hD2 hE1 hE2 hr hr4 hrx
  rintro u1 c w11 ⟨rfl, hst⟩
  refine IfB.f rfl ⟨fun n i V => ∃ j : Nat, i = (j : Int) ∧ j ≤ m.length ∧ n = m.length - j ∧ ∃ D E M, P2 W D E a c' M M V, m.length, ⟨0, rfl, by omega, rfl, hst⟩, ?_⟩
  rintro n u2 i V ⟨j, rfl, hj, rfl, D, E, M, hP⟩
  refine IfB.dec (fun hlt => ?_) (fun hge => ⟨rfl, hP.frm⟩)
  obtain ⟨qa, st, hqa, hst', hstm, hld, hldA⟩ := (hm.1.mod hP.frm (fun _ _ h => h)).at (by decide) (i := (j : Int)) (by omega) (by omega)
  have oks := hm.2.1 st hstm
  have hns1 := hns2 st hstm
  have hnames : Has W st.l 1 (sv st.ns) := oks.has.one
  have hnl := has_sv hnames
  refine ⟨qa, hqa, by omega, by omega, (stc st).toArray, hldA, ?_⟩
  intro b14 V4 hN
  have hb14 : b14 = V.heap.size := hN.2
  refine Blk.setW hN.blk rfl rfl (by simp [stc, Value.oneCell']) ?_
  intro V5 hB5 g5
  have F5 : Frm none_ V V5 := (hN.mod none_).b g5 (by omega)
  have h5 : Duo W a c' b14 (stc st).toArray V5 := ⟨D, E, M, hP.n F5, hB5, fun hh => by have := hP.sa.lt b14 hh; omega, fun hh => by have := hP.sc.lt b14 hh; omega⟩
  have lds : ∀ c v, (stc st)[c]? = some v → ∀ w' : World, Blk w' b14 (stc st).toArray 45 → Ld w' ((⟨b14, 0, none⟩ : Addr).add c) v := fun c v hv w' h => by rw [addr_add, Nat.zero_add]; exact h.ld (by simpa using hv)
  clear hld hldA hP hN g5 F5 hB5
  have ne0 : ∀ e : Int, (e != e) = false := fun e => by simp
  refine ⟨fun c V => c = false ∧ Duo W a c' b14 (stc st).toArray V, ⟨fun w' => Blk w' b14 (stc st).toArray 45, h5.blk, st.k, lds 0 _ rfl, ?_⟩, ?_⟩
  · have h5d := h5.n (frm_drew (F := none_) V5)
    -- a charge of both
    have chg : ∀ V', Duo W a c' b14 (stc st).toArray V' → ∃ t121 : Int, (∀ w' : World, Blk w' b14 (stc st).toArray 45 → Ld w' ((⟨b14, 0, none⟩ : Addr).add 0) (.int .i64 t121)) ∧
        IfB (t121 == (2 : Int)) (∃ t126 : ByteArray, (∀ w' : World, Blk w' b14 (stc st).toArray 45 → Ld w' ((⟨b14, 0, none⟩ : Addr).add 2) (.string t126)) ∧
          ∃ t128 : Int, (∀ w' : World, Blk w' b14 (stc st).toArray 45 → Ld w' ((⟨b14, 0, none⟩ : Addr).add 1) (.int .i64 t128)) ∧
          ∃ t132 : ByteArray, (∀ w' : World, Blk w' b14 (stc st).toArray 45 → Ld w' ((⟨b14, 0, none⟩ : Addr).add 2) (.string t132)) ∧
          ∃ t134 : Int, (∀ w' : World, Blk w' b14 (stc st).toArray 45 → Ld w' ((⟨b14, 0, none⟩ : Addr).add 1) (.int .i64 t134)) ∧
          Calls prog 18 #[.pointer (some ⟨a, 0, none⟩), .string t126, .int .i64 t128] V' fun en w1_18 => ∃ t129 : Int, en = .returned (.int .i64 t129) ∧ Blk w1_18 b14 (stc st).toArray 45 ∧
          Calls prog 18 #[.pointer (some ⟨c', 0, none⟩), .string t132, .int .i64 t134] w1_18 fun en w1_19 => ∃ t135 : Int, en = .returned (.int .i64 t135) ∧ ((t129 != t135) = false ∧ Duo W a c' b14 (stc st).toArray w1_19))
        (false = false ∧ Duo W a c' b14 (stc st).toArray V') := by
      intro V' h'
      refine ⟨st.k, lds 0 _ rfl, IfB.intro (fun _ => ?_) (fun _ => ⟨rfl, h'⟩)⟩
      obtain ⟨e, he⟩ := duoChg h' st.s st.n
      refine ⟨st.s, lds 2 _ rfl, st.n, lds 1 _ rfl, st.s, lds 2 _ rfl, st.n, lds 1 _ rfl, he.mono ?_⟩
      rintro _ V1 ⟨rfl, hb1, h2⟩
      refine ⟨_, rfl, hb1, h2.mono ?_⟩
      rintro _ V2 ⟨rfl, h3⟩
      exact ⟨_, rfl, ne0 _, h3⟩
    refine IfB.intro (fun _ => ?_) (fun _ => ?_)
    · obtain ⟨e, he⟩ := duoSet h5d st.s st.n
      refine ⟨st.s, lds 2 _ rfl, st.n, lds 1 _ rfl, st.s, lds 2 _ rfl, st.n, lds 1 _ rfl, he.mono ?_⟩
      rintro _ V1 ⟨rfl, hb1, h2⟩
      refine ⟨_, rfl, fun w' => Blk w' b14 (stc st).toArray 45, fun _ h => h, hb1, h2.mono ?_⟩
      rintro _ V2 ⟨rfl, h3⟩
      refine ⟨_, rfl, fun w' => Blk w' b14 (stc st).toArray 45, fun _ h => h, h3.blk, IfB.f (ne0 _) ⟨st.k, lds 0 _ rfl, IfB.intro (fun _ => ?_) (fun _ => chg V2 h3)⟩⟩
      obtain ⟨e', he'⟩ := duoDrop h3 st.s
      refine ⟨st.s, lds 2 _ rfl, st.s, lds 2 _ rfl, he'.mono ?_⟩
      rintro _ V3 ⟨rfl, hb3, h4⟩
      refine ⟨_, rfl, fun w' => Blk w' b14 (stc st).toArray 45, fun _ h => h, hb3, h4.mono ?_⟩
      rintro _ V4 ⟨rfl, h5⟩
      exact ⟨_, rfl, fun w' => Blk w' b14 (stc st).toArray 45, fun _ h => h, h5.blk, IfB.f (ne0 _) (chg V4 h5)⟩
    · refine ⟨st.k, lds 0 _ rfl, IfB.intro (fun _ => ?_) (fun _ => chg _ h5d)⟩
      obtain ⟨e', he'⟩ := duoDrop h5d st.s
      refine ⟨st.s, lds 2 _ rfl, st.s, lds 2 _ rfl, he'.mono ?_⟩
      rintro _ V3 ⟨rfl, hb3, h4⟩
      refine ⟨_, rfl, fun w' => Blk w' b14 (stc st).toArray 45, fun _ h => h, hb3, h4.mono ?_⟩
      rintro _ V4 ⟨rfl, h5⟩
      exact ⟨_, rfl, fun w' => Blk w' b14 (stc st).toArray 45, fun _ h => h, h5.blk, IfB.f (ne0 _) (chg V4 h5)⟩
  rintro u3 c V6 ⟨rfl, h6⟩
  refine IfB.f rfl ⟨fun V => Duo W a c' b14 (stc st).toArray V, ⟨fun c V => Duo W a c' b14 (stc st).toArray V, ⟨st.k, lds 0 _ rfl _ h6.blk, IfB.intro (fun _ => h6) (fun _ => ⟨st.k, lds 0 _ rfl _ h6.blk, h6⟩)⟩, ?_⟩, ?_⟩
  · rintro u4 c V7 h7
    refine IfB.intro (fun _ => ?_) (fun _ => h7)
    obtain ⟨q, e, he⟩ := duoNext h7 st.l st.ns hnames (by omega)
    refine ⟨st.l, lds 3 _ rfl _ h7.blk, he.mono ?_⟩
    rintro _ V8 ⟨rfl, hb8, h8⟩
    refine ⟨_, _, rfl, st.l, lds 3 _ rfl _ hb8, h8.mono ?_⟩
    rintro _ V9 ⟨rfl, h9⟩
    refine ⟨_, _, rfl, fun c V => c = false ∧ V = V9, IfB.f (nb _) ⟨ne0 _, rfl⟩, ?_⟩
    rintro u5 c V10 ⟨rfl, e10⟩
    subst e10
    have h9d := h9.n (frm_drew (F := none_) V10)
    refine IfB.f rfl ⟨fun w' => Blk w' b14 (stc st).toArray 45, h9d.blk, IfB.intro (fun _ => ⟨st.n, lds 1 _ rfl, IfB.intro (fun _ => ?_) (fun _ => h9d)⟩) (fun _ => h9d)⟩
    obtain ⟨e', he'⟩ := duoChg h9d q st.n
    refine ⟨st.n, lds 1 _ rfl, st.n, lds 1 _ rfl, he'.mono ?_⟩
    rintro _ V11 ⟨rfl, hb11, h11⟩
    refine ⟨_, rfl, hb11, h11.mono ?_⟩
    rintro _ V12 ⟨rfl, h12⟩
    exact ⟨_, rfl, IfB.f (ne0 _) h12⟩
  · rintro u4 V7 h7
    obtain ⟨D, E, M, hP, hB, hDb, hEb⟩ := h7.n (frm_drew (F := none_) V7)
    have nxt : ∀ {V' : World}, Frm none_ V7.drew V' → ∃ n', n' < m.length - j ∧ ∃ j' : Nat, IntKind.wrap .i64 ((j : Int) + (1 : Int)) = (j' : Int) ∧ j' ≤ m.length ∧ n' = m.length - j' ∧ ∃ D E M, P2 W D E a c' M M V' := fun hf => ⟨m.length - (j + 1), by omega, j + 1, by rw [wi _ (by omega)]; omega, by omega, rfl, D, E, M, hP.n hf⟩
    refine (save_calls V7.drew D a M hP.sa hP.om).mono ?_
    rintro _ V8 ⟨r8, rfl, hr8, hn8, f8⟩
    refine ⟨r8, rfl, ?_, ?_⟩
    · refine runT_str un22 un5 un9 hr8.has ((save_calls V8 E c' M (hP.n f8).sc hP.on).mono ?_)
      rintro _ V9 ⟨r9, rfl, hr9, hn9, f9⟩
      exact ⟨r9, rfl, runT_str un22 un5 un9 hr9.has (IfB.f (nb _) (nxt (f8.n f9)))⟩
    · refine (save_calls V8 E c' M (hP.n f8).sc hP.on).mono ?_
      rintro _ V9 ⟨r9, rfl, hr9, hn9, f9⟩
      have hr8' := (hr8.mod f9 (fun _ _ h => h)).has
      exact ⟨r9, rfl, runT_str un22 un5 un9 hr8' (runT_str un22 un5 un9 hr9.has (IfB.f (nb _) (nxt (f8.n f9)))), runT_str un22 un5 un9 hr9.has (runT_str un22 un5 un9 hr8' (IfB.f (nb _) (nxt (f8.n f9))))⟩
end Go.Proofs.Ythgeacnemojjgaa
