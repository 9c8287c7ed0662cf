/- The examples; the laws NodeWrites, NodeBack, NodeFinds walked. -/
import Derived.Test.YtedkaegdfdcdaaaLw
set_option linter.unusedVariables false
set_option linter.unusedSimpArgs false
namespace Go.Proofs.Ytedkaegdfdcdaaa
open Go Go.Proofs.YtedkaegdfdcdaaaV
theorem lit_sv {l : List ByteArray} {n : Nat} {parts : Array (Nat × Value)} (h0 : 0 < n) (hn : n ≤ 1000)
    (hf : Instr.fill (fun i => some (i * 1, 1)) ((Array.range (n * 1)).map fun j => (Value.string (⟨#[]⟩ : ByteArray)).cells[j % (Value.string (⟨#[]⟩ : ByteArray)).cells.size]!) parts.toList = some (sv l).toArray) (hl : l.length = n) {w : World} {K : Sl → World → Prop}
    (hk : ∀ t w', Has w' t 1 (sv l) → Frm none_ w w' → K t w') : RunT prog .slice (Instr.buildSlice 22 n parts) w K :=
  runT_lit st22s h0 (by omega) hf (by simp [sv, hl]) fun w' hr f z => hk _ _ hr.has f
theorem lit_sv1 {x : ByteArray} {w : World} {K : Sl → World → Prop} (hk : ∀ t w', Has w' t 1 (sv [x]) → Frm none_ w w' → K t w') : RunT prog .slice (Instr.buildSlice 22 1 #[(0, .string x)]) w K :=
  runT_lit1 st22s (by decide) rfl fun w' hr f z => hk _ _ hr.has f
theorem lit_iv1 {x : Int} {w : World} {K : Sl → World → Prop} (hk : ∀ t w', Has w' t 1 (iv [x]) → Frm none_ w w' → K t w') : RunT prog .slice (Instr.buildSlice 23 1 #[(0, .int .i64 x)]) w K :=
  runT_lit1 st23 (by decide) rfl fun w' hr f z => hk _ _ hr.has f
theorem b28t (k v : Sl) : BuildIs prog 28 #[(0, .bool true), (1, .slice k.a k.l k.c), (2, .slice v.a v.l v.c)] (ndc true k v ⟨none, 0, 0⟩) := fun w => by kernel_rfl
theorem b28k (d : Sl) : BuildIs prog 28 #[(3, .slice d.a d.l d.c)] (ndc false ⟨none, 0, 0⟩ ⟨none, 0, 0⟩ d) := fun w => by kernel_rfl
theorem nilS (w : World) : Has w ⟨none, 0, 0⟩ 1 (sv []) := Has.nil _ _ _ rfl
theorem nilI (w : World) : Has w ⟨none, 0, 0⟩ 1 (iv []) := Has.nil _ _ _ rfl
theorem blt_str (a b : List UInt8) : blt (str a) (str b) = Op.bytesLess a b := by unfold blt; rw [str_toList, str_toList]
def n1 : Nd := ⟨true, [str [97], str [98]], [str [120], str []], []⟩
def n2 : Nd := ⟨false, [], [], [5]⟩
theorem n1_may : MayN n1 := by
  refine ⟨fun i hi k hk => ?_, fun i hi v hv => ?_, fun i hi d hd => ?_, ?_⟩
  · match i with
    | 0 =>
      have e : k = str [97] := by simpa [n1] using hk.symm
      subst e
      exact ⟨by decide, by decide, fun h => by omega⟩
    | 1 =>
      have e : k = str [98] := by simpa [n1] using hk.symm
      subst e
      refine ⟨by decide, by decide, fun h p hp => ?_⟩
      have e : p = str [97] := by simpa [n1] using hp.symm
      subst e
      rw [blt_str]; decide
    | i + 2 => simp [n1] at hk
  · match i with
    | 0 =>
      have e : v = str [120] := by simpa [n1] using hv.symm
      subst e; decide
    | 1 =>
      have e : v = str [] := by simpa [n1] using hv.symm
      subst e; decide
    | i + 2 => simp [n1] at hv
  · simp [n1] at hd
  · decide
theorem n2_may : MayN n2 := by
  refine ⟨fun i hi k hk => by simp [n2] at hk, fun i hi v hv => by simp [n2] at hv, fun i hi d hd => ?_, ?_⟩
  · match i with
    | 0 =>
      have e : d = 5 := by simpa [n2] using hd.symm
      subst e; decide
    | i + 1 => simp [n2] at hd
  · decide
theorem cb_small {k : Nat} (h : k < 128) : cb (k : Int) = [UInt8.ofNat k] := by
  unfold cb
  rw [if_neg (by omega), Int.toNat_natCast, gb_small h]
theorem sb_small {l : List UInt8} (h : l.length < 128) : sb (str l) = UInt8.ofNat l.length :: l := by
  have e : (str l).size = l.length := rfl
  unfold sb
  rw [e, if_neg (by omega), gb_small h]; rfl
theorem n1_nb : nb n1 = [1, 2, 1, 97, 1, 120, 1, 98, 0] := by
  have c2 : cb (2 : Int) = [2] := cb_small (k := 2) (by omega)
  have sa : sb (str [97]) = [1, 97] := sb_small (by decide)
  have sx : sb (str [120]) = [1, 120] := sb_small (by decide)
  have s_b : sb (str [98]) = [1, 98] := sb_small (by decide)
  have s0 : sb (str []) = [0] := sb_small (by decide)
  have i0 : item n1 0 = [1, 97, 1, 120] := by
    show sb (str [97]) ++ sb (str [120]) = _
    rw [sa, sx]; rfl
  have i1 : item n1 1 = [1, 98, 0] := by
    show sb (str [98]) ++ sb (str []) = _
    rw [s_b, s0]; rfl
  have h0 : nb0 n1 = [1, 2] := by
    show fb true ++ cb 2 ++ [] = _
    rw [c2]; rfl
  show nbT n1 2 = _
  rw [nbT_succ, nbT_succ, i0, i1]
  show nb0 n1 ++ [] ++ _ ++ _ = _
  rw [h0]; rfl
theorem n2_nb : nb n2 = [0, 0, 5] := by
  have c0 : cb (0 : Int) = [0] := cb_small (k := 0) (by omega)
  have c5 : cb (5 : Int) = [5] := cb_small (k := 5) (by omega)
  show nb0 n2 ++ [] = _
  show fb false ++ cb 0 ++ cb 5 ++ [] = _
  rw [c0, c5]; rfl
theorem enc_ok {n : Nd} (h : MayN n) (hl : (nb n).length ≤ 256) : encC n = 0 ∧ encL n = enc n := by
  rcases encC_cases n with ⟨hn, _⟩ | ⟨_, h2, _⟩ | ⟨_, _, e1, e2⟩
  · exact absurd h hn
  · omega
  · exact ⟨e1, e2⟩
theorem n1_ok : encC n1 = 0 ∧ encL n1 = enc n1 := enc_ok n1_may (by rw [n1_nb]; decide)
theorem n2_ok : encC n2 = 0 ∧ encL n2 = enc n2 := enc_ok n2_may (by rw [n2_nb]; decide)
theorem n1_aa : fiN n1 (str [97, 97]) = 1 ∧ fdN n1 (str [97, 97]) = false := by
  have e : fi n1.keys (str [97, 97]) = 1 := by
    show fi [str [97], str [98]] (str [97, 97]) = 1
    rw [fi, if_pos (by rw [blt_str]; decide), fi, if_neg (by rw [blt_str]; decide)]
  unfold fiN fdN fd
  rw [if_pos n1_may, if_pos n1_may, e]
  refine ⟨rfl, ?_⟩
  show decide (str [98] = str [97, 97]) = false
  rw [decide_eq_false_iff_not]
  intro h
  have := congrArg ByteArray.size h
  exact absurd this (by decide)
theorem n1_b : fiN n1 (str [98]) = 1 ∧ fdN n1 (str [98]) = true := by
  have e : fi n1.keys (str [98]) = 1 := by
    show fi [str [97], str [98]] (str [98]) = 1
    rw [fi, if_pos (by rw [blt_str]; decide), fi, if_neg (by rw [blt_str]; decide)]
  unfold fiN fdN fd
  rw [if_pos n1_may, if_pos n1_may, e]
  refine ⟨rfl, ?_⟩
  show decide (str [98] = str [98]) = true
  simp
set_option maxRecDepth 20000 in
theorem awake_calls (w : World) : Calls prog 10 #[] w fun e w' => e = .returned (.bool true) ∧ Frm none_ w w' := by
  refine callsRet (W10 (Q := fun v w' => v = .bool true ∧ Frm none_ w w') ?_) (fun v w' ⟨h, h'⟩ => ⟨by rw [h], h'⟩)
  unfold F10
  refine lit_sv (l := n1.keys) (n := 2) (by decide) (by decide) (by kernel_rfl) rfl ?_
  intro t12 w1 hk f1
  refine lit_sv (l := n1.vals) (n := 2) (by decide) (by decide) (by kernel_rfl) rfl ?_
  intro t13 w2 hv f2
  have f12 := f1.n f2
  have hS : NdS w2 t12 t13 ⟨none, 0, 0⟩ n1 := ⟨hk.mod f2 (fun _ _ h => h), hv, nilI _⟩
  refine ⟨_, b28t _ _, ?_⟩
  intro b1 w3 hN
  have f3 : Frm none_ w2 w3 := hN.mod _
  have hb1 := hN.b
  refine hN.blk.setW rfl rfl (ndc_one _ _ _ _) ?_
  intro w4 hB4 f4
  have z12 := f12.size
  have z3 := f3.size
  have z4 := f4.size
  have f24 : Frm none_ w2 w4 := f3.b f4 (by omega)
  have f14 : Frm none_ w w4 := f12.n f24
  have hBk4 : Bk w4 b1 28 t12 t13 ⟨none, 0, 0⟩ n1 := ⟨hB4, hS.mod f24⟩
  have sm1 : SmN n1 := ⟨by decide, by decide, by decide⟩
  have sm2 : SmN n2 := ⟨by decide, by decide, by decide⟩
  refine ⟨_, hBk4.la, (encode_calls w4 _ _ _ n1 hBk4.nd sm1).mono ?_⟩
  rintro _ w5 ⟨r, rfl, hr, hrc, _, f5⟩
  rw [n1_ok.1]
  rw [n1_ok.2] at hr
  have hrl : r.l = 256 := by
    have := hr.len
    rw [bv_length, enc_len (by rw [n1_nb]; decide)] at this; omega
  refine ⟨r, _, rfl, lit_iv1 ?_⟩
  intro t21 w6 hd6 f6
  refine ⟨_, b28k _, (encode_calls w6 ⟨none, 0, 0⟩ ⟨none, 0, 0⟩ t21 n2 ⟨nilS _, nilS _, hd6⟩ sm2).mono ?_⟩
  rintro _ w7 ⟨r2, rfl, hr2, hr2c, _, f7⟩
  rw [n2_ok.1]
  rw [n2_ok.2] at hr2
  have hr2l : r2.l = 256 := by
    have := hr2.len
    rw [bv_length, enc_len (by rw [n2_nb]; decide)] at this; omega
  refine ⟨r2, _, rfl, (decode_calls w7 r _ (hr.mod (f6.n f7) (fun _ _ h => h)) (by omega)).mono ?_⟩
  rintro _ w8 ⟨k', v', d', rfl, hO, f8⟩
  obtain ⟨ed, ec⟩ := back_law n1_may (by rw [n1_nb]; decide)
  rw [ed] at hO ⊢
  rw [ec]
  refine ⟨_, _, rfl, ?_⟩
  intro b6 w9 hN6
  have f9 : Frm none_ w8 w9 := hN6.mod _
  refine hN6.blk.setW rfl rfl (ndc_one _ _ _ _) ?_
  intro w10 hB10 f10
  have f58 := f5.n (f6.n (f7.n f8))
  have hb6 := hN6.b
  have z58 := f58.size
  have z9 := f9.size
  have f8_10 : Frm none_ w8 w10 := f9.b f10 (by omega)
  have hBk10 := hBk4.mod (f58.n f8_10)
  have hM10 : Bk w10 b6 28 k' v' d' n1 := ⟨hB10, hO.s.mod f8_10⟩
  have f0_10 := f14.n (f58.n f8_10)
  refine ⟨_, hBk10.la, (find_calls w10 _ _ _ n1 hBk10.nd sm1 (str [97, 97])).mono ?_⟩
  rintro _ w11 ⟨rfl, f11⟩
  rw [n1_aa.1, n1_aa.2]
  have hBk11 := hBk10.mod f11
  refine ⟨_, _, rfl, _, hBk11.la, (find_calls w11 _ _ _ n1 hBk11.nd sm1 (str [98])).mono ?_⟩
  rintro _ w12 ⟨rfl, f12'⟩
  rw [n1_b.1, n1_b.2]
  have hA := (hBk11.mod f12').drew
  have hM := (hM10.mod (f11.n f12')).drew
  have hrD := (hr.mod (f6.n (f7.n (f8.n (f8_10.n (f11.n f12'))))) (fun _ _ h => h)).drew
  have hr2D := (hr2.mod (f8.n (f8_10.n (f11.n f12'))) (fun _ _ h => h)).drew
  have F : Frm none_ w w12.drew := (f0_10.n (f11.n f12')).drew
  generalize w12.drew = w13 at hA hM hrD hr2D F
  refine ⟨_, _, rfl, fun w' => Frm none_ w13 w', Frm.refl _ _, IfB.t rfl (IfB.t (by rw [hrl]; rfl) ⟨⟨by decide, by omega⟩, ?_⟩)⟩
  have h10 := hrD.head 10 r.c (by omega)
  have e10 : (bv (enc n1)).take (10 * 1) = bv [1, 2, 1, 97, 1, 120, 1, 98, 0, 0] := by
    unfold enc; rw [n1_nb]; rfl
  rw [e10] at h10
  rw [slA_zero, Nat.sub_zero, Nat.sub_zero]
  refine runT_str un22 un5 un9 h10 ⟨fun w' => Frm none_ w13 w', fun _ h => h, Frm.refl _ _, IfB.t ((str_eqIff _ _).2 rfl) ⟨_, fun w' f => (hA.mod f).la, (size_calls w13 _ _ _ n1 hA.nd sm1).mono ?_⟩⟩
  rintro _ w14 ⟨rfl, f14'⟩
  have e9 : sizN n1 = 9 := by rw [sizN, if_pos n1_may, n1_nb]; rfl
  rw [e9]
  refine ⟨_, rfl, fun w' => Frm none_ w13 w', fun _ h => h, f14', IfB.t rfl (IfB.t rfl ⟨⟨by decide, by omega⟩, ?_⟩)⟩
  have h4 := (hr2D.mod f14' (fun _ _ h => h)).head 4 r2.c (by omega)
  have e4 : (bv (enc n2)).take (4 * 1) = bv [0, 0, 5, 0] := by
    unfold enc; rw [n2_nb]; rfl
  rw [e4] at h4
  rw [slA_zero, Nat.sub_zero, Nat.sub_zero]
  refine runT_str un22 un5 un9 h4 ⟨fun w' => Frm none_ w13 w', fun _ h => h, f14', IfB.t ((str_eqIff _ _).2 rfl) (IfB.t rfl ⟨_, fun w' f => (hM.mod f).la, _, fun w' f => (hA.mod f).la, (back_calls w14 _ _ _ n1 (hM.nd.mod f14')).mono ?_⟩)⟩
  rintro _ w15 ⟨rfl, f15⟩
  have g15 := f14'.n f15
  refine ⟨_, rfl, fun w' => Frm none_ w13 w', fun _ h => h, g15, (back_calls w15 _ _ _ n1 (hA.nd.mod g15)).mono ?_⟩
  rintro _ w16 ⟨rfl, f16⟩
  have g16 := g15.n f16
  refine ⟨_, rfl, fun w' => Frm none_ w13 w', fun _ h => h, g16, (same_calls w16 _ _ _ _ _ _ n1 n1 (hM.nd.mod g16) (hA.nd.mod g16) ⟨by decide, by decide, by decide⟩).mono ?_⟩
  rintro _ w17 ⟨c, rfl, hc, f17⟩
  obtain rfl : c = true := hc.2 rfl
  have g17 := g16.n f17
  refine ⟨_, rfl, fun w' => Frm none_ w13 w', fun _ h => h, g17, IfB.t rfl (IfB.t rfl (IfB.t rfl (IfB.t rfl (IfB.t rfl ⟨_, fun w' f => (hA.mod f).la, (fits_calls w17 _ _ _ n1 (hA.nd.mod g17) sm1).mono ?_⟩))))⟩
  rintro _ w18 ⟨c, rfl, hc, f18⟩
  obtain rfl : c = true := hc.2 ⟨n1_may, by rw [n1_nb]; decide⟩
  exact ⟨_, rfl, rfl, F.n (g17.n f18)⟩
/-! ### What is handed in -/
structure Na where
  b : Bool
  k : Sl
  v : Sl
  d : Sl
  ks : List ByteArray
  vs : List ByteArray
  ds : List Int
def na (x : Na) : List Value := [.bool x.b, .slice x.k.a x.k.l x.k.c, .slice x.v.a x.v.l x.v.c, .slice x.d.a x.d.l x.d.c]
def nd (x : Na) : Nd := ⟨x.b, x.ks, x.vs, x.ds⟩
structure OkA (w : World) (x : Na) : Prop where
  s : NdS w x.k x.v x.d (nd x)
  lk : x.k.l ≤ 140737488355328
  lv : x.v.l ≤ 140737488355328
  ld : x.d.l ≤ 140737488355328
  ck : ∀ y ∈ x.ks, y.size ≤ 140737488355328
  cv : ∀ y ∈ x.vs, y.size ≤ 140737488355328
theorem op4 (w : World) : Opens prog w 4 (fun n : Bool => [.bool n]) (fun _ => True) := opens_bool Try.underlying4
theorem op9 (w : World) : Opens prog w 9 (fun s : ByteArray => [.string s]) (fun s => s.size ≤ 140737488351232) := opens_str Try.underlying9
theorem op3 (w : World) : Opens prog w 3 (fun n : Int => [.int .i64 n]) (fun n => -9223372036854775808 ≤ n ∧ n ≤ 9223372036854775807) :=
  (opens_int (by kernel_rfl)).map (fun n => n) fun n h => by
    have e1 : IntKind.min .i64 = -9223372036854775808 := by decide
    have e2 : IntKind.max .i64 = 9223372036854775807 := by decide
    rw [e1, e2] at h
    exact ⟨rfl, h⟩
theorem op22 (w : World) : Opens prog w 22 (fun p : Sl × List ByteArray => [.slice p.1.a p.1.l p.1.c]) (fun p => HasL w p.1 1 (fun x : ByteArray => [Value.string x]) p.2 ∧ (∀ a ∈ p.2, a.size ≤ 140737488351232) ∧ p.1.l ≤ p.1.c ∧ p.1.c ≤ maxLen ∧ p.1.c * 16 ≤ 140737488351232) :=
  opens_slice Try.underlying22 (by kernel_rfl) (by kernel_rfl) (op9 w)
theorem op23 (w : World) : Opens prog w 23 (fun p : Sl × List Int => [.slice p.1.a p.1.l p.1.c]) (fun p => HasL w p.1 1 (fun n : Int => [Value.int .i64 n]) p.2 ∧ (∀ a ∈ p.2, -9223372036854775808 ≤ a ∧ a ≤ 9223372036854775807) ∧ p.1.l ≤ p.1.c ∧ p.1.c ≤ maxLen ∧ p.1.c * 8 ≤ 140737488351232) :=
  opens_slice Try.underlying23 (by kernel_rfl) (by kernel_rfl) (op3 w)
theorem op30 (w : World) : Opens prog w 30 (fun p : Sl × List UInt8 => [.slice p.1.a p.1.l p.1.c]) (fun p => HasL w p.1 1 (fun b : UInt8 => [Value.int .u8 (b.toNat : Int)]) p.2 ∧ (∀ a ∈ p.2, True) ∧ p.1.l ≤ p.1.c ∧ p.1.c ≤ maxLen ∧ p.1.c * 1 ≤ 140737488351232) :=
  opens_slice Try.underlying30 (by kernel_rfl) (by kernel_rfl) (opens_byte Try.underlying5)
theorem op25 (w : World) : Opens prog w 25 na (OkA w) :=
  (opens_struct Try.underlying25 (by kernel_rfl) (opensF_cons (o := 0) (sz := 1) rfl (by kernel_rfl) (op4 w) (opensF_cons (o := 1) (sz := 1) rfl (by kernel_rfl) (op22 w) (opensF_cons (o := 2) (sz := 1) rfl (by kernel_rfl) (op22 w) (opensF_cons (o := 3) (sz := 1) rfl (by kernel_rfl) (op23 w) opensF_nil))))).map
    (fun p => Na.mk p.1 p.2.1.1 p.2.2.1.1 p.2.2.2.1.1 p.2.1.2 p.2.2.1.2 p.2.2.2.1.2) fun p ⟨_, h2, h3, h4, _⟩ =>
      ⟨rfl, ⟨h2.1.one, h3.1.one, h4.1.one⟩, by have := h2.2.2.1; have := h2.2.2.2.2; simp only; omega, by have := h3.2.2.1; have := h3.2.2.2.2; simp only; omega, by have := h4.2.2.1; have := h4.2.2.2.2; simp only; omega, fun y hy => by have := h2.2.1 y hy; omega, fun y hy => by have := h3.2.1 y hy; omega⟩
theorem OkA.mod {w w' : World} {x : Na} (h : OkA w x) (f : Frm none_ w w') : OkA w' x := ⟨h.s.mod f, h.lk, h.lv, h.ld, h.ck, h.cv⟩
theorem sm_of {n : Nd} (h : n.keys.length + n.vals.length + n.kids.length ≤ 5000) : SmN n := ⟨by omega, by omega, by omega⟩
theorem bool_eql (i j : Nat) (a b : Bool) : BinIs prog .eql 4 (.tmp i) (.tmp j) (.bool a) (.bool b) (a == b) := fun w => by
  cases a <;> cases b <;> kernel_rfl
theorem writes_law (W : World) (x : Na) (hx : OkA W x) (key : ByteArray) (hkey : key.size ≤ 140737488351232) : Calls prog 3 #[.agg (na x).toArray, .string key] W fun e w' => e = .returned (.bool true) ∧ Frm none_ W w' := by
  refine callsRet (W3 (x0 := ndc (nd x).leaf x.k x.v x.d) (x1 := key) (Q := fun v w' => v = .bool true ∧ Frm none_ W w') ?_) (fun v w' ⟨h, h'⟩ => ⟨by rw [h], h'⟩)
  unfold F3
  intro b2 w1 hN
  have f1 : Frm none_ W w1 := hN.mod _
  have hA := Bk.new hN hx.s
  refine ⟨_, hA.la, (large_calls w1 _ _ _ _ hA.nd ⟨hx.lk, hx.lv, hx.ld⟩ hx.ck hx.cv).mono ?_⟩
  rintro _ w2 ⟨b, rfl, hb, f2⟩
  have f12 := f1.n f2
  refine ⟨_, rfl, IfB.intro (fun _ => (awake_calls w2).mono ?_) (fun hbf => ?_)⟩
  · rintro _ w3 ⟨rfl, f3⟩
    exact ⟨_, rfl, rfl, f12.n f3⟩
  have hlen := hb hbf
  have hsm := sm_of hlen
  have hA2 := hA.mod f2
  refine ⟨_, hA2.la, (given_calls w2 _ _ _ _ hA2.nd ⟨by omega, by omega, by omega⟩).mono ?_⟩
  rintro _ w3 ⟨k, v, d, rfl, hO, f3⟩
  refine ⟨_, rfl, ?_⟩
  intro b5 w4 hN5
  have f4 : Frm none_ w3 w4 := hN5.mod _
  refine hN5.blk.setW rfl rfl (ndc_one _ _ _ _) ?_
  intro w5 hB5 f5
  have hb5 := hN5.b
  have z4 := f4.size
  have f35 : Frm none_ w3 w5 := f4.b f5 (by omega)
  have hA5 := hA2.mod (f3.n f35)
  have hB : Bk w5 b5 28 k v d (nd x) := ⟨hB5, hO.s.mod f35⟩
  have f15 := f12.n (f3.n f35)
  refine ⟨_, hB.la, (encode_calls w5 _ _ _ _ hB.nd hsm).mono ?_⟩
  rintro _ w6 ⟨r, rfl, hr, _, _, f6⟩
  have hA6 := hA5.mod f6
  have hB6 := hB.mod f6
  refine ⟨r, _, rfl, _, hA6.la, (Encode_calls w6 _ _ _ _ hA6.nd hsm).mono ?_⟩
  rintro _ w7 ⟨r', rfl, hr', _, f7⟩
  have hA7 := hA6.mod f7
  have hB7 := hB6.mod f7
  refine ⟨r', _, rfl, _, hB7.la, (find_calls w7 _ _ _ _ hB7.nd hsm key).mono ?_⟩
  rintro _ w8 ⟨rfl, f8⟩
  have hA8 := hA7.mod f8
  have hB8 := hB7.mod f8
  refine ⟨_, _, rfl, _, hA8.la, (Find_calls w8 _ _ _ _ hA8.nd hsm key).mono ?_⟩
  rintro _ w9 ⟨rfl, f9⟩
  have hA9 := hA8.mod f9
  have hB9 := hB8.mod f9
  have f19 := f15.n (f6.n (f7.n (f8.n f9)))
  refine ⟨_, _, rfl, fun c w' => c = false ∧ w' = w9, IfB.f (by simp) (runT_str un22 un5 un9 (hr.mod (f7.n (f8.n f9)) (fun _ _ h => h)) (runT_str un22 un5 un9 (hr'.mod (f8.n f9) (fun _ _ h => h)) (IfB.f (by rw [(str_eqIff _ _).2 rfl]; rfl) (IfB.f (by simp) ⟨_, bool_neq _ _ _ _, by simp, rfl⟩)))), ?_⟩
  rintro u c w9' ⟨rfl, rfl⟩
  refine IfB.f rfl ?_
  have hA := hA9.drew
  have hB := hB9.drew
  have F := f19.drew
  generalize w9'.drew = w10 at hA hB F
  refine ⟨fun w' => Frm none_ w10 w', Frm.refl _ _, _, fun w' f => (hB.mod f).la, _, fun w' f => (hA.mod f).la, (size_calls w10 _ _ _ _ hB.nd hsm).mono ?_⟩
  rintro _ w11 ⟨rfl, f11⟩
  refine ⟨_, rfl, fun w' => Frm none_ w10 w', fun _ h => h, f11, (Size_calls w11 _ _ _ _ (hA.nd.mod f11) hsm).mono ?_⟩
  rintro _ w12 ⟨rfl, f12'⟩
  have g12 := f11.n f12'
  refine ⟨_, rfl, fun w' => Frm none_ w10 w', fun _ h => h, g12, IfB.t (beq_self_eq_true _) ⟨_, fun w' f => (hB.mod f).la, (fits_calls w12 _ _ _ _ (hB.nd.mod g12) hsm).mono ?_⟩⟩
  rintro _ w13 ⟨c, rfl, hc, f13⟩
  have g13 := g12.n f13
  have ec : c = (encC (nd x) == (0 : Int)) := by
    rw [Bool.eq_iff_iff, hc, beq_iff_eq]
    unfold FitsN
    rcases encC_cases (nd x) with ⟨hn, e, _⟩ | ⟨_, h2, e, _⟩ | ⟨h1, h2, e, _⟩
    · rw [e]; exact ⟨fun h => absurd h.1 hn, fun h => absurd h (by decide)⟩
    · rw [e]; exact ⟨fun h => by have := h.2; omega, fun h => absurd h (by decide)⟩
    · rw [e]; exact ⟨fun _ => rfl, fun _ => ⟨h1, h2⟩⟩
  refine ⟨_, rfl, fun w' => Frm none_ w10 w', fun _ h => h, g13, _, bool_eql _ _ _ _, IfB.t (by rw [ec]; simp) ⟨_, fun w' f => (hB.mod f).la, _, fun w' f => (hA.mod f).la, (back_calls w13 _ _ _ _ (hB.nd.mod g13)).mono ?_⟩⟩
  rintro _ w14 ⟨rfl, f14⟩
  have g14 := g13.n f14
  refine ⟨_, rfl, g14, (same_calls w14 _ _ _ _ _ _ (nd x) (nd x) (hB.nd.mod g14) (hA.nd.mod g14) ⟨by omega, by omega, by omega⟩).mono ?_⟩
  rintro _ w15 ⟨c, rfl, hc, f15'⟩
  obtain rfl : c = true := hc.2 rfl
  refine ⟨_, rfl, IfB.t rfl ((awake_calls w15).mono ?_)⟩
  rintro _ w16 ⟨rfl, f16⟩
  exact ⟨_, rfl, rfl, F.n (g14.n (f15'.n f16))⟩
end Go.Proofs.Ytedkaegdfdcdaaa
