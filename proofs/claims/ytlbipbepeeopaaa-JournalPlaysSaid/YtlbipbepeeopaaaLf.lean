/- A group's row built by append; what is left of a disk with a group in its area. -/
import Derived.Test.YtlbipbepeeopaaaPw
set_option linter.unusedVariables false
set_option linter.unusedSimpArgs false
set_option maxRecDepth 20000
namespace Go.Proofs.Ytlbipbepeeopaaa
open Go Go.Proofs.YtlbipbepeeopaaaV
theorem st25 : SlT prog 25 30 2 32 (.agg #[.int .i64 0, .slice none 0 0]) := ⟨by kernel_rfl, by kernel_rfl, rfl, by decide⟩
theorem st54 : SlT prog 54 58 2 32 (.agg #[.int .i64 0, .slice none 0 0]) := ⟨by kernel_rfl, by kernel_rfl, rfl, by decide⟩
def gdec (q : Wt × Sl) : List Value := [.int .i64 q.1.1, .slice q.2.a q.2.l q.2.c]
theorem gdec_len {es : List (Wt × Sl)} : ∀ q ∈ es, (gdec q).length = 2 := fun _ _ => rfl
/-- A group in a row of one's own, of the element type E: all that it has lies at B or above. -/
structure GrpR (E : TypeId) (B : Nat) (w : World) (t : Sl) (es : List (Wt × Sl)) : Prop where
  row : Row w t E 2 (es.flatMap gdec)
  lo : ∀ k, t.blk = some k → B ≤ k
  dat : ∀ q ∈ es, Has w q.2 1 (bv q.1.2) ∧ ∀ k, q.2.blk = some k → B ≤ k ∧ k < w.heap.size ∧ t.blk ≠ some k
theorem GrpR.nil (E : TypeId) (B : Nat) (w : World) : GrpR E B w ⟨none, 0, 0⟩ [] := ⟨Row.nil w E 2, fun k hk => by simp [Sl.blk] at hk, by simp⟩
theorem GrpR.len {E : TypeId} {B : Nat} {w : World} {t : Sl} {es : List (Wt × Sl)} (h : GrpR E B w t es) : t.l = es.length := by
  have := h.row.len
  rw [flatMap_len gdec_len] at this
  omega
theorem GrpR.mod {E : TypeId} {F : Nat → Prop} {B : Nat} {w w' : World} {t : Sl} {es : List (Wt × Sl)} (h : GrpR E B w t es) (hm : Frm F w w') (hF : ∀ k, B ≤ k → k < w.heap.size → ¬ F k) : GrpR E B w' t es :=
  ⟨h.row.mod hm (fun k hk => hF k (h.lo k hk) (h.row.lt k hk)), h.lo, fun q hq => ⟨(h.dat q hq).1.mod hm (fun k hk => hF k ((h.dat q hq).2 k hk).1 ((h.dat q hq).2 k hk).2.1), fun k hk => by
    have := (h.dat q hq).2 k hk
    exact ⟨this.1, Nat.lt_of_lt_of_le this.2.1 hm.size, this.2.2⟩⟩⟩
theorem GrpR.get {E : TypeId} {B : Nat} {w : World} {t : Sl} {es : List (Wt × Sl)} (h : GrpR E B w t es) {j : Nat} (hj : j < es.length) :
    ∃ p, t.a = some p ∧ (∀ k v, (gdec (es[j]'hj))[k]? = some v → Ld w ((p.add (j * 2)).add k) v) ∧ LdA w (p.add (j * 2)) 2 #[.int .i64 (es[j]'hj).1.1, .slice (es[j]'hj).2.a (es[j]'hj).2.l (es[j]'hj).2.c] := by
  have hl := h.len
  have hL : HasL w t 2 gdec es := ⟨h.row.has, hl.symm, gdec_len⟩
  obtain ⟨p, a, h1, h2, _, h4, h5⟩ := hL.at (by decide) (i := (j : Int)) (by omega) (by omega)
  rw [Int.toNat_natCast] at h2 h4 h5
  have e : a = es[j]'hj := by
    rw [List.getElem?_eq_getElem hj] at h2
    exact (Option.some.inj h2).symm
  subst e
  exact ⟨p, h1, h4, h5⟩
theorem GrpR.grp {E : TypeId} {B : Nat} {w : World} {t : Sl} {es : List (Wt × Sl)} (h : GrpR E B w t es) : Grp (fun k => B ≤ k ∧ k < w.heap.size) w t (es.map (·.1)) := by
  refine ⟨by rw [List.length_map, h.len], fun k hk => ⟨h.lo k hk, h.row.lt k hk⟩, fun j hj => ?_⟩
  have hj' : j < es.length := by simpa using hj
  obtain ⟨p, h1, _, h3⟩ := h.get hj'
  have hq := h.dat (es[j]'hj') (List.getElem_mem hj')
  refine ⟨p, (es[j]'hj').2, h1, by simpa using h3, by simpa using hq.1, fun k hk => ⟨(hq.2 k hk).1, (hq.2 k hk).2.1⟩⟩
/-- One write more. -/
theorem GrpR.push {ty E : TypeId} (T : SlT prog ty E 2 32 (.agg #[.int .i64 0, .slice none 0 0])) {w : World} {B : Nat} {t s : Sl} {es : List (Wt × Sl)} (h : GrpR E B w t es) {p : Wt} (hs : Has w s 1 (bv p.2))
    (hb : ∀ k, s.blk = some k → B ≤ k ∧ k < w.heap.size ∧ t.blk ≠ some k) (hB : B ≤ w.heap.size) (hn : es.length ≤ 1000) {K : Sl → World → Prop}
    (hk : ∀ t' w', GrpR E B w' t' (es ++ [(p, s)]) → Frm (fun k => t.blk = some k) w w' → Near w t t' ∨ True → K t' w') :
    RunT prog .slice (Instr.buildSlice ty 1 #[(0, .agg #[.int .i64 p.1, .slice s.a s.l s.c])]) w fun (x : Sl) w1 => RunT prog .slice (Builtin.append_ #[ty, ty] ty #[.slice t.a t.l t.c, .slice x.a x.l x.c]) w1 fun (t' : Sl) w2 => K t' w2 := by
  have hl := h.len
  refine runT_lit1 T (by decide) rfl ?_
  intro w1 hrow1 hf1 hs1
  have hrt := h.row.mod hf1 (fun _ _ h => h)
  refine runT_append T hrt hrow1.has (fun u hu => ?_) (by simp only; omega) (by simp only [maxLen]; omega) ?_
  · simp only [Value.cells, List.mem_cons, List.not_mem_nil, or_false] at hu
    rcases hu with rfl | rfl <;> rfl
  intro t' w2 hrow2 hl2 hnear hf2
  have hF : Frm (fun k => t.blk = some k) w w2 := hf1.trans hf2 (fun _ _ h => h.elim) (fun _ _ h => h)
  refine hk t' w2 ⟨?_, ?_, ?_⟩ hF (.inr trivial)
  · rw [List.flatMap_append]
    have e : ([(p, s)] : List (Wt × Sl)).flatMap gdec = (Value.agg #[.int .i64 p.1, .slice s.a s.l s.c]).cells.toList := rfl
    rw [e]; exact hrow2
  · intro k hk
    rcases hnear.cases hk with h' | h'
    · exact h.lo k h'
    · omega
  · have key : ∀ (r : Sl) (c : List UInt8), Has w r 1 (bv c) → (∀ k, r.blk = some k → B ≤ k ∧ k < w.heap.size ∧ t.blk ≠ some k) → Has w2 r 1 (bv c) ∧ ∀ k, r.blk = some k → B ≤ k ∧ k < w2.heap.size ∧ t'.blk ≠ some k := by
      intro r c hr hbr
      refine ⟨hr.mod hF (fun k hk hkt => (hbr k hk).2.2 hkt), fun k hk => ⟨(hbr k hk).1, Nat.lt_of_lt_of_le (hbr k hk).2.1 hF.size, fun hkt => ?_⟩⟩
      rcases hnear.cases hkt with h' | h'
      · exact (hbr k hk).2.2 h'
      · have := (hbr k hk).2.1; omega
    intro q hq
    rcases List.mem_append.1 hq with hq | hq
    · exact key q.2 q.1.2 (h.dat q hq).1 (h.dat q hq).2
    · rw [List.mem_singleton] at hq
      subst hq
      exact key s p.2 hs hb
theorem or_bytes (h l : Nat) (hh : h < 256) (hl : l < 256) : bitsI .or .i64 (IntKind.wrap .i64 ((IntKind.wrap .i64 (h : Int)) * 2 ^ (min 8 64))) (IntKind.wrap .i64 (l : Int)) = ((h * 256 + l : Nat) : Int) := by
  rw [wi (h : Int) (by omega), wi (l : Int) (by omega), show (2 : Int) ^ (min 8 64) = 256 by decide, wi _ (by omega)]
  have e1 : BitVec.ofInt IntKind.i64.bits ((h : Int) * 256) = BitVec.ofNat 64 (h * 256) := by
    rw [show (h : Int) * 256 = ((h * 256 : Nat) : Int) by simp]; rfl
  have e2 : BitVec.ofInt IntKind.i64.bits (l : Int) = BitVec.ofNat 64 l := rfl
  unfold bitsI
  simp only [e1, e2]
  have e3 : (BitVec.ofNat 64 (h * 256) ||| BitVec.ofNat 64 l).toNat = h * 256 + l := by
    rw [BitVec.toNat_or, BitVec.toNat_ofNat, BitVec.toNat_ofNat, Nat.mod_eq_of_lt (by omega), Nat.mod_eq_of_lt (by omega)]
    have := Nat.shiftLeft_add_eq_or_of_lt (b := l) (i := 8) (by omega) h
    rw [Nat.shiftLeft_eq] at this
    exact this.symm
  show IntKind.wrap .i64 (((BitVec.ofNat 64 (h * 256) ||| BitVec.ofNat 64 l).toNat : Nat) : Int) = _
  rw [e3, wi _ (by omega)]
theorem u8_nat (v : Int) (h : 0 ≤ v) : (u8 v).toNat = v.toNat % 256 := by
  have h1 := u8_val v
  have h2 : IntKind.wrap .u8 v = v % 256 := by simp [IntKind.wrap, IntKind.signed, IntKind.bits]
  rw [h2] at h1
  omega
theorem hd2_or {v : Int} (h0 : 0 ≤ v) (h1 : v < 65536) : bitsI .or .i64 (IntKind.wrap .i64 ((IntKind.wrap .i64 ((u8 (Int.fdiv v (2 ^ (min 8 64)))).toNat : Int)) * 2 ^ (min 8 64))) (IntKind.wrap .i64 ((u8 v).toNat : Int)) = v := by
  have e : Int.fdiv v (2 ^ (min 8 64)) = v / 256 := by
    rw [show (2 : Int) ^ (min 8 64) = 256 by decide, Int.fdiv_eq_ediv_of_nonneg _ (by decide)]
  rw [e, or_bytes _ _ (by rw [u8_nat _ (by omega)]; omega) (by rw [u8_nat _ h0]; omega), u8_nat _ (by omega), u8_nat _ h0]
  omega
theorem entryB_get (l : List Wt) {k : Nat} (hk : k < (headB l).length) : (entryB l)[k]? = (headB l)[k]? := by
  unfold entryB
  rw [List.append_assoc, List.getElem?_append_left hk]
theorem entryB_0 (l : List Wt) : (entryB l)[0]? = some (u8 (l.length : Int)) := by
  rw [entryB_get l (by rw [headB_len]; omega)]; rfl
theorem flat2 {l : List Wt} : ∀ {j : Nat} (hj : j < l.length), (l.flatMap hd2)[2 * j]? = some (u8 (Int.fdiv (l[j]'hj).1 (2 ^ (min 8 64)))) ∧ (l.flatMap hd2)[2 * j + 1]? = some (u8 (l[j]'hj).1) := by
  induction l with
  | nil => intro j hj; simp at hj
  | cons p r ih =>
    intro j hj
    rw [List.flatMap_cons]
    cases j with
    | zero => exact ⟨rfl, rfl⟩
    | succ j =>
      have hl : (hd2 p).length = 2 := rfl
      rw [List.getElem?_append_right (by rw [hl]; omega), List.getElem?_append_right (by rw [hl]; omega), hl, show 2 * (j + 1) - 2 = 2 * j by omega, show 2 * (j + 1) + 1 - 2 = 2 * j + 1 by omega]
      exact ih (by simpa using hj)
theorem entryB_hi (l : List Wt) {j : Nat} (hj : j < l.length) : (entryB l)[1 + 2 * j]? = some (u8 (Int.fdiv (l[j]'hj).1 (2 ^ (min 8 64)))) := by
  rw [entryB_get l (by rw [headB_len]; omega)]
  unfold headB
  rw [show 1 + 2 * j = 2 * j + 1 by omega, List.getElem?_cons_succ]
  exact (flat2 hj).1
theorem entryB_lo (l : List Wt) {j : Nat} (hj : j < l.length) : (entryB l)[2 + 2 * j]? = some (u8 (l[j]'hj).1) := by
  rw [entryB_get l (by rw [headB_len]; omega)]
  unfold headB
  rw [show 2 + 2 * j = (2 * j + 1) + 1 by omega, List.getElem?_cons_succ]
  exact (flat2 hj).2
theorem bv_at {l : List UInt8} {k : Nat} {b : UInt8} (h : l[k]? = some b) : (bv l).toArray[k]? = some (.int .u8 (b.toNat : Int)) := by
  unfold bv
  simp [h]
theorem b30 (v : Int) : BuildIs prog 30 #[(0, .int .i64 v)] #[.int .i64 v, .slice none 0 0] := fun w => by kernel_rfl
theorem b30s (v : Int) (s : Sl) : BuildIs prog 30 #[(0, .int .i64 v), (1, .slice s.a s.l s.c)] #[.int .i64 v, .slice s.a s.l s.c] := fun w => by kernel_rfl
theorem left_calls (G : Nat → Prop) (w : World) (y x : Option Addr) (d : Dk) (l : List Wt) (h : JrQ G w y x d) (hd : d.dead = false) (hH : Hold d l) :
    Calls prog 34 #[.pointer y] w fun e w' => ∃ t : Sl, e = .returned (.tuple #[.slice t.a t.l t.c, .int .i64 0]) ∧ Grp (fun k => w.heap.size ≤ k ∧ k < w'.heap.size) w' t l ∧ Frm none_ w w' := by
  refine calls_ret (W34 (Q := fun v w' => ∃ t : Sl, v = .tuple #[.slice t.a t.l t.c, .int .i64 0] ∧ Grp (fun k => w.heap.size ≤ k ∧ k < w'.heap.size) w' t l ∧ Frm none_ w w') ?_) (fun v w' ⟨t, h, h'⟩ => ⟨t, by rw [h], h'⟩)
  unfold F34
  have hj0 := h
  obtain ⟨b, rfl, hB, hG, hdk⟩ := h
  have hok : OkD d := by obtain ⟨_, _, _, hh⟩ := hdk; exact hh.ok
  have hn0 := hok.n0
  have hn1 := hok.n1
  have hl1 := hH.n1
  refine ⟨_, rfl, x, by rw [addr_add]; exact hB.ld rfl, ?_⟩
  refine (read_calls G w x d 1 hdk hd (by omega)).mono ?_
  rintro _ w1 ⟨b', l0, h1, rfl, h2, h3, h4⟩
  rw [hH.head] at h1
  cases h1
  have hz : IntKind.wrap .i64 (((u8 (l.length : Int)).toNat : Nat) : Int) = (l.length : Int) := by
    rw [u8_nat _ (by omega), wi _ (by omega)]; omega
  refine ⟨⟨some ⟨b', 0, none⟩, 256, 256⟩, 0, rfl, IfB.f rfl ⟨_, rfl, by decide, (show (0 : Int) < ((256 : Nat) : Int) by decide), _, by rw [addr_add]; exact h2.ld (bv_at (entryB_0 l)), ?_⟩⟩
  rw [hz]
  have hb'w : b' < w1.heap.size := h2.lt
  refine ⟨fun n t i w2 => ∃ (j : Nat) (es : List (Wt × Sl)), i = (j : Int) ∧ j ≤ l.length ∧ n = l.length - j ∧ es.map (·.1) = l.take j ∧ GrpR 30 w1.heap.size w2 t es ∧ Frm none_ w1 w2, l.length, ⟨0, [], rfl, by omega, by omega, rfl, GrpR.nil _ _ _, Frm.refl _ _⟩, ?_⟩
  rintro n u t i w2 ⟨j, es, rfl, hj, rfl, hes, hGr, hF⟩
  have hesl : es.length = j := by
    have := congrArg List.length hes
    rw [List.length_map, List.length_take] at this
    omega
  have hB2 : Blk w2 b' (bv (entryB l)).toArray 74 := h2.mod hF (fun h => h)
  have hmin : (if (120 : Int) < (l.length : Int) then (120 : Int) else (l.length : Int)) = (l.length : Int) := if_neg (by omega)
  rw [hmin]
  refine IfB.intro (fun hc => ?_) (fun hc => ?_)
  · have hc := of_decide_eq_true hc
    have hj' : j < l.length := by omega
    have hpl := (hH.pl _ (List.getElem_mem hj'))
    have hrg := hpl.1.range hn0
    have e1 : IntKind.wrap .i64 ((1 : Int) + (IntKind.wrap .i64 ((2 : Int) * (j : Int)))) = ((1 + 2 * j : Nat) : Int) := by
      rw [wi ((2 : Int) * (j : Int)) (by omega), wi _ (by omega)]; omega
    have e2 : IntKind.wrap .i64 ((2 : Int) + (IntKind.wrap .i64 ((2 : Int) * (j : Int)))) = ((2 + 2 * j : Nat) : Int) := by
      rw [wi ((2 : Int) * (j : Int)) (by omega), wi _ (by omega)]; omega
    rw [e1, e2]
    simp only [Int.toNat_natCast, Nat.mul_one]
    refine ⟨fun w' => Blk w' b' (bv (entryB l)).toArray 74, hB2.drew, _, rfl, by omega, by omega, _, fun w' hw' => by rw [addr_add, Nat.zero_add]; exact hw'.ld (bv_at (entryB_hi l hj')), by decide, _, rfl, by omega, by omega, _, fun w' hw' => by rw [addr_add, Nat.zero_add]; exact hw'.ld (bv_at (entryB_lo l hj')), _, b30 _, ?_⟩
    rw [hd2_or hrg.1 (by omega)]
    intro b8 w3 hnb
    have hm3 := hnb.mod none_
    have hb8 : b8 = w2.heap.size := hnb.b
    have hF3 : Frm none_ w1 w3 := by
      have : Frm none_ w2 w3 := hm3.ofDrew
      exact trN hF this
    refine ⟨hB2.drew.mod hm3 (fun h => h), Blk.setW hnb.blk rfl rfl (fun u hu => ?_) ?_⟩
    · simp only [List.mem_cons, List.not_mem_nil, or_false] at hu
      rcases hu with rfl | rfl <;> rfl
    intro w4 hB4 hf4
    have hF4 : Frm none_ w1 w4 := hF3.b hf4 (by have := hF.size; omega)
    have hF40 : Frm none_ w w4 := trN h4 hF4
    have hJ4 := hj0.mod hF40 (fun _ _ h => h)
    refine ⟨_, by rw [addr_add]; exact hB4.ld rfl, ?_⟩
    refine (plain_calls G w4 _ x d _ hJ4).mono ?_
    rintro _ _ ⟨rfl, rfl⟩
    refine ⟨_, rfl, ?_⟩
    rw [decide_eq_true (show PlainI d (l[j]'hj').1 from hpl.1)]
    refine IfB.f rfl ?_
    have hBj4 := hB.mod hF40 (fun h => h)
    refine ⟨_, rfl, x, by rw [addr_add]; exact hBj4.ld rfl, ?_⟩
    have e3 : IntKind.wrap .i64 ((2 : Int) + (j : Int)) = ((2 + j : Nat) : Int) := by rw [wi _ (by omega)]; omega
    rw [e3]
    refine (read_calls G w4 x d (2 + j) hJ4.dk hd (by omega)).mono ?_
    rintro _ w5 ⟨b5, l5, h51, rfl, h52, h53, h54⟩
    rw [hH.dat j hj'] at h51
    cases h51
    have hB5 := hB4.mod h54 (fun h => h)
    have hs4 := hF4.size
    have hs34 : w3.heap.size = w2.heap.size + 1 := hnb.size
    have hs44 := hf4.size
    have hs54 := h54.size
    refine ⟨⟨some ⟨b5, 0, none⟩, 256, 256⟩, 0, rfl, by rw [addr_add]; exact hB5.wr (show 0 + 1 < 2 by decide), ?_⟩
    rintro w6 rfl
    rw [addr_add]
    refine IfB.f rfl ?_
    have hB6 := hB5.set (0 + 1) (.slice (some ⟨b5, 0, none⟩) 256 256)
    have hf6 : Frm (fun k => k = b8) w5 (w5.setCell ⟨b8, 0 + 1, none⟩ (.slice (some ⟨b5, 0, none⟩) 256 256)) := mod_setCell (a := ⟨b8, 0 + 1, none⟩)
    have h52' := h52.mod hf6 (show ¬ b5 = b8 by omega)
    generalize (w5.setCell ⟨b8, 0 + 1, none⟩ (.slice (some ⟨b5, 0, none⟩) 256 256)) = w6 at hB6 hf6 h52'
    refine ⟨_, hB6.ldA rfl, ?_⟩
    have hF26 : Frm none_ w2 w6 := by
      have a1 : Frm none_ w2 w3 := hm3.ofDrew
      have a2 : Frm none_ w2 w4 := a1.b hf4 (by omega)
      exact (trN a2 h54).b hf6 (by omega)
    have hGr6 := hGr.mod hF26 (fun _ _ _ h => h)
    have hlen5 := hpl.2
    have hh5 : Has w6 ⟨some ⟨b5, 0, none⟩, 256, 256⟩ 1 (bv (l[j]'hj').2) := by
      have := h52'.has 256
      rw [List.toList_toArray] at this
      have e : (bv (l[j]'hj').2).toArray.size = 256 := by rw [List.size_toArray, bv_length, hlen5]
      rw [e] at this
      exact this
    refine GrpR.push (p := l[j]'hj') (s := ⟨some ⟨b5, 0, none⟩, 256, 256⟩) st25 hGr6 hh5 (fun k hk => ?_) (by have := hF26.size; have := hF.size; omega) (by omega) ?_
    · simp [Sl.blk] at hk
      subst hk
      refine ⟨by omega, h52'.lt, fun hkt => ?_⟩
      have := hGr.row.lt _ hkt
      omega
    · intro t' w7 hGr7 hf7 _
      refine ⟨l.length - (j + 1), by omega, j + 1, _, by rw [wi _ (by omega)]; omega, by omega, rfl, ?_, hGr7, ?_⟩
      · rw [List.map_append, hes, List.map_cons, List.map_nil, List.take_append_getElem hj']
      · exact (trN hF hF26).trans hf7 (fun _ _ h => h) (fun k hk he => by have := hGr.lo k he; omega)
  · have hc := of_decide_eq_false hc
    have hj' : j = l.length := by omega
    subst hj'
    rw [List.take_length] at hes
    have hgrp := hGr.grp
    rw [hes] at hgrp
    refine (entry_calls _ w2 t l hgrp hl1 (fun p hp => (hH.pl p hp).2) (fun k hk => hk.2)).mono ?_
    rintro _ w3 ⟨t3, rfl, hrow, _, hf3⟩
    refine ⟨t3, rfl, ?_⟩
    have hh := (hB2.mod hf3 (fun h => h)).has 256
    have e : (bv (entryB l)).toArray.size = 256 := by rw [List.size_toArray, bv_length, entryB_len l hl1]
    rw [e, List.toList_toArray] at hh
    refine (equal_calls w3 t3 ⟨some ⟨b', 0, none⟩, 256, 256⟩ _ (entryB l) hrow.has hh).mono ?_
    rintro _ _ ⟨rfl, rfl⟩
    refine ⟨_, rfl, ?_⟩
    rw [decide_eq_true rfl]
    have hs := h4.size
    have hs3 := hf3.size
    refine IfB.f rfl ⟨t, rfl, (hgrp.mod hf3 (fun _ _ h => h)).wide (fun k hk => ⟨by omega, by omega⟩), trN h4 (trN hF hf3)⟩
/-- Open of a disk that lives, whatever stands in its area. -/
theorem open_calls (G : Nat → Prop) (w : World) (x : Option Addr) (d : Dk) (f : Int → List UInt8) (h : DkQ G w x d) (hd : d.dead = false) (hS : Stand d f) (hGw : ∀ k, G k → k < w.heap.size) (hwr : d.wr < 900000) :
    Calls prog 14 #[.pointer x] w fun e w' => ∃ d', DkQ G w' x d' ∧ Frm G w w' ∧ d'.bl.length = d.bl.length ∧ d'.wr ≤ d.wr + 121 ∧
      ((e = .returned (.tuple #[.pointer (some ⟨w.heap.size, 0, none⟩), .int .i64 0]) ∧ JrQ G w' (some ⟨w.heap.size, 0, none⟩) x d' ∧ d'.dead = false ∧ Zero d' ∧ EqP d.bl.length (cont d') f ∧ (Zero d → d' = d)) ∨
       (e = .returned (.tuple #[.pointer none, .int .i64 20]) ∧ d'.dead = true ∧ Stand d' f ∧ 0 ≤ d.cut ∧ ¬ Zero d)) := by
  by_cases hz : Zero d
  · have hf : EqP d.bl.length (cont d) f := by
      rcases hS with ⟨_, h1⟩ | ⟨l, h1, _⟩
      · exact h1
      · exfalso
        have e : zeroB = entryB l := by have := h1.head; rw [hz] at this; exact Option.some.inj this
        have e0 := entryB_0 l
        rw [← e] at e0
        have : (u8 (l.length : Int)) = 0 := by
          have h0 : zeroB[0]? = some 0 := rfl
          rw [h0] at e0
          exact (Option.some.inj e0).symm
        have h2 := u8_nat (l.length : Int) (by omega)
        rw [this] at h2
        have h3 := h1.n0
        have h4 := h1.n1
        simp at h2
        omega
    refine (open0_calls G w x d h hd hz hGw).mono ?_
    rintro _ w' ⟨rfl, h1, h2⟩
    exact ⟨d, h1.dk, h2.mono (fun _ _ h => h.elim), rfl, by omega, .inl ⟨rfl, h1, hd, hz, hf, fun _ => rfl⟩⟩
  · obtain ⟨l, hH, hf⟩ : ∃ l, Hold d l ∧ EqP d.bl.length (over l (cont d)) f := by
      rcases hS with ⟨h1, _⟩ | h1
      · exact absurd h1 hz
      · exact h1
    have hok : OkD d := by obtain ⟨_, _, _, hh⟩ := h; exact hh.ok
    have hn0 := hok.n0
    have hn1 := hok.n1
    have hl0 := hH.n0
    have hl1 := hH.n1
    refine (W14 (Q := fun v w' => ∃ d', DkQ G w' x d' ∧ Frm G w w' ∧ d'.bl.length = d.bl.length ∧ d'.wr ≤ d.wr + 121 ∧
      ((v = (.tuple #[.pointer (some ⟨w.heap.size, 0, none⟩), .int .i64 0]) ∧ JrQ G w' (some ⟨w.heap.size, 0, none⟩) x d' ∧ d'.dead = false ∧ Zero d' ∧ EqP d.bl.length (cont d') f ∧ (Zero d → d' = d)) ∨
       (v = (.tuple #[.pointer none, .int .i64 20]) ∧ d'.dead = true ∧ Stand d' f ∧ 0 ≤ d.cut ∧ ¬ Zero d))) ?_).mono ?_
    · unfold F14
      have hx := h
      obtain ⟨b, s, rfl, _⟩ := h
      refine ⟨_, some_eql _ b, IfB.f rfl ⟨_, b67 _, ?_⟩⟩
      intro b11 w1 hnb
      have hm1 := hnb.mod none_
      have hbe : b11 = w.heap.size := hnb.b
      subst hbe
      have hJ : JrQ G w1 (some ⟨w.heap.size, 0, none⟩) (some ⟨b, 0, none⟩) d := ⟨_, rfl, hnb.blk, fun hk => by have := hGw _ hk; omega, hx.mod hm1 (fun _ _ h => h)⟩
      refine (left_calls G w1 _ _ d l hJ hd hH).mono ?_
      rintro _ w2 ⟨t, rfl, hg, hf2⟩
      have htl := hg.len
      have hs1 := hm1.size
      have hs2 := hf2.size
      refine ⟨t, 0, rfl, IfB.t rfl (IfB.t (decide_eq_true (by omega)) ?_)⟩
      have hlaw := applyD_law hd hn0 hok.cut.1 hH
      refine (apply_calls G _ w2 _ _ d t l hg (fun k hk hGk => by have := hGw k hGk; omega) (fun p hp => by have := (hH.pl p hp).1.range hn0; omega) hl1 (hJ.mod hf2 (fun _ _ h => h)) (fun k hk => by have := hGw k hk; omega) (by omega)).mono ?_
      rintro _ w3 ⟨rfl, hJ3, hf3⟩
      have hFF : Frm G w w3 := (trN hm1 hf2).trans hf3 (fun _ _ h => h.elim) (fun _ _ h => h)
      obtain ⟨hlaw, hll, hww⟩ := hlaw
      refine ⟨_, rfl, ?_⟩
      rcases hlaw with ⟨a1, a2, a3, a4, _⟩ | ⟨a1, a2, a3, a4, a5, a6⟩
      · rw [a1]
        exact IfB.f rfl ⟨_, hJ3.dk, hFF, hll, by omega, .inl ⟨rfl, hJ3, a2, a3, a4.trans hf, fun h => absurd h hz⟩⟩
      · rw [a1]
        exact IfB.t rfl ⟨_, hJ3.dk, hFF, hll, by omega, .inr ⟨rfl, a2, .inr ⟨l, a3, by rw [hll]; exact a4.trans hf⟩, a5, hz⟩⟩
    · rintro _ w' ⟨v, rfl, d', h1, h2, h3, h4, h5⟩
      refine ⟨d', h1, h2, h3, h4, ?_⟩
      rcases h5 with ⟨rfl, h5⟩ | ⟨rfl, h5⟩
      · exact .inl ⟨rfl, h5⟩
      · exact .inr ⟨rfl, h5⟩
end Go.Proofs.Ytlbipbepeeopaaa
