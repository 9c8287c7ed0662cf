/- The two groups of a step; are the named blocks as the document has them. -/
import Derived.Test.YtlbipbepeeopaaaDc
set_option linter.unusedVariables false
set_option linter.unusedSimpArgs false
set_option maxRecDepth 20000
namespace Go.Proofs.Ytlbipbepeeopaaa
open Go Go.Proofs.YtlbipbepeeopaaaV
theorem b58s (v : Int) (s : Sl) : BuildIs prog 58 #[(0, .int .i64 v), (1, .slice s.a s.l s.c)] #[.int .i64 v, .slice s.a s.l s.c] := fun w => by kernel_rfl
theorem Row.headN {w : World} {s : Sl} {E : TypeId} {cs : List Value} (h : Row w s E 1 cs) (k : Nat) (hk : k ≤ s.l) (h0 : 0 < s.l) : Row w ⟨s.a, k, s.c⟩ E 1 (cs.take k) := by
  rcases h.cases with ⟨rfl, _⟩ | ⟨g, cur, ha, hB, h1, h2, h3, h4⟩
  · simp at h0
  · have := Row.mk (n := k) (c := s.c) (sz := 1) hB (by omega) h2 h3
    rw [ha]
    have e : cs.take k = cur.toList.take (k * 1) := by
      rw [← h4, List.take_take]
      congr 1
      omega
    rw [e]; exact this
theorem row_cap {w : World} {s : Sl} {E : TypeId} {sz : Nat} {cs : List Value} (h : Row w s E sz cs) : s.l ≤ s.c := by
  rcases h.cases with ⟨rfl, _⟩ | ⟨g, cur, _, _, h1, _⟩
  · exact Nat.le_refl _
  · exact h1
/-- Two groups of the same writes, apart from each other in memory. -/
structure Two (B : Nat) (w : World) (t1 t2 : Sl) (es1 es2 : List (Wt × Sl)) : Prop where
  same : es1.map (·.1) = es2.map (·.1)
  g1 : GrpR 30 B w t1 es1
  g2 : GrpR 58 B w t2 es2
  rows : ∀ q ∈ es1, Row w q.2 5 1 (bv q.1.2)
  pw : es1.Pairwise fun a b => ∀ k, a.2.blk = some k → b.2.blk ≠ some k
  c1 : ∀ k, t1.blk = some k → t2.blk ≠ some k ∧ ∀ q ∈ es2, q.2.blk ≠ some k
  c2 : ∀ k, t2.blk = some k → ∀ q ∈ es1, q.2.blk ≠ some k
  c3 : ∀ q ∈ es1, ∀ k, q.2.blk = some k → ∀ r ∈ es2, r.2.blk ≠ some k
theorem Two.mod {B : Nat} {F : Nat → Prop} {w w' : World} {t1 t2 : Sl} {es1 es2 : List (Wt × Sl)} (h : Two B w t1 t2 es1 es2) (hm : Frm F w w') (hF : ∀ k, B ≤ k → k < w.heap.size → ¬ F k) : Two B w' t1 t2 es1 es2 :=
  ⟨h.same, h.g1.mod hm hF, h.g2.mod hm hF, fun q hq => (h.rows q hq).mod hm (fun k hk => by have := (h.g1.dat q hq).2 k hk; exact hF k this.1 this.2.1), h.pw, h.c1, h.c2, h.c3⟩
theorem Two.modN {B : Nat} {w w' : World} {t1 t2 : Sl} {es1 es2 : List (Wt × Sl)} (h : Two B w t1 t2 es1 es2) (hm : Frm none_ w w') : Two B w' t1 t2 es1 es2 := h.mod hm (fun _ _ _ h => h)
theorem Two.len {B : Nat} {w : World} {t1 t2 : Sl} {es1 es2 : List (Wt × Sl)} (h : Two B w t1 t2 es1 es2) : es1.length = es2.length := by
  have := congrArg List.length h.same
  simpa using this
set_option maxHeartbeats 1000000 in
theorem group_calls (w : World) (kind fill n : Int) (odd : Bool) (s : Sl) (bl : List Int) (hs : Has w s 1 (iv bl)) (hlen : bl.length ≤ 1000) :
    Calls prog 21 #[.agg #[.int .u8 kind, .slice s.a s.l s.c, .int .u8 fill, .bool odd, .int .i64 n]] w fun e w' => ∃ t1 t2 es1 es2, e = .returned (.tuple #[.slice t1.a t1.l t1.c, .slice t2.a t2.l t2.c]) ∧ Two w.heap.size w' t1 t2 es1 es2 ∧ es1.map (·.1.1) = bl ∧ Frm none_ w w' := by
  refine calls_ret (W21 (Q := fun v w' => ∃ t1 t2 es1 es2, v = .tuple #[.slice t1.a t1.l t1.c, .slice t2.a t2.l t2.c] ∧ Two w.heap.size w' t1 t2 es1 es2 ∧ es1.map (·.1.1) = bl ∧ Frm none_ w w') ?_) (fun v w' ⟨t1, t2, es1, es2, h, h'⟩ => ⟨t1, t2, es1, es2, by rw [h], h'⟩)
  unfold F21
  have hll : bl.length = s.l := by have := hs.len; rw [iv_length] at this; omega
  intro b1 w1 hnb
  have hm1 := hnb.mod none_
  have hB1 := hnb.blk
  have hb1 : b1 = w.heap.size := hnb.b
  have hs1 := hnb.size
  refine ⟨fun m t1 t2 i w2 => ∃ (j : Nat) (es1 es2 : List (Wt × Sl)), i = (j : Int) ∧ j ≤ bl.length ∧ m = bl.length - j ∧ Two w1.heap.size w2 t1 t2 es1 es2 ∧ es1.map (·.1.1) = bl.take j ∧ Frm none_ w1 w2, bl.length,
    ⟨0, [], [], rfl, by omega, by omega, ⟨rfl, GrpR.nil _ _ _, GrpR.nil _ _ _, by simp, List.Pairwise.nil, fun k hk => by simp [Sl.blk] at hk, by simp, by simp⟩, rfl, Frm.refl _ _⟩, ?_⟩
  rintro m u t1 t2 i w2 ⟨j, es1, es2, rfl, hj, rfl, hT, hes, hF2⟩
  have hl1 : es1.length = j := by
    have := congrArg List.length hes
    rw [List.length_map, List.length_take] at this
    omega
  have hl2 : es2.length = j := by have := hT.len; omega
  have hB2 := hB1.mod hF2 (fun h => h)
  have hz2 := hF2.size
  refine ⟨s, by rw [addr_add]; exact hB2.ld rfl, IfB.intro (fun hc => ?_) (fun hc => ?_)⟩
  · have hc := of_decide_eq_true hc
    have hj' : j < bl.length := by omega
    refine ⟨_, by rw [addr_add]; exact hB2.ld rfl, ?_⟩
    have h8 := wrap8 (fill + IntKind.wrap .u8 (j : Int))
    refine (full_i w2 _ h8.1 h8.2).mono ?_
    rintro _ w3 ⟨r, rfl, hr3, hrl, hrb, hf3⟩
    have hz3 := hf3.size
    have hB3 := hB2.mod hf3 (fun h => h)
    have hcap := row_cap hr3
    refine ⟨r, rfl, fun x7 w' => w3 = w' ∧ x7.blk = r.blk ∧ x7.l ≤ 256 ∧ ∃ dt, Row w3 x7 5 1 (bv dt), ?_, ?_⟩
    · refine ⟨fun v w' => w3 = w', ⟨_, by rw [addr_add]; exact hB3.ld rfl, IfB.intro (fun h => ⟨s, by rw [addr_add]; exact hB3.ld rfl, rfl⟩) (fun h => rfl)⟩, ?_⟩
      rintro u v _ rfl
      refine IfB.intro (fun h => ?_) (fun h => ⟨rfl, rfl, by omega, _, hr3⟩)
      refine ⟨⟨by decide, by omega⟩, rfl, ?_, by simp, (rep (IntKind.wrap .u8 (fill + IntKind.wrap .u8 (j : Int)))).take 255, ?_⟩
      · show (slA r.a 0 r.c 1).map (·.block) = _
        rw [slA_blk]; rfl
      · have := Row.headN hr3 255 (by omega) (by omega)
        rw [slA_zero, Nat.sub_zero, Nat.sub_zero]
        have e := bv_take (rep (IntKind.wrap .u8 (fill + IntKind.wrap .u8 (j : Int)))) 255
        rw [Nat.mul_one] at e
        rw [e] at this
        exact this
    rintro u x7 _ ⟨rfl, hxb, hxl, dt, hx7⟩
    have hdl : dt.length = x7.l := by have := hx7.len; rw [bv_length] at this; omega
    obtain ⟨p, hp, hld⟩ := (hs.mod ((trN hm1 hF2)) (fun _ _ h => h)).ex (j := j) (by rw [iv_length]; exact hj')
    have ev : (iv bl)[j]'(by rw [iv_length]; exact hj') = .int .i64 (bl[j]'hj') := by simp [iv]
    have hpl : ∀ w', Frm none_ w w' → Ld w' (p.add (j * 1)) (.int .i64 (bl[j]'hj')) := by
      intro w' hw'
      obtain ⟨p', hp', hld'⟩ := (hs.mod hw' (fun _ _ h => h)).ex (j := j) (by rw [iv_length]; exact hj')
      rw [hp] at hp'; cases hp'
      rw [Nat.mul_one, ← ev]; exact hld'
    have hF3 : Frm none_ w1 w3 := trN hF2 hf3
    have hT3 := hT.modN hf3
    have hrb' : ∀ k, x7.blk = some k → w2.heap.size ≤ k ∧ k < w3.heap.size := fun k hk => hrb k (by rw [← hxb]; exact hk)
    refine ⟨s, by rw [addr_add]; exact hB3.ld rfl, p, hp, by omega, by omega, bl[j]'hj', by rw [Int.toNat_natCast]; exact hpl _ (trN hm1 hF3), _, b30s _ x7, ?_⟩
    refine GrpR.pushN (p := (bl[j]'hj', dt)) st25 hT3.g1 hx7.has (fun k hk => ⟨by have := hrb' k hk; omega, (hrb' k hk).2, fun hkt => by have := hrb' k hk; have := hT.g1.row.lt k hkt; omega⟩) (by omega) (by omega) ?_
    intro t1' w4 hG14 hf4 hn1
    have hz4 := hf4.size
    have hF4 : Frm none_ w1 w4 := hF3.trans hf4 (fun _ _ h => h) (fun k hk he => by have := hT.g1.lo k he; omega)
    have hB4 := hB1.mod hF4 (fun h => h)
    have hx74 := hx7.mod hf4 (fun k hk hkt => by have := hrb' k hk; have := hT.g1.row.lt k hkt; omega)
    -- what lay there lies there still
    have hG24 := hT3.g2.modA hf4 (fun k hk hkt => (hT.c1 k hkt).1 hk) (fun q hq k hk hkt => (hT.c1 k hkt).2 q hq hk)
    have hR4 : ∀ q ∈ es1, Row w4 q.2 5 1 (bv q.1.2) := fun q hq => (hT3.rows q hq).mod hf4 (fun k hk hkt => ((hT3.g1.dat q hq).2 k hk).2.2 hkt)
    have hB4d := hB4.drew
    refine ⟨fun w' => Frm none_ w1 w' , hF4.drew, s, fun w' hw' => by rw [addr_add]; exact (hB1.mod hw' (fun h => h)).ld rfl, p, hp, by omega, by omega, bl[j]'hj', fun w' hw' => by rw [Int.toNat_natCast]; exact hpl _ (trN hm1 hw'), ?_⟩
    refine runT_lit0 st31 ?_
    intro w5 hr5 hf5 hs5
    have hf45 : Frm none_ w4 w5 := hf5.ofDrew
    have hz5 := hf45.size
    have hs5' : w5.heap.size = w4.heap.size + 1 := hs5
    have hr5' : Row w5 ⟨some ⟨w4.heap.size, 0, none⟩, 0, 0⟩ 5 1 [] := hr5
    refine ⟨trN hF4 hf45, ?_⟩
    refine runT_append st31 hr5' (hx74.mod hf45 (fun _ _ h => h)).has (bv_one _) (by simp only; omega) (by simp only [maxLen]; omega) ?_
    intro t51 w6 hr6 hl6 hn6 hf6
    rw [List.nil_append] at hr6
    have hz6 := hf6.size
    have hf46 : Frm none_ w4 w6 := hf45.trans hf6 (fun _ _ h => h) (fun k hk he => by simp [Sl.blk] at he; omega)
    have h51b : ∀ k, t51.blk = some k → w4.heap.size ≤ k ∧ k < w6.heap.size := by
      intro k hk
      refine ⟨?_, hr6.lt k hk⟩
      rcases hn6.cases hk with h | h
      · simp [Sl.blk] at h; omega
      · omega
    have hG16 := hG14.mod hf46 (fun _ _ _ h => h)
    have hG26 := hG24.mod hf46 (fun _ _ _ h => h)
    refine ⟨trN hF4 hf46, _, b58s _ t51, ?_⟩
    refine GrpR.pushN (p := (bl[j]'hj', dt)) st54 hG26 hr6.has (fun k hk => ⟨by have := h51b k hk; omega, (h51b k hk).2, fun hkt => by have := h51b k hk; have := hG24.row.lt k hkt; omega⟩) (by omega) (by omega) ?_
    intro t2' w7 hG27 hf7 hn2
    have hz7 := hf7.size
    -- the new ones and the elder ones
    have d1 : ∀ k, t1'.blk = some k → t1.blk = some k ∨ (w3.heap.size ≤ k ∧ k < w4.heap.size) := fun k hk => (hn1 k hk).imp id (fun h => ⟨h, hG14.row.lt k hk⟩)
    have d2 : ∀ k, t2'.blk = some k → t2.blk = some k ∨ (w6.heap.size ≤ k) := hn2
    have e1 : ∀ q ∈ es1, ∀ k, q.2.blk = some k → k < w2.heap.size := fun q hq k hk => ((hT.g1.dat q hq).2 k hk).2.1
    have e2 : ∀ q ∈ es2, ∀ k, q.2.blk = some k → k < w2.heap.size := fun q hq k hk => ((hT.g2.dat q hq).2 k hk).2.1
    have l1 : ∀ k, t1.blk = some k → k < w2.heap.size := fun k hk => hT.g1.row.lt k hk
    have l2 : ∀ k, t2.blk = some k → k < w2.heap.size := fun k hk => hT.g2.row.lt k hk
    have hG17 := hG16.modA hf7 (fun k hk hkt => by
      rcases d1 k hk with h | h
      · exact (hT.c1 k h).1 hkt
      · have := l2 k hkt; omega) (fun q hq k hk hkt => by
      rcases List.mem_append.1 hq with hq | hq
      · exact hT.c2 k hkt q hq hk
      · rw [List.mem_singleton] at hq; subst hq
        have := hrb' k hk; have := l2 k hkt; omega)
    have hF7 : Frm none_ w1 w7 := (trN hF4 hf46).trans hf7 (fun _ _ h => h) (fun k hk he => by have := hT.g2.lo k he; omega)
    refine ⟨bl.length - (j + 1), by omega, j + 1, _, _, by rw [wi _ (by omega)]; omega, by omega, rfl, ⟨?_, hG17, hG27, ?_, ?_, ?_, ?_, ?_⟩, ?_, hF7⟩
    · rw [List.map_append, List.map_append, hT.same]; rfl
    · intro q hq
      rcases List.mem_append.1 hq with hq | hq
      · exact ((hR4 q hq).mod hf46 (fun _ _ h => h)).mod hf7 (fun k hk hkt => hT.c2 k hkt q hq hk)
      · rw [List.mem_singleton] at hq; subst hq
        exact (hx74.mod hf46 (fun _ _ h => h)).mod hf7 (fun k hk hkt => by have := hrb' k hk; have := l2 k hkt; omega)
    · rw [List.pairwise_append]
      refine ⟨hT.pw, List.pairwise_singleton _ _, fun a ha c hc k hk hkc => ?_⟩
      rw [List.mem_singleton] at hc; subst hc
      have := e1 a ha k hk
      have := hrb' k hkc
      omega
    · intro k hk
      refine ⟨fun hk2 => ?_, fun q hq hkq => ?_⟩
      · rcases d1 k hk with h | h
        · rcases d2 k hk2 with h2 | h2
          · exact (hT.c1 k h).1 h2
          · have := l1 k h; omega
        · rcases d2 k hk2 with h2 | h2
          · have := l2 k h2; omega
          · omega
      · rcases List.mem_append.1 hq with hq | hq
        · rcases d1 k hk with h | h
          · exact (hT.c1 k h).2 q hq hkq
          · have := e2 q hq k hkq; omega
        · rw [List.mem_singleton] at hq; subst hq
          have := h51b k hkq
          rcases d1 k hk with h | h
          · have := l1 k h; omega
          · omega
    · intro k hk q hq hkq
      rcases List.mem_append.1 hq with hq | hq
      · rcases d2 k hk with h | h
        · exact hT.c2 k h q hq hkq
        · have := e1 q hq k hkq; omega
      · rw [List.mem_singleton] at hq; subst hq
        have := hrb' k hkq
        rcases d2 k hk with h | h
        · have := l2 k h; omega
        · omega
    · intro q hq k hk q' hq' hk'
      rcases List.mem_append.1 hq with hq | hq
      · rcases List.mem_append.1 hq' with hq' | hq'
        · exact hT.c3 q hq k hk q' hq' hk'
        · rw [List.mem_singleton] at hq'; subst hq'
          have := e1 q hq k hk
          have := h51b k hk'
          omega
      · rw [List.mem_singleton] at hq; subst hq
        have := hrb' k hk
        rcases List.mem_append.1 hq' with hq' | hq'
        · have := e2 q' hq' k hk'; omega
        · rw [List.mem_singleton] at hq'; subst hq'
          have := h51b k hk'
          omega
    · rw [List.map_append, hes, List.map_cons, List.map_nil, List.take_append_getElem hj']
  · have hc := of_decide_eq_false hc
    have hj' : j = bl.length := by omega
    subst hj'
    rw [List.take_length] at hes
    have lower : ∀ (E : TypeId) (t : Sl) (es : List (Wt × Sl)), GrpR E w1.heap.size w2 t es → GrpR E w.heap.size w2 t es := fun E t es h => ⟨h.row, fun k hk => by have := h.lo k hk; omega, fun q hq => ⟨(h.dat q hq).1, fun k hk => by have := (h.dat q hq).2 k hk; exact ⟨by omega, this.2⟩⟩⟩
    exact ⟨t1, t2, es1, es2, rfl, ⟨hT.same, lower _ _ _ hT.g1, lower _ _ _ hT.g2, hT.rows, hT.pw, hT.c1, hT.c2, hT.c3⟩, hes, trN hm1 hF2⟩
set_option maxHeartbeats 1000000 in
theorem reads_calls {n lo hi : Nat} {w : World} {y x : Option Addr} {d : Dk} {f f2 : Int → List UInt8} (h : Ses n lo hi w y x d f) {R : Nat → Prop} {z : Option Addr} (hD : DocP n R w z f2) {s : Sl} {nm : List Int} (hs : Has w s 1 (iv nm)) (hlim : nm.length ≤ 1000000) :
    Calls prog 26 #[.pointer y, .pointer z, .slice s.a s.l s.c] w fun e w' => ∃ v : Bool, e = .returned (.bool v) ∧ (v = true ↔ ∀ i ∈ nm, PlN n i → f i = f2 i) ∧ Frm none_ w w' := by
  refine calls_ret (W26 (Q := fun r w' => ∃ v : Bool, r = .bool v ∧ (v = true ↔ ∀ i ∈ nm, PlN n i → f i = f2 i) ∧ Frm none_ w w') ?_) (fun r w' ⟨v, h, h'⟩ => ⟨v, by rw [h], h'⟩)
  unfold F26
  have hn0 := h.n0.1
  have hll : nm.length = s.l := by have := hs.len; rw [iv_length] at this; omega
  refine ⟨fun m i w1 => ∃ j : Nat, i = (j : Int) ∧ j ≤ nm.length ∧ m = nm.length - j ∧ (∀ k, (hk : k < j) → (hk2 : k < nm.length) → PlN n (nm[k]'hk2) → f (nm[k]'hk2) = f2 (nm[k]'hk2)) ∧ Frm none_ w w1, nm.length, ⟨0, rfl, by omega, by omega, fun k hk => absurd hk (by omega), Frm.refl _ _⟩, ?_⟩
  rintro m u i w1 ⟨j, rfl, hj, rfl, hok, hF1⟩
  refine IfB.intro (fun hc => ?_) (fun hc => ?_)
  · have hc := of_decide_eq_true hc
    have hj' : j < nm.length := by omega
    obtain ⟨p, hp, _⟩ := hs.ex (j := j) (by rw [iv_length]; exact hj')
    have ev : (iv nm)[j]'(by rw [iv_length]; exact hj') = .int .i64 (nm[j]'hj') := by simp [iv]
    have hpl : ∀ w', Frm none_ w w' → Ld w' (p.add (j * 1)) (.int .i64 (nm[j]'hj')) := by
      intro w' hw'
      obtain ⟨p', hp', hld'⟩ := (hs.mod hw' (fun _ _ h => h)).ex (j := j) (by rw [iv_length]; exact hj')
      rw [hp] at hp'; cases hp'
      rw [Nat.mul_one, ← ev]; exact hld'
    have step : (PlN n (nm[j]'hj') → f (nm[j]'hj') = f2 (nm[j]'hj')) → ∀ k, (hk : k < j + 1) → (hk2 : k < nm.length) → PlN n (nm[k]'hk2) → f (nm[k]'hk2) = f2 (nm[k]'hk2) := by
      intro hlast k hk hk2 hpn
      by_cases e : k = j
      · subst e; exact hlast hpn
      · exact hok k (by omega) hk2 hpn
    refine ⟨p, hp, by omega, by omega, _, by rw [Int.toNat_natCast]; exact hpl _ hF1, ?_⟩
    by_cases hpn : PlN n (nm[j]'hj')
    · refine ((h.modN hF1).read hpn).mono ?_
      rintro _ w2 ⟨b, rfl, hB2, hl2, hb2, hf2⟩
      have hF2 := trN hF1 hf2
      refine ⟨⟨some ⟨b, 0, none⟩, 256, 256⟩, 0, rfl, p, hp, by omega, by omega, _, by rw [Int.toNat_natCast]; exact hpl _ hF2, ?_⟩
      refine (doc_plain (hD.modN hF2) hn0 _).mono ?_
      rintro _ _ ⟨rfl, rfl⟩
      refine ⟨_, rfl, ?_⟩
      rw [decide_eq_true hpn]
      have hh2 := Blk.hasB hB2 hl2
      refine IfB.f rfl ⟨fun v w' => v = !decide (f (nm[j]'hj') = f2 (nm[j]'hj')) ∧ Blk w' b (bv (f (nm[j]'hj'))).toArray 74 ∧ Frm none_ w w', ?_, ?_⟩
      · refine ⟨fun w' => Frm none_ w w', hF2.drew, IfB.f rfl ⟨p, hp, by omega, by omega, nm[j]'hj', fun w' hw' => by rw [Int.toNat_natCast]; exact hpl _ hw', ?_, ?_⟩⟩
        · refine runT_str un23 un5 un9 hh2.drew ⟨hF2.drew, ?_⟩
          refine (doc_at ((hD.modN hF2).mod (w' := w2.drew) (Frm.self (F := none_)) (fun _ _ h => h.elim)) _).mono ?_
          rintro _ w3 ⟨s3, rfl, hs3, hf3⟩
          refine ⟨s3, rfl, ?_, hB2.drew.mod hf3 (fun h => h), trN hF2.drew hf3⟩
          rw [str_beq, str_data, hs3]
        · refine (doc_at ((hD.modN hF2).mod (w' := w2.drew) (Frm.self (F := none_)) (fun _ _ h => h.elim)) _).mono ?_
          rintro _ w3 ⟨s3, rfl, hs3, hf3⟩
          refine ⟨s3, rfl, runT_str un23 un5 un9 (hh2.drew.mod hf3 (fun _ _ h => h)) ⟨trivial, ?_, hB2.drew.mod hf3 (fun h => h), trN hF2.drew hf3⟩⟩
          rw [str_beq, str_data, hs3]
      rintro u v w3 ⟨rfl, hB3, hF3⟩
      by_cases heq : f (nm[j]'hj') = f2 (nm[j]'hj')
      · rw [decide_eq_true heq]
        refine IfB.f rfl ⟨fun m i w' => ∃ (k : Nat) (cs : Array Value), i = (k : Int) ∧ k ≤ 256 ∧ m = 256 - k ∧ Blk w' b cs 74 ∧ cs.size = 256 ∧ Frm none_ w w', 256, ⟨0, _, rfl, by omega, by omega, hB3, by rw [List.size_toArray, bv_length, hl2], hF3⟩, ?_⟩
        rintro m u i w4 ⟨k, cs, rfl, hk, rfl, hB4, hcs, hF4⟩
        refine IfB.intro (fun h1 => ?_) (fun h1 => ?_)
        · have h1 := of_decide_eq_true h1
          have h1' : (k : Int) < ((256 : Nat) : Int) := h1
          refine ⟨_, rfl, by omega, h1, by rw [addr_add, Int.toNat_natCast, Nat.mul_one, Nat.zero_add]; exact hB4.wr (by omega), ?_⟩
          rintro w5 rfl
          rw [addr_add, Int.toNat_natCast, Nat.mul_one, Nat.zero_add]
          refine ⟨256 - (k + 1), by omega, k + 1, _, by rw [wi _ (by omega)]; omega, by omega, rfl, hB4.set k _, by simp [hcs], ?_⟩
          exact hF4.b (g := b) (mod_setCell (a := ⟨b, k, none⟩)) (by have := hF1.size; omega)
        · exact ⟨nm.length - (j + 1), by omega, j + 1, by rw [wi _ (by omega)]; omega, by omega, rfl, step (fun _ => heq), hF4⟩
      · rw [decide_eq_false heq]
        refine IfB.t rfl ⟨false, rfl, ⟨(fun h => by cases h), fun hall => absurd (hall _ (List.getElem_mem hj') hpn) heq⟩, hF3⟩
    · refine ((h.modN hF1).readBad hpn).mono ?_
      rintro _ w2 ⟨rfl, hf2⟩
      have hF2 := trN hF1 hf2
      refine ⟨⟨none, 0, 0⟩, 1, rfl, p, hp, by omega, by omega, _, by rw [Int.toNat_natCast]; exact hpl _ hF2, ?_⟩
      refine (doc_plain (hD.modN hF2) hn0 _).mono ?_
      rintro _ _ ⟨rfl, rfl⟩
      refine ⟨_, rfl, ?_⟩
      rw [decide_eq_false hpn]
      refine IfB.t rfl ⟨fun v w' => v = false ∧ Frm none_ w w', IfB.f rfl ⟨rfl, hF2⟩, ?_⟩
      rintro u v w3 ⟨rfl, hF3⟩
      exact IfB.f rfl ⟨nm.length - (j + 1), by omega, j + 1, by rw [wi _ (by omega)]; omega, by omega, rfl, step (fun h => absurd h hpn), hF3⟩
  · have hc := of_decide_eq_false hc
    refine ⟨true, rfl, ⟨fun _ i hi hpn => ?_, fun _ => rfl⟩, hF1⟩
    obtain ⟨k, hk, e⟩ := List.mem_iff_getElem.1 hi
    subst e
    exact hok k (by omega) hk hpn
theorem disk_calls {G : Nat → Prop} {w : World} {y x : Option Addr} {d : Dk} (h : JrQ G w y x d) : Calls prog 19 #[.pointer y] w fun e w' => e = .returned (.pointer x) ∧ w = w' := by
  refine calls_ret (W19 (Q := fun v w' => v = .pointer x ∧ w = w') ?_) (fun v w' ⟨h, h'⟩ => ⟨by rw [h], h'⟩)
  unfold F19
  obtain ⟨b, rfl, hB, _⟩ := h
  exact ⟨_, some_eql32 _ b, IfB.f rfl ⟨_, rfl, x, by rw [addr_add]; exact hB.ld rfl, rfl, rfl⟩⟩
/-- Calls of a dead journal turn nothing. -/
theorem doDead_calls {G : Nat → Prop} {w : World} {y x : Option Addr} {d : Dk} (h : JrQ G w y x d) (hd : d.dead = true) (s : Sl) : Calls prog 10 #[.pointer y, .slice s.a s.l s.c] w fun e w' => e = .returned (.int .i64 20) ∧ w = w' := by
  refine calls_ret (W10 (Q := fun v w' => v = .int .i64 20 ∧ w = w') ?_) (fun v w' ⟨h, h'⟩ => ⟨by rw [h], h'⟩)
  unfold F10
  refine (alive_calls G w y x d h).mono ?_
  rintro _ _ ⟨rfl, rfl⟩
  have e2 : livesD d = 20 := by unfold livesD; rw [hd]; rfl
  rw [e2]
  exact ⟨_, rfl, IfB.t rfl ⟨rfl, rfl⟩⟩
theorem rawDead_calls {G : Nat → Prop} {w : World} {y x : Option Addr} {d : Dk} (h : JrQ G w y x d) (hd : d.dead = true) (i : Int) (s : Sl) : Calls prog 25 #[.pointer y, .int .i64 i, .slice s.a s.l s.c] w fun e w' => e = .returned (.int .i64 20) ∧ w = w' := by
  refine calls_ret (W25 (Q := fun v w' => v = .int .i64 20 ∧ w = w') ?_) (fun v w' ⟨h, h'⟩ => ⟨by rw [h], h'⟩)
  unfold F25
  refine (alive_calls G w y x d h).mono ?_
  rintro _ _ ⟨rfl, rfl⟩
  have e2 : livesD d = 20 := by unfold livesD; rw [hd]; rfl
  rw [e2]
  exact ⟨_, rfl, IfB.t rfl ⟨rfl, rfl⟩⟩
theorem readDead_calls {G : Nat → Prop} {w : World} {y x : Option Addr} {d : Dk} (h : JrQ G w y x d) (hd : d.dead = true) (i : Int) : Calls prog 17 #[.pointer y, .int .i64 i] w fun e w' => e = .returned (.tuple #[.slice none 0 0, .int .i64 20]) ∧ w = w' := by
  refine calls_ret (W17 (Q := fun v w' => v = .tuple #[.slice none 0 0, .int .i64 20] ∧ w = w') ?_) (fun v w' ⟨h, h'⟩ => ⟨by rw [h], h'⟩)
  unfold F17
  refine (alive_calls G w y x d h).mono ?_
  rintro _ _ ⟨rfl, rfl⟩
  have e2 : livesD d = 20 := by unfold livesD; rw [hd]; rfl
  rw [e2]
  exact ⟨_, rfl, IfB.t rfl ⟨rfl, rfl⟩⟩
theorem cutDead_calls {G : Nat → Prop} {w : World} {x : Option Addr} {d : Dk} (h : DkQ G w x d) (hd : d.dead = true) (n : Int) : Calls prog 11 #[.pointer x, .int .i64 n] w fun e w' => e = .returned (.int .i64 20) ∧ w = w' := by
  refine calls_ret (W11 (Q := fun v w' => v = .int .i64 20 ∧ w = w') ?_) (fun v w' ⟨h, h'⟩ => ⟨by rw [h], h'⟩)
  unfold F11
  refine (lives_calls G w x d h).mono ?_
  rintro _ _ ⟨rfl, rfl⟩
  have e2 : livesD d = 20 := by unfold livesD; rw [hd]; rfl
  rw [e2]
  exact ⟨_, rfl, IfB.t rfl ⟨rfl, rfl⟩⟩
end Go.Proofs.Ytlbipbepeeopaaa
