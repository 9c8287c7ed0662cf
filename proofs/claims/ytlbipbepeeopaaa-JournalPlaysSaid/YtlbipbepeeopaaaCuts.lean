/- JournalCuts: wherever the disk is cut in a group, all of it is there, or nothing. -/
import Derived.Test.YtlbipbepeeopaaaAgain
set_option linter.unusedVariables false
set_option linter.unusedSimpArgs false
set_option maxRecDepth 20000
namespace Go.Proofs.Ytlbipbepeeopaaa
open Go Go.Proofs.YtlbipbepeeopaaaV
theorem op5 (w : World) : Opens prog w 5 (fun b : UInt8 => [.int .u8 (b.toNat : Int)]) (fun _ => True) := opens_byte (by kernel_rfl)
theorem op23 (w : World) : Opens prog w 23 (fun p : Sl × List UInt8 => [.slice p.1.a p.1.l p.1.c]) (fun p => HasL w p.1 1 (fun b : UInt8 => [Value.int .u8 (b.toNat : Int)]) p.2 ∧ (∀ a ∈ p.2, True) ∧ p.1.l ≤ p.1.c ∧ p.1.c ≤ maxLen ∧ p.1.c * 1 ≤ 140737488351232) :=
  opens_slice (by kernel_rfl) (by kernel_rfl) (by kernel_rfl) (op5 w)
theorem GrpR.modA {E : TypeId} {F : Nat → Prop} {B : Nat} {w w' : World} {t : Sl} {es : List (Wt × Sl)} (h : GrpR E B w t es) (hm : Frm F w w') (h1 : ∀ k, t.blk = some k → ¬ F k) (h2 : ∀ q ∈ es, ∀ k, q.2.blk = some k → ¬ F k) : GrpR E B w' t es :=
  ⟨h.row.mod hm h1, h.lo, fun q hq => ⟨(h.dat q hq).1.mod hm (h2 q hq), fun k hk => by
    have := (h.dat q hq).2 k hk
    exact ⟨this.1, Nat.lt_of_lt_of_le this.2.1 hm.size, this.2.2⟩⟩⟩
/-- One write more, told where the row lies. -/
theorem GrpR.pushN {ty E : TypeId} (T : SlT prog ty E 2 32 (.agg #[.int .i64 0, .slice none 0 0])) {w : World} {B : Nat} {t s : Sl} {es : List (Wt × Sl)} (h : GrpR E B w t es) {p : Wt} (hs : Has w s 1 (bv p.2))
    (hb : ∀ k, s.blk = some k → B ≤ k ∧ k < w.heap.size ∧ t.blk ≠ some k) (hB : B ≤ w.heap.size) (hn : es.length ≤ 1000) {K : Sl → World → Prop}
    (hk : ∀ t' w', GrpR E B w' t' (es ++ [(p, s)]) → Frm (fun k => t.blk = some k) w w' → (∀ k, t'.blk = some k → t.blk = some k ∨ w.heap.size ≤ k) → K t' w') :
    RunT prog .slice (Instr.buildSlice ty 1 #[(0, .agg #[.int .i64 p.1, .slice s.a s.l s.c])]) w fun (x : Sl) w1 => RunT prog .slice (Builtin.append_ #[ty, ty] ty #[.slice t.a t.l t.c, .slice x.a x.l x.c]) w1 fun (t' : Sl) w2 => K t' w2 := by
  have hl := h.len
  refine runT_lit1 T (by decide) rfl ?_
  intro w1 hrow1 hf1 hs1
  have hrt := h.row.mod hf1 (fun _ _ h => h)
  refine runT_append T hrt hrow1.has (fun u hu => ?_) (by simp only; omega) (by simp only [maxLen]; omega) ?_
  · simp only [Value.cells, List.mem_cons, List.not_mem_nil, or_false] at hu
    rcases hu with rfl | rfl <;> rfl
  intro t' w2 hrow2 hl2 hnear hf2
  have hF : Frm (fun k => t.blk = some k) w w2 := hf1.trans hf2 (fun _ _ h => h.elim) (fun _ _ h => h)
  refine hk t' w2 ⟨?_, ?_, ?_⟩ hF (fun k hk => ?_)
  · rw [List.flatMap_append]
    have e : ([(p, s)] : List (Wt × Sl)).flatMap gdec = (Value.agg #[.int .i64 p.1, .slice s.a s.l s.c]).cells.toList := rfl
    rw [e]; exact hrow2
  · intro k hk
    rcases hnear.cases hk with h' | h'
    · exact h.lo k h'
    · omega
  · have key : ∀ (r : Sl) (c : List UInt8), Has w r 1 (bv c) → (∀ k, r.blk = some k → B ≤ k ∧ k < w.heap.size ∧ t.blk ≠ some k) → Has w2 r 1 (bv c) ∧ ∀ k, r.blk = some k → B ≤ k ∧ k < w2.heap.size ∧ t'.blk ≠ some k := by
      intro r c hr hbr
      refine ⟨hr.mod hF (fun k hk hkt => (hbr k hk).2.2 hkt), fun k hk => ⟨(hbr k hk).1, Nat.lt_of_lt_of_le (hbr k hk).2.1 hF.size, fun hkt => ?_⟩⟩
      rcases hnear.cases hkt with h' | h'
      · exact (hbr k hk).2.2 h'
      · have := (hbr k hk).2.1; omega
    intro q hq
    rcases List.mem_append.1 hq with hq | hq
    · exact key q.2 q.1.2 (h.dat q hq).1 (h.dat q hq).2
    · rw [List.mem_singleton] at hq
      subst hq
      exact key s p.2 hs hb
  · rcases hnear.cases hk with h' | h'
    · exact .inl h'
    · exact .inr (by omega)
theorem Seen.congr {w : World} {b : Nat} {ks ks' : List Int} (h : Seen w b ks) (he : ∀ k, k ∈ ks ↔ k ∈ ks') : Seen w b ks' := by
  refine ⟨?_, h.one⟩
  obtain ⟨es, c, h1, h2, h3⟩ := h.ex
  exact ⟨es, c, h1, h2, fun k => by rw [h3 k, he k]⟩
/-- The same bytes at each of these blocks. -/
def cstL (ks : List Int) (c : Int) : List Wt := ks.map fun k => (k, rep c)
theorem over_cst (ks : List Int) (c : Int) (f : Int → List UInt8) (i : Int) : over (cstL ks c) f i = if i ∈ ks then rep c else f i := by
  induction ks generalizing f with
  | nil => simp [cstL, over]
  | cons k r ih =>
    have e : cstL (k :: r) c = (k, rep c) :: cstL r c := rfl
    rw [e, over, ih]
    unfold upd
    by_cases h1 : i ∈ r
    · simp [h1]
    · by_cases h2 : i = k
      · simp [h2]
      · simp [h1, h2]
theorem chk_cst {ks : List Int} {c : Int} (hn : ks.Nodup) (hr : ∀ k ∈ ks, 122 ≤ k ∧ k < 512) (hl : ks.length ≤ 120) : chkD 512 (cstL ks c) = 0 := by
  refine chk_ok (by simp [cstL]; exact hl) ⟨fun p hp => ?_, ?_⟩
  · obtain ⟨k, hk, rfl⟩ := List.mem_map.1 hp
    have := hr k hk
    exact ⟨.inr (by simp only; omega), rep_len _⟩
  · have e : (cstL ks c).map (·.1) = ks := by
      unfold cstL
      rw [List.map_map]
      have : ((fun x : Wt => x.1) ∘ fun k => (k, rep c)) = id := rfl
      rw [this, List.map_id]
    rw [e]; exact hn
theorem cst_rng {ks : List Int} {c : Int} (hr : ∀ k ∈ ks, 122 ≤ k ∧ k < 512) : ∀ p ∈ cstL ks c, -9223372036854775808 ≤ p.1 ∧ p.1 ≤ 9223372036854775807 := by
  intro p hp
  obtain ⟨k, hk, rfl⟩ := List.mem_map.1 hp
  have := hr k hk
  simp only
  omega
/-- A disk of 512 blocks that stands for g. -/
structure Pos (W w : World) (x : Option Addr) (lo hi : Nat) (d : Dk) (g : Int → List UInt8) : Prop where
  dk : DkQ (Rg lo hi) w x d
  hi : hi ≤ w.heap.size
  len : d.bl.length = 512
  st : Stand d g
  wr : d.wr ≤ 600
  lo : W.heap.size ≤ lo
  fr : Frm none_ W w
theorem Pos.reopen {W w : World} {x : Option Addr} {lo hi : Nat} {d : Dk} {g : Int → List UInt8} (h : Pos W w x lo hi d g) (hd : d.dead = true) :
    Calls prog 13 #[.pointer x] w fun e w' => ∃ x' lo' hi', e = .returned (.tuple #[.pointer x', .int .i64 0]) ∧ Pos W w' x' lo' hi' ⟨d.bl, 0, -1, false⟩ g := by
  refine (reopenR_calls _ w x d h.dk hd).mono ?_
  rintro _ w' ⟨x', rfl, hd', hf⟩
  exact ⟨x', _, _, rfl, hd', Nat.le_refl _, h.len, h.st.bl rfl, Nat.zero_le _, h.fr.size, trN h.fr hf⟩
theorem Pos.open {W w : World} {x : Option Addr} {lo hi : Nat} {d : Dk} {g : Int → List UInt8} (h : Pos W w x lo hi d g) (hd : d.dead = false) (hw : d.wr ≤ 479 ∨ Zero d) :
    Calls prog 14 #[.pointer x] w fun e w' => ∃ d', (∃ y, e = .returned (.tuple #[.pointer y, .int .i64 0]) ∧ Ses 512 lo hi w' y x d' g ∧ Pos W w' x lo hi d' g) ∨
      (e = .returned (.tuple #[.pointer none, .int .i64 20]) ∧ Pos W w' x lo hi d' g ∧ d'.dead = true ∧ 0 ≤ d.cut) := by
  refine (openR_calls h.dk h.hi hd h.len h.st (by have := h.wr; omega)).mono ?_
  rintro _ w' ⟨d', hf, hh, hw', ho⟩
  have hF : Frm none_ W w' := Frm.rg h.fr hf h.lo
  have hwr := h.wr
  rcases ho with ⟨y, rfl, hs, hz⟩ | ⟨rfl, h1, h2, h3, h4, h5, h6⟩
  · refine ⟨d', .inl ⟨y, rfl, hs, hs.jr.dk, hh, hs.len, hs.stand, ?_, h.lo, hF⟩⟩
    rcases hw with hw | hw
    · omega
    · rw [hz hw]; exact hwr
  · refine ⟨d', .inr ⟨rfl, ⟨h1, hh, h3, h4, ?_, h.lo, hF⟩, h2, h5⟩⟩
    rcases hw with hw | hw
    · omega
    · exact absurd hw h6
theorem Pos.dead {W w : World} {x : Option Addr} {lo hi : Nat} {d : Dk} {g : Int → List UInt8} (h : Pos W w x lo hi d g) : Calls prog 12 #[.pointer x] w fun e w' => e = .returned (.bool d.dead) ∧ w = w' := dead_calls _ w x d h.dk
theorem Pos.cut {W w : World} {x : Option Addr} {lo hi : Nat} {d : Dk} {g : Int → List UInt8} (h : Pos W w x lo hi d g) (hd : d.dead = false) (c : Int) (h0 : 0 ≤ c) (h1 : c ≤ 9223372036854775807) :
    Calls prog 11 #[.pointer x, .int .i64 c] w fun e w' => e = .returned (.int .i64 0) ∧ Pos W w' x lo hi { d with cut := c } g := by
  refine (cut_calls (Rg lo hi) w x d c h1 h.dk).mono ?_
  have e : cutD c d = (0, { d with cut := c }) := by unfold cutD; rw [hd]; simp only [Bool.false_eq_true, if_false]; rw [if_neg (by omega)]
  rw [e]
  rintro _ w' ⟨rfl, hd', hf⟩
  exact ⟨rfl, hd', Nat.le_trans h.hi hf.size, h.len, h.st.bl rfl, h.wr, h.lo, Frm.rg h.fr hf h.lo⟩
theorem rep12 : rep 1 ≠ rep 2 := fun h => absurd (rep_inj h) (by decide)
set_option maxHeartbeats 4000000 in
theorem cuts_calls (w : World) (s : Sl) (l : List Int) (x1 : Int) (sb : Sl) (bs : List UInt8) (hs0 : Has w s 1 (iv l)) (hb0 : Has w sb 1 (bv bs)) :
    Calls prog 3 #[.slice s.a s.l s.c, .int .i64 x1, .slice sb.a sb.l sb.c] w fun e w' => e = .returned (.bool true) ∧ Frm none_ w w' := by
  refine calls_ret (W3 (Q := fun v w' => v = .bool true ∧ Frm none_ w w') ?_) (fun v w' ⟨h, h'⟩ => ⟨by rw [h], h'⟩)
  unfold F3
  have hll : l.length = s.l := by have := hs0.len; rw [iv_length] at this; omega
  have hbl : bs.length = sb.l := by have := hb0.len; rw [bv_length] at this; omega
  refine ⟨fun v w' => Frm none_ w w' ∧ (v = false → s.l ≤ 120 ∧ sb.l ≤ 10), ?_, ?_⟩
  · refine IfB.intro (fun h => ?_) (fun h => ?_)
    · exact ⟨Frm.refl _ _, fun h => by cases h⟩
    · have h := of_decide_eq_false h
      refine IfB.intro (fun h2 => ?_) (fun h2 => ?_)
      · exact ⟨Frm.refl _ _, fun h => by cases h⟩
      · have h2 := of_decide_eq_false h2
        refine (awake_calls w).mono ?_
        rintro _ w1 ⟨rfl, hm⟩
        exact ⟨true, rfl, hm, fun _ => by omega⟩
  rintro u v w0 ⟨hF0, hv⟩
  refine IfB.intro (fun h => ?_) (fun h => ?_)
  · refine (awake_calls w0).mono ?_
    rintro _ w1 ⟨rfl, hm⟩
    exact ⟨true, rfl, rfl, trN hF0 hm⟩
  obtain ⟨hlen, hlen2⟩ := hv h
  clear hv h
  refine runT_makeMap ?_
  intro w1 hm0 hF1 hsz1
  have hF01 := trN hF0 hF1
  refine ⟨fun n t1 t2 i w2 => ∃ (j : Nat) (ks : List Int) (es1 es2 : List (Wt × Sl)), i = (j : Int) ∧ j ≤ l.length ∧ n = l.length - j ∧ ks.length ≤ j ∧ ks.Nodup ∧ (∀ k ∈ ks, 122 ≤ k ∧ k < 512) ∧ Seen w2 w0.heap.size ks ∧
      es1.map (·.1) = cstL ks 1 ∧ es2.map (·.1) = cstL ks 2 ∧ GrpR 30 w1.heap.size w2 t1 es1 ∧ GrpR 30 w1.heap.size w2 t2 es2 ∧
      (∀ k, t1.blk = some k → t2.blk ≠ some k ∧ ∀ q ∈ es2, q.2.blk ≠ some k) ∧ (∀ k, t2.blk = some k → ∀ q ∈ es1, q.2.blk ≠ some k) ∧ Frm none_ w w2 ∧ w1.heap.size ≤ w2.heap.size, l.length,
    ⟨0, [], [], [], rfl, by omega, by omega, by simp, by simp, by simp, Seen.new hm0, rfl, rfl, GrpR.nil _ _ _, GrpR.nil _ _ _, fun k hk => by simp [Sl.blk] at hk, fun k hk => by simp [Sl.blk] at hk, hF01, Nat.le_refl _⟩, ?_⟩
  rintro n u t1 t2 i w2 ⟨j, ks, es1, es2, rfl, hj, rfl, hkl, hkn, hkr, hSe, he1, he2, hG1, hG2, hap1, hap2, hF2, hz2⟩
  have hl1 : es1.length = ks.length := by have := congrArg List.length he1; simpa [cstL] using this
  have hl2 : es2.length = ks.length := by have := congrArg List.length he2; simpa [cstL] using this
  refine IfB.intro (fun hc => ?_) (fun hc => ?_)
  · have hc := of_decide_eq_true hc
    have hj' : j < l.length := by omega
    obtain ⟨p, hp, hld⟩ := (hs0.mod hF2 (fun _ _ h => h)).ex (j := j) (by rw [iv_length]; exact hj')
    have ev : (iv l)[j]'(by rw [iv_length]; exact hj') = .int .i64 (l[j]'hj') := by simp [iv]
    rw [ev] at hld
    refine ⟨p, hp, by omega, by omega, l[j]'hj', by rw [Int.toNat_natCast, Nat.mul_one]; exact hld, by decide, ?_⟩
    have htm := tmodU (l[j]'hj') 390 (by decide) (by decide)
    rw [wi (122 + _) (by omega)]
    generalize hk0 : 122 + IntKind.wrap .i64 (Int.tmod (IntKind.wrap .u64 (l[j]'hj')) 390) = k0
    have hk1 : 122 ≤ k0 ∧ k0 < 512 := by omega
    clear hk0 htm
    refine hSe.look _ ⟨_, rfl, ?_⟩
    by_cases hin : k0 ∈ ks
    · rw [if_pos hin]
      exact IfB.f rfl ⟨l.length - (j + 1), by omega, j + 1, ks, es1, es2, by rw [wi _ (by omega)]; omega, by omega, rfl, by omega, hkn, hkr, hSe, he1, he2, hG1, hG2, hap1, hap2, hF2, hz2⟩
    · rw [if_neg hin]
      refine IfB.t rfl (hSe.look _ ⟨_, rfl, ?_⟩)
      rw [if_neg hin, wi (0 + 1) (by omega)]
      refine hSe.add _ hin ?_
      intro w3 hSe3 hf3
      have hbm : ∀ k, w1.heap.size ≤ k → ¬ k = w0.heap.size := fun k hk => by omega
      have hG13 := hG1.mod hf3 (fun k hk _ => hbm k hk)
      have hG23 := hG2.mod hf3 (fun k hk _ => hbm k hk)
      have hF3 : Frm none_ w w3 := hF2.b hf3 (by have := hF0.size; omega)
      have hz3 := hf3.size
      refine (full_i w3 1 (by decide) (by decide)).mono ?_
      rintro _ w4 ⟨r1, rfl, hr1, _, hb1, hf4⟩
      have hz4 := hf4.size
      have hG14 := hG13.mod hf4 (fun _ _ _ h => h)
      have hG24 := hG23.mod hf4 (fun _ _ _ h => h)
      refine ⟨r1, rfl, _, b30s k0 r1, ?_⟩
      refine GrpR.pushN (p := (k0, rep 1)) st25 hG14 hr1.has (fun k hk => ⟨by have := hb1 k hk; omega, (hb1 k hk).2, fun hkt => by have := hb1 k hk; have := hG13.row.lt k hkt; omega⟩) (by omega) (by omega) ?_
      intro t1' w5 hG15 hf5 hn1
      have hz5 := hf5.size
      have hG25 := hG24.modA hf5 (fun k hk hkt => (hap1 k hkt).1 hk) (fun q hq k hk hkt => (hap1 k hkt).2 q hq hk)
      refine (full_i w5 2 (by decide) (by decide)).mono ?_
      rintro _ w6 ⟨r2, rfl, hr2, _, hb2, hf6⟩
      have hz6 := hf6.size
      have hG16 := hG15.mod hf6 (fun _ _ _ h => h)
      have hG26 := hG25.mod hf6 (fun _ _ _ h => h)
      refine ⟨r2, rfl, _, b30s k0 r2, ?_⟩
      refine GrpR.pushN (p := (k0, rep 2)) st25 hG26 hr2.has (fun k hk => ⟨by have := hb2 k hk; omega, (hb2 k hk).2, fun hkt => by have := hb2 k hk; have := hG25.row.lt k hkt; omega⟩) (by omega) (by omega) ?_
      intro t2' w7 hG27 hf7 hn2
      have hz7 := hf7.size
      -- the row of the one group is not the row of the other one
      have hd12 : ∀ k, t1'.blk = some k → t2.blk ≠ some k ∧ ∀ q ∈ es2, q.2.blk ≠ some k := by
        intro k hk
        rcases hn1 k hk with h | h
        · exact hap1 k h
        · refine ⟨fun hk2 => ?_, fun q hq hk2 => ?_⟩
          · have := hG24.row.lt k hk2; omega
          · have := ((hG24.dat q hq).2 k hk2).2.1; omega
      have hq1 : ∀ q ∈ es1 ++ [((k0, rep 1), r1)], ∀ k, q.2.blk = some k → t2.blk ≠ some k := by
        intro q hq k hk hk2
        rcases List.mem_append.1 hq with hq | hq
        · exact hap2 k hk2 q hq hk
        · rw [List.mem_singleton] at hq
          subst hq
          have := hb1 k hk
          have := hG23.row.lt k hk2
          omega
      have hG17 := hG16.modA hf7 (fun k hk hkt => (hd12 k hk).1 hkt) (fun q hq k hk hkt => hq1 q hq k hk hkt)
      have hF5 : Frm none_ w w5 := (trN hF3 hf4).trans hf5 (fun _ _ h => h) (fun k hk he => by have := hG1.lo k he; have := hF01.size; omega)
      have hF7 : Frm none_ w w7 := (trN hF5 hf6).trans hf7 (fun _ _ h => h) (fun k hk he => by have := hG2.lo k he; have := hF01.size; omega)
      have hSe4 := hSe3.mod hf4 (fun h => h)
      have hSe5 := hSe4.mod hf5 (fun he => by have := hG1.lo _ he; omega)
      have hSe6 := hSe5.mod hf6 (fun h => h)
      have hSe7 := hSe6.mod hf7 (fun he => by have := hG2.lo _ he; omega)
      refine ⟨l.length - (j + 1), by omega, j + 1, ks ++ [k0], _, _, by rw [wi _ (by omega)]; omega, by omega, rfl, by simp; omega, ?_, ?_, hSe7.congr (fun k => by simp; exact Or.comm), ?_, ?_, hG17, hG27, ?_, ?_, hF7, by omega⟩
      · rw [List.nodup_append]
        refine ⟨hkn, by simp, fun a ha b hb hab => ?_⟩
        rw [List.mem_singleton] at hb
        subst hab hb
        exact hin ha
      · intro k hk
        rcases List.mem_append.1 hk with hk | hk
        · exact hkr k hk
        · rw [List.mem_singleton] at hk
          subst hk; exact hk1
      · rw [List.map_append, he1]; unfold cstL; rw [List.map_append]; rfl
      · rw [List.map_append, he2]; unfold cstL; rw [List.map_append]; rfl
      · intro k hk
        refine ⟨fun hk2 => ?_, fun q hq hk2 => ?_⟩
        · rcases hn2 k hk2 with h | h
          · exact (hd12 k hk).1 h
          · have := hG15.row.lt k hk; omega
        · rcases List.mem_append.1 hq with hq | hq
          · exact (hd12 k hk).2 q hq hk2
          · rw [List.mem_singleton] at hq
            subst hq
            have := hb2 k hk2
            have := hG15.row.lt k hk
            omega
      · intro k hk q hq hk2
        rcases hn2 k hk with h | h
        · exact hq1 q hq k hk2 h
        · rcases List.mem_append.1 hq with hq | hq
          · have := ((hG15.dat q (by simp [hq])).2 k hk2).2.1; omega
          · have := ((hG15.dat q (by simp [List.mem_singleton.1 hq])).2 k hk2).2.1; omega
  have hc := of_decide_eq_false hc
  have hj' : j = l.length := by omega
  subst hj'
  have hk120 : ks.length ≤ 120 := by omega
  have ht2 := hG2.len
  have hgrp1 := hG1.grp
  have hgrp2 := hG2.grp
  rw [he1] at hgrp1
  rw [he2] at hgrp2
  have hck1 := chk_cst (c := 1) hkn hkr hk120
  have hck2 := chk_cst (c := 2) hkn hkr hk120
  have hcl : ∀ c, (cstL ks c).length = ks.length := fun c => by simp [cstL]
  generalize hf0 : (fun _ : Int => rep 0) = f0
  have hf1 : ∀ i, over (cstL ks 1) f0 i = if i ∈ ks then rep 1 else rep 0 := fun i => by rw [over_cst, ← hf0]
  generalize hf1d : over (cstL ks 1) f0 = f1 at hf1
  have hf2 : ∀ i, over (cstL ks 2) f1 i = if i ∈ ks then rep 2 else rep 0 := fun i => by
    rw [over_cst, hf1]
    split <;> rfl
  generalize hf2d : over (cstL ks 2) f1 = f2 at hf2
  refine (fresh_calls w2).mono ?_
  rintro _ w3 ⟨x, y, d, hi, rfl, hs3, hcut, hwr, hF3⟩
  rw [hf0] at hs3
  obtain ⟨b, hy⟩ := hs3.y
  subst hy
  have hdis : ∀ k, (w1.heap.size ≤ k ∧ k < w2.heap.size) → ¬ Rg w2.heap.size hi k := fun k hk hr => by have := hr.1; omega
  have hz3 := hF3.size
  refine ⟨x, _, rfl, fun v w' => v = false ∧ ∃ d', Ses 512 w2.heap.size hi w' (some ⟨b, 0, none⟩) x d' f1 ∧ d'.wr ≤ 242 ∧ Frm none_ w2 w', ?_, ?_⟩
  · refine ⟨_, some_eql32 _ b, IfB.f rfl ?_⟩
    refine (hs3.do (hgrp1.mod hF3 (fun _ _ h => h)) hdis (fun k hk => by omega) (cst_rng hkr) (by omega)).mono ?_
    rintro _ w4 ⟨d4, r, rfl, hdo, hw4, hh4, hF4⟩
    rw [hcl] at hw4
    rcases hdo with ⟨h1, _⟩ | ⟨_, rfl, hs4, _, _⟩ | ⟨_, _, _, _, _, h1, _⟩
    · exact absurd hck1 h1
    rotate_left
    · omega
    rw [hf1d] at hs4
    exact ⟨0, rfl, rfl, d4, hs4, by omega, frmRN hF3 hF4⟩
  clear hs3 hF3 hz3 hcut hwr
  rintro u v w4 ⟨rfl, d4, hs4, hw4, hF4⟩
  refine IfB.f rfl ?_
  have hcm := tmodU x1 300 (by decide) (by decide)
  generalize IntKind.wrap .i64 (Int.tmod (IntKind.wrap .u64 x1) 300) = c at hcm
  refine ⟨by decide, (hs4.cut c hcm.1 (by omega)).mono ?_⟩
  rintro _ w5 ⟨rfl, hs5, hF5⟩
  refine ⟨0, rfl, IfB.f rfl ?_⟩
  have hF05 := frmRN hF4 hF5
  have hz5 := hF05.size
  refine (hs5.do (hgrp2.mod hF05 (fun _ _ h => h)) hdis (fun k hk => by omega) (cst_rng hkr) (by simp only; omega)).mono ?_
  rintro _ w6 ⟨d6, r, rfl, hdo, hw6, hh6, hF6⟩
  rw [hcl] at hw6
  simp only at hw6
  have hF06 := frmRN hF05 hF6
  obtain ⟨g, hg, hg0, hr, hP, hrc, hz6⟩ : ∃ g, (g = f1 ∨ g = f2) ∧ (r = 0 → g = f2) ∧ (r = 0 ∨ r = 20) ∧ Pos w2 w6 x w2.heap.size hi d6 g ∧ (2 * (ks.length : Int) + 2 ≤ c → r = 0) ∧ (d6.dead = false → Zero d6) := by
    rcases hdo with ⟨h1, _⟩ | ⟨_, rfl, hs6, _, _⟩ | ⟨_, rfl, hj6, hd6, hl6, h0, h2, _, h1⟩
    · exact absurd hck2 h1
    · rw [hf2d] at hs6
      exact ⟨f2, .inr rfl, fun _ => rfl, .inl rfl, ⟨hs6.jr.dk, hh6, hs6.len, hs6.stand, by omega, Nat.le_refl _, hF06⟩, fun _ => rfl, fun _ => hs6.zero⟩
    · rw [hcl] at h1 h2
      simp only at h0 h1 h2
      rw [hf2d] at h1
      have hd : ∀ g', Stand d6 g' → Pos w2 w6 x w2.heap.size hi d6 g' := fun g' hS => ⟨hj6.dk, hh6, hl6, hS, by omega, Nat.le_refl _, hF06⟩
      rcases h1 with ⟨_, h1⟩ | ⟨_, h1⟩
      · exact ⟨f1, .inl rfl, (fun h => by cases h), .inr rfl, hd f1 h1, (fun h => by omega), fun h => by rw [hd6] at h; cases h⟩
      · exact ⟨f2, .inr rfl, (fun h => by cases h), .inr rfl, hd f2 h1, (fun h => by omega), fun h => by rw [hd6] at h; cases h⟩
  have hgn : ∀ i, i ∉ ks → g i = rep 0 := by
    intro i hi'
    rcases hg with rfl | rfl
    · rw [hf1, if_neg hi']
    · rw [hf2, if_neg hi']
  clear hdo hs4 hs5 hF4 hF5 hw4 hw6 hF6
  refine ⟨r, rfl, fun v w' => v = false ∧ w6 = w', ?_, ?_⟩
  · rw [wi (2 * ((t2.l : Nat) : Int)) (by omega), wi _ (by omega)]
    rcases hr with rfl | rfl
    · exact IfB.intro (fun _ => IfB.f rfl (IfB.f rfl ⟨rfl, rfl⟩)) (fun _ => IfB.f rfl ⟨rfl, rfl⟩)
    · refine IfB.intro (fun h => ?_) (fun _ => IfB.t rfl ⟨rfl, rfl⟩)
      have h := of_decide_eq_true h
      have := hrc (by omega)
      cases this
  rintro u v _ ⟨rfl, rfl⟩
  refine IfB.f rfl ?_
  refine ⟨fun x' w' => ∃ lo' hi' d', Pos w2 w' x' lo' hi' d' g ∧ (d'.dead = false → Zero d'), ?_, ?_⟩
  · refine ⟨fun n x' i w' => ∃ j lo' hi' d', i = ((j : Nat) : Int) ∧ j ≤ bs.length ∧ n = bs.length - j ∧ Pos w2 w' x' lo' hi' d' g ∧ (d'.dead = false → Zero d'), bs.length, ⟨0, _, _, d6, rfl, by omega, by omega, hP, hz6⟩, ?_⟩
    rintro n u x' i w7 ⟨j, lo', hi', d7, rfl, hj, rfl, hP7, hz7⟩
    refine ⟨fun w' => w7 = w' ∧ d7.dead = true ∧ j < bs.length, ?_, ?_⟩
    · refine IfB.intro (fun h => ?_) (fun h => ⟨lo', hi', d7, hP7, hz7⟩)
      have h := of_decide_eq_true h
      refine hP7.dead.mono ?_
      rintro _ _ ⟨rfl, rfl⟩
      exact ⟨_, rfl, IfB.intro (fun hd => ⟨rfl, hd, by omega⟩) (fun hd => ⟨lo', hi', d7, hP7, hz7⟩)⟩
    rintro u _ ⟨rfl, hd7, hjl⟩
    refine (hP7.reopen hd7).mono ?_
    rintro _ w8 ⟨x8, lo8, hi8, rfl, hP8⟩
    refine ⟨x8, 0, rfl, IfB.f rfl ?_⟩
    obtain ⟨p, hp, hld⟩ := (hb0.mod (trN hF2 hP8.fr) (fun _ _ h => h)).ex (j := j) (by rw [bv_length]; exact hjl)
    have ev : (bv bs)[j]'(by rw [bv_length]; exact hjl) = .int .u8 ((bs[j]'hjl).toNat : Int) := by simp [bv]
    rw [ev] at hld
    have hlt := (bs[j]'hjl).toNat_lt
    refine ⟨p, hp, by omega, by omega, _, by rw [Int.toNat_natCast, Nat.mul_one]; exact hld, ?_⟩
    rw [wi _ (by omega)]
    refine (hP8.cut rfl _ (by omega) (by omega)).mono ?_
    rintro _ w9 ⟨rfl, hP9⟩
    refine ⟨0, rfl, IfB.f rfl ?_⟩
    refine (hP9.open rfl (.inl (Nat.zero_le _))).mono ?_
    rintro _ w10 ⟨d10, ⟨y10, rfl, hs10, hP10⟩ | ⟨rfl, hP10, hd10, _⟩⟩
    · exact ⟨y10, 0, rfl, IfB.f rfl ⟨bs.length - (j + 1), by omega, j + 1, lo8, hi8, d10, by rw [wi _ (by omega)]; omega, by omega, rfl, hP10, fun _ => hs10.zero⟩⟩
    · refine ⟨none, 20, rfl, IfB.t rfl (IfB.f rfl (hP10.dead.mono ?_))⟩
      rintro _ _ ⟨rfl, rfl⟩
      refine ⟨_, rfl, ?_⟩
      rw [hd10]
      exact IfB.f rfl ⟨bs.length - (j + 1), by omega, j + 1, lo8, hi8, d10, by rw [wi _ (by omega)]; omega, by omega, rfl, hP10, fun h => by rw [hd10] at h; cases h⟩
  clear hP hz6 hF06 hF05 hz5 hh6
  rintro u x7 w7 ⟨lo7, hi7, d7, hP7, hz7⟩
  refine ⟨fun x' w' => ∃ lo' hi' d', Pos w2 w' x' lo' hi' d' g ∧ d'.dead = false ∧ (d'.wr ≤ 479 ∨ Zero d'), ?_, ?_⟩
  · refine hP7.dead.mono ?_
    rintro _ _ ⟨rfl, rfl⟩
    refine ⟨_, rfl, IfB.intro (fun hd => ?_) (fun hd => ⟨lo7, hi7, d7, hP7, hd, .inr (hz7 hd)⟩)⟩
    refine (hP7.reopen hd).mono ?_
    rintro _ w8 ⟨x8, lo8, hi8, rfl, hP8⟩
    exact ⟨x8, 0, rfl, IfB.f rfl ⟨lo8, hi8, _, hP8, rfl, .inl (Nat.zero_le _)⟩⟩
  rintro u x8 w8 ⟨lo8, hi8, d8, hP8, hd8, hw8⟩
  refine (hP8.open hd8 hw8).mono ?_
  rintro en w9 ⟨d9, ho⟩
  obtain ⟨ya, ea, he, hcase⟩ : ∃ (ya : Option Addr) (ea : Int), en = .returned (.tuple #[.pointer ya, .int .i64 ea]) ∧ ((ea = 0 ∧ Ses 512 lo8 hi8 w9 ya x8 d9 g ∧ Pos w2 w9 x8 lo8 hi8 d9 g) ∨ (ea = 20 ∧ Pos w2 w9 x8 lo8 hi8 d9 g ∧ d9.dead = true)) := by
    rcases ho with ⟨y9, h1, h2, h3⟩ | ⟨h1, h2, h3, _⟩
    · exact ⟨y9, 0, h1, .inl ⟨rfl, h2, h3⟩⟩
    · exact ⟨none, 20, h1, .inr ⟨rfl, h2, h3⟩⟩
  subst he
  clear ho
  refine ⟨ya, ea, rfl, fun yy e w' => e = 0 ∧ ∃ lo' hi' d' x', Ses 512 lo' hi' w' yy x' d' g ∧ Frm none_ w2 w', ?_, ?_⟩
  · rcases hcase with ⟨rfl, hs9, hP9⟩ | ⟨rfl, hP9, hd9⟩
    · refine ⟨fun v w' => v = false ∧ w9 = w', IfB.f rfl ⟨rfl, rfl⟩, ?_⟩
      rintro u v _ ⟨rfl, rfl⟩
      exact IfB.f rfl ⟨rfl, _, _, _, _, hs9, hP9.fr⟩
    · refine ⟨fun v w' => v = true ∧ w9 = w', IfB.t rfl (hP9.dead.mono ?_), ?_⟩
      · rintro _ _ ⟨rfl, rfl⟩
        exact ⟨_, rfl, hd9, rfl⟩
      rintro u v _ ⟨rfl, rfl⟩
      refine IfB.t rfl ((hP9.reopen hd9).mono ?_)
      rintro _ w10 ⟨x10, lo10, hi10, rfl, hP10⟩
      refine ⟨x10, 0, rfl, IfB.f rfl ((hP10.open rfl (.inl (Nat.zero_le _))).mono ?_)⟩
      rintro _ w11 ⟨d11, ⟨y11, rfl, hs11, hP11⟩ | ⟨_, _, _, h⟩⟩
      · exact ⟨y11, 0, rfl, rfl, _, _, _, _, hs11, hP11.fr⟩
      · simp at h
  clear hcase hP7 hz7 hP8 hd8 hw8
  rintro u y9 e9 w10 ⟨rfl, lo9, hi9, d9, x9, hs9, hF9⟩
  refine IfB.f rfl ?_
  have hpl : ∀ k ∈ ks, PlN 512 k := fun k hk => by have := hkr k hk; exact .inr (by omega)
  refine ⟨fun c w' => (c = 1 ∨ c = 2) ∧ (∀ k ∈ ks, g k = rep c) ∧ (r = 0 → 0 < ks.length → c = 2) ∧ Ses 512 lo9 hi9 w' y9 x9 d9 g ∧ Frm none_ w2 w', ?_, ?_⟩
  · refine ⟨fun v w' => (v = true → ∀ k ∈ ks, g k = rep 2) ∧ (v = false → (∀ k ∈ ks, g k = rep 1) ∧ (r = 0 → ks.length = 0)) ∧ Ses 512 lo9 hi9 w' y9 x9 d9 g ∧ Frm none_ w2 w', ?_, ?_⟩
    · refine IfB.intro (fun h => ?_) (fun h => ?_)
      · have h := of_decide_eq_true h
        have hl2' : 0 < es2.length := by omega
        obtain ⟨p, hp, hcell, _⟩ := (hG2.mod hF9 (fun _ _ _ h => h)).get hl2'
        have hk0 : (es2[0]'hl2').1.1 ∈ ks := by
          have h1 : (es2[0]'hl2').1 ∈ es2.map (·.1) := List.mem_map_of_mem (List.getElem_mem hl2')
          rw [he2] at h1
          obtain ⟨k, hk, e⟩ := List.mem_map.1 h1
          rw [← e]; exact hk
        refine ⟨p, hp, by decide, by omega, _, hcell 0 _ rfl, ?_⟩
        refine (hs9.holds (c := 2) (hpl _ hk0) (by decide) (by decide)).mono ?_
        rintro _ w11 ⟨rfl, hF11⟩
        refine ⟨_, rfl, ?_, ?_, hs9.modN hF11, trN hF9 hF11⟩
        · intro hv k hk
          have hv := of_decide_eq_true hv
          rcases hg with rfl | rfl
          · rw [hf1, if_pos hk0] at hv
            exact absurd hv rep12
          · rw [hf2, if_pos hk]
        · intro hv
          have hv := of_decide_eq_false hv
          rcases hg with rfl | rfl
          · refine ⟨fun k hk => by rw [hf1, if_pos hk], fun h0 => ?_⟩
            have := hg0 h0
            rw [hf1, if_pos hk0, ] at hv
            have h3 := hf2 (es2[0]'hl2').1.1
            rw [← this, if_pos hk0, hf1, if_pos hk0] at h3
            exact absurd h3 rep12
          · rw [hf2, if_pos hk0] at hv
            exact absurd rfl hv
      · have h := of_decide_eq_false h
        have h0 : ks = [] := List.eq_nil_of_length_eq_zero (by omega)
        exact ⟨(fun h => by cases h), fun _ => ⟨fun k hk => by rw [h0] at hk; simp at hk, fun _ => by rw [h0]; rfl⟩, hs9, hF9⟩
    · rintro u v w11 ⟨h1, h2, h3, h4⟩
      refine IfB.intro (fun hv => ⟨.inr rfl, h1 hv, fun _ _ => rfl, h3, h4⟩) (fun hv => ⟨.inl rfl, (h2 hv).1, fun h0 hl => ?_, h3, h4⟩)
      have := (h2 hv).2 h0
      omega
  clear hs9 hF9
  rintro u c2 w11 ⟨hc2, hgk, hgr, hs11, hF11⟩
  refine ⟨fun v w' => v = false ∧ w11 = w', ?_, ?_⟩
  · refine IfB.intro (fun h => ?_) (fun h => ⟨rfl, rfl⟩)
    have h := eq_of_beq h
    refine IfB.intro (fun h2 => ?_) (fun h2 => ⟨rfl, rfl⟩)
    have h2 := of_decide_eq_true h2
    have := hgr h (by omega)
    subst this
    exact ⟨rfl, rfl⟩
  rintro u v _ ⟨rfl, rfl⟩
  refine IfB.f rfl ?_
  refine ⟨fun n i w' => ∃ j : Nat, i = (122 + j : Int) ∧ j ≤ 390 ∧ n = 390 - j ∧ Frm none_ w11 w', 390, ⟨0, rfl, by omega, by omega, Frm.refl _ _⟩, ?_⟩
  rintro n u i w12 ⟨j, rfl, hj, rfl, hF12⟩
  have hs12 := hs11.modN hF12
  refine IfB.intro (fun hc => ?_) (fun hc => ?_)
  · have hc := of_decide_eq_true hc
    have hpl' : PlN 512 (122 + (j : Int)) := .inr (by omega)
    have hSe12 := hSe.mod (trN hF11 hF12) (fun h => h)
    refine hSe12.look _ ⟨_, rfl, ?_⟩
    by_cases hin : 122 + (j : Int) ∈ ks
    · rw [if_pos hin]
      refine IfB.t rfl ((hs12.holds (c := c2) hpl' (by omega) (by omega)).mono ?_)
      rintro _ w13 ⟨rfl, hF13⟩
      refine ⟨_, rfl, ?_⟩
      rw [decide_eq_true (hgk _ hin)]
      exact IfB.f rfl ⟨390 - (j + 1), by omega, j + 1, by rw [wi _ (by omega)]; omega, by omega, rfl, trN hF12 hF13⟩
    · rw [if_neg hin]
      refine IfB.f rfl ((hs12.holds (c := 0) hpl' (by decide) (by decide)).mono ?_)
      rintro _ w13 ⟨rfl, hF13⟩
      refine ⟨_, rfl, ?_⟩
      rw [decide_eq_true (hgn _ hin)]
      exact IfB.f rfl ⟨390 - (j + 1), by omega, j + 1, by rw [wi _ (by omega)]; omega, by omega, rfl, trN hF12 hF13⟩
  · refine (hs12.holds (i := 0) (c := 0) (.inl rfl) (by decide) (by decide)).mono ?_
    rintro _ w13 ⟨rfl, hF13⟩
    refine ⟨_, rfl, ?_, trN hF2 (trN hF11 (trN hF12 hF13))⟩
    rw [decide_eq_true (hgn 0 (fun h => by have := hkr 0 h; omega))]
theorem cuts_law (W : World) (s : Sl) (l : List Int) (hl : HasL W s 1 (fun n : Int => [Value.int .i64 n]) l ∧ (∀ a ∈ l, -9223372036854775808 ≤ a ∧ a ≤ 9223372036854775807) ∧ s.l ≤ s.c ∧ s.c ≤ maxLen ∧ s.c * 8 ≤ 140737488351232) (n : Int) (hn : -9223372036854775808 ≤ n ∧ n ≤ 9223372036854775807)
    (sb : Sl) (bs : List UInt8) (hb : HasL W sb 1 (fun b : UInt8 => [Value.int .u8 (b.toNat : Int)]) bs ∧ (∀ a ∈ bs, True) ∧ sb.l ≤ sb.c ∧ sb.c ≤ maxLen ∧ sb.c * 1 ≤ 140737488351232) :
    Calls prog 3 #[.slice s.a s.l s.c, .int .i64 n, .slice sb.a sb.l sb.c] W fun e w' => e = .returned (.bool true) ∧ Frm none_ W w' := cuts_calls W s l n sb bs hl.1.one hb.1.bytes
end Go.Proofs.Ytlbipbepeeopaaa
