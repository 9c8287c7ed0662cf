/- The laws LogsBack and LogsStays walked. -/
import Derived.Test.YtmcdeldjgfapbaaLines
set_option linter.unusedVariables false
set_option linter.unusedSimpArgs false
set_option maxRecDepth 20000
namespace Go.Proofs.Ytmcdeldjgfapbaa
open Go Go.Proofs.YtmcdeldjgfapbaaV
theorem saveL_pre {ps qs : List ByteArray} (hp : OkL ps) (hq : OkL qs) {r : List UInt8} (h : saveL ps ++ r = saveL qs) : r = [] := by
  have h1 := hp.n
  have h2 := hq.n
  unfold saveL at h
  rw [cb_gb (by omega), cb_gb (by omega), List.append_assoc] at h
  obtain ⟨e1, e2⟩ := gb_inj (by omega) (by omega) h
  have := (det (fun p hp' => (hq.each p hp').2) (ps := ps) (rest := r) (fun p hp' => (hp.each p hp').2) (by omega) e2).2
  rw [this, List.drop_of_length_le (by omega)]
  rfl
theorem ld_less {ps : List ByteArray} (hp : OkL ps) (n : Nat) (hn : n < (saveL ps).length) : ldOf ((saveL ps).take n) = none := by
  refine ldOf_none fun qs hq e => ?_
  have h : saveL qs ++ (saveL ps).drop n = saveL ps := by rw [e, List.take_append_drop]
  have := congrArg List.length (saveL_pre hq hp h)
  rw [List.length_drop, List.length_nil] at this
  omega
theorem ld_more {ps : List ByteArray} (hp : OkL ps) (c : UInt8) : ldOf (saveL ps ++ [c]) = none := by
  refine ldOf_none fun qs hq e => ?_
  have := saveL_pre hp hq e.symm
  simp at this
theorem saveL_pos (ps : List ByteArray) : 1 ≤ (saveL ps).length ∨ 2147483647 < ps.length := by
  by_cases h : ps.length ≤ 2147483647
  · left
    unfold saveL
    rw [cb_gb h, List.length_append]
    have := gb_pos ps.length
    omega
  · right; omega
theorem loaded_some {B : Nat} {w : World} {ps : List ByteArray} (ok : OkL ps) {v : Value} (h : Loaded B w (saveL ps) v) : ∃ b s, v = .tuple #[.pointer (some ⟨b, 0, none⟩), .int .i64 0] ∧ B ≤ b ∧ (∀ k, s.blk = some k → B ≤ k) ∧ LgS w b s ps := by
  rcases h with ⟨b, qs, rfl, h1, s, h2, h3, h4, h5⟩ | ⟨_, h1⟩
  · rw [ldOf_some ok rfl] at h1
    cases h1
    exact ⟨b, s, rfl, h2, h3, h4, h5⟩
  · rw [ldOf_some ok rfl] at h1; cases h1
theorem loaded_none {B : Nat} {w : World} {l : List UInt8} (hl : ldOf l = none) {v : Value} (h : Loaded B w l v) : v = .tuple #[.pointer none, .int .i64 4] := by
  rcases h with ⟨b, qs, rfl, h1, _⟩ | ⟨h, _⟩
  · rw [hl] at h1; cases h1
  · exact h
theorem saveS {w : World} {b : Nat} {s : Sl} {ps : List ByteArray} (h : LgS w b s ps) (ok : OkL ps) : Calls prog 17 #[.pointer (some ⟨b, 0, none⟩)] w (Made w (saveL ps)) := by
  have h1 := ok.n
  have h2 := szs_le (fun p hp => (ok.each p hp).2)
  have := save_calls 0 w _ ps h.q (by omega) (by omega)
  rwa [if_neg (by simp)] at this
theorem back_law (W : World) (s : Sl) (l : List ByteArray) (ha : ArgT W s l) (x : ByteArray) (hx : x.size ≤ 140737488351232) : Calls prog 8 #[.slice s.a s.l s.c, .string x] W fun e w' => e = .returned (.bool true) ∧ Frm none_ W w' := by
  refine callsRet (W8 (x0 := s) (x1 := x) (Q := fun v w' => v = .bool true ∧ Frm none_ W w') ?_) (fun v w' ⟨h, h'⟩ => ⟨by rw [h], h'⟩)
  unfold F8
  refine (pieces_calls W s l ha.has (by have := ha.2.2.2.2; have := ha.2.2.1; omega)).mono ?_
  rintro _ w1 ⟨r, rfl, hr, hrn, f1⟩
  have ok := pcs_ok l [] ok_nil
  generalize pcs [] l = ps at hr ok
  have hps := ok.n
  have hz := szs_le (fun p hp => (ok.each p hp).2)
  have hrl := has_sv hr.has
  refine ⟨r, rfl, (filled_calls w1 r ps hr.has ok).mono ?_⟩
  rintro _ w2 ⟨b, t, rfl, hb, htn, hL, f2⟩
  refine ⟨_, _, rfl, fun c w' => c = false ∧ Frm none_ w2 w', ?_, ?_⟩
  · refine (works_calls w2).mono ?_
    rintro _ w3 ⟨rfl, f3⟩
    exact ⟨_, rfl, IfB.f rfl ⟨rfl, f3⟩⟩
  rintro u c w3 ⟨rfl, f3⟩
  have hr3 := ((hr.mod f2 (fun _ _ h => h)).mod f3 (fun _ _ h => h))
  have hL3 := hL.n f3
  have F3 := (f1.n f2).n f3
  have hbW : W.heap.size ≤ b := by have := f1.size; omega
  have htW : New W t := fun k hk => by have := htn k hk; have := f1.size; omega
  refine IfB.f rfl ((saveS hL3 ok).mono ?_)
  rintro _ w4 ⟨d, rfl, hd, hdn, f4⟩
  have hdl := rowLen hd
  have hsp := saveL_pos ps
  have hsl := saveL_len ps (by omega)
  refine ⟨d, rfl, (load_calls w4 d (saveL ps) hd.has (by omega)).mono ?_⟩
  rintro _ w5 ⟨v5, rfl, hv5, f5⟩
  obtain ⟨b5, s5, rfl, hb5, hs5, hL5⟩ := loaded_some ok hv5
  have hL35 := (hL3.n f4).n f5
  refine ⟨_, _, rfl, IfB.f rfl ((copy_calls w5 b t ps hL35 (by omega)).mono ?_)⟩
  rintro _ w6 ⟨b6, s6, rfl, hb6, hs6, hL6, f6⟩
  have hL36 := hL35.n f6
  have hL56 := hL5.n f6
  refine ⟨_, rfl, (add_calls w6 b t ps _ x hL36 ok).mono ?_⟩
  rintro _ w7 ⟨rfl, t7, hL7, hn7, f7⟩
  have F6 := ((F3.n f4).n f5).n f6
  have F7 := frm_lg F6 f7 hbW htW
  have hblt := hL3.blk.lt
  have htlt := hL3.row.lt
  have z4 := f4.size
  have z5 := f5.size
  have z6 := f6.size
  have nb5 : ¬ (b5 = b ∨ t.blk = some b5) := by
    rintro (h | h)
    · omega
    · have := htlt _ h; omega
  have nb6 : ¬ (b6 = b ∨ t.blk = some b6) := by
    rintro (h | h)
    · omega
    · have := htlt _ h; omega
  have hLx : LgS w7 b5 s5 ps := hL56.mod f7 nb5 (fun k hk => by
    rintro (h | h)
    · have := hs5 k hk; omega
    · have := hs5 k hk; have := htlt _ h; omega)
  have hLc : LgS w7 b6 s6 ps := hL6.mod f7 nb6 (fun k hk => by
    rintro (h | h)
    · have := hs6 k hk; omega
    · have := hs6 k hk; have := htlt _ h; omega)
  have hd6 := ((hd.mod f5 (fun _ _ h => h)).mod f6 (fun _ _ h => h))
  have hd7 : Row w7 d 5 1 (bv (saveL ps)) := hd6.mod f7 (fun k hk => by
    have hkb := hd6.g.blkNeB hL36.blk.g (by decide)
    rintro (h | h)
    · subst h; exact hkb hk
    · exact hd6.g.blkNe hL36.row.g (by decide) k hk h)
  have ed : IntKind.wrap .i64 (((d.l : Nat) : Int) - 1) = ((d.l - 1 : Nat) : Int) := by rw [wi _ (by omega)]; omega
  have hdc : d.l ≤ d.c := by
    rcases hd.cases with ⟨rfl, _⟩ | ⟨g, cur, ha, hB, h3, _⟩
    · exact Nat.le_refl _
    · exact h3
  rw [ed]
  refine ⟨_, _, rfl, ⟨by omega, by omega⟩, ?_⟩
  rw [Int.toNat_natCast, slA_zero, Nat.sub_zero, Nat.sub_zero]
  have hhead := hd7.has.head (d.l - 1) d.c (by omega)
  rw [bv_take] at hhead
  refine (load_calls w7 ⟨d.a, d.l - 1, d.c⟩ _ hhead (by simp only; omega)).mono ?_
  rintro _ w8 ⟨v8, rfl, hv8, f8⟩
  rw [loaded_none (ld_less ok (d.l - 1) (by omega)) hv8]
  refine ⟨_, _, rfl, runT_lit0 st22 ?_⟩
  intro w9 hr9 f9 z9
  have hd9 := (hd7.mod f8 (fun _ _ h => h)).mod f9 (fun _ _ h => h)
  refine runT_append st22 hr9 hd9.has (bv_one _) (by simp only; omega) (by simp only [maxLen]; omega) ?_
  intro d10 w10 hr10 hl10 hn10 f10
  rw [List.nil_append] at hr10
  have F9 : Frm none_ w7 w9 := f8.n f9
  have hnew : New w7 ⟨some ⟨w8.heap.size, 0, none⟩, 0, 0⟩ := fun k hk => by simp [Sl.blk] at hk; have := f8.size; omega
  have F10 : Frm none_ w7 w10 := hnew.frm F9 f10
  have hn10' : New w7 d10 := hnew.near (w2 := w10) hn10 F9.size
  refine runT_lit1 st22 (by decide) rfl ?_
  intro w11 hr11 f11 z11
  have hv11 : (Value.int IntKind.u8 0).cells.toList = bv [0] := rfl
  rw [hv11] at hr11
  have hd10l := rowLen hr10
  refine runT_append st22 (hr10.mod f11 (fun _ _ h => h)) hr11.has (bv_one _) (by simp only; omega) (by simp only [maxLen]; omega) ?_
  intro d12 w12 hr12 hl12 hn12 f12
  rw [← bv_append] at hr12
  have F11 := F10.n f11
  have F12 : Frm none_ w7 w12 := hn10'.frm F11 f12
  have hd12l := rowLen hr12
  rw [List.length_append, List.length_singleton] at hd12l
  refine (load_calls w12 d12 _ hr12.has (by omega)).mono ?_
  rintro _ w13 ⟨v13, rfl, hv13, f13⟩
  rw [loaded_none (ld_more ok 0) hv13]
  have F13 := F12.n f13
  refine ⟨_, _, rfl, (from_calls 0 w13 _ ps (hLx.n F13).q (by omega) 0).mono ?_⟩
  rw [show (0 : Int).toNat = 0 from rfl, List.drop_zero]
  rintro _ w14 ⟨r14, rfl, hr14, hn14, f14⟩
  have F14 := F13.n f14
  refine ⟨_, rfl, (from_calls 0 w14 _ ps (hLc.n F14).q (by omega) 0).mono ?_⟩
  rw [show (0 : Int).toNat = 0 from rfl, List.drop_zero]
  rintro _ w15 ⟨r15, rfl, hr15, hn15, f15⟩
  have F15 := F14.n f15
  have hrl14 := has_sv hr14.has
  have hrl15 := has_sv hr15.has
  have hr7 : Row w7 r 9 1 (sv ps) := (((hr3.mod f4 (fun _ _ h => h)).mod f5 (fun _ _ h => h)).mod f6 (fun _ _ h => h)).mod f7 (fun k hk => by
    have hk1 := hr.lt k hk
    rintro (h | h)
    · omega
    · have := htn k h; omega)
  have hdec : decide (ps <+: ps) = true := decide_eq_true (List.prefix_refl _)
  refine ⟨_, rfl, IfB.t (by rw [hrl14, hrl]; simp) ((begins_calls w15.drew r14 r ps ps ((hr14.mod f15 (fun _ _ h => h)).drew.has) ((hr7.mod F15 (fun _ _ h => h)).drew.has) (by omega)).mono ?_)⟩
  rw [hdec]
  rintro _ w16 ⟨rfl, f16⟩
  have f16 := f16.ofDrew
  have F16 := F15.n f16
  refine ⟨_, rfl, IfB.t rfl (IfB.t (by rw [hrl15, hrl]; simp) ((begins_calls w16 r15 r ps ps ((hr15.mod f16 (fun _ _ h => h)).has) ((hr7.mod F16 (fun _ _ h => h)).has) (by omega)).mono ?_))⟩
  rw [hdec]
  rintro _ w17 ⟨rfl, f17⟩
  have F17 := F16.n f17
  have convD : ∀ (V : World) {K : ByteArray → World → Prop}, Frm none_ w7 V → K (str (saveL ps)) V → RunT prog .str (convert 22 9 (.slice d.a d.l d.c)) V K := fun V K hV hK => runT_str un22 un5 un9 (hd7.mod hV (fun _ _ h => h)).has hK
  have heq : ((str (saveL ps)).toList == (str (saveL ps)).toList) = true := (str_eqIff _ _).2 rfl
  have hend : ∀ V : World, Frm none_ w7 V → IfB ((str (saveL ps)).toList == (str (saveL ps)).toList) (IfB ((4 : Int) == (4 : Int)) (Value.bool ((4 : Int) == (4 : Int)) = Value.bool true ∧ Frm none_ W V) (Value.bool false = Value.bool true ∧ Frm none_ W V)) (Value.bool false = Value.bool true ∧ Frm none_ W V) := fun V hV =>
    IfB.t heq (IfB.t rfl ⟨rfl, F7.n hV⟩)
  refine ⟨_, rfl, IfB.t rfl ?_⟩
  have rest : ∀ V : World, Frm none_ w7 V →
      ((Calls prog 17 #[.pointer (some ⟨b6, 0, none⟩)] V fun en w1_20 => ∃ t101 : Sl, en = .returned (.slice t101.a t101.l t101.c) ∧
        (RunT prog .str (convert 22 9 (.slice t101.a t101.l t101.c)) w1_20 fun (t102 : ByteArray) w1_21 => RunT prog .str (convert 22 9 (.slice d.a d.l d.c)) w1_21 fun (t104 : ByteArray) w1_22 =>
          IfB (t102.toList == t104.toList) (IfB ((4 : Int) == (4 : Int)) (Value.bool ((4 : Int) == (4 : Int)) = Value.bool true ∧ Frm none_ W w1_22) (Value.bool false = Value.bool true ∧ Frm none_ W w1_22)) (Value.bool false = Value.bool true ∧ Frm none_ W w1_22)) ∧
        (RunT prog .str (convert 22 9 (.slice d.a d.l d.c)) w1_20 fun (t104 : ByteArray) w1_21 => RunT prog .str (convert 22 9 (.slice t101.a t101.l t101.c)) w1_21 fun (t102 : ByteArray) w1_22 =>
          IfB (t102.toList == t104.toList) (IfB ((4 : Int) == (4 : Int)) (Value.bool ((4 : Int) == (4 : Int)) = Value.bool true ∧ Frm none_ W w1_22) (Value.bool false = Value.bool true ∧ Frm none_ W w1_22)) (Value.bool false = Value.bool true ∧ Frm none_ W w1_22))) ∧
      (RunT prog .str (convert 22 9 (.slice d.a d.l d.c)) V fun (t104 : ByteArray) w1_20 => Calls prog 17 #[.pointer (some ⟨b6, 0, none⟩)] w1_20 fun en w1_21 => ∃ t101 : Sl, en = .returned (.slice t101.a t101.l t101.c) ∧
        RunT prog .str (convert 22 9 (.slice t101.a t101.l t101.c)) w1_21 fun (t102 : ByteArray) w1_22 =>
          IfB (t102.toList == t104.toList) (IfB ((4 : Int) == (4 : Int)) (Value.bool ((4 : Int) == (4 : Int)) = Value.bool true ∧ Frm none_ W w1_22) (Value.bool false = Value.bool true ∧ Frm none_ W w1_22)) (Value.bool false = Value.bool true ∧ Frm none_ W w1_22))) := by
    intro V hV
    refine ⟨(saveS (hLc.n hV) ok).mono ?_, convD V hV ((saveS (hLc.n hV) ok).mono ?_)⟩
    · rintro _ V2 ⟨q, rfl, hq, hqn, fq⟩
      have hV2 := hV.n fq
      exact ⟨q, rfl, runT_str un22 un5 un9 hq.has (convD V2 hV2 (hend V2 hV2)), convD V2 hV2 (runT_str un22 un5 un9 hq.has (hend V2 hV2))⟩
    · rintro _ V2 ⟨q, rfl, hq, hqn, fq⟩
      have hV2 := hV.n fq
      exact ⟨q, rfl, runT_str un22 un5 un9 hq.has (hend V2 hV2)⟩
  refine ⟨(saveS (hLx.n F17) ok).mono ?_, convD w17 F17 ((saveS (hLx.n F17) ok).mono ?_)⟩
  · rintro _ V2 ⟨q, rfl, hq, hqn, fq⟩
    have hV2 := F17.n fq
    exact ⟨q, rfl, runT_str un22 un5 un9 hq.has (convD V2 hV2 (IfB.t heq (rest V2 hV2))), convD V2 hV2 (runT_str un22 un5 un9 hq.has (IfB.t heq (rest V2 hV2)))⟩
  · rintro _ V2 ⟨q, rfl, hq, hqn, fq⟩
    have hV2 := F17.n fq
    exact ⟨q, rfl, runT_str un22 un5 un9 hq.has (IfB.t heq (rest V2 hV2))⟩
/-! ### LogsStays -/
structure Stp where
  k : Int
  n : Int
  m : Int
  s : ByteArray
def sc (p : Stp) : List Value := [.int .i64 p.k, .int .i64 p.n, .int .i64 p.m, .string p.s]
structure OkS (p : Stp) : Prop where
  n0 : -9223372036854775808 ≤ p.n
  n1 : p.n ≤ 9223372036854775807
  m0 : -9223372036854775808 ≤ p.m
  m1 : p.m ≤ 9223372036854775807
theorem op50 (w : World) : Opens prog w 50 sc OkS :=
  (opens_struct Try.underlying50 (by kernel_rfl) (opensF_cons (o := 0) (sz := 1) rfl (by kernel_rfl) (op3 w) (opensF_cons (o := 1) (sz := 1) rfl (by kernel_rfl) (op3 w) (opensF_cons (o := 2) (sz := 1) rfl (by kernel_rfl) (op3 w) (opensF_cons (o := 3) (sz := 1) rfl (by kernel_rfl) (op9 w) opensF_nil))))).map
    (fun p => ⟨p.1, p.2.1, p.2.2.1, p.2.2.2.1⟩) fun p hp => ⟨by simp [sc], hp.2.1.1, hp.2.1.2, hp.2.2.1.1, hp.2.2.1.2⟩
theorem op47 (w : World) : Opens prog w 47 (fun p : Sl × List Stp => [.slice p.1.a p.1.l p.1.c]) (fun p => HasL w p.1 4 sc p.2 ∧ (∀ a ∈ p.2, OkS a) ∧ p.1.l ≤ p.1.c ∧ p.1.c ≤ maxLen ∧ p.1.c * 40 ≤ 140737488351232) :=
  opens_slice Try.underlying47 (by kernel_rfl) (by kernel_rfl) (op50 w)
abbrev ArgS (W : World) (s : Sl) (l : List Stp) : Prop := HasL W s 4 sc l ∧ (∀ a ∈ l, OkS a) ∧ s.l ≤ s.c ∧ s.c ≤ maxLen ∧ s.c * 40 ≤ 140737488351232
theorem large_calls (w : World) (s : Sl) (l : List Stp) (hs : HasL w s 4 sc l) (hc : s.l ≤ 1000000000000000) : Calls prog 23 #[.slice s.a s.l s.c] w fun e w' => ∃ c, e = .returned (.bool c) ∧ (c = false → l.length ≤ 80 ∧ ∀ p ∈ l, p.s.size ≤ 20000) ∧ w' = w := by
  refine calls_ret (W23 (x0 := s) (Q := fun v w' => ∃ c, v = .bool c ∧ (c = false → l.length ≤ 80 ∧ ∀ p ∈ l, p.s.size ≤ 20000) ∧ w' = w) ?_) (fun v w' ⟨c, h, h'⟩ => ⟨c, by rw [h], h'⟩)
  have hl := hs.len
  unfold F23
  refine ⟨fun n x i w' => ∃ (j k : Nat), i = (j : Int) ∧ x = (k : Int) ∧ j ≤ l.length ∧ k ≤ 20000 ∧ n = l.length - j ∧ (∀ p ∈ l.take j, p.s.size ≤ 20000) ∧ w = w', l.length, ⟨0, 0, rfl, rfl, by omega, by omega, rfl, by simp, rfl⟩, ?_⟩
  rintro n u x i w1 ⟨j, k, rfl, rfl, hj, hk, rfl, hall, rfl⟩
  refine IfB.dec (fun hlt => ?_) (fun hge => ⟨_, rfl, fun hf => ?_, rfl⟩)
  · obtain ⟨q, p, hq, hp, _, hld, _⟩ := hs.at (by decide) (i := (j : Int)) (by omega) (by omega)
    have h3 := hld 3 _ rfl
    rw [Int.toNat_natCast] at hp
    refine ⟨q, hq, by omega, by omega, p.s, h3, IfB.dec (fun _ => ⟨true, rfl, by simp, rfl⟩) (fun hle => ?_)⟩
    rw [wi _ (by omega)] at hle
    refine ⟨q, hq, by omega, by omega, p.s, h3, l.length - (j + 1), by omega, j + 1, k + p.s.size, by rw [wi _ (by omega)]; omega, by rw [wi _ (by omega)]; omega, by omega, by omega, rfl, fun a ha => ?_, rfl⟩
    rw [List.take_add_one, hp] at ha
    rcases List.mem_append.1 ha with ha | ha
    · exact hall a ha
    · simp at ha; subst ha; omega
  · have hf := of_decide_eq_false hf
    rw [List.take_of_length_le (by omega)] at hall
    exact ⟨by omega, hall⟩
theorem addA_cases (ps : List ByteArray) (no : Int) (x : ByteArray) : ((addA ps no x).1 = true ∧ (addA ps no x).2.1 = 0 ∧ no = ps.length ∧ (addA ps no x).2.2 = ps ++ [x]) ∨ ((addA ps no x).1 = false ∧ (addA ps no x).2.2 = ps) := by
  unfold addA
  split
  · exact .inr ⟨rfl, rfl⟩
  · split
    · exact .inr ⟨rfl, rfl⟩
    · split
      · split <;> exact .inr ⟨rfl, rfl⟩
      · split
        · exact .inr ⟨rfl, rfl⟩
        · split
          · exact .inr ⟨rfl, rfl⟩
          · exact .inl ⟨rfl, rfl, by omega, rfl⟩
theorem stays_law (W : World) (s : Sl) (l : List Stp) (ha : ArgS W s l) : Calls prog 5 #[.slice s.a s.l s.c] W fun e w' => e = .returned (.bool true) ∧ Frm none_ W w' := by
  refine callsRet (W5 (x0 := s) (Q := fun v w' => v = .bool true ∧ Frm none_ W w') ?_) (fun v w' ⟨h, h'⟩ => ⟨by rw [h], h'⟩)
  have hsl : s.l ≤ 1000000000000000 := by have := ha.2.2.2.2; have := ha.2.2.1; omega
  have hl := ha.1.len
  unfold F5
  refine ⟨fun c w' => Frm none_ W w', ?_, ?_⟩
  · refine (works_calls W).mono ?_
    rintro _ w1 ⟨rfl, f1⟩
    refine ⟨_, rfl, IfB.f rfl ((large_calls w1 s l (ha.1.mod f1 (fun _ _ h => h)) hsl).mono ?_)⟩
    rintro _ w2 ⟨c, rfl, _, rfl⟩
    exact ⟨c, rfl, f1⟩
  rintro u c w1 f1
  refine IfB.intro (fun _ => ?_) (fun _ => ?_)
  · refine (works_calls w1).mono ?_
    rintro _ w2 ⟨rfl, f2⟩
    exact ⟨_, rfl, rfl, f1.n f2⟩
  refine (new_calls w1).mono ?_
  rintro _ w2 ⟨b, rfl, hb, hL2, f2⟩
  refine ⟨_, rfl, fun n i w' => ∃ (j : Nat) (t : Sl) (ps : List ByteArray), i = (j : Int) ∧ j ≤ l.length ∧ n = l.length - j ∧ OkL ps ∧ LgS w' b t ps ∧ New w1 t ∧ Frm none_ w1 w', l.length, ⟨0, _, [], rfl, by omega, rfl, ok_nil, hL2, fun k hk => by simp [Sl.blk] at hk, f2⟩, ?_⟩
  rintro n u i w3 ⟨j, t, ps, rfl, hj, rfl, ok, hL3, hn3, f3⟩
  have hps := ok.n
  refine IfB.dec (fun hlt => ?_) (fun hge => ⟨rfl, f1.n f3⟩)
  refine (from_calls 0 w3 _ _ hL3.q (by omega) 0).mono ?_
  rw [show (0 : Int).toNat = 0 from rfl, List.drop_zero]
  rintro _ w4 ⟨r4, rfl, hr4, hn4, f4⟩
  have hr4l := has_sv hr4.has
  have hL4 := hL3.n f4
  have F4 := f3.n f4
  have hat : ∀ V : World, Frm none_ w1 V → ∃ q p, s.a = some q ∧ l[j]? = some p ∧ Ld V ((q.add ((j : Int).toNat * 4)).add 1) (.int .i64 p.n) ∧ Ld V ((q.add ((j : Int).toNat * 4)).add 3) (.string p.s) := fun V hV => by
    obtain ⟨q, p, hq, hp, _, hld, _⟩ := (ha.1.mod (f1.n hV) (fun _ _ h => h)).at (by decide) (i := (j : Int)) (by omega) (by omega)
    rw [Int.toNat_natCast] at hp
    exact ⟨q, p, hq, hp, hld 1 _ rfl, hld 3 _ rfl⟩
  obtain ⟨q, p, hq, hp, _, _⟩ := hat w4 F4
  have hat : ∀ V : World, Frm none_ w1 V → Ld V ((q.add ((j : Int).toNat * 4)).add 1) (.int .i64 p.n) ∧ Ld V ((q.add ((j : Int).toNat * 4)).add 3) (.string p.s) := fun V hV => by
    obtain ⟨q', p', hq', hp', h1, h2⟩ := hat V hV
    rw [hq] at hq'; cases hq'
    rw [hp] at hp'; cases hp'
    exact ⟨h1, h2⟩
  refine ⟨r4, rfl, fun w' => Frm none_ w1 w', F4.drew, q, hq, by omega, by omega, p.n, fun V hV => (hat V hV).1, q, hq, by omega, by omega, p.s, fun V hV => (hat V hV).2, (add_calls w4.drew b t ps p.n p.s (hL4.n (frm_drew _)) ok).mono ?_⟩
  rintro _ w5 ⟨rfl, t5, hL5, hn5, f5⟩
  have F5 := frm_lg F4.drew f5 (by omega) hn3
  have hn5' := hn5.new hn3 F4.drew.size
  have ok5 := addA_ok ok p.n p.s
  have h5 := ok5.n
  refine ⟨_, _, rfl, (from_calls 0 w5 _ _ hL5.q (by omega) 0).mono ?_⟩
  rw [show (0 : Int).toNat = 0 from rfl, List.drop_zero]
  rintro _ w6 ⟨r6, rfl, hr6, hn6, f6⟩
  have hr6l := has_sv hr6.has
  have F6 := F5.n f6
  have hr45 : Row w5 r4 9 1 (sv ps) := hr4.drew.mod f5 (fun k hk => by
    have hk4 := hn4 k hk
    rintro (h | h)
    · have := hL3.blk.lt; omega
    · have := hL3.row.lt k h; omega)
  have hpre : ps <+: (addA ps p.n p.s).2.2 := by
    rcases addA_cases ps p.n p.s with ⟨_, _, _, h⟩ | ⟨_, h⟩
    · rw [h]; exact List.prefix_append _ _
    · rw [h]; exact List.prefix_refl _
  have hL6 := hL5.n f6
  refine ⟨r6, rfl, fun w' => Frm none_ w6 w', frm_drew _, (begins_calls w6.drew r4 r6 _ _ ((hr45.mod f6 (fun _ _ h => h)).drew.has) hr6.drew.has (by omega)).mono ?_⟩
  rintro _ w7 ⟨rfl, f7⟩
  have f7 := f7.ofDrew
  have F7 := F6.n f7
  have ewj : IntKind.wrap .i64 ((j : Int) + 1) = ((j + 1 : Nat) : Int) := by rw [wi _ (by omega)]; omega
  have go : ∃ n', n' < l.length - j ∧ ∃ (j_1 : Nat) (t : Sl) (ps : List ByteArray), IntKind.wrap .i64 ((j : Int) + 1) = (j_1 : Int) ∧ j_1 ≤ l.length ∧ n' = l.length - j_1 ∧ OkL ps ∧ LgS w7 b t ps ∧ New w1 t ∧ Frm none_ w1 w7 :=
    ⟨l.length - (j + 1), by omega, j + 1, t5, _, ewj, by omega, rfl, ok5, hL6.n f7, hn5', F7⟩
  refine ⟨_, rfl, fun w' => Frm none_ w6 w', fun _ h => h, f7, IfB.f (by rw [decide_eq_true hpre]; rfl) ?_⟩
  rcases addA_cases ps p.n p.s with ⟨e1, e2, e3, e4⟩ | ⟨e1, e4⟩
  · rw [e1, e2]
    rw [e4] at hr6l hr6
    have hx6 : (ps ++ [p.s])[ps.length]? = some p.s := by simp
    rw [List.length_append, List.length_singleton] at hr6l
    have hS : ∀ V, Frm none_ w6 V → Frm none_ w1 V := fun V hV => F6.n hV
    obtain ⟨q6, x6, hq6, hx6', _⟩ := sv_at hr6.has (i := ps.length) (by omega)
    rw [hx6] at hx6'
    cases hx6'
    refine IfB.t rfl (IfB.f rfl (IfB.f (by rw [hr6l, hr4l, wi _ (by omega)]; simp) ⟨q, hq, by omega, by omega, p.n, fun V hV => (hat V (hS V hV)).1, IfB.f (by rw [e3, hr4l]; simp) ⟨q6, hq6, by omega, by omega, p.s, fun V hV => ?_, q, hq, by omega, by omega, p.s, fun V hV => (hat V (hS V hV)).2, IfB.f (by rw [(str_eqIff _ _).2 rfl]; rfl) (IfB.f rfl go)⟩⟩))
    obtain ⟨q6', x6', hq6', hx6', hld6⟩ := sv_at (hr6.mod hV (fun _ _ h => h)).has (i := ps.length) (by omega)
    rw [hx6] at hx6'
    cases hx6'
    rw [hq6] at hq6'
    cases hq6'
    rw [hr4l]
    exact hld6
  · rw [e1]
    rw [e4] at hr6l
    exact IfB.f rfl (IfB.t rfl (IfB.f (by rw [hr6l, hr4l]; simp) go))
end Go.Proofs.Ytmcdeldjgfapbaa
