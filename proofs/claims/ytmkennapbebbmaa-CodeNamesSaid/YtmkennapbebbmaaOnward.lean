/- The law CodeOnward walked: it returns true, and turns nothing that was there. -/
import Derived.Test.YtmkennapbebbmaaBehind
set_option linter.unusedVariables false
set_option linter.unusedSimpArgs false
namespace Go.Proofs.YtmkennapbebbmaaV
open Go
/-- The end of a slice, from a place on. -/
theorem Has.cut {w : World} {s : Sl} {sz : Nat} {cs : List Value} (h : Has w s sz cs) (i : Nat) (hi : i ≤ s.l) (hlc : s.l ≤ s.c) : Has w ⟨slA s.a i s.c sz, s.l - i, s.c - i⟩ sz (cs.drop (i * sz)) := by
  have hl := h.len
  constructor
  · rw [List.length_drop, hl]
    show s.l * sz - i * sz = (s.l - i) * sz
    rw [Nat.sub_mul]
  · intro j u hu
    rw [List.getElem?_drop] at hu
    obtain ⟨a, ha, hc⟩ := h.get _ _ hu
    have hj := (List.getElem?_eq_some_iff.1 hu).1
    show ∃ a', slA s.a i s.c sz = some a' ∧ _
    unfold slA
    by_cases hic : s.c = i
    · exfalso
      have : s.l = i := by omega
      rw [hl, this] at hj
      omega
    · rw [if_neg hic, ha]
      exact ⟨_, rfl, by rw [add_add]; exact hc⟩
/-- The head of a slice, up to a place. -/
theorem Has.head {w : World} {s : Sl} {sz : Nat} {cs : List Value} (h : Has w s sz cs) (n c : Nat) (hn : n ≤ s.l) : Has w ⟨s.a, n, c⟩ sz (cs.take (n * sz)) := by
  have hl := h.len
  constructor
  · rw [List.length_take, hl]
    exact Nat.min_eq_left (Nat.mul_le_mul_right _ hn)
  · intro j u hu
    rw [List.getElem?_take] at hu
    split at hu
    · exact h.get j u hu
    · cases hu
theorem bv_drop (l : List UInt8) (n : Nat) : (bv l).drop (n * 1) = bv (l.drop n) := by rw [Nat.mul_one]; unfold bv; rw [List.map_drop]
theorem bv_take (l : List UInt8) (n : Nat) : (bv l).take (n * 1) = bv (l.take n) := by rw [Nat.mul_one]; unfold bv; rw [List.map_take]
end Go.Proofs.YtmkennapbebbmaaV
namespace Go.Proofs.Ytmkennapbebbmaa
open Go Go.Proofs.YtmkennapbebbmaaV
theorem b28 (k n : Int) (s : ByteArray) : BuildIs prog 28 #[(0, .int .u8 k), (1, .int .i64 n), (2, .string s)] #[.int .u8 k, .int .i64 n, .string s] := fun w => by kernel_rfl
theorem onward_calls (w : World) (b : Sl) (lb : List UInt8) (s : Sl) (l : List Th) (hb : Has w b 1 (bv lb)) (hbc : b.l ≤ b.c) (hl : HasL w s 3 tc l) (hok : ∀ t ∈ l, OkT t) (hs : s.l ≤ 140737488351232) :
    Calls prog 8 #[.slice b.a b.l b.c, .slice s.a s.l s.c] w fun e w' => e = .returned (.bool true) ∧ Frm none_ w w' := by
  refine calls_ret (W8 (Q := fun v w' => v = .bool true ∧ Frm none_ w w') ?_) (fun v w' ⟨h, h'⟩ => ⟨by rw [h], h'⟩)
  unfold F8
  have hbl : lb.length = b.l := by have := hb.len; rw [bv_length] at this; omega
  refine ⟨fun v w' => Frm none_ w w' ∧ (v = false → b.l ≤ 20000 ∧ wt l < 20000), ?_, ?_⟩
  · refine (works_calls w).mono ?_
    rintro _ w1 ⟨rfl, hm⟩
    refine ⟨true, rfl, IfB.f rfl (IfB.intro (fun h => ⟨hm, by simp⟩) (fun h => ?_))⟩
    have h := of_decide_eq_false h
    refine (long_calls w1 s l (hl.mod hm (fun _ _ h => h)) hok hs).mono ?_
    rintro _ _ ⟨v, rfl, rfl, hv⟩
    exact ⟨v, rfl, hm, fun e => ⟨by omega, hv e⟩⟩
  rintro u x20 w1 ⟨hm1, hv⟩
  refine IfB.intro (fun h => ?_) (fun h => ?_)
  · refine (works_calls w1).mono ?_
    rintro _ w2 ⟨rfl, hm⟩
    exact ⟨true, rfl, rfl, trN hm1 hm⟩
  obtain ⟨hb2, hwt⟩ := hv h
  have hlen : s.l ≤ 1000 := by have := wt_len l; have := hl.len; omega
  refine (newReader_calls w1 b lb (hb.mod hm1 (fun _ _ h => h)) (by omega)).mono ?_
  rintro _ w2 ⟨k1, rfl, hk1, hR1, hm2⟩
  have hk1w : w.heap.size ≤ k1 := Nat.le_trans hm1.size hk1
  refine ⟨_, rfl, fun n x6 x7 w' => ∃ (i a : Nat) (r : Rd), x7 = (i : Int) ∧ x6 = (a : Int) ∧ i ≤ s.l ∧ n = s.l - i ∧ a ≤ b.l ∧ RdQ w' (some ⟨k1, 0, none⟩) r ∧ (∀ m, r = some m → m = lb.drop a) ∧ Frm none_ w w', s.l,
    ⟨0, 0, some lb, rfl, rfl, by omega, by omega, by omega, .inr ⟨k1, rfl, hR1⟩, fun m h => by cases h; rfl, trN hm1 hm2⟩, ?_⟩
  rintro n u1 x6 x7 w7 ⟨i, a, r, rfl, rfl, hi, rfl, ha, h1, hra, f7⟩
  refine IfB.intro (fun h => ?_) (fun h => ?_)
  · have hlt := of_decide_eq_true h
    have hl7 := hl.mod f7 (fun _ _ h => h)
    obtain ⟨p, t, hp, ht, htm, _, hla⟩ := hl7.at (by omega) (i := (i : Int)) (by omega) hlt
    refine ⟨p, hp, by omega, hlt, _, hla, (ask_calls w7 t _ _ h1).mono ?_⟩
    rintro _ w8 ⟨rfl, h8, hm8⟩
    have f8 := frmOf f7 hk1w hm8
    refine ⟨_, rfl, ?_⟩
    intro b10 w9 hnb
    have hm9 := hnb.mod none_
    have hb10 : w8.heap.size ≤ b10 := by obtain ⟨h, _⟩ := hnb; omega
    obtain ⟨hwr, hset⟩ := two_cells hnb.blk rfl (.int .i64 (askR t r).1.1) (.string (str (askR t r).1.2))
    refine ⟨rfl, toldOne _, hwr, ?_⟩
    intro w10 hw10
    obtain ⟨hla10, hm10⟩ := hset w10 hw10
    have hm9' : Frm none_ w8 w10 := hm9.trans hm10 (fun _ _ h => h) (fun x hx he => by omega)
    have f10 := trN f8 hm9'
    have h10 := h8.mod hm9' (fun _ _ h => h)
    have hB10 : Blk w10 b10 (toldV (askR t r).1) 36 := by
      subst hw10
      exact two_blk hnb.blk rfl _
    refine (ok_calls w10 _ _ h10).mono ?_
    rintro _ w11 ⟨rfl, hm11⟩
    have f11 := trN f10 hm11
    have h11 := h10.mod hm11 (fun _ _ h => h)
    have hB11 := hB10.mod hm11 (fun h => h)
    have hx : askR t r = ((askR t r).1, (askR t r).2) := rfl
    refine ⟨_, rfl, ?_⟩
    cases hr' : (askR t r).2 with
    | none =>
      refine IfB.t rfl ?_
      rw [hr'] at hx h11
      have hx0 := ask_fail hx
      refine ⟨fun v w' => v = false ∧ RdQ w' (some ⟨k1, 0, none⟩) none ∧ Frm none_ w w', ?_, ?_⟩
      · refine ⟨toldV (askR t r).1, hB11.ldA rfl, toldV (0, []), b36, _, toldV_neq _ _ _ _, IfB.f (by rw [hx0]; simp) ?_⟩
        refine (left_calls w11 _ _ h11).mono ?_
        rintro _ w12 ⟨rfl, hm12⟩
        refine ⟨_, rfl, IfB.f rfl ?_⟩
        have h12 := h11.mod hm12 (fun _ _ h => h)
        refine (done_calls w12 _ _ h12).mono ?_
        rintro _ w13 ⟨rfl, hm13⟩
        exact ⟨_, rfl, rfl, h12.mod hm13 (fun _ _ h => h), trN (trN f11 hm12) hm13⟩
      · rintro u2 _ w12 ⟨rfl, h12, f12⟩
        refine IfB.f rfl ⟨s.l - (i + 1), by omega, i + 1, b.l, none, by rw [wi _ (by omega)]; omega, rfl, by omega, rfl, by omega, h12, by simp, f12⟩
    | some m' =>
      refine IfB.f rfl ?_
      rw [hr'] at hx h11
      cases r with
      | none => rw [ask_none] at hr'; cases hr'
      | some m =>
      have hm : m = lb.drop a := hra m rfl
      have hml : m.length = b.l - a := by rw [hm, List.length_drop, hbl]
      obtain ⟨q1, q2, q3, q4, q5, q6, q7⟩ := ask_took (hok t htm).k0 hx
      generalize hxd : (askR t (some m)).1 = x at *
      generalize htd : (⟨t.k, x.1, str x.2⟩ : Th) = t' at *
      have ht'k : t'.k = t.k := by rw [← htd]
      have hokt : OkT t' := by
        rw [← htd]
        exact ⟨q5, q6, by rw [str_size]; omega, (hok t htm).k0⟩
      have htl : m.length = (tb t').length + m'.length := by
        have := congrArg List.length q1; rwa [List.length_append] at this
      have hpos : 0 < (tb t').length := List.length_pos_iff.2 q2
      have hel : ∀ {w'}, Frm none_ w11 w' → ∃ a0, s.a = some a0 ∧ (∀ k v, (tc t)[k]? = some v → Ld w' ((a0.add ((i : Int).toNat * 3)).add k) v) := by
        intro w' hw'
        obtain ⟨p', t'', hp', ht'', _, hld, _⟩ := (hl.mod (trN f11 hw') (fun _ _ h => h)).at (by omega) (i := (i : Int)) (by omega) hlt
        rw [ht] at ht''; cases ht''
        exact ⟨p', hp', hld⟩
      have hel' : ∀ {w'}, Frm none_ w11 w' → ∀ k v, (tc t)[k]? = some v → Ld w' ((p.add ((i : Int).toNat * 3)).add k) v := by
        intro w' hw' k v hv
        obtain ⟨p', hp', hld⟩ := hel hw'
        rw [hp] at hp'; cases hp'
        exact hld k v hv
      have hb0 : ∀ {w'}, Frm none_ w11 w' → Ld w' ((⟨b10, 0, none⟩ : Addr).add 0) (.int .i64 x.1) := fun hw' => by rw [addr_add]; exact (hB11.mod hw' (fun h => h)).ld rfl
      have hb1 : ∀ {w'}, Frm none_ w11 w' → Ld w' ((⟨b10, 0, none⟩ : Addr).add 1) (.string (str x.2)) := fun hw' => by rw [addr_add]; exact (hB11.mod hw' (fun h => h)).ld rfl
      refine ⟨fun w' => Frm none_ w11 w', frm_drew w11, p, hp, by omega, hlt, t.k, fun w' hw' => hel' hw' 0 _ rfl, x.1, fun w' hw' => hb0 hw', str x.2, fun w' hw' => hb1 hw', _, b28 _ _ _, ?_⟩
      have etc' : (#[.int .u8 t.k, .int .i64 x.1, .string (str x.2)] : Array Value) = (tc t').toArray := by rw [← htd]; rfl
      rw [etc']
      refine (thing_lay w11.drew t' hokt ⟨none, 0, 0⟩ [] (nilHas _) (by simp)).mono ?_
      rintro _ w12 ⟨q, rfl, hq, _, hm12⟩
      have hm12 : Frm none_ w11 w12 := hm12.ofDrew
      rw [List.nil_append] at hq
      refine ⟨q, rfl, runT_str un22 un5 un9 hq.has ?_⟩
      refine ⟨fun v w' => v = false ∧ Frm none_ w11 w', ?_, ?_⟩
      · refine ⟨fun w' => Frm none_ w11 w', hm12.drew, IfB.f (decide_eq_false (by omega)) ⟨by omega, ?_⟩⟩
        have hcut := (hb.mod (trN f11 hm12.drew) (fun _ _ h => h)).cut a (by omega) hbc
        rw [bv_drop, ← hm] at hcut
        rw [Int.toNat_natCast]
        refine runT_str un22 un5 un9 hcut ?_
        refine ⟨fun w' => Frm none_ w11 w', fun _ h => h, hm12.drew, ?_⟩
        refine (begins_calls _ _ _).mono ?_
        rintro _ _ ⟨rfl, rfl⟩
        rw [str_data, str_data]
        refine ⟨_, rfl, fun w' => Frm none_ w11 w', fun _ h => h, hm12.drew, IfB.f ?_ (IfB.f ?_ ?_)⟩
        · rw [decide_eq_true (show tb t' <+: m by rw [q1]; exact List.prefix_append _ _)]; rfl
        · rw [str_toList, show (⟨#[]⟩ : ByteArray).toList = [] from str_toList [], beq_eq_false_iff_ne]; exact q2
        have t2 : ∃ p103, s.a = some p103 ∧ 0 ≤ (i : Int) ∧ (i : Int) < ((s.l : Nat) : Int) ∧ ∃ t105 : Int, (∀ w', Frm none_ w11 w' → Ld w' ((p103.add ((i : Int).toNat * 3)).add 0) (.int .u8 t105)) ∧
            IfB (t105 == (2 : Int)) (∃ t109 : ByteArray, (∀ w', Frm none_ w11 w' → Ld w' ((⟨b10, 0, none⟩ : Addr).add 1) (.string t109)) ∧
              ∃ p113, s.a = some p113 ∧ 0 ≤ (i : Int) ∧ (i : Int) < ((s.l : Nat) : Int) ∧ ∃ t115 : Int, (∀ w', Frm none_ w11 w' → Ld w' ((p113.add ((i : Int).toNat * 3)).add 1) (.int .i64 t115)) ∧
              (decide (((t109.size : Nat) : Int) > t115) = false ∧ Frm none_ w11 w12.drew)) (false = false ∧ Frm none_ w11 w12.drew) := by
          refine ⟨p, hp, by omega, hlt, t.k, fun w' hw' => hel' hw' 0 _ rfl, IfB.intro (fun h => ?_) (fun h => ⟨rfl, hm12.drew⟩)⟩
          refine ⟨str x.2, fun w' hw' => hb1 hw', p, hp, by omega, hlt, t.n, fun w' hw' => hel' hw' 1 _ rfl, decide_eq_false ?_, hm12.drew⟩
          rw [str_size]
          have := q4 (eq_of_beq h)
          omega
        refine ⟨p, hp, by omega, hlt, t.k, fun w' hw' => hel' hw' 0 _ rfl, IfB.intro (fun h => ?_) (fun h => t2)⟩
        refine ⟨x.1, fun w' hw' => hb0 hw', p, hp, by omega, hlt, t.n, fun w' hw' => hel' hw' 1 _ rfl, IfB.f (decide_eq_false ?_) t2⟩
        have := q3 (eq_of_beq h)
        omega
      · rintro u2 _ w13 ⟨rfl, hm13⟩
        refine IfB.f rfl ?_
        have h13 := h11.mod hm13 (fun _ _ h => h)
        rw [str_size]
        refine (left_calls w13 _ _ h13).mono ?_
        rintro _ w14 ⟨rfl, hm14⟩
        have e1 : IntKind.wrap .i64 ((a : Int) + ((tb t').length : Nat)) = ((a + (tb t').length : Nat) : Int) := by rw [wi _ (by omega)]; omega
        rw [e1]
        refine ⟨_, rfl, IfB.f ?_ ?_⟩
        · rw [wi _ (by omega), bne_eq_false_iff_eq]; simp only [leftR]; omega
        refine (done_calls w14 _ _ (h13.mod hm14 (fun _ _ h => h))).mono ?_
        rintro _ w15 ⟨rfl, hm15⟩
        refine ⟨_, rfl, _, bool_neq _ _ _ _, IfB.f ?_ ?_⟩
        · simp only [doneR]
          by_cases hm0 : m' = []
          · subst hm0
            have e2 : (((a + (tb t').length : Nat) : Int) == ((b.l : Nat) : Int)) = true := by rw [beq_iff_eq]; simp at htl; omega
            rw [e2]; rfl
          · have : m'.length ≠ 0 := fun h => hm0 (List.eq_nil_of_length_eq_zero h)
            have e2 : (((a + (tb t').length : Nat) : Int) == ((b.l : Nat) : Int)) = false := beq_eq_false_iff_ne.2 (by omega)
            have e3 : (some m' == some ([] : List UInt8)) = false := by rw [beq_eq_false_iff_ne]; intro h; cases h; exact hm0 rfl
            rw [e2, e3]; rfl
        · refine ⟨s.l - (i + 1), by omega, i + 1, a + (tb t').length, some m', by rw [wi _ (by omega)]; omega, rfl, by omega, rfl, by omega, (h13.mod hm14 (fun _ _ h => h)).mod hm15 (fun _ _ h => h), ?_, trN (trN (trN f11 hm13) hm14) hm15⟩
          intro m2 hm2
          cases hm2
          rw [← List.drop_drop, ← hm, q1, List.drop_left]
  · refine (ok_calls w7 _ _ h1).mono ?_
    rintro _ w8 ⟨rfl, hm8⟩
    refine ⟨_, rfl, ?_⟩
    cases r with
    | some m => exact IfB.t rfl ⟨rfl, trN f7 hm8⟩
    | none =>
      refine IfB.f rfl ?_
      refine (left_calls w8 _ _ (h1.mod hm8 (fun _ _ h => h))).mono ?_
      rintro _ w9 ⟨rfl, hm9⟩
      exact ⟨_, rfl, rfl, trN (trN f7 hm8) hm9⟩
theorem onward_law (W : World) (b : Sl) (lb : List UInt8) (hb : HasL W b 1 (fun b : UInt8 => [Value.int .u8 (b.toNat : Int)]) lb ∧ (∀ a ∈ lb, True) ∧ b.l ≤ b.c ∧ b.c ≤ maxLen ∧ b.c * 1 ≤ 140737488351232)
    (s : Sl) (l : List Th) (hl : HasL W s 3 tc l ∧ (∀ a ∈ l, OkT a) ∧ s.l ≤ s.c ∧ s.c ≤ maxLen ∧ s.c * 32 ≤ 140737488351232) :
    Calls prog 8 #[.slice b.a b.l b.c, .slice s.a s.l s.c] W fun e w' => e = .returned (.bool true) ∧ Frm none_ W w' :=
  onward_calls W b lb s l hb.1.bytes hb.2.2.1 hl.1 hl.2.1 (by omega)
end Go.Proofs.Ytmkennapbebbmaa
