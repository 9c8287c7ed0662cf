/- The law CodeTurns walked: it returns true, and turns nothing that was there. -/
import Derived.Test.YtmkennapbebbmaaS
set_option linter.unusedVariables false
set_option linter.unusedSimpArgs false
namespace Go.Proofs.Ytmkennapbebbmaa
open Go Go.Proofs.YtmkennapbebbmaaV
/-- Two readers of each kind, and where they lie. -/
structure Four (w : World) (n1 n2 n3 n4 : Nat) (G3 G4 : Nat → Prop) (w' : World) (r q : Rd) : Prop where
  fp : RdQ w' (some ⟨n1, 0, none⟩) r
  fq : RdQ w' (some ⟨n2, 0, none⟩) q
  fx : RdR G3 w' (some ⟨n3, 0, none⟩) r
  fy : RdR G4 w' (some ⟨n4, 0, none⟩) q
  g3 : ∀ j, G3 j → j < w'.heap.size
  g4 : ∀ j, G4 j → j < w'.heap.size
  fr : Frm none_ w w'
structure Lie (w : World) (n1 n2 n3 n4 : Nat) (G3 G4 : Nat → Prop) : Prop where
  h1 : w.heap.size ≤ n1
  h12 : n1 < n2
  h23 : n2 < n3
  h34 : n3 < n4
  g3 : ∀ j, G3 j → n2 < j ∧ j < n3
  g4 : ∀ j, G4 j → n3 < j ∧ j < n4
theorem Four.mod0 {w : World} {n1 n2 n3 n4 : Nat} {G3 G4 : Nat → Prop} {w1 w2 : World} {r q : Rd} (h : Four w n1 n2 n3 n4 G3 G4 w1 r q) (hm : Frm none_ w1 w2) : Four w n1 n2 n3 n4 G3 G4 w2 r q :=
  ⟨h.fp.mod hm (fun _ _ h => h), h.fq.mod hm (fun _ _ h => h), h.fx.mod0 hm, h.fy.mod0 hm, fun j hj => Nat.lt_of_lt_of_le (h.g3 j hj) hm.size, fun j hj => Nat.lt_of_lt_of_le (h.g4 j hj) hm.size, trN h.fr hm⟩

theorem turns_calls (w : World) (b : Sl) (lb : List UInt8) (s1 s2 : Sl) (l1 l2 : List Th) (hb : Has w b 1 (bv lb)) (hl1 : HasL w s1 3 tc l1) (hok1 : ∀ t ∈ l1, OkT t) (hs1 : s1.l ≤ 140737488351232)
    (hl2 : HasL w s2 3 tc l2) (hok2 : ∀ t ∈ l2, OkT t) (hs2 : s2.l ≤ 140737488351232) :
    Calls prog 4 #[.slice b.a b.l b.c, .slice s1.a s1.l s1.c, .slice s2.a s2.l s2.c] w fun e w' => e = .returned (.bool true) ∧ Frm none_ w w' := by
  refine calls_ret (W4 (Q := fun v w' => v = .bool true ∧ Frm none_ w w') ?_) (fun v w' ⟨h, h'⟩ => ⟨by rw [h], h'⟩)
  unfold F4
  have hbl := rlenR hb
  refine ⟨fun v w' => w = w' ∧ (v = false → b.l ≤ 5000 ∧ wt l1 < 20000 ∧ wt l2 < 20000), ?_, ?_⟩
  · refine IfB.intro (fun h => ⟨rfl, by simp⟩) (fun h => ?_)
    have h := of_decide_eq_false h
    refine (long_calls w s1 l1 hl1 hok1 hs1).mono ?_
    rintro _ _ ⟨v1, rfl, rfl, hv1⟩
    refine ⟨v1, rfl, IfB.intro (fun h => ⟨rfl, by simp⟩) (fun h' => ?_)⟩
    refine (long_calls w s2 l2 hl2 hok2 hs2).mono ?_
    rintro _ _ ⟨v2, rfl, rfl, hv2⟩
    exact ⟨v2, rfl, rfl, fun e => ⟨by omega, hv1 h', hv2 e⟩⟩
  rintro u x23 _ ⟨rfl, hv⟩
  refine IfB.intro (fun h => ⟨rfl, Frm.refl _ _⟩) (fun h => ?_)
  obtain ⟨hb5, hw1, hw2⟩ := hv h
  have hlen1 : s1.l ≤ 1000 := by have := wt_len l1; have := hl1.len; omega
  have hlen2 : s2.l ≤ 1000 := by have := wt_len l2; have := hl2.len; omega
  refine runT_lit0 st22 ?_
  intro w1 hr1 hm1 hs1'
  refine runT_append st22 hr1 (hb.mod hm1 (fun _ _ h => h)) (bv_one lb) (by simp; omega) (by simp [maxLen]; omega) ?_
  intro t26 w2 hr2 hl2' hn2 hm2
  rw [List.nil_append] at hr2
  have hl2' : t26.l = 0 + b.l := hl2'
  have f2 : Frm none_ w w2 := hm1.trans hm2 (fun _ _ h => h) (fun x hx hf => by simp [Sl.blk] at hf; omega)
  have hN : ∀ k, t26.blk = some k → w.heap.size ≤ k := by
    intro k hk
    rcases hn2.cases hk with h | h
    · simp [Sl.blk] at h; omega
    · omega
  have hb2 : ∀ k, t26.blk = some k → k < w2.heap.size := hr2.lt
  refine (newReader_calls w2 t26 lb hr2.has (by omega)).mono ?_
  rintro _ w3 ⟨n1, rfl, hk1, hR1, hm3⟩
  refine ⟨_, rfl, (newReader_calls w3 t26 lb (hr2.mod hm3 (fun _ _ h => h)).has (by omega)).mono ?_⟩
  rintro _ w4 ⟨n2, rfl, hk2, hR2, hm4⟩
  have f4 := trN (trN f2 hm3) hm4
  have hn1 : n1 < w3.heap.size := by obtain ⟨_, _, hB, _⟩ := hR1; exact hB.lt
  have hn2' : n2 < w4.heap.size := by obtain ⟨_, _, hB, _⟩ := hR2; exact hB.lt
  refine ⟨_, rfl, (newReaderR_calls w4 b lb (hb.mod f4 (fun _ _ h => h)) (by omega)).mono ?_⟩
  rintro _ w5 ⟨n3, G3, rfl, hk3, hG3, hR3, hm5⟩
  have f5 := trN f4 hm5
  have hn3 : n3 < w5.heap.size := hR3.lt n3 rfl
  refine ⟨_, rfl, (newReaderR_calls w5 b lb (hb.mod f5 (fun _ _ h => h)) (by omega)).mono ?_⟩
  rintro _ w6 ⟨n4, G4, rfl, hk4, hG4, hR4, hm6⟩
  have f6 := trN f5 hm6
  have hn4 : n4 < w6.heap.size := hR4.lt n4 rfl
  have z2 := f2.size
  have hL : Lie w n1 n2 n3 n4 G3 G4 := ⟨by omega, by omega, by omega, by omega, fun j hj => by have := hG3 j hj; omega, fun j hj => by have := hG4 j hj; omega⟩
  have hF6 : Four w n1 n2 n3 n4 G3 G4 w6 (some lb) (some lb) :=
    ⟨.inr ⟨n1, rfl, hR1.mod (trN (trN hm4 hm5) hm6) (fun h => h)⟩, .inr ⟨n2, rfl, hR2.mod (trN hm5 hm6) (fun h => h)⟩, hR3.mod0 hm6, hR4,
      fun j hj => by have := hG3 j hj; omega, fun j hj => by have := hG4 j hj; omega, f6⟩
  -- the bytes that are written over lie in a block that none of the readers has
  have hr6 : Row w6 t26 5 1 (bv lb) := hr2.mod (trN (trN (trN hm3 hm4) hm5) hm6) (fun _ _ h => h)
  have h26 : ∀ k, t26.blk = some k → k < n1 := fun k hk => by have := hb2 k hk; omega
  refine ⟨_, rfl, fun n x12 w' => ∃ (i : Nat) (r q : Rd) (cs : List Value), x12 = (i : Int) ∧ i ≤ 1000 ∧ n = 1000 - i ∧ Four w n1 n2 n3 n4 G3 G4 w' r q ∧ Row w' t26 5 1 cs ∧ (∀ v ∈ cs, ∃ n : Int, v = .int .u8 n), 1000,
    ⟨0, some lb, some lb, bv lb, rfl, by omega, by omega, hF6, hr6, fun v hv => by obtain ⟨c, _, rfl⟩ := List.mem_map.1 hv; exact ⟨_, rfl⟩⟩, ?_⟩
  rintro n u1 x12 w7 ⟨i, r, q, cs, rfl, hi, rfl, h7, hr7, hcs⟩
  refine ⟨fun w' => w' = w7 ∧ (i < s1.l ∨ i < s2.l), ?_, ?_⟩
  · refine IfB.intro (fun h => ⟨rfl, .inl (by have := of_decide_eq_true h; omega)⟩) (fun h => IfB.intro (fun h => ⟨rfl, .inr (by have := of_decide_eq_true h; omega)⟩) (fun h => ?_))
    refine (done_calls w7 _ _ h7.fp).mono ?_
    rintro _ w8 ⟨rfl, hm8⟩
    have h8 := h7.mod0 hm8
    refine ⟨_, rfl, (doneRR_calls G3 w8 _ _ h8.fx).mono ?_⟩
    rintro _ _ ⟨rfl, rfl⟩
    refine ⟨_, rfl, _, bool_eql _ _ _ _, IfB.t (by simp) ?_⟩
    refine (left_calls w8 _ _ h8.fq).mono ?_
    rintro _ w9 ⟨rfl, hm9⟩
    have h9 := h8.mod0 hm9
    refine ⟨_, rfl, (leftRR_calls G4 w9 _ _ h9.fy).mono ?_⟩
    rintro _ _ ⟨rfl, rfl⟩
    exact ⟨_, rfl, by simp, h9.fr⟩
  rintro u2 w7 ⟨rfl, hilt⟩
  have hi1 : i < 1000 := by omega
  refine ⟨fun w' => Four w n1 n2 n3 n4 G3 G4 w' r q ∧ ∃ cs', Row w' t26 5 1 cs' ∧ (∀ v ∈ cs', ∃ n : Int, v = .int .u8 n), ?_, ?_⟩
  · refine IfB.intro (fun h => ?_) (fun h => ⟨h7, cs, hr7, hcs⟩)
    have hlt := of_decide_eq_true h
    obtain ⟨p, v, hp, hv, hld⟩ := hr7.has.at1 (i := (i : Int)) (by omega) hlt
    obtain ⟨c, rfl⟩ := hcs v (List.mem_of_getElem? hv)
    have hcl := hr7.len
    obtain ⟨g, hg, hwr, hset⟩ := hr7.wr (j := i) (by omega)
    rw [hp] at hg; cases hg
    have hgb : t26.blk = some g := by simp [Sl.blk, hp]
    have hg1 := h26 g hgb
    have hg0 := hN g hgb
    have ead : (⟨g, 0, none⟩ : Addr).add ((i : Int).toNat * 1) = ⟨g, i, none⟩ := by rw [addr_add]; simp
    refine ⟨_, hp, by omega, hlt, c, hld, _, hp, by omega, hlt, by rw [ead]; exact hwr, ?_⟩
    rintro w8 rfl
    rw [ead]
    have hm8 : Frm (fun k => k = g) w7 (w7.setCell ⟨g, i, none⟩ (.int .u8 (IntKind.wrap .u8 (c + 77)))) := mod_setCell (a := ⟨g, i, none⟩)
    have k1 := hL.h12; have k2 := hL.h23; have k3 := hL.h34
    refine ⟨⟨h7.fp.mod hm8 (fun k hk hf => by simp at hk; omega), h7.fq.mod hm8 (fun k hk hf => by simp at hk; omega), h7.fx.mod hm8 (fun k hk hf => by simp at hk; omega) (fun k hk hf => by have := hL.g3 k hk; omega),
      h7.fy.mod hm8 (fun k hk hf => by simp at hk; omega) (fun k hk hf => by have := hL.g4 k hk; omega), fun j hj => Nat.lt_of_lt_of_le (h7.g3 j hj) hm8.size, fun j hj => Nat.lt_of_lt_of_le (h7.g4 j hj) hm8.size, h7.fr.trans hm8 (fun _ _ h => h) (fun x hx hf => by omega)⟩, _, hset _, ?_⟩
    intro v hv
    rcases List.mem_or_eq_of_mem_set hv with h | h
    · exact hcs v h
    · exact ⟨_, h⟩
  rintro u3 w8 ⟨h8, cs', hr8, hcs'⟩
  have k1 := hL.h12; have k2 := hL.h23; have k3 := hL.h34; have k0 := hL.h1
  -- asking the first pair
  have row26 : ∀ {F : Nat → Prop} {wa wb : World}, Frm F wa wb → (∀ k, F k → n1 ≤ k) → ∀ {cs : List Value}, Row wa t26 5 1 cs → Row wb t26 5 1 cs := fun hm hF _ h => h.mod hm (fun k hk hf => by have := h26 k hk; have := hF k hf; omega)
  have askP : ∀ (wa : World) (t : Th) (r q : Rd) (cs : List Value), Four w n1 n2 n3 n4 G3 G4 wa r q → Row wa t26 5 1 cs → Calls prog 16 #[.agg (tc t).toArray, .pointer (some ⟨n1, 0, none⟩)] wa fun e wb => e = .returned (.agg (toldV (askR t r).1)) ∧ Frm none_ w wb ∧
      Calls prog 17 #[.agg (tc t).toArray, .pointer (some ⟨n3, 0, none⟩)] wb fun e' wc => e' = .returned (.agg (toldV (askR t r).1)) ∧ Four w n1 n2 n3 n4 G3 G4 wc (askR t r).2 q ∧ Row wc t26 5 1 cs := by
    intro wa t r q cs ha hra
    refine (ask_calls wa t _ _ ha.fp).mono ?_
    rintro _ wb ⟨rfl, hp, hm⟩
    have hsz := hm.size
    have fb : Frm none_ w wb := frmOf ha.fr k0 hm
    refine ⟨rfl, fb, (askRR_calls G3 wb (fun k hk => Nat.lt_of_lt_of_le (ha.g3 k hk) hsz) t _ _ (ha.fx.mod hm (fun k hk hf => by simp at hk hf; omega) (fun k hk hf => by simp at hf; have := hL.g3 k hk; omega))).mono ?_⟩
    rintro _ wc ⟨rfl, hx, hm'⟩
    have hsz' := hm'.size
    refine ⟨rfl, ⟨hp.mod hm' (fun k hk hf => by simp at hk hf; omega), (ha.fq.mod hm (fun k hk hf => by simp at hk hf; omega)).mod hm' (fun k hk hf => by simp at hk hf; omega), hx,
      (ha.fy.mod hm (fun k hk hf => by simp at hk hf; omega) (fun k hk hf => by simp at hf; have := hL.g4 k hk; omega)).mod hm' (fun k hk hf => by simp at hk hf; omega) (fun k hk hf => by simp at hf; have := hL.g4 k hk; omega),
      fun j hj => by have := ha.g3 j hj; omega, fun j hj => by have := ha.g4 j hj; omega, frmOf fb (by omega) hm'⟩, row26 hm' (fun k hk => by simp at hk; omega) (row26 hm (fun k hk => by simp at hk; omega) hra)⟩
  have askQ : ∀ (wa : World) (t : Th) (r q : Rd) (cs : List Value), Four w n1 n2 n3 n4 G3 G4 wa r q → Row wa t26 5 1 cs → Calls prog 16 #[.agg (tc t).toArray, .pointer (some ⟨n2, 0, none⟩)] wa fun e wb => e = .returned (.agg (toldV (askR t q).1)) ∧ Frm none_ w wb ∧
      Calls prog 17 #[.agg (tc t).toArray, .pointer (some ⟨n4, 0, none⟩)] wb fun e' wc => e' = .returned (.agg (toldV (askR t q).1)) ∧ Four w n1 n2 n3 n4 G3 G4 wc r (askR t q).2 ∧ Row wc t26 5 1 cs := by
    intro wa t r q cs ha hra
    refine (ask_calls wa t _ _ ha.fq).mono ?_
    rintro _ wb ⟨rfl, hp, hm⟩
    have hsz := hm.size
    have fb : Frm none_ w wb := frmOf ha.fr (by omega) hm
    refine ⟨rfl, fb, (askRR_calls G4 wb (fun k hk => Nat.lt_of_lt_of_le (ha.g4 k hk) hsz) t _ _ (ha.fy.mod hm (fun k hk hf => by simp at hk hf; omega) (fun k hk hf => by simp at hf; have := hL.g4 k hk; omega))).mono ?_⟩
    rintro _ wc ⟨rfl, hx, hm'⟩
    have hsz' := hm'.size
    refine ⟨rfl, ⟨(ha.fp.mod hm (fun k hk hf => by simp at hk hf; omega)).mod hm' (fun k hk hf => by simp at hk hf; omega), hp.mod hm' (fun k hk hf => by simp at hk hf; omega),
      (ha.fx.mod hm (fun k hk hf => by simp at hk hf; omega) (fun k hk hf => by simp at hf; have := hL.g3 k hk; omega)).mod hm' (fun k hk hf => by simp at hk hf; omega) (fun k hk hf => by simp at hf; have := hL.g3 k hk; omega), hx,
      fun j hj => by have := ha.g3 j hj; omega, fun j hj => by have := ha.g4 j hj; omega, frmOf fb (by omega) hm'⟩, row26 hm' (fun k hk => by simp at hk; omega) (row26 hm (fun k hk => by simp at hk; omega) hra)⟩
  refine ⟨fun v w' => v = false ∧ ∃ r' q' cs', Four w n1 n2 n3 n4 G3 G4 w' r' q' ∧ Row w' t26 5 1 cs' ∧ (∀ v ∈ cs', ∃ n : Int, v = .int .u8 n), ?_, ?_⟩
  · have h8d : Four w n1 n2 n3 n4 G3 G4 w8.drew r q := h8.mod0 (frm_drew w8)
    have hr8d : Row w8.drew t26 5 1 cs' := hr8.drew
    have el1 : ∀ {w'}, Frm none_ w w' → (i : Int) < s1.l → ∃ p t, s1.a = some p ∧ l1[((i : Int)).toNat]? = some t ∧ LdA w' (p.add ((i : Int).toNat * 3)) 3 (tc t).toArray := by
      intro w' hw' hlt
      obtain ⟨p, t, hp, ht, _, _, hla⟩ := (hl1.mod hw' (fun _ _ h => h)).at (by omega) (i := (i : Int)) (by omega) hlt
      exact ⟨p, t, hp, ht, hla⟩
    have el2 : ∀ {w'}, Frm none_ w w' → (i : Int) < s2.l → ∃ p t, s2.a = some p ∧ l2[((i : Int)).toNat]? = some t ∧ LdA w' (p.add ((i : Int).toNat * 3)) 3 (tc t).toArray := by
      intro w' hw' hlt
      obtain ⟨p, t, hp, ht, _, _, hla⟩ := (hl2.mod hw' (fun _ _ h => h)).at (by omega) (i := (i : Int)) (by omega) hlt
      exact ⟨p, t, hp, ht, hla⟩
    -- the second pair, from whatever world
    have second : ∀ (wa : World) (r' q' : Rd) (S : World → Prop) (cs : List Value), (∀ v ∈ cs, ∃ n : Int, v = .int .u8 n) → Four w n1 n2 n3 n4 G3 G4 wa r' q' → Row wa t26 5 1 cs → (∀ w', S w' → Frm none_ w w') → (∀ w', Frm none_ w w' → S w') → ∀ (K : Bool → World → Prop),
        (∀ v w', (v = false ∧ ∃ r' q' cs', Four w n1 n2 n3 n4 G3 G4 w' r' q' ∧ Row w' t26 5 1 cs' ∧ (∀ v ∈ cs', ∃ n : Int, v = .int .u8 n)) → K v w') →
        IfB (decide ((i : Int) < ((s2.l : Nat) : Int)))
        (∃ p86, s2.a = some p86 ∧ 0 ≤ (i : Int) ∧ (i : Int) < ((s2.l : Nat) : Int) ∧
        ∃ t87 : Array Value, (∀ w', S w' → LdA w' (p86.add (((i : Int)).toNat * 3)) 3 t87) ∧
        ∃ p92, s2.a = some p92 ∧ 0 ≤ (i : Int) ∧ (i : Int) < ((s2.l : Nat) : Int) ∧
        ∃ t93 : Array Value, (∀ w', S w' → LdA w' (p92.add (((i : Int)).toNat * 3)) 3 t93) ∧
        Calls prog 16 #[.agg t87, .pointer (some ⟨n2, 0, none⟩)] wa fun en w1_12 =>
        ∃ t89 : Array Value, en = .returned (.agg t89) ∧
        S w1_12 ∧
        Calls prog 17 #[.agg t93, .pointer (some ⟨n4, 0, none⟩)] w1_12 fun en w1_13 =>
        ∃ t95 : Array Value, en = .returned (.agg t95) ∧
        ∃ b96 : Bool, BinIs prog .neq 36 (.tmp 89) (.tmp 95) (.agg t89) (.agg t95) b96 ∧
        K b96 w1_13)
        (K false wa) := by
      intro wa r' q' S cs hcs ha hra hS hS' K hK
      refine IfB.intro (fun h => ?_) (fun h => hK _ _ ⟨rfl, r', q', cs, ha, hra, hcs⟩)
      have hlt := of_decide_eq_true h
      obtain ⟨p, t, hp, ht, _⟩ := el2 ha.fr hlt
      have ld : ∀ w', S w' → LdA w' (p.add ((i : Int).toNat * 3)) 3 (tc t).toArray := by
        intro w' hw'
        obtain ⟨p', t', hp', ht', hla⟩ := el2 (hS w' hw') hlt
        rw [hp] at hp'; cases hp'
        rw [ht] at ht'; cases ht'
        exact hla
      refine ⟨p, hp, by omega, hlt, _, ld, p, hp, by omega, hlt, _, ld, (askQ wa t r' q' cs ha hra).mono ?_⟩
      rintro _ wb ⟨rfl, hfb, hc⟩
      refine ⟨_, rfl, hS' _ hfb, hc.mono ?_⟩
      rintro _ wc ⟨rfl, hf, hrow⟩
      exact ⟨_, rfl, _, toldV_neq _ _ _ _, hK _ _ ⟨by simp, _, _, cs, hf, hrow, hcs⟩⟩
    refine ⟨fun w' => Frm none_ w w', h8d.fr, IfB.intro (fun h => ?_) (fun h => second w8.drew r q (fun w' => Frm none_ w w') cs' hcs' h8d hr8d (fun _ h => h) (fun _ h => h) _ (fun _ _ h => h))⟩
    have hlt := of_decide_eq_true h
    obtain ⟨p, t, hp, ht, _⟩ := el1 h8d.fr hlt
    have ld : ∀ w', Frm none_ w w' → LdA w' (p.add ((i : Int).toNat * 3)) 3 (tc t).toArray := by
      intro w' hw'
      obtain ⟨p', t', hp', ht', hla⟩ := el1 hw' hlt
      rw [hp] at hp'; cases hp'
      rw [ht] at ht'; cases ht'
      exact hla
    refine ⟨p, hp, by omega, hlt, _, ld, p, hp, by omega, hlt, _, ld, (askP w8.drew t r q cs' h8d hr8d).mono ?_⟩
    rintro _ wb ⟨rfl, hfb, hc⟩
    refine ⟨_, rfl, fun w' => Frm none_ w w', fun _ h => h, hfb, hc.mono ?_⟩
    rintro _ wc ⟨rfl, hf, hrow⟩
    refine ⟨_, rfl, fun w' => Frm none_ w w', fun _ h => h, hf.fr, _, toldV_neq _ _ _ _, IfB.f (by simp) ?_⟩
    exact second wc _ _ (fun w' => Frm none_ w w') cs' hcs' hf hrow (fun _ h => h) (fun _ h => h) _ (fun _ _ h => h)
  · rintro u4 _ w9 ⟨rfl, r', q', cs'', h9, hr9, hcs''⟩
    refine IfB.f rfl ?_
    have rowm : ∀ {wa wb : World} {cs : List Value}, Frm none_ wa wb → Row wa t26 5 1 cs → Row wb t26 5 1 cs := fun hm h => h.mod hm (fun _ _ h => h)
    refine (ok_calls w9 _ _ h9.fp).mono ?_
    rintro _ w10 ⟨rfl, hm10⟩
    have h10 := h9.mod0 hm10
    refine ⟨_, rfl, (okRR_calls G3 w10 _ _ h10.fx).mono ?_⟩
    rintro _ _ ⟨rfl, rfl⟩
    refine ⟨_, rfl, _, bool_neq _ _ _ _, IfB.f (by simp) ?_⟩
    refine (left_calls w10 _ _ h10.fp).mono ?_
    rintro _ w11 ⟨rfl, hm11⟩
    have h11 := h10.mod0 hm11
    refine ⟨_, rfl, (leftRR_calls G3 w11 _ _ h11.fx).mono ?_⟩
    rintro _ _ ⟨rfl, rfl⟩
    refine ⟨_, rfl, IfB.f (by simp) ?_⟩
    refine (done_calls w11 _ _ h11.fp).mono ?_
    rintro _ w12 ⟨rfl, hm12⟩
    have h12 := h11.mod0 hm12
    refine ⟨_, rfl, (doneRR_calls G3 w12 _ _ h12.fx).mono ?_⟩
    rintro _ _ ⟨rfl, rfl⟩
    refine ⟨_, rfl, _, bool_neq _ _ _ _, IfB.f (by simp) ?_⟩
    refine (ok_calls w12 _ _ h12.fq).mono ?_
    rintro _ w13 ⟨rfl, hm13⟩
    have h13 := h12.mod0 hm13
    refine ⟨_, rfl, (okRR_calls G4 w13 _ _ h13.fy).mono ?_⟩
    rintro _ _ ⟨rfl, rfl⟩
    refine ⟨_, rfl, _, bool_neq _ _ _ _, IfB.f (by simp) ?_⟩
    refine (left_calls w13 _ _ h13.fq).mono ?_
    rintro _ w14 ⟨rfl, hm14⟩
    have h14 := h13.mod0 hm14
    refine ⟨_, rfl, (leftRR_calls G4 w14 _ _ h14.fy).mono ?_⟩
    rintro _ _ ⟨rfl, rfl⟩
    refine ⟨_, rfl, IfB.f (by simp) ?_⟩
    refine (done_calls w14 _ _ h14.fq).mono ?_
    rintro _ w15 ⟨rfl, hm15⟩
    have h15 := h14.mod0 hm15
    refine ⟨_, rfl, (doneRR_calls G4 w15 _ _ h15.fy).mono ?_⟩
    rintro _ _ ⟨rfl, rfl⟩
    refine ⟨_, rfl, _, bool_neq _ _ _ _, IfB.f (by simp) ?_⟩
    exact ⟨1000 - (i + 1), by omega, i + 1, r', q', cs'', by rw [wi _ (by omega)]; omega, by omega, rfl, h15, rowm hm15 (rowm hm14 (rowm hm13 (rowm hm12 (rowm hm11 (rowm hm10 hr9))))), hcs''⟩
theorem turns_law (W : World) (b : Sl) (lb : List UInt8) (hb : HasL W b 1 (fun b : UInt8 => [Value.int .u8 (b.toNat : Int)]) lb ∧ (∀ a ∈ lb, True) ∧ b.l ≤ b.c ∧ b.c ≤ maxLen ∧ b.c * 1 ≤ 140737488351232)
    (s : Sl) (l : List Th) (hl : HasL W s 3 tc l ∧ (∀ a ∈ l, OkT a) ∧ s.l ≤ s.c ∧ s.c ≤ maxLen ∧ s.c * 32 ≤ 140737488351232)
    (s2 : Sl) (l2 : List Th) (hl2 : HasL W s2 3 tc l2 ∧ (∀ a ∈ l2, OkT a) ∧ s2.l ≤ s2.c ∧ s2.c ≤ maxLen ∧ s2.c * 32 ≤ 140737488351232) :
    Calls prog 4 #[.slice b.a b.l b.c, .slice s.a s.l s.c, .slice s2.a s2.l s2.c] W fun e w' => e = .returned (.bool true) ∧ Frm none_ W w' :=
  turns_calls W b lb s s2 l l2 hb.1.bytes hl.1 hl.2.1 (by omega) hl2.1 hl2.2.1 (by omega)
end Go.Proofs.Ytmkennapbebbmaa
