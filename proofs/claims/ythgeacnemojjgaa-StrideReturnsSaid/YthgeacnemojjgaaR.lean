/- What the calls of the document's answer (bastionref01) that lay things do. -/
import Derived.Test.YthgeacnemojjgaaC
set_option linter.unusedVariables false
set_option maxRecDepth 20000
set_option linter.unusedSimpArgs false
namespace Go.Proofs.Ythgeacnemojjgaa
open Go Go.Proofs.YthgeacnemojjgaaV

set_option maxRecDepth 20000 in
theorem groupsR_calls (u : Nat) : ∀ (w : World), u ≤ 18446744073709551615 →
    Calls prog 89 #[.int .u64 (u : Int)] w fun e w' => e = .returned (.string (str (gb u))) ∧ Frm none_ w w' := by
  induction u using Nat.strongRecOn with
  | _ u ih =>
    intro w hu
    refine calls_ret (W89 (Q := fun v w' => v = .string (str (gb u)) ∧ Frm none_ w w') ?_) (fun v w' ⟨h, h'⟩ => ⟨by rw [h], h'⟩)
    unfold F89
    have one : ∀ c : Int, 0 ≤ c → c < 256 → (Value.int IntKind.u8 c).cells.toList = bv [UInt8.ofNat c.toNat] := by
      intro c h0 h1
      show [Value.int IntKind.u8 c] = [Value.int .u8 ((UInt8.ofNat c.toNat).toNat : Int)]
      rw [u8_ofNat _ (by omega), Int.toNat_of_nonneg h0]
    refine IfB.dec (fun h => ?_) (fun h => ?_)
    · rw [wu8 _ (by omega)]
      refine runT_lit1 st22 (by decide) rfl ?_
      intro w1 hr1 hm1 hs1
      rw [one _ (by omega) (by omega)] at hr1
      refine runT_str un22 un5 un9 hr1.has ?_
      refine ⟨?_, hm1⟩
      rw [gb_small (by omega)]
      simp
    · have hc : IntKind.wrap .u8 (IntKind.wrap .u64 (128 + Int.tmod (u : Int) 128)) = ((128 + u % 128 : Nat) : Int) := by
        rw [Int.tmod_eq_emod_of_nonneg (by omega), wu64 _ (by omega), wu8 _ (by omega)]; omega
      have hd : IntKind.wrap .u64 (Int.tdiv (u : Int) 128) = ((u / 128 : Nat) : Int) := by
        rw [Int.tdiv_eq_ediv_of_nonneg (by omega), wu64 _ (by omega)]; omega
      rw [hc, hd]
      have hle : (gb (u / 128)).length ≤ 10 := gb_le _ (by omega)
      have fin : str [UInt8.ofNat (128 + u % 128)] ++ str (gb (u / 128)) = str (gb u) := by
        rw [gb_big (u := u) (by omega)]
        apply ByteArray.ext
        simp [str]
      have hl1 := one ((128 + u % 128 : Nat) : Int) (by omega) (by omega)
      rw [Int.toNat_natCast] at hl1
      refine ⟨by decide, by decide, ⟨?_, ?_⟩⟩
      · refine runT_lit1 st22 (by decide) rfl ?_
        intro w1 hr1 hm1 hs1
        rw [hl1] at hr1
        refine ⟨?_, ?_⟩
        · refine runT_str un22 un5 un9 hr1.has ?_
          refine (ih (u / 128) (by omega) w1 (by omega)).mono ?_
          rintro _ w2 ⟨rfl, hm2⟩
          refine ⟨_, rfl, by simp only [str_size, List.length_singleton]; omega, ?_, (hm1.trans hm2 (fun _ _ h => h) (fun _ _ h => h)).ofDrew⟩
          rw [fin]
        · refine (ih (u / 128) (by omega) w1 (by omega)).mono ?_
          rintro _ w2 ⟨rfl, hm2⟩
          refine ⟨_, rfl, ?_⟩
          refine runT_str un22 un5 un9 (hr1.mod hm2 (fun _ _ h => h)).has ?_
          refine ⟨by simp only [str_size, List.length_singleton]; omega, ?_, (hm1.trans hm2 (fun _ _ h => h) (fun _ _ h => h)).ofDrew⟩
          rw [fin]
      · refine (ih (u / 128) (by omega) w.drew (by omega)).mono ?_
        rintro _ w1 ⟨rfl, hm1⟩
        refine ⟨_, rfl, ?_⟩
        refine runT_lit1 st22 (by decide) rfl ?_
        intro w2 hr2 hm2 hs2
        rw [hl1] at hr2
        refine runT_str un22 un5 un9 hr2.has ?_
        refine ⟨by simp only [str_size, List.length_singleton]; omega, ?_, (hm1.trans hm2 (fun _ _ h => h) (fun _ _ h => h)).ofDrew⟩
        rw [fin]

/-- In new memory (or nil). -/
def New (w : World) (r : Sl) : Prop := ∀ k, r.blk = some k → w.heap.size ≤ k
abbrev Made (w : World) (bs : List UInt8) : Ending → World → Prop := fun e w' => ∃ r : Sl, e = .returned (.slice r.a r.l r.c) ∧ Row w' r 5 1 (bv bs) ∧ New w r ∧ Frm none_ w w'
abbrev MadeV (w : World) (bs : List UInt8) : Value → World → Prop := fun v w' => ∃ r : Sl, v = .slice r.a r.l r.c ∧ Row w' r 5 1 (bv bs) ∧ New w r ∧ Frm none_ w w'
theorem madeV {w : World} {bs : List UInt8} {v : Value} {w' : World} (h : MadeV w bs v w') : Made w bs (.returned v) w' := by
  obtain ⟨r, hv, h⟩ := h
  exact ⟨r, by rw [hv], h⟩
theorem New.near {w w1 w2 : World} {s s' : Sl} (h : New w s) (hn : Near w1 s s') (hs : w.heap.size ≤ w1.heap.size) : New w s' := by
  intro k hk
  rcases hn.cases hk with h1 | h1
  · exact h k h1
  · omega
theorem New.frm {w w1 w2 : World} {s : Sl} (h : New w s) (h1 : Frm none_ w w1) (h2 : Frm (fun b => s.blk = some b) w1 w2) : Frm none_ w w2 :=
  h1.trans h2 (fun _ _ h => h) (fun x hx hf => by have := h x hf; omega)

theorem behind_calls (w : World) (b : Sl) (lb : List UInt8) (s : ByteArray) (hb : Has w b 1 (bv lb)) (hsz : b.l + s.size ≤ 100000000000000) :
    Calls prog 88 #[.slice b.a b.l b.c, .string s] w (Made w (lb ++ s.data.toList)) := by
  refine calls_ret (W88 (Q := MadeV w (lb ++ s.data.toList)) ?_) (fun v w' h => madeV h)
  unfold F88
  have hbl : lb.length = b.l := by have := hb.len; rw [bv_length] at this; omega
  have hss : s.data.toList.length = s.size := Array.length_toList
  refine ⟨fun n x5 x6 w1 => ∃ k : Nat, x6 = (k : Int) ∧ k ≤ b.l ∧ n = b.l - k ∧ Row w1 x5 5 1 (bv (lb.take k)) ∧ x5.l = k ∧ New w x5 ∧ Frm none_ w w1, b.l,
    ⟨0, rfl, by omega, by omega, Row.nil _ _ _, rfl, by intro k hk; simp [Sl.blk] at hk, Frm.refl _ _⟩, ?_⟩
  rintro n - x5 x6 w1 ⟨k, rfl, hk, rfl, hr1, hl1, hn1, hm1⟩
  have hstep : ∀ (w1 : World) (x5 : Sl) (l : List UInt8) (c : UInt8) (R : Sl → World → Prop), Row w1 x5 5 1 (bv l) → New w x5 → Frm none_ w w1 → x5.l ≤ 100000000000000 →
      (∀ t w3, Row w3 t 5 1 (bv (l ++ [c])) → t.l = x5.l + 1 → New w t → Frm none_ w w3 → R t w3) →
      RunT prog .slice (Instr.buildSlice 31 1 #[(0, .int .u8 (c.toNat : Int))]) w1 fun (t19 : Sl) w1_1 =>
      RunT prog .slice (Builtin.append_ #[31, 31] 31 #[.slice x5.a x5.l x5.c, .slice t19.a t19.l t19.c]) w1_1 fun (t20 : Sl) w1_2 => R t20 w1_2 := by
    intro w1 x5 l c R hr hn hm hl hR
    refine runT_lit1 st22 (by decide) rfl ?_
    intro w2 hr2 hm2 hs2
    have hv : (Value.int IntKind.u8 (c.toNat : Int)).cells.toList = bv [c] := rfl
    rw [hv] at hr2
    refine runT_append st22 (hr.mod hm2 (fun _ _ h => h)) hr2.has (bv_one _) (by simp; omega) (by simp [maxLen]; omega) ?_
    intro t20 w3 hr3 hl3 hn3 hm3
    have hm12 := hm.trans hm2 (fun _ _ h => h) (fun _ _ h => h) (H := none_)
    rw [← bv_append] at hr3
    exact hR t20 w3 hr3 hl3 (hn.near (w2 := w3) hn3 hm12.size) (hn.frm hm12 hm3)
  refine IfB.dec (fun hlt => ?_) (fun hge => ?_)
  · obtain ⟨p, v, hp, hv, hld⟩ := (hb.mod hm1 (fun _ _ h => h)).at1 (i := (k : Int)) (by omega) (by omega)
    rw [Int.toNat_natCast] at hv hld
    obtain ⟨c, hc, rfl⟩ := bv_get hv
    refine ⟨p, hp, by omega, hlt, _, hld, ?_⟩
    refine hstep w1 x5 _ c _ hr1 hn1 hm1 (by omega) ?_
    intro t w3 hr3 hl3 hn3 hm3
    refine ⟨b.l - (k + 1), by omega, k + 1, by rw [wi _ (by omega)]; omega, by omega, rfl, ?_, by omega, hn3, hm3⟩
    rw [List.take_add_one, hc]
    exact hr3
  · have hkl : k = b.l := by omega
    subst hkl
    rw [List.take_of_length_le (by omega)] at hr1
    refine ⟨fun n x5 x7 w2 => ∃ j : Nat, x7 = (j : Int) ∧ j ≤ s.size ∧ n = s.size - j ∧ Row w2 x5 5 1 (bv (lb ++ s.data.toList.take j)) ∧ x5.l = b.l + j ∧ New w x5 ∧ Frm none_ w w2, s.size,
      ⟨0, rfl, by omega, by omega, by simpa using hr1, by omega, hn1, hm1⟩, ?_⟩
    rintro n - x5 x7 w2 ⟨j, rfl, hj, rfl, hr2, hl2, hn2, hm2⟩
    refine IfB.dec (fun hlt => ?_) (fun hge => ?_)
    · have hjl : j < s.size := by omega
      have hbt : bt s (j : Int) = ((s[j]'hjl).toNat : Int) := by simp [bt, hjl]
      have hget : s.data.toList[j]? = some (s[j]'hjl) := by
        rw [Array.getElem?_toList]; exact Array.getElem?_eq_getElem hjl
      refine ⟨by omega, hlt, ?_⟩
      rw [hbt]
      refine hstep w2 x5 _ _ _ hr2 hn2 hm2 (by omega) ?_
      intro t w3 hr3 hl3 hn3 hm3
      refine ⟨s.size - (j + 1), by omega, j + 1, by rw [wi _ (by omega)]; omega, by omega, rfl, ?_, by omega, hn3, hm3⟩
      rw [List.take_add_one, hget, ← List.append_assoc]
      exact hr3
    · have hjl : j = s.size := by omega
      subst hjl
      rw [List.take_of_length_le (by omega)] at hr2
      exact ⟨x5, rfl, hr2, hn2, hm2⟩

end Go.Proofs.Ythgeacnemojjgaa
