/- The law StrideNames walked (printed by nm.py). -/
import Derived.Test.YthgeacnemojjgaaBa
set_option linter.unusedVariables false
set_option linter.unusedSimpArgs false
set_option maxRecDepth 20000
namespace Go.Proofs.Ythgeacnemojjgaa
open Go Go.Proofs.YthgeacnemojjgaaV
theorem litB {n : Nat} {parts : Array (Nat × Value)} {w : World} (bs : List UInt8) (hn : 0 < n) (hb : n * 1 ≤ 16777216)
    (hf : Instr.fill (fun i => some (i * 1, 1)) ((Array.range (n * 1)).map fun j => (Value.int .u8 0).cells[j % (Value.int .u8 0).cells.size]!) parts.toList = some (bv bs).toArray) (hc : (bv bs).toArray.size = n * 1) {K : Sl → World → Prop}
    (hk : ∀ t w', Frm none_ w w' → Has w' t 1 (bv bs) → K t w') : RunT prog .slice (Instr.buildSlice 31 n parts) w K := by
  refine runT_lit st22 hn hb hf hc ?_
  intro w' hr f z
  exact hk _ w' f (by simpa using hr.has)
theorem litl {w : World} {s : Sl} {bs : List UInt8} (h : Has w s 1 (bv bs)) : s.l = bs.length := by have := h.len; rw [bv_length] at this; omega
theorem ld_bad {ps : List Pj} (hf : ∀ p ∈ ps, Fit p) (hn : ps.length ≤ 2147483647) (hno : ¬ OkM ps) {l : List UInt8} (e : saveP ps = l) : ldOf l = none := by
  refine ldOf_none fun qs hq e' => hno ?_
  have h2 := hq.n
  rw [← e] at e'
  unfold saveP at e'
  obtain ⟨e1, e2⟩ := cb_inj (by omega) (by omega) e'
  have := (det hf (ps := qs) (rest := []) (fun p hp' => (hq.each p hp').fit) (by omega) (by rw [List.append_nil]; exact e2)).1
  rw [show qs.length = ps.length by omega, List.take_length] at this
  rw [← this]; exact hq
theorem ok_g : OkM [⟨⟨#[97]⟩, 1, 0, false⟩] := ⟨by simp, List.pairwise_singleton _ _, fun p hp => by simp at hp; subst hp; exact ⟨by decide, by simp, by simp, by simp, by simp⟩⟩
theorem ld_g : ldOf [1, 1, 97, 1, 0, 0] = some [⟨⟨#[97]⟩, 1, 0, false⟩] := ldOf_some ok_g (by simp [saveP, pb, cb, sb, fb, gb_small, ByteArray.size])
theorem ld_b1 : ldOf [1, 1, 97, 0, 0, 0] = none := ld_bad (ps := [⟨⟨#[97]⟩, 0, 0, false⟩]) (fun p hp => by simp at hp; subst hp; exact ⟨by decide, by simp, by simp, by simp, by simp⟩) (by simp) (fun h => by have := (h.each _ List.mem_cons_self).s1; simp at this) (by simp [saveP, pb, cb, sb, fb, gb_small, ByteArray.size])
theorem ld_b2 : ldOf [1, 1, 65, 1, 0, 0] = none := ld_bad (ps := [⟨⟨#[65]⟩, 1, 0, false⟩]) (fun p hp => by simp at hp; subst hp; exact ⟨by decide, by simp, by simp, by simp, by simp⟩) (by simp) (fun h => by have := (h.each _ List.mem_cons_self).name; exact absurd this (by decide)) (by simp [saveP, pb, cb, sb, fb, gb_small, ByteArray.size])
theorem ld_b3 : ldOf [2, 1, 98, 1, 0, 0, 1, 97, 1, 0, 0] = none := ld_bad (ps := [⟨⟨#[98]⟩, 1, 0, false⟩, ⟨⟨#[97]⟩, 1, 0, false⟩]) (fun p hp => by simp at hp; rcases hp with rfl | rfl <;> exact ⟨by decide, by simp, by simp, by simp, by simp⟩) (by simp) (fun h => by have := h.srt.lt (i := 0) (j := 1) (by omega) rfl rfl; exact absurd this (by decide)) (by simp [saveP, pb, cb, sb, fb, gb_small, ByteArray.size])
theorem ld_b4 : ldOf [2, 1, 97, 1, 0, 0, 1, 97, 1, 0, 0] = none := ld_bad (ps := [⟨⟨#[97]⟩, 1, 0, false⟩, ⟨⟨#[97]⟩, 1, 0, false⟩]) (fun p hp => by simp at hp; subst hp; exact ⟨by decide, by simp, by simp, by simp, by simp⟩) (by simp) (fun h => by have := h.srt.lt (i := 0) (j := 1) (by omega) rfl rfl; exact absurd this (by decide)) (by simp [saveP, pb, cb, sb, fb, gb_small, ByteArray.size])
theorem ld_b5 : ldOf [1, 1, 97, 1, 0, 2] = none := by
  refine ldOf_none fun qs hq e => ?_
  have h2 := hq.n
  have e' : saveP qs = cb 1 ++ (sb ⟨#[97]⟩ ++ (cb 1 ++ (cb 0 ++ [2]))) := by rw [e]; simp [cb, sb, gb_small, ByteArray.size]
  unfold saveP at e'
  obtain ⟨e1, e2⟩ := cb_inj (by omega) (by omega) e'
  match qs, e1, e2, hq with
  | [q], _, e2, hq =>
    have hf := (hq.each q List.mem_cons_self).fit
    simp only [List.flatMap_cons, List.flatMap_nil, List.append_nil, pb, List.append_assoc] at e2
    obtain ⟨_, e3⟩ := sb_inj hf.n (by decide) e2
    have := hf.s1
    obtain ⟨_, e4⟩ := cb_inj ⟨hf.s0, by omega⟩ (by omega) e3
    obtain ⟨_, e5⟩ := cb_inj ⟨hf.h0, hf.h1⟩ (by omega) e4
    cases hw : q.wt <;> rw [hw] at e5 <;> simp [fb] at e5
theorem ld_b6 : ldOf [5] = none := by
  refine ldOf_none fun qs hq e => ?_
  have h2 := hq.n
  have e' : saveP qs = cb 5 ++ [] := by rw [e]; simp [cb, gb_small]
  unfold saveP at e'
  obtain ⟨e1, e2⟩ := cb_inj (by omega) (by omega) e'
  omega
theorem ld_b7 : ldOf [] = none := ldOf_none fun qs hq e => by have := saveP_pos qs hq; rw [e] at this; simp at this
theorem names_law (W : World) : Calls prog 3 #[] W fun e w' => e = .returned (.bool true) ∧ Frm none_ W w' := by
  refine callsRet (W3 (Q := fun v w' => v = .bool true ∧ Frm none_ W w') ?_) (fun v w' ⟨h, h'⟩ => ⟨by rw [h], h'⟩)
  unfold F3
  refine (works_calls W).mono ?_
  rintro _ w1 ⟨rfl, f1⟩
  refine ⟨_, rfl, IfB.f rfl (new1 (W := w1) fun V0 a h0 => ⟨_, rfl, (two_calls _).mono ?_⟩)⟩
  rintro _ U ⟨s, rfl, t, n, f⟩
  refine ⟨s, rfl, next1 h0 f t n (q := (⟨#[]⟩ : ByteArray)) (e := 5) (M' := []) (by kernel_rfl) fun V1 h1 => ⟨_, _, rfl, ?_⟩⟩
  refine ⟨fun c V => c = false ∧ Hs w1 a [⟨⟨#[97, 45, 95, 57]⟩, 1000, 0, false⟩, ⟨⟨#[97, 98, 99, 100, 101, 102, 103, 104, 105, 106, 107, 108, 109, 110, 111, 112, 113, 114, 115, 116, 117, 118, 119, 120]⟩, 1, 0, false⟩] V, ?_, ?_⟩
  · refine IfB.f rfl (set1 h1 (e := 63) (M' := []) (by kernel_rfl) fun V2 h2 => ⟨_, rfl, ?_⟩)
    refine IfB.f rfl (set1 h2 (e := 63) (M' := []) (by kernel_rfl) fun V3 h3 => ⟨_, rfl, ?_⟩)
    refine IfB.f rfl (set1 h3 (e := 63) (M' := []) (by kernel_rfl) fun V4 h4 => ⟨_, rfl, ?_⟩)
    refine IfB.f rfl (set1 h4 (e := 63) (M' := []) (by kernel_rfl) fun V5 h5 => ⟨_, rfl, ?_⟩)
    refine IfB.f rfl (set1 h5 (e := 63) (M' := []) (by kernel_rfl) fun V6 h6 => ⟨_, rfl, ?_⟩)
    refine IfB.f rfl (set1 h6 (e := 0) (M' := [⟨⟨#[97, 98, 99, 100, 101, 102, 103, 104, 105, 106, 107, 108, 109, 110, 111, 112, 113, 114, 115, 116, 117, 118, 119, 120]⟩, 1, 0, false⟩]) (by kernel_rfl) fun V7 h7 => ⟨_, rfl, ?_⟩)
    refine IfB.f rfl (set1 h7 (e := 0) (M' := [⟨⟨#[97, 45, 95, 57]⟩, 1000, 0, false⟩, ⟨⟨#[97, 98, 99, 100, 101, 102, 103, 104, 105, 106, 107, 108, 109, 110, 111, 112, 113, 114, 115, 116, 117, 118, 119, 120]⟩, 1, 0, false⟩]) (by kernel_rfl) fun V8 h8 => ⟨_, rfl, ?_⟩)
    refine IfB.f rfl (set1 h8 (e := 1) (M' := [⟨⟨#[97, 45, 95, 57]⟩, 1000, 0, false⟩, ⟨⟨#[97, 98, 99, 100, 101, 102, 103, 104, 105, 106, 107, 108, 109, 110, 111, 112, 113, 114, 115, 116, 117, 118, 119, 120]⟩, 1, 0, false⟩]) (by kernel_rfl) fun V9 h9 => ⟨_, rfl, ?_⟩)
    refine IfB.f rfl (set1 h9 (e := 1) (M' := [⟨⟨#[97, 45, 95, 57]⟩, 1000, 0, false⟩, ⟨⟨#[97, 98, 99, 100, 101, 102, 103, 104, 105, 106, 107, 108, 109, 110, 111, 112, 113, 114, 115, 116, 117, 118, 119, 120]⟩, 1, 0, false⟩]) (by kernel_rfl) fun V10 h10 => ⟨_, rfl, ?_⟩)
    refine IfB.f rfl (set1 h10 (e := 1) (M' := [⟨⟨#[97, 45, 95, 57]⟩, 1000, 0, false⟩, ⟨⟨#[97, 98, 99, 100, 101, 102, 103, 104, 105, 106, 107, 108, 109, 110, 111, 112, 113, 114, 115, 116, 117, 118, 119, 120]⟩, 1, 0, false⟩]) (by kernel_rfl) fun V11 h11 => ⟨_, rfl, rfl, h11⟩)
  rintro u c V12 ⟨rfl, h12⟩
  refine IfB.f rfl ?_
  refine ⟨fun c V => c = false ∧ Hs w1 a [⟨⟨#[97, 45, 95, 57]⟩, 1000, 0, false⟩, ⟨⟨#[97, 98, 99, 100, 101, 102, 103, 104, 105, 106, 107, 108, 109, 110, 111, 112, 113, 114, 115, 116, 117, 118, 119, 120]⟩, 1, 0, false⟩, ⟨⟨#[98]⟩, 1, 2147483647, false⟩] V, ?_, ?_⟩
  · refine set1 h12 (e := 0) (M' := [⟨⟨#[97, 45, 95, 57]⟩, 1000, 0, false⟩, ⟨⟨#[97, 98, 99, 100, 101, 102, 103, 104, 105, 106, 107, 108, 109, 110, 111, 112, 113, 114, 115, 116, 117, 118, 119, 120]⟩, 1, 0, false⟩, ⟨⟨#[98]⟩, 1, 0, false⟩]) (by kernel_rfl) fun V13 h13 => ⟨_, rfl, IfB.f rfl ?_⟩
    obtain ⟨D, hD1, hD2⟩ := h13.sh
    refine (save_calls V13 D a _ hD1 h13.ok).mono ?_
    rintro _ U2 ⟨r, rfl, hr, hrn, fr⟩
    have hrl := rowLen hr
    have h14 := h13.n fr
    have esv : ∃ rest, saveP [⟨⟨#[97, 45, 95, 57]⟩, 1000, 0, false⟩, ⟨⟨#[97, 98, 99, 100, 101, 102, 103, 104, 105, 106, 107, 108, 109, 110, 111, 112, 113, 114, 115, 116, 117, 118, 119, 120]⟩, 1, 0, false⟩, ⟨⟨#[98]⟩, 1, 0, false⟩] = [3, 4, 97, 45] ++ rest := ⟨_, by simp [saveP, pb, cb, sb, gb_small, ByteArray.size]; rfl⟩
    obtain ⟨rest, esv⟩ := esv
    rw [esv] at hr hrl
    simp only [List.length_append, List.length_cons, List.length_nil] at hrl
    have hrc : r.l ≤ r.c := by
      rcases hr.cases with ⟨rfl, _⟩ | ⟨g, cur, ha, hB, h3, _⟩
      · exact Nat.le_refl _
      · exact h3
    have h4 : Has U2 ⟨r.a, 4 - 0, r.c - 0⟩ 1 (bv [3, 4, 97, 45]) := by
      have := hr.has.head (4 - 0) (r.c - 0) (by omega)
      rw [bv_take] at this
      exact this
    refine ⟨r, rfl, by omega, ?_⟩
    rw [slA_zero]
    refine runT_str un22 un5 un9 h4 ?_
    refine IfB.f (nb _) ?_
    refine (set1 h14 (e := 0) (M' := [⟨⟨#[97, 45, 95, 57]⟩, 1000, 0, false⟩, ⟨⟨#[97, 98, 99, 100, 101, 102, 103, 104, 105, 106, 107, 108, 109, 110, 111, 112, 113, 114, 115, 116, 117, 118, 119, 120]⟩, 1, 0, false⟩, ⟨⟨#[98]⟩, 1, 0, false⟩, ⟨⟨#[99]⟩, 1, 0, false⟩]) (by kernel_rfl) fun V15 h15 => ⟨_, rfl, ?_⟩)
    refine IfB.f rfl (set1 h15 (e := 3) (M' := [⟨⟨#[97, 45, 95, 57]⟩, 1000, 0, false⟩, ⟨⟨#[97, 98, 99, 100, 101, 102, 103, 104, 105, 106, 107, 108, 109, 110, 111, 112, 113, 114, 115, 116, 117, 118, 119, 120]⟩, 1, 0, false⟩, ⟨⟨#[98]⟩, 1, 0, false⟩, ⟨⟨#[99]⟩, 1, 0, false⟩]) (by kernel_rfl) fun V16 h16 => ⟨_, rfl, ?_⟩)
    refine IfB.f rfl (set1 h16 (e := 1) (M' := [⟨⟨#[97, 45, 95, 57]⟩, 1000, 0, false⟩, ⟨⟨#[97, 98, 99, 100, 101, 102, 103, 104, 105, 106, 107, 108, 109, 110, 111, 112, 113, 114, 115, 116, 117, 118, 119, 120]⟩, 1, 0, false⟩, ⟨⟨#[98]⟩, 1, 0, false⟩, ⟨⟨#[99]⟩, 1, 0, false⟩]) (by kernel_rfl) fun V17 h17 => ⟨_, rfl, ?_⟩)
    refine IfB.f rfl (drop1 h17 (e := 5) (M' := [⟨⟨#[97, 45, 95, 57]⟩, 1000, 0, false⟩, ⟨⟨#[97, 98, 99, 100, 101, 102, 103, 104, 105, 106, 107, 108, 109, 110, 111, 112, 113, 114, 115, 116, 117, 118, 119, 120]⟩, 1, 0, false⟩, ⟨⟨#[98]⟩, 1, 0, false⟩, ⟨⟨#[99]⟩, 1, 0, false⟩]) (by kernel_rfl) fun V18 h18 => ⟨_, rfl, ?_⟩)
    refine IfB.f rfl (drop1 h18 (e := 0) (M' := [⟨⟨#[97, 45, 95, 57]⟩, 1000, 0, false⟩, ⟨⟨#[97, 98, 99, 100, 101, 102, 103, 104, 105, 106, 107, 108, 109, 110, 111, 112, 113, 114, 115, 116, 117, 118, 119, 120]⟩, 1, 0, false⟩, ⟨⟨#[98]⟩, 1, 0, false⟩]) (by kernel_rfl) fun V19 h19 => ⟨_, rfl, ?_⟩)
    refine IfB.f rfl (drop1 h19 (e := 5) (M' := [⟨⟨#[97, 45, 95, 57]⟩, 1000, 0, false⟩, ⟨⟨#[97, 98, 99, 100, 101, 102, 103, 104, 105, 106, 107, 108, 109, 110, 111, 112, 113, 114, 115, 116, 117, 118, 119, 120]⟩, 1, 0, false⟩, ⟨⟨#[98]⟩, 1, 0, false⟩]) (by kernel_rfl) fun V20 h20 => ⟨_, rfl, ?_⟩)
    refine IfB.f rfl (chg1 h20 (e := 5) (M' := [⟨⟨#[97, 45, 95, 57]⟩, 1000, 0, false⟩, ⟨⟨#[97, 98, 99, 100, 101, 102, 103, 104, 105, 106, 107, 108, 109, 110, 111, 112, 113, 114, 115, 116, 117, 118, 119, 120]⟩, 1, 0, false⟩, ⟨⟨#[98]⟩, 1, 0, false⟩]) (by kernel_rfl) fun V21 h21 => ⟨_, rfl, ?_⟩)
    refine IfB.f rfl (chg1 h21 (e := 1) (M' := [⟨⟨#[97, 45, 95, 57]⟩, 1000, 0, false⟩, ⟨⟨#[97, 98, 99, 100, 101, 102, 103, 104, 105, 106, 107, 108, 109, 110, 111, 112, 113, 114, 115, 116, 117, 118, 119, 120]⟩, 1, 0, false⟩, ⟨⟨#[98]⟩, 1, 0, false⟩]) (by kernel_rfl) fun V22 h22 => ⟨_, rfl, ?_⟩)
    refine IfB.f rfl (chg1 h22 (e := 70) (M' := [⟨⟨#[97, 45, 95, 57]⟩, 1000, 0, false⟩, ⟨⟨#[97, 98, 99, 100, 101, 102, 103, 104, 105, 106, 107, 108, 109, 110, 111, 112, 113, 114, 115, 116, 117, 118, 119, 120]⟩, 1, 0, false⟩, ⟨⟨#[98]⟩, 1, 0, false⟩]) (by kernel_rfl) fun V23 h23 => ⟨_, rfl, ?_⟩)
    refine IfB.f rfl (chg1 h23 (e := 0) (M' := [⟨⟨#[97, 45, 95, 57]⟩, 1000, 0, false⟩, ⟨⟨#[97, 98, 99, 100, 101, 102, 103, 104, 105, 106, 107, 108, 109, 110, 111, 112, 113, 114, 115, 116, 117, 118, 119, 120]⟩, 1, 0, false⟩, ⟨⟨#[98]⟩, 1, 2147483647, false⟩]) (by kernel_rfl) fun V24 h24 => ⟨_, rfl, ?_⟩)
    refine IfB.f rfl (chg1 h24 (e := 70) (M' := [⟨⟨#[97, 45, 95, 57]⟩, 1000, 0, false⟩, ⟨⟨#[97, 98, 99, 100, 101, 102, 103, 104, 105, 106, 107, 108, 109, 110, 111, 112, 113, 114, 115, 116, 117, 118, 119, 120]⟩, 1, 0, false⟩, ⟨⟨#[98]⟩, 1, 2147483647, false⟩]) (by kernel_rfl) fun V25 h25 => ⟨_, rfl, ?_⟩)
    refine IfB.f rfl (chg1 h25 (e := 0) (M' := [⟨⟨#[97, 45, 95, 57]⟩, 1000, 0, false⟩, ⟨⟨#[97, 98, 99, 100, 101, 102, 103, 104, 105, 106, 107, 108, 109, 110, 111, 112, 113, 114, 115, 116, 117, 118, 119, 120]⟩, 1, 0, false⟩, ⟨⟨#[98]⟩, 1, 2147483647, false⟩]) (by kernel_rfl) fun V26 h26 => ⟨_, rfl, ?_⟩)
    refine IfB.f rfl (set1 h26 (e := 70) (M' := [⟨⟨#[97, 45, 95, 57]⟩, 1000, 0, false⟩, ⟨⟨#[97, 98, 99, 100, 101, 102, 103, 104, 105, 106, 107, 108, 109, 110, 111, 112, 113, 114, 115, 116, 117, 118, 119, 120]⟩, 1, 0, false⟩, ⟨⟨#[98]⟩, 1, 2147483647, false⟩]) (by kernel_rfl) fun V27 h27 => ⟨_, rfl, ?_⟩)
    refine IfB.f rfl (set1 h27 (e := 0) (M' := [⟨⟨#[97, 45, 95, 57]⟩, 1000, 0, false⟩, ⟨⟨#[97, 98, 99, 100, 101, 102, 103, 104, 105, 106, 107, 108, 109, 110, 111, 112, 113, 114, 115, 116, 117, 118, 119, 120]⟩, 1, 0, false⟩, ⟨⟨#[98]⟩, 1, 2147483647, false⟩]) (by kernel_rfl) fun V28 h28 => ⟨_, rfl, rfl, h28⟩)
  rintro u c V29 ⟨rfl, h29⟩
  refine IfB.f rfl ?_
  refine litT [(⟨#[98]⟩ : ByteArray)] (by decide) (by decide) (by kernel_rfl) rfl fun s U t n f => next1 h29 f t n (q := (⟨#[98]⟩ : ByteArray)) (e := 0) (M' := [⟨⟨#[97, 45, 95, 57]⟩, 1000, 0, false⟩, ⟨⟨#[97, 98, 99, 100, 101, 102, 103, 104, 105, 106, 107, 108, 109, 110, 111, 112, 113, 114, 115, 116, 117, 118, 119, 120]⟩, 1, 0, false⟩, ⟨⟨#[98]⟩, 1, 2147483647, true⟩]) (by kernel_rfl) fun V30 h30 => ⟨_, _, rfl, ?_⟩
  refine litT [(⟨#[98]⟩ : ByteArray), (⟨#[97, 45, 95, 57]⟩ : ByteArray)] (by decide) (by decide) (by kernel_rfl) rfl fun s U t n f => next1 h30 f t n (q := (⟨#[97, 45, 95, 57]⟩ : ByteArray)) (e := 0) (M' := [⟨⟨#[97, 45, 95, 57]⟩, 1000, 2147483647, true⟩, ⟨⟨#[97, 98, 99, 100, 101, 102, 103, 104, 105, 106, 107, 108, 109, 110, 111, 112, 113, 114, 115, 116, 117, 118, 119, 120]⟩, 1, 0, false⟩, ⟨⟨#[98]⟩, 1, 2147483647, true⟩]) (by kernel_rfl) fun V31 h31 => ⟨_, _, rfl, ?_⟩
  refine had1 h31 (r := (1000, 2147483647, true)) (by kernel_rfl) fun V32 h32 => ⟨_, _, _, rfl, ?_⟩
  refine ⟨fun c V => c = false ∧ Frm none_ w1 V, IfB.f (nb _) (IfB.f (nb _) (IfB.f (by decide) (IfB.f (by decide) ⟨rfl, h32.frm⟩))), ?_⟩
  rintro u c V ⟨rfl, fV⟩
  refine IfB.f rfl ?_
  refine litB [1, 1, 97, 1, 0, 0] (by decide) (by decide) (by kernel_rfl) rfl fun s1 U1 g1 t1 => ?_
  refine (load_calls U1 s1 _ t1 (by rw [litl t1]; decide)).mono ?_
  rintro _ X1 ⟨v, rfl, hv, k1⟩
  rcases hv with ⟨x, N, D, rfl, hN, hS, hD⟩ | ⟨_, hN⟩
  rotate_left 1
  · rw [ld_g] at hN; cases hN
  rw [ld_g] at hN; cases hN
  refine ⟨_, _, rfl, ?_⟩
  have fA1 : Frm none_ U1 X1 := k1
  refine litB [1, 1, 97, 0, 0, 0] (by decide) (by decide) (by kernel_rfl) rfl fun s2 U2 g2 t2 => ?_
  refine (load_calls U2 s2 _ t2 (by rw [litl t2]; decide)).mono ?_
  rintro _ X2 ⟨v, rfl, hv, k2⟩
  rcases hv with ⟨_, _, _, _, hN, _⟩ | ⟨rfl, _⟩
  · rw [ld_b1] at hN; cases hN
  refine ⟨_, _, rfl, ?_⟩
  refine litB [1, 1, 65, 1, 0, 0] (by decide) (by decide) (by kernel_rfl) rfl fun s3 U3 g3 t3 => ?_
  refine (load_calls U3 s3 _ t3 (by rw [litl t3]; decide)).mono ?_
  rintro _ X3 ⟨v, rfl, hv, k3⟩
  rcases hv with ⟨_, _, _, _, hN, _⟩ | ⟨rfl, _⟩
  · rw [ld_b2] at hN; cases hN
  refine ⟨_, _, rfl, ?_⟩
  refine litB [2, 1, 98, 1, 0, 0, 1, 97, 1, 0, 0] (by decide) (by decide) (by kernel_rfl) rfl fun s4 U4 g4 t4 => ?_
  refine (load_calls U4 s4 _ t4 (by rw [litl t4]; decide)).mono ?_
  rintro _ X4 ⟨v, rfl, hv, k4⟩
  rcases hv with ⟨_, _, _, _, hN, _⟩ | ⟨rfl, _⟩
  · rw [ld_b3] at hN; cases hN
  refine ⟨_, _, rfl, ?_⟩
  refine litB [2, 1, 97, 1, 0, 0, 1, 97, 1, 0, 0] (by decide) (by decide) (by kernel_rfl) rfl fun s5 U5 g5 t5 => ?_
  refine (load_calls U5 s5 _ t5 (by rw [litl t5]; decide)).mono ?_
  rintro _ X5 ⟨v, rfl, hv, k5⟩
  rcases hv with ⟨_, _, _, _, hN, _⟩ | ⟨rfl, _⟩
  · rw [ld_b4] at hN; cases hN
  refine ⟨_, _, rfl, ?_⟩
  refine litB [1, 1, 97, 1, 0, 2] (by decide) (by decide) (by kernel_rfl) rfl fun s6 U6 g6 t6 => ?_
  refine (load_calls U6 s6 _ t6 (by rw [litl t6]; decide)).mono ?_
  rintro _ X6 ⟨v, rfl, hv, k6⟩
  rcases hv with ⟨_, _, _, _, hN, _⟩ | ⟨rfl, _⟩
  · rw [ld_b5] at hN; cases hN
  refine ⟨_, _, rfl, ?_⟩
  refine litB [5] (by decide) (by decide) (by kernel_rfl) rfl fun s7 U7 g7 t7 => ?_
  refine (load_calls U7 s7 _ t7 (by rw [litl t7]; decide)).mono ?_
  rintro _ X7 ⟨v, rfl, hv, k7⟩
  rcases hv with ⟨_, _, _, _, hN, _⟩ | ⟨rfl, _⟩
  · rw [ld_b6] at hN; cases hN
  refine ⟨_, _, rfl, ?_⟩
  refine (load_calls X7 ⟨none, 0, 0⟩ [] (Has.nil _ _ _ rfl) (by decide)).mono ?_
  rintro _ Y ⟨v, rfl, hv, ky⟩
  rcases hv with ⟨_, _, _, _, hN, _⟩ | ⟨rfl, _⟩
  · rw [ld_b7] at hN; cases hN
  refine ⟨_, _, rfl, ?_⟩
  have fXY : Frm none_ X1 Y := by
    have e := Frm.refl none_ X1
    have e := (e.n g2).n k2
    have e := (e.n g3).n k3
    have e := (e.n g4).n k4
    have e := (e.n g5).n k5
    have e := (e.n g6).n k6
    have e := (e.n g7).n k7
    exact e.n ky
  have fY : Frm none_ w1 Y := (fV.n g1).n (k1.n fXY)
  refine ⟨fun c V => c = false ∧ Frm none_ Y V, ?_, ?_⟩
  · refine IfB.f rfl ((names_calls Y D x _ (hS.n fXY) ok_g).mono ?_)
    rintro _ Z ⟨r, rfl, hr, hrn, fz⟩
    have hl := has_sv hr.has
    simp at hl
    refine ⟨r, rfl, IfB.f (by rw [hl]; rfl) (IfB.f rfl (IfB.f rfl (IfB.f rfl (IfB.f rfl (IfB.f rfl (IfB.f rfl ⟨rfl, fz⟩))))))⟩
  rintro u c V' ⟨rfl, fV'⟩
  refine IfB.f rfl ((two_calls _).mono ?_)
  rintro _ U' ⟨s, rfl, t, n, f'⟩
  refine ⟨s, rfl, (next_nil U' s).mono ?_⟩
  rintro _ _ ⟨rfl, rfl⟩
  refine ⟨_, _, rfl, (had_nil _ _).mono ?_⟩
  rintro _ _ ⟨rfl, rfl⟩
  refine ⟨_, _, _, rfl, IfB.t rfl (IfB.t rfl ((set_nil _ _ _).mono ?_))⟩
  rintro _ _ ⟨rfl, rfl⟩
  refine ⟨_, rfl, IfB.t rfl ((drop_nil _ _).mono ?_)⟩
  rintro _ _ ⟨rfl, rfl⟩
  refine ⟨_, rfl, IfB.t rfl ((chg_nil _ _ _).mono ?_)⟩
  rintro _ _ ⟨rfl, rfl⟩
  refine ⟨_, rfl, IfB.t rfl ((names_nil _).mono ?_)⟩
  rintro _ _ ⟨rfl, rfl⟩
  refine ⟨⟨none, 0, 0⟩, rfl, (save_nil _).mono ?_⟩
  rintro _ _ ⟨rfl, rfl⟩
  exact ⟨⟨none, 0, 0⟩, rfl, rfl, ((f1.n fY).n fV').n f'⟩
end Go.Proofs.Ythgeacnemojjgaa
