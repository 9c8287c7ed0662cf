/- Projects and the document's, side by side. -/
import Derived.Test.YthgeacnemojjgaaDn
import Derived.Test.YthgeacnemojjgaaOps
set_option linter.unusedVariables false
set_option linter.unusedSimpArgs false
set_option maxRecDepth 20000
namespace Go.Proofs.Ythgeacnemojjgaa
open Go Go.Proofs.YthgeacnemojjgaaV
theorem bneq (i j : Nat) (a b : Bool) : BinIs prog .neq 4 (.tmp i) (.tmp j) (.bool a) (.bool b) (a != b) := fun w => by cases a <;> cases b <;> kernel_rfl
structure PI (W : World) (DA DD : Nat → Prop) (a d : Nat) (Ma Md : List Pj) (V : World) : Prop where
  oa : OkM Ma
  od : OkM Md
  sa : Shw V DA a Ma
  sd : Dcw V DD d Md
  na : ∀ k, DA k → W.heap.size ≤ k
  nd : ∀ k, DD k → W.heap.size ≤ k
  sep : ∀ k, DA k → ¬ DD k
  frm : Frm none_ W V
theorem PI.mod {W V V' : World} {DA DD F : Nat → Prop} {a d : Nat} {Ma Md : List Pj} (h : PI W DA DD a d Ma Md V) (hm : Frm F V V') (h1 : ∀ k, F k → ¬ DA k) (h2 : ∀ k, F k → ¬ DD k) (h3 : ∀ k, F k → W.heap.size ≤ k) : PI W DA DD a d Ma Md V' :=
  ⟨h.oa, h.od, h.sa.mod hm (fun k hk hf => h1 k hf hk), h.sd.mod hm (fun k hk hf => h2 k hf hk), h.na, h.nd, h.sep, h.frm.trans hm (fun _ _ h => h) (fun k hk hf => by have := h3 k hf; omega)⟩
theorem PI.n {W V V' : World} {DA DD : Nat → Prop} {a d : Nat} {Ma Md : List Pj} (h : PI W DA DD a d Ma Md V) (hm : Frm none_ V V') : PI W DA DD a d Ma Md V' := h.mod hm (fun _ h => h.elim) (fun _ h => h.elim) (fun _ h => h.elim)
theorem PI.went1 {W V V' : World} {DA DD : Nat → Prop} {a d : Nat} {Ma Md M' : List Pj} (h : PI W DA DD a d Ma Md V) (hw : Went V DA a M' V') (ok : OkM M') : Frm DA V V' ∧ ∃ DA', PI W DA' DD a d M' Md V' ∧ ∀ k, DA' k → DA k ∨ V.heap.size ≤ k := by
  obtain ⟨hf, DA', hs, hsub⟩ := hw
  have hz := h.frm.size
  refine ⟨hf, DA', ⟨ok, h.od, hs, h.sd.mod hf (fun k hk hh => h.sep k hh hk), fun k hk => ?_, h.nd, fun k hk hh => ?_, h.frm.trans hf (fun _ _ h => h) (fun k hk hh => by have := h.na k hh; omega)⟩, hsub⟩
  · rcases hsub k hk with h' | h'
    · exact h.na k h'
    · omega
  · rcases hsub k hk with h' | h'
    · exact h.sep k h' hh
    · have := h.sd.lt k hh; omega
theorem PI.went2 {W V V' : World} {DA DD : Nat → Prop} {a d : Nat} {Ma Md M' : List Pj} (h : PI W DA DD a d Ma Md V) (hw : WentD V DD d M' V') (ok : OkM M') : Frm DD V V' ∧ ∃ DD', PI W DA DD' a d Ma M' V' ∧ ∀ k, DD' k → DD k ∨ V.heap.size ≤ k := by
  obtain ⟨hf, DD', hs, hsub⟩ := hw
  have hz := h.frm.size
  refine ⟨hf, DD', ⟨h.oa, ok, h.sa.mod hf (fun k hk hh => h.sep k hk hh), hs, h.na, fun k hk => ?_, fun k hk hh => ?_, h.frm.trans hf (fun _ _ h => h) (fun k hk hh => by have := h.nd k hh; omega)⟩, hsub⟩
  · rcases hsub k hk with h' | h'
    · exact h.nd k h'
    · omega
  · rcases hsub k hh with h' | h'
    · exact h.sep k hk h'
    · have := h.sa.lt k hk; omega
/-- A block that neither holds. -/
structure Gd (V : World) (DA DD : Nat → Prop) (k : Nat) : Prop where
  a : ¬ DA k
  d : ¬ DD k
  lt : k < V.heap.size
theorem Gd.new {W V V' : World} {DA DD : Nat → Prop} {a d k : Nat} {Ma Md : List Pj} (h : PI W DA DD a d Ma Md V) (h1 : V.heap.size ≤ k) (h2 : k < V'.heap.size) : Gd V' DA DD k := ⟨fun hh => by have := h.sa.lt k hh; omega, fun hh => by have := h.sd.lt k hh; omega, h2⟩
theorem Gd.n {V V' : World} {DA DD F : Nat → Prop} {k : Nat} (h : Gd V DA DD k) (hm : Frm F V V') : Gd V' DA DD k := ⟨h.a, h.d, Nat.lt_of_lt_of_le h.lt hm.size⟩
theorem Gd.w1 {V V' : World} {DA DA' DD F : Nat → Prop} {k : Nat} (h : Gd V DA DD k) (hm : Frm F V V') (hs : ∀ k, DA' k → DA k ∨ V.heap.size ≤ k) : Gd V' DA' DD k := ⟨fun hh => by
  rcases hs k hh with h' | h'
  · exact h.a h'
  · have := h.lt; omega, h.d, Nat.lt_of_lt_of_le h.lt hm.size⟩
theorem Gd.w2 {V V' : World} {DA DD DD' F : Nat → Prop} {k : Nat} (h : Gd V DA DD k) (hm : Frm F V V') (hs : ∀ k, DD' k → DD k ∨ V.heap.size ≤ k) : Gd V' DA DD' k := ⟨h.a, fun hh => by
  rcases hs k hh with h' | h'
  · exact h.d h'
  · have := h.lt; omega, Nat.lt_of_lt_of_le h.lt hm.size⟩
theorem large_calls (w : World) (s : Sl) (l : List Stp) (hs : HasL w s 4 stc l) (hc : s.l ≤ 100000000000000) : Calls prog 22 #[.slice s.a s.l s.c] w fun e w' => ∃ c, e = .returned (.bool c) ∧ (c = false → l.length ≤ 4000 ∧ ∀ p ∈ l, p.l.l ≤ 4000) ∧ w' = w := by
  refine calls_ret (W22 (x0 := s) (Q := fun v w' => ∃ c, v = .bool c ∧ (c = false → l.length ≤ 4000 ∧ ∀ p ∈ l, p.l.l ≤ 4000) ∧ w' = w) ?_) (fun v w' ⟨c, h, h'⟩ => ⟨c, by rw [h], h'⟩)
  have hl := hs.len
  unfold F22
  refine ⟨fun n x i w' => ∃ (j k : Nat), i = (j : Int) ∧ x = (k : Int) ∧ j ≤ l.length ∧ l.length ≤ k ∧ k ≤ l.length + 8000 ∧ n = l.length - j ∧ (∀ p ∈ l.take j, p.l.l ≤ k ∨ 4000 ≤ k) ∧ w' = w, l.length, ⟨0, l.length, rfl, by rw [hl], by omega, by omega, by omega, by omega, by simp, rfl⟩, ?_⟩
  rintro n u x i w1 ⟨j, k, rfl, rfl, hj, hk1, hk2, rfl, hall, rfl⟩
  refine IfB.dec (fun hlt => IfB.dec (fun hlt2 => ?_) (fun hge2 => ⟨_, rfl, fun hf => ?_, rfl⟩)) (fun hge => ⟨_, rfl, fun hf => ?_, rfl⟩)
  · obtain ⟨q, p, hq, hp, _, hld, _⟩ := hs.at (by decide) (i := (j : Int)) (by omega) (by omega)
    have h3 := hld 3 _ rfl
    rw [Int.toNat_natCast] at hp
    refine ⟨q, hq, by omega, by omega, p.l, h3, l.length - (j + 1), by omega, j + 1, k + min 4000 p.l.l, by rw [wi _ (by omega)]; omega, ?_, by omega, by omega, ?_, rfl, fun a ha => ?_, rfl⟩
    · rw [wi _ (by split <;> omega)]
      split <;> omega
    · omega
    · rw [List.take_add_one, hp] at ha
      rcases List.mem_append.1 ha with ha | ha
      · rcases hall a ha with h | h
        · left; omega
        · right; omega
      · simp at ha; subst ha
        by_cases h : a.l.l ≤ 4000
        · left; omega
        · right; omega
  · have hf := of_decide_eq_false hf; omega
  · have hf := of_decide_eq_false hf
    rw [List.take_of_length_le (by omega)] at hall
    refine ⟨by omega, fun p hp => ?_⟩
    rcases hall p hp with h | h <;> omega
/-- A row overwritten. -/
theorem scrub {w0 w : World} {r : Sl} {E : TypeId} {cs : List Value} {v : Value} (hr : Row w r E 1 cs) {j : Nat} (hj : j < cs.length) : ∃ g, r.a = some g ∧ Wr w (g.add ((j : Int).toNat * 1)) ∧ Row (w.setCell (g.add ((j : Int).toNat * 1)) v) r E 1 (cs.set j v) ∧ Frm (fun k => r.blk = some k) w (w.setCell (g.add ((j : Int).toNat * 1)) v) := by
  obtain ⟨g, hg, hw, hs⟩ := hr.wr hj
  have ea : (⟨g, 0, none⟩ : Addr).add ((j : Int).toNat * 1) = ⟨g, j, none⟩ := by rw [addr_add, Int.toNat_natCast, Nat.mul_one, Nat.zero_add]
  refine ⟨_, hg, by rw [ea]; exact hw, by rw [ea]; exact hs v, ?_⟩
  rw [ea]
  exact (mod_setCell (a := ⟨g, j, none⟩)).mono fun k _ hk => by
    have hk : k = g := hk
    subst hk; simp [Sl.blk, hg]
end Go.Proofs.Ythgeacnemojjgaa
