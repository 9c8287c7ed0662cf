/- Tail; what is done to the document's log, call by call. -/
import Derived.Test.YtmcdeldjgfapbaaLc
set_option linter.unusedVariables false
set_option linter.unusedSimpArgs false
set_option maxRecDepth 20000
namespace Go.Proofs.Ytmcdeldjgfapbaa
open Go Go.Proofs.YtmcdeldjgfapbaaV
theorem szs_split (ps : List ByteArray) (j : Nat) : szs ps = szs (ps.take j) + szs (ps.drop j) := by
  unfold szs
  rw [← List.sum_append, ← List.map_append, List.take_append_drop]
theorem txt_split (ps : List ByteArray) (j : Nat) : txt ps = txt (ps.take j) ++ txt (ps.drop j) := by
  unfold txt
  rw [← List.flatMap_append, List.take_append_drop]
theorem szs_drop1 {ps : List ByteArray} {j : Nat} {p : ByteArray} (h : ps[j]? = some p) : szs (ps.drop j) = p.size + szs (ps.drop (j + 1)) := by
  obtain ⟨h1, h2⟩ := List.getElem?_eq_some_iff.1 h
  rw [List.drop_eq_getElem_cons h1, h2]
  simp [szs]
theorem tail_calls (w : World) (b : Nat) (s : Sl) (ps : List ByteArray) (h : LgS w b s ps) (hn : ps.length ≤ 100000) (hz : szs ps ≤ 1000000000000) (n : Int) (hmax : n ≤ 9223372036854775807) : Calls prog 26 #[.pointer (some ⟨b, 0, none⟩), .int .i64 n] w fun e w' => e = .returned (.string (str (tailL (txt ps) n))) ∧ Frm none_ w w' := by
  refine calls_ret (W26 (x0 := some ⟨b, 0, none⟩) (x1 := n) (Q := fun v w' => v = .string (str (tailL (txt ps) n)) ∧ Frm none_ w w') ?_) (fun v w' ⟨h, h'⟩ => ⟨by rw [h], h'⟩)
  have hl := h.len
  have hlc : s.l ≤ s.c ∧ ∀ a, s.a = some a → a.spot = none := by
    rcases h.row.cases with ⟨rfl, _⟩ | ⟨g, cur, ha, hB, h3, _⟩
    · exact ⟨Nat.le_refl _, fun a ha => by cases ha⟩
    · exact ⟨h3, fun a ha' => by rw [ha] at ha'; cases ha'; rfl⟩
  unfold F26
  refine ⟨fun c w' => w' = w ∧ c = decide (n < 1), ⟨false, some23 b, IfB.f rfl ⟨rfl, rfl⟩⟩, ?_⟩
  rintro u c w1 ⟨rfl, rfl⟩
  refine IfB.dec (fun h0 => ⟨?_, Frm.refl _ _⟩) (fun h0 => ?_)
  · have : n.toNat = 0 := by omega
    unfold tailL
    rw [this, List.drop_of_length_le (by omega)]
    rfl
  refine ⟨_, rfl, s, h.blk.ld rfl, fun m i k w' => ∃ j : Nat, i = (j : Int) ∧ j ≤ ps.length ∧ j = m ∧ k = (szs (ps.drop j) : Int) ∧ w1 = w', ps.length, ⟨ps.length, by omega, Nat.le_refl _, rfl, by simp [szs], rfl⟩, ?_⟩
  rintro m u i k w2 ⟨j, rfl, hj, hmj, rfl, rfl⟩
  subst hmj
  have hsp := szs_split ps j
  have fin : (j = 0 ∨ n ≤ (szs (ps.drop j) : Int)) → ∃ p39, (some (⟨b, 0, none⟩ : Addr)) = some p39 ∧ ∃ t41 : Sl, Ld w1 (p39.add 0) (.slice t41.a t41.l t41.c) ∧ (0 ≤ (j : Int) ∧ (j : Int) ≤ ((t41.l : Nat) : Int)) ∧
      Calls prog 48 #[.slice (slA t41.a (((j : Int)).toNat) t41.c 1) (t41.l - (((j : Int)).toNat)) (t41.c - (((j : Int)).toNat)), .string (⟨#[]⟩ : ByteArray)] w1 fun en w1_2 => ∃ t44 : ByteArray, en = .returned (.string t44) ∧
      (0 ≤ (if IntKind.wrap .i64 ((szs (ps.drop j) : Int) - n) > (0 : Int) then IntKind.wrap .i64 ((szs (ps.drop j) : Int) - n) else (0 : Int)) ∧ (if IntKind.wrap .i64 ((szs (ps.drop j) : Int) - n) > (0 : Int) then IntKind.wrap .i64 ((szs (ps.drop j) : Int) - n) else (0 : Int)) ≤ ((t44.size : Nat) : Int)) ∧
      (Value.string (t44.extract (((if IntKind.wrap .i64 ((szs (ps.drop j) : Int) - n) > (0 : Int) then IntKind.wrap .i64 ((szs (ps.drop j) : Int) - n) else (0 : Int))).toNat) t44.size) = .string (str (tailL (txt ps) n)) ∧ Frm none_ w1 w1_2) := by
    intro hor
    refine ⟨_, rfl, s, h.blk.ld rfl, ⟨by omega, by omega⟩, ?_⟩
    rw [Int.toNat_natCast]
    have hcut := h.row.has.cut j (by omega) hlc.1
    have e1 : (sv ps).drop (j * 1) = sv (ps.drop j) := by rw [Nat.mul_one]; unfold sv; rw [List.map_drop]
    rw [e1] at hcut
    refine (join_calls w1 ⟨slA s.a j s.c 1, s.l - j, s.c - j⟩ (ps.drop j) hcut (by show s.l - j ≤ s.c - j; omega) (by rw [List.length_drop]; omega) (by omega) (fun k hk => ?_) (fun a ha => ?_)).mono ?_
    · have hk : (slA s.a j s.c 1).map (·.block) = some k := hk
      rw [slA_blk] at hk
      exact h.row.lt k hk
    · have ha : slA s.a j s.c 1 = some a := ha
      unfold slA at ha
      split at ha
      · exact hlc.2 a ha
      · cases hsa : s.a with
        | none => rw [hsa] at ha; cases ha
        | some a0 =>
          rw [hsa] at ha
          simp only [Option.map_some, Option.some.injEq] at ha
          have h0 := hlc.2 a0 hsa
          obtain ⟨b0, o0, s0⟩ := a0
          simp only at h0
          subst h0
          rw [addr_add] at ha
          rw [← ha]
    rintro _ w3 ⟨rfl, f3⟩
    have hlen : (str (txt (ps.drop j))).size = szs (ps.drop j) := by rw [str_size, txt_len]
    have hif : ∀ z : Int, z = (szs (ps.drop j) : Int) - n → (if z > 0 then z else 0) = ((szs (ps.drop j) - n.toNat : Nat) : Int) := by
      intro z hz
      split <;> omega
    refine ⟨_, rfl, ?_⟩
    rw [wi _ (by omega), hif _ rfl, hlen]
    refine ⟨⟨by omega, by omega⟩, ?_, f3⟩
    rw [Int.toNat_natCast]
    congr 1
    apply ByteArray.ext
    apply Array.toList_inj.1
    rw [ext_list, str_data, str_data, List.take_of_length_le (by rw [List.length_drop, txt_len]; omega)]
    unfold tailL
    rw [txt_len]
    rcases hor with rfl | hor
    · simp
    · rw [txt_split ps j, List.drop_append, txt_len]
      have : szs (ps.take j) ≤ szs ps - n.toNat := by omega
      rw [List.drop_of_length_le (l := txt (ps.take j)) (by rw [txt_len]; omega), List.nil_append]
      congr 1
      omega
  refine IfB.dec (fun h1 => IfB.dec (fun h2 => ?_) (fun h2 => fin (.inr (by omega)))) (fun h1 => fin (.inl (by omega)))
  obtain ⟨i, rfl⟩ : ∃ i, j = i + 1 := ⟨j - 1, by omega⟩
  have ew : IntKind.wrap .i64 (((i + 1 : Nat) : Int) - 1) = (i : Int) := by rw [wi _ (by omega)]; omega
  rw [ew]
  obtain ⟨q, p, hq, hp, hld⟩ := sv_at h.row.has (i := i) (by omega)
  have hd := szs_drop1 hp
  have hsi := szs_split ps i
  refine ⟨_, rfl, s, h.blk.ld rfl, q, hq, by omega, by omega, p, hld, i, by omega, i, rfl, by omega, rfl, ?_, rfl⟩
  rw [wi _ (by omega)]
  omega
end Go.Proofs.Ytmcdeldjgfapbaa
