/- The law StrideTurns walked. -/
import Derived.Test.YthgeacnemojjgaaTu
set_option linter.unusedVariables false
set_option linter.unusedSimpArgs false
set_option maxRecDepth 20000
namespace Go.Proofs.Ythgeacnemojjgaa
open Go Go.Proofs.YthgeacnemojjgaaV
theorem namT_at {k i : Nat} (hi : i < 4) : namT[i]? = some (nmT i) := by
  have hh : i = 0 ∨ i = 1 ∨ i = 2 ∨ i = 3 := by omega
  rcases hh with rfl | rfl | rfl | rfl <;> rfl
theorem iv_at {w : World} {x : Sl} {l : List Int} (h : HasL w x 1 (fun n : Int => [Value.int .i64 n]) l) {i : Nat} (hi : i < x.l) : ∃ q, x.a = some q ∧ Ld w (q.add ((i : Int).toNat * 1)) (.int .i64 (l.getD i 0)) := by
  obtain ⟨q, n, hq, hn, _, hld, _⟩ := h.at (by decide) (i := (i : Int)) (by omega) (by omega)
  rw [Int.toNat_natCast] at hn
  refine ⟨q, hq, ?_⟩
  have := hld 0 _ rfl
  rw [add_zero] at this
  rw [List.getD_eq_getElem?_getD, hn]
  exact this
theorem mulB {a b : Int} {A B : Int} (h1 : 0 ≤ a ∧ a ≤ A) (h2 : 0 ≤ b ∧ b ≤ B) : 0 ≤ a * b ∧ a * b ≤ A * B := ⟨Int.mul_nonneg h1.1 h2.1, Int.mul_le_mul h1.2 h2.2 h2.1 (by omega)⟩
theorem turns_law (W : World) (x : Sl) (l : List Int) (hx : HasL W x 1 (fun n : Int => [Value.int .i64 n]) l ∧ (∀ a ∈ l, -9223372036854775808 ≤ a ∧ a ≤ 9223372036854775807) ∧ x.l ≤ x.c ∧ x.c ≤ maxLen ∧ x.c * 8 ≤ 140737488351232) (t : Int) (ht : -9223372036854775808 ≤ t ∧ t ≤ 9223372036854775807) : Calls prog 7 #[.slice x.a x.l x.c, .int .i64 t] W fun e w' => e = .returned (.bool true) ∧ Frm none_ W w' := by
  refine callsRet (W7 (x0 := x) (x1 := t) (Q := fun v w' => v = .bool true ∧ Frm none_ W w') ?_) (fun v w' ⟨h, h'⟩ => ⟨by rw [h], h'⟩)
  have hxh := hx.1
  obtain ⟨k, hk⟩ : ∃ k : Nat, k = min 4 x.l := ⟨_, rfl⟩
  have ek : (if (4 : Int) < ((x.l : Nat) : Int) then (4 : Int) else ((x.l : Nat) : Int)) = (k : Int) := by split <;> omega
  unfold F7
  rw [ek]
  refine ⟨fun c V => Frm none_ W V ∧ (c = false → 1 ≤ k), ?_, ?_⟩
  · refine (works_calls W).mono ?_
    rintro _ w1 ⟨rfl, f1⟩
    refine ⟨_, rfl, IfB.f rfl ⟨f1, fun h => ?_⟩⟩
    have : ¬ (k : Int) = 0 := by simpa using h
    omega
  rintro u c w1 ⟨f1, hc⟩
  refine IfB.intro (fun _ => ?_) (fun hcf => ?_)
  · refine (works_calls w1).mono ?_
    rintro _ w2 ⟨rfl, f2⟩
    exact ⟨_, rfl, rfl, f1.n f2⟩
  have hk1 := hc hcf
  have hk4 : k ≤ 4 := by omega
  have hkx : k ≤ x.l := by omega
  obtain ⟨T, hT⟩ : ∃ T : Int, T = IntKind.wrap .i64 (Int.tmod (IntKind.wrap .u64 t) (301 : Int)) := ⟨_, rfl⟩
  have hT0 : 0 ≤ T ∧ T ≤ 300 := by
    rw [hT, wu64m]
    have h0 : 0 ≤ t % 18446744073709551616 := Int.emod_nonneg _ (by omega)
    rw [Int.tmod_eq_emod_of_nonneg h0]
    have h1 := Int.emod_nonneg (t % 18446744073709551616) (show (301 : Int) ≠ 0 by omega)
    have h2 := Int.emod_lt_of_pos (t % 18446744073709551616) (show (0 : Int) < 301 by omega)
    rw [wi _ (by omega)]
    omega
  rw [← hT]
  refine ⟨by decide, litT namT (by decide) (by decide) (by kernel_rfl) rfl fun s U hs hsn fs => ?_⟩
  have fU : Frm none_ W U := f1.n fs
  have hsl : s.l = 4 := by have := has_sv hs.has; exact this
  have hsc : s.l ≤ s.c := by
    rcases hs.cases with ⟨rfl, _⟩ | ⟨g, cur, ha, hB, h3, _⟩
    · exact Nat.le_refl _
    · exact h3
  have hsb := hs.lt
  obtain ⟨sh, hsh⟩ : ∃ sh : Nat → Int, sh = fun i => shV (l.getD i 0) := ⟨_, rfl⟩
  have hsh1 : ∀ i, 1 ≤ sh i ∧ sh i ≤ 1000 := fun i => by rw [hsh]; exact shV_le _
  have hS : 0 ≤ sumT sh k ∧ sumT sh k ≤ 4000 := by
    have key : ∀ k : Nat, 0 ≤ sumT sh k ∧ sumT sh k ≤ 1000 * k := by
      intro k
      induction k with
      | zero => simp [sumT]
      | succ k ih => have := hsh1 k; simp only [sumT]; omega
    have := key k
    omega
  refine new1 (W := U) fun V0 a h0 => ⟨_, rfl, ?_⟩
  refine ⟨fun n y i V => ∃ j : Nat, i = (j : Int) ∧ j ≤ k ∧ n = k - j ∧ y = sumT sh j ∧ Hs U a (MT j false (fun _ => 0) sh) V, k, ⟨0, rfl, by omega, rfl, rfl, h0⟩, ?_⟩
  rintro n u1 y i V ⟨j, rfl, hj, rfl, rfl, h⟩
  refine IfB.dec (fun hlt => ?_) (fun hge => ?_)
  · have hjk : j < k := by omega
    obtain ⟨q, nm, hq, hnm, hld⟩ := sv_at hs.has (i := j) (by omega)
    rw [namT_at (k := k) (by omega)] at hnm
    cases hnm
    obtain ⟨q2, hq2, hld2⟩ := iv_at hxh (i := j) (by omega)
    have rd1 : ∀ w', Frm none_ U w' → Ld w' (q.add ((j : Int).toNat * 1)) (.string (nmT j)) := fun w' hf => by
      obtain ⟨q', nm', hq', hnm', hld'⟩ := sv_at (hs.has.mod hf (fun _ _ h => h)) (i := j) (by omega)
      rw [hq] at hq'; cases hq'
      rw [namT_at (k := k) (by omega)] at hnm'; cases hnm'
      exact hld'
    have rd2 : ∀ w', Frm none_ U w' → Ld w' (q2.add ((j : Int).toNat * 1)) (.int .i64 (l.getD j 0)) := fun w' hf => by
      obtain ⟨q', hq', hld'⟩ := iv_at (hxh.mod (fU.n hf) (fun _ _ h => h)) (i := j) (by omega)
      rw [hq2] at hq'; cases hq'
      exact hld'
    refine ⟨fun w' => Frm none_ U w', h.frm.drew, q, hq, by omega, by omega, nmT j, rd1, q2, hq2, by omega, by omega, l.getD j 0, rd2, (share_calls V.drew _).mono ?_⟩
    rintro _ V1 ⟨rfl, e⟩
    subst e
    refine ⟨_, rfl, h.frm.drew, ?_⟩
    have es : shV (l.getD j 0) = sh j := by rw [hsh]
    rw [es]
    refine set1 (h.n (frm_drew _)) (MT_set (by omega) (hsh1 j)) fun V2 h2 => ⟨_, rfl, IfB.f rfl ⟨q2, hq2, by omega, by omega, _, rd2 V2 h2.frm, (share_calls V2 _).mono ?_⟩⟩
    rintro _ V3 ⟨rfl, e⟩
    subst e
    rw [es]
    have hsj : 0 ≤ sumT sh j ∧ sumT sh j ≤ 4000 := by
      have key : ∀ k : Nat, 0 ≤ sumT sh k ∧ sumT sh k ≤ 1000 * k := by
        intro k
        induction k with
        | zero => simp [sumT]
        | succ k ih => have := hsh1 k; simp only [sumT]; omega
      have := key j
      omega
    have hj1 := hsh1 j
    exact ⟨_, rfl, k - (j + 1), by omega, j + 1, by rw [wi _ (by omega)]; omega, by omega, rfl, by rw [wi _ (by omega)]; rfl, h2⟩
  have hjk : j = k := by omega
  subst hjk
  refine ⟨fun n i V => ∃ (m : Nat) (w : Bool) (hd : Nat → Int), i = ((m + 1 : Nat) : Int) ∧ (m : Int) ≤ T ∧ n = T.toNat - m ∧ Hs U a (MT j w hd sh) V ∧ TI j hd sh m, T.toNat, ⟨0, false, fun _ => 0, rfl, by omega, rfl, h, ⟨fun _ _ => Int.le_refl _, ?_, fun i j _ _ => ?_⟩⟩, ?_⟩
  · have key : ∀ k : Nat, sumT (fun _ => 0) k = 0 := by
      intro k
      induction k with
      | zero => rfl
      | succ k ih => simp only [sumT, ih]; rfl
    rw [key]; rfl
  · have := hsh1 i; omega
  rintro n u2 i V1 ⟨m, w, hd, rfl, hmT, rfl, h1, hti⟩
  refine IfB.dec (fun hle => ?_) (fun hgt => ⟨rfl, fU.n h1.frm⟩)
  rw [slA_zero]
  have hpre : Has V1 ⟨s.a, ((j : Int)).toNat - 0, s.c - 0⟩ 1 (sv (namT.take j)) := by
    have := ((hs.has.mod h1.frm (fun _ _ h => h)).head (((j : Int)).toNat - 0) (s.c - 0) (by omega))
    rw [Nat.mul_one] at this
    rw [show sv (namT.take j) = (sv namT).take (((j : Int)).toNat - 0) by rw [Int.toNat_natCast, Nat.sub_zero]; simp [sv, List.map_take]]
    exact this
  obtain ⟨b, hb, hnx, hleast⟩ := MT_next hk4 hk1 h1.ok
  have hall : ∀ i, i < j → hd i ≤ (m : Int) := fun i hi => by have := sumT_ge hti.nn hi; rw [hti.sum] at this; exact this
  refine ⟨⟨by omega, by omega⟩, nextX h1 (x := ⟨s.a, ((j : Int)).toNat - 0, s.c - 0⟩) hpre (fun _ D hD1 hD2 k hk hh => by have := hsb k hk; have := hD2 k hh; omega) (by rw [List.length_take]; omega) hnx fun V2 h2 => ⟨_, _, rfl, fun c V => c = false ∧ Hs U a (MT j true (updT hd b) sh) V, ?_, ?_⟩⟩
  · refine IfB.f rfl (chg1 h2 (MT_chg hk4 hb (by have := hall b hb; omega)) fun V3 h3 => ⟨_, rfl, rfl, h3⟩)
  rintro u3 c V3 ⟨rfl, h3⟩
  have hti2 := hti.step hb (fun i _ => (hsh1 i).1) hleast
  have hall2 : ∀ i, i < j → updT hd b i ≤ ((m + 1 : Nat) : Int) := fun i hi => by have := sumT_ge hti2.nn hi; rw [hti2.sum] at this; exact this
  generalize updT hd b = hd2 at *
  refine IfB.f rfl ⟨fun n y i V => ∃ z : Nat, i = (z : Int) ∧ z ≤ j ∧ n = j - z ∧ y = sumT hd2 z ∧ Hs U a (MT j true hd2 sh) V, j, ⟨0, rfl, by omega, rfl, rfl, h3⟩, ?_⟩
  rintro n u4 y i V4 ⟨z, rfl, hz, rfl, rfl, h4⟩
  have hsz : 0 ≤ sumT hd2 z ∧ sumT hd2 z ≤ 301 * z := by
    have key : ∀ z : Nat, z ≤ j → 0 ≤ sumT hd2 z ∧ sumT hd2 z ≤ 301 * z := by
      intro z
      induction z with
      | zero => intro _; simp [sumT]
      | succ z ih => intro hz; have := ih (by omega); have := hall2 z (by omega); have := hti2.nn z (by omega); simp only [sumT]; omega
    exact key z hz
  refine IfB.dec (fun hlt => ?_) (fun hge => ?_)
  · have hzj : z < j := by omega
    obtain ⟨q, nm, hq, hnm, hld⟩ := sv_at (hs.has.mod h4.frm (fun _ _ h => h)) (i := z) (by omega)
    rw [namT_at (k := j) (by omega)] at hnm
    cases hnm
    refine ⟨q, hq, by omega, by omega, nmT z, hld, had1 h4 (MT_had hk4 hzj) fun V5 h5 => ⟨_, _, _, rfl, IfB.f rfl ?_⟩⟩
    simp only
    have c1 := hall2 z hzj
    have c2 := hti2.nn z hzj
    have c3 := hsh1 z
    obtain ⟨b1, b2⟩ := hti2.bounds hk4 (fun i _ => (hsh1 i).1) hzj
    have p1 := mulB (a := hd2 z) (b := sumT sh j) (A := 301) (B := 4000) ⟨c2, by omega⟩ ⟨hS.1, hS.2⟩
    have p2 := mulB (a := ((m + 1 : Nat) : Int)) (b := sh z) (A := 301) (B := 1000) ⟨by omega, by omega⟩ ⟨by omega, c3.2⟩
    have p3 : -3 * 1000 ≤ (((m + 1 : Nat) : Int) - j + 1) * sh z ∧ (((m + 1 : Nat) : Int) - j + 1) * sh z ≤ 302 * 1000 := by
      have e : (((m + 1 : Nat) : Int) - j + 1) * sh z = ((m + 1 : Nat) : Int) * sh z - ((j : Int) - 1) * sh z := by rw [← Int.sub_mul]; congr 1; omega
      have p4 := mulB (a := (j : Int) - 1) (b := sh z) (A := 3) (B := 1000) ⟨by omega, by omega⟩ ⟨by omega, c3.2⟩
      rw [e]; omega
    have e1 : IntKind.wrap .i64 (hd2 z * sumT sh j) = hd2 z * sumT sh j := wi _ (by omega)
    have e2 : IntKind.wrap .i64 (((m + 1 : Nat) : Int) - (j : Int)) = ((m + 1 : Nat) : Int) - j := wi _ (by omega)
    have e3 : IntKind.wrap .i64 (((m + 1 : Nat) : Int) - (j : Int) + 1) = ((m + 1 : Nat) : Int) - j + 1 := wi _ (by omega)
    have e4 : IntKind.wrap .i64 ((((m + 1 : Nat) : Int) - (j : Int) + 1) * sh z) = (((m + 1 : Nat) : Int) - j + 1) * sh z := wi _ (by omega)
    have e5 : IntKind.wrap .i64 (((m + 1 : Nat) : Int) * sh z) = ((m + 1 : Nat) : Int) * sh z := wi _ (by omega)
    have e6 : IntKind.wrap .i64 (((m + 1 : Nat) : Int) * sh z + sumT sh j) = ((m + 1 : Nat) : Int) * sh z + sumT sh j := wi _ (by omega)
    rw [e1, e2, e3, e4, e5, e6]
    refine IfB.df (by omega) (IfB.df (by omega) ⟨j - (z + 1), by omega, z + 1, by rw [wi _ (by omega)]; omega, by omega, rfl, by rw [wi _ (by omega)]; rfl, h5⟩)
  · have hzj : z = j := by omega
    subst hzj
    rw [hti2.sum]
    exact IfB.f (by simp) ⟨T.toNat - (m + 1), by omega, m + 1, true, hd2, by rw [wi _ (by omega)]; omega, by omega, rfl, h4, hti2⟩
end Go.Proofs.Ythgeacnemojjgaa
