/- The law StrideFair walked. -/
import Derived.Test.YthgeacnemojjgaaFa
set_option linter.unusedVariables false
set_option linter.unusedSimpArgs false
set_option maxRecDepth 20000
namespace Go.Proofs.Ythgeacnemojjgaa
open Go Go.Proofs.YthgeacnemojjgaaV
def namF : List ByteArray := [⟨#[109]⟩, ⟨#[97]⟩, ⟨#[122]⟩, ⟨#[98]⟩]
theorem namF_at {i : Nat} (hi : i < 4) : namF[i]? = some (nmF i) := by
  have hh : i = 0 ∨ i = 1 ∨ i = 2 ∨ i = 3 := by omega
  rcases hh with rfl | rfl | rfl | rfl <;> rfl
/-- What is told on behind a list of names. -/
theorem more {w w' : World} {x y : Sl} {o o' : List ByteArray} {w0 : World} (hx : Row w x 9 1 (sv o)) (hxn : New w0 x) (hf0 : Frm none_ w0 w) (hy : Row w' y 9 1 (sv o')) (hf : Frm none_ w w') (hl : o.length ≤ 100000) (hl' : o'.length ≤ 100000) {K : Sl → World → Prop} (hk : ∀ t w2, Row w2 t 9 1 (sv (o ++ o')) → New w0 t → Frm none_ w0 w2 → K t w2) :
    RunT prog .slice (Builtin.append_ #[28, 28] 28 #[.slice x.a x.l x.c, .slice y.a y.l y.c]) w' K := app2 hx hxn hf0 hy hf hl hl' hk
theorem fair_law (W : World) (xs : List Int) (hxs : xs.length = 4) (y : Sl) (ob : List UInt8) (hy : HasL W y 1 (fun b : UInt8 => [Value.int .u8 (b.toNat : Int)]) ob ∧ (∀ a ∈ ob, True) ∧ y.l ≤ y.c ∧ y.c ≤ maxLen ∧ y.c * 1 ≤ 140737488351232)
    (z : Sl) (cs : List Int) (hz : HasL W z 1 (fun n : Int => [Value.int .u16 n]) cs ∧ (∀ a ∈ cs, 0 ≤ a ∧ a ≤ 65535) ∧ z.l ≤ z.c ∧ z.c ≤ maxLen ∧ z.c * 2 ≤ 140737488351232) :
    Calls prog 6 #[.agg (xs.map fun n => Value.int .i64 n).toArray, .slice y.a y.l y.c, .slice z.a z.l z.c] W fun e w' => e = .returned (.bool true) ∧ Frm none_ W w' := by
  refine callsRet (W6 (x0 := (xs.map fun n => Value.int .i64 n).toArray) (x1 := y) (x2 := z) (Q := fun v w' => v = .bool true ∧ Frm none_ W w') ?_) (fun v w' ⟨h, h'⟩ => ⟨by rw [h], h'⟩)
  have hyh := hy.1
  have hzh := hz.1
  unfold F6
  intro b3 w0 hN
  have hb3 : b3 = W.heap.size := hN.2
  have f0 : Frm none_ W w0 := hN.mod none_
  have hB : Blk w0 b3 (xs.map fun n => Value.int .i64 n).toArray 54 := hN.blk
  refine ⟨fun c V => Frm none_ w0 V ∧ (c = false → y.l ≤ 300), ?_, ?_⟩
  · refine (works_calls w0).mono ?_
    rintro _ w1 ⟨rfl, f1⟩
    refine ⟨_, rfl, IfB.f rfl ⟨f1, fun h => ?_⟩⟩
    have := of_decide_eq_false h
    omega
  rintro u c w1 ⟨f1, hc⟩
  refine IfB.intro (fun _ => ?_) (fun hcf => ?_)
  · refine (works_calls w1).mono ?_
    rintro _ w2 ⟨rfl, f2⟩
    exact ⟨_, rfl, rfl, (f0.n f1).n f2⟩
  have hy300 := hc hcf
  refine litT namF (by decide) (by decide) (by kernel_rfl) rfl fun s U hs hsn fs => ?_
  have f1U : Frm none_ w0 U := f1.n fs
  have fU : Frm none_ W U := f0.n f1U
  have hBU := hB.mod f1U (fun h => h)
  have hsl : s.l = 4 := by have := has_sv hs.has; exact this
  obtain ⟨sh, hsh⟩ : ∃ sh : Nat → Int, sh = fun i => shV (xs.getD i 0) := ⟨_, rfl⟩
  have hsh1 : ∀ i, 1 ≤ sh i ∧ sh i ≤ 1000 := fun i => by rw [hsh]; exact shV_le _
  refine new1 (W := U) fun V0 a h0 => ⟨_, rfl, ?_⟩
  refine ⟨fun n i V => ∃ j : Nat, i = (j : Int) ∧ j ≤ 4 ∧ n = 4 - j ∧ Hs U a (FS j sh) V, 4, ⟨0, rfl, by omega, rfl, h0⟩, ?_⟩
  rintro n u1 i V ⟨j, rfl, hj, rfl, h⟩
  refine IfB.dec (fun hlt => ?_) (fun hge => ?_)
  · have hjk : j < 4 := by omega
    obtain ⟨q, nm, hq, hnm, hld⟩ := sv_at hs.has (i := j) (by omega)
    rw [namF_at hjk] at hnm
    cases hnm
    have rd1 : ∀ w', Frm none_ U w' → Ld w' (q.add ((j : Int).toNat * 1)) (.string (nmF j)) := fun w' hf => by
      obtain ⟨q', nm', hq', hnm', hld'⟩ := sv_at (hs.has.mod hf (fun _ _ h => h)) (i := j) (by omega)
      rw [hq] at hq'; cases hq'
      rw [namF_at hjk] at hnm'; cases hnm'
      exact hld'
    have rd2 : ∀ w', Frm none_ U w' → Ld w' ((⟨b3, 0, none⟩ : Addr).add ((j : Int).toNat * 1)) (.int .i64 (xs.getD j 0)) := fun w' hf => by
      rw [addr_add, Int.toNat_natCast, Nat.mul_one, Nat.zero_add]
      refine (hBU.mod hf (fun h => h)).ld ?_
      rw [List.getD_eq_getElem?_getD]
      obtain ⟨v, hv⟩ : ∃ v, xs[j]? = some v := ⟨_, List.getElem?_eq_getElem (by omega)⟩
      simp [hv]
    refine ⟨fun w' => Frm none_ U w', h.frm.drew, q, hq, by omega, by omega, nmF j, rd1, by omega, by omega, xs.getD j 0, rd2, (share_calls V.drew _).mono ?_⟩
    rintro _ V1 ⟨rfl, e⟩
    subst e
    refine ⟨_, rfl, h.frm.drew, ?_⟩
    have es : shV (xs.getD j 0) = sh j := by rw [hsh]
    rw [es]
    exact set1 (h.n (frm_drew _)) (FS_set hjk (hsh1 j)) fun V2 h2 => ⟨_, rfl, IfB.f rfl ⟨4 - (j + 1), by omega, j + 1, by rw [wi _ (by omega)]; omega, by omega, rfl, h2⟩⟩
  have hjk : j = 4 := by omega
  subst hjk
  have m0 := hsh1 0
  have a0 := hsh1 1
  refine ⟨fun n most i V => ∃ (j : Nat) (M : List Pj) (hm ha : Int) (w : Bool), i = (j : Int) ∧ j ≤ y.l ∧ n = y.l - j ∧ 0 ≤ most ∧ most ≤ 1000 ∧ Hs U a M V ∧ FJ M (sh 0) (sh 1) hm ha w ∧ 0 ≤ hm ∧ hm ≤ 1000 * j ∧ 0 ≤ ha ∧ ha ≤ 1000 * j ∧ hm * sh 1 - ha * sh 0 ≤ most * sh 1 ∧ ha * sh 0 - hm * sh 1 ≤ most * sh 0, y.l, ⟨0, _, 0, 0, false, rfl, by omega, rfl, by omega, by omega, h, ⟨⟨_, _, rfl, rfl, rfl, fun _ => ⟨rfl, rfl⟩⟩⟩, by omega, by omega, by omega, by omega, by simp, by simp⟩, ?_⟩
  rintro n u2 most i V1 ⟨j, M, hm, ha, w, rfl, hj, rfl, hm0, hm1, h1, hJ, hb1, hb2, hb3', hb4, hb5, hb6⟩
  refine IfB.dec (fun hlt => ?_) (fun hge => ⟨rfl, fU.n h1.frm⟩)
  refine litT [⟨#[109]⟩, ⟨#[97]⟩] (by decide) (by decide) (by kernel_rfl) rfl fun t V2 ht htn f2 => ?_
  have rdo : ∀ V', Frm none_ V1 V' → ∃ p56, y.a = some p56 ∧ 0 ≤ (j : Int) ∧ (j : Int) < ((y.l : Nat) : Int) ∧ ∃ t57 : Int, Ld V' (p56.add ((j : Int).toNat * 1)) (.int .u8 t57) := by
    intro V' hf
    obtain ⟨q, b, hq, _, _, hld, _⟩ := (hyh.mod (fU.n (h1.frm.n hf)) (fun _ _ h => h)).at (by decide) (i := (j : Int)) (by omega) (by omega)
    have := hld 0 _ rfl
    rw [add_zero] at this
    exact ⟨q, hq, by omega, by omega, _, this⟩
  obtain ⟨p1, hp1, g1, g2, o1, ho1⟩ := rdo V2 f2
  refine ⟨fun x V => ∃ o : List ByteArray, Row V x 9 1 (sv o) ∧ New V1 x ∧ Frm none_ V1 V ∧ o.length ≤ 3 ∧ (⟨#[109]⟩ : ByteArray) ∈ o ∧ (⟨#[97]⟩ : ByteArray) ∈ o, ⟨p1, hp1, g1, g2, o1, ho1, IfB.intro (fun _ => ?_) (fun _ => ⟨_, ht, htn, f2, by simp, by simp, by simp⟩)⟩, ?_⟩
  · refine litT [⟨#[122]⟩] (by decide) (by decide) (by kernel_rfl) rfl fun t3 V3 ht3 hn3 f3 => ?_
    refine app2 ht htn f2 ht3 f3 (by simp) (by simp) ?_
    intro t4 V4 ht4 hn4 f4
    exact ⟨_, ht4, hn4, f4, by simp, by simp, by simp⟩
  rintro u3 x V3 ⟨o, hx, hxn, f3, hol, hom, hoa⟩
  obtain ⟨p2, hp2, g3, g4, o2, ho2⟩ := rdo V3 f3
  refine ⟨fun x V => ∃ o : List ByteArray, Row V x 9 1 (sv o) ∧ New V1 x ∧ Frm none_ V1 V ∧ o.length ≤ 4 ∧ (⟨#[109]⟩ : ByteArray) ∈ o ∧ (⟨#[97]⟩ : ByteArray) ∈ o, ⟨p2, hp2, g3, g4, o2, ho2, IfB.intro (fun _ => ?_) (fun _ => ⟨o, hx, hxn, f3, by omega, hom, hoa⟩)⟩, ?_⟩
  · refine litT [⟨#[98]⟩] (by decide) (by decide) (by kernel_rfl) rfl fun t3 V4 ht3 hn3 f4 => ?_
    refine app2 hx hxn f3 ht3 f4 (by omega) (by simp) ?_
    intro t4 V5 ht4 hn4 f5
    exact ⟨_, ht4, hn4, f5, by simp; omega, List.mem_append.2 (.inl hom), List.mem_append.2 (.inl hoa)⟩
  rintro u4 x2 V4 ⟨o', hx', hxn', f4, hol', hom', hoa'⟩
  -- what is charged is told first
  obtain ⟨ch, hch⟩ : ∃ ch : Int, ch = if (j : Int) < ((z.l : Nat) : Int) then Int.tmod (cs.getD j 0) 1001 else 1 := ⟨_, rfl⟩
  have hcs : (j : Int) < ((z.l : Nat) : Int) → 0 ≤ cs.getD j 0 ∧ cs.getD j 0 ≤ 65535 := by
    intro hlt2
    have hl := hzh.len
    have : j < cs.length := by omega
    rw [List.getD_eq_getElem?_getD, List.getElem?_eq_getElem this]
    exact hz.2.1 _ (List.getElem_mem this)
  have hch1 : 0 ≤ ch ∧ ch ≤ 1000 := by
    rw [hch]
    split
    · rename_i h
      obtain ⟨c0, c1⟩ := hcs h
      rw [Int.tmod_eq_emod_of_nonneg c0]
      have c2 := Int.emod_nonneg (cs.getD j 0) (show (1001 : Int) ≠ 0 by omega)
      have c3 := Int.emod_lt_of_pos (cs.getD j 0) (show (0 : Int) < 1001 by omega)
      omega
    · omega
  obtain ⟨q, M2, M3, hm', ha', e1, e2, hJ', hcase⟩ := fair_step h1.ok hJ hom' hoa' hch1 (by omega) (by omega)
  refine next1 h1 f4 hx' hxn' e1 (hws := by omega) fun V5 h5 => ⟨_, _, rfl, ?_⟩
  refine ⟨fun c V => c = ch ∧ V = V5, IfB.dec (fun hlt2 => ?_) (fun hge2 => ⟨by rw [hch, if_neg hge2], rfl⟩), ?_⟩
  · obtain ⟨q', v, hq', hv, _, hld, _⟩ := (hzh.mod (fU.n h5.frm) (fun _ _ h => h)).at (by decide) (i := (j : Int)) (by omega) (by omega)
    have hld0 := hld 0 _ rfl
    rw [add_zero] at hld0
    rw [Int.toNat_natCast] at hv
    have ev : cs.getD j 0 = v := by rw [List.getD_eq_getElem?_getD, hv]; rfl
    obtain ⟨c0, c1⟩ := hcs hlt2
    refine ⟨q', hq', by omega, by omega, v, hld0, by decide, ?_, rfl⟩
    rw [hch, if_pos hlt2, ev, wi _ (by omega)]
  rintro u5 c V6 ⟨rfl, e⟩
  subst e
  refine ⟨fun b V => b = false ∧ Hs U a M3 V, IfB.f rfl (chg1 h5 e2 fun V7 h7 => ⟨_, rfl, rfl, h7⟩), ?_⟩
  rintro u6 b V7 ⟨rfl, h7⟩
  obtain ⟨pb, pz, eM, _⟩ := hJ'.ex
  have hadm : hadP ⟨#[109]⟩ M3 = (sh 0, hm', true) := hadP_at (p := ⟨⟨#[109]⟩, sh 0, hm', true⟩) h7.ok.srt (i := 2) (by rw [eM]; rfl)
  have hada : hadP ⟨#[97]⟩ M3 = (sh 1, ha', true) := hadP_at (p := ⟨⟨#[97]⟩, sh 1, ha', true⟩) h7.ok.srt (i := 0) (by rw [eM]; rfl)
  refine IfB.f rfl (had1 h7 hadm fun V8 h8 => ⟨_, _, _, rfl, had1 h8 hada fun V9 h9 => ⟨_, _, _, rfl, IfB.f rfl (IfB.f rfl ?_)⟩⟩)
  simp only
  obtain ⟨most', hmost⟩ : ∃ most' : Int, most' = if c > most then c else most := ⟨_, rfl⟩
  have hmo : 0 ≤ most' ∧ most' ≤ 1000 ∧ most ≤ most' ∧ c ≤ most' := by rw [hmost]; split <;> omega
  rw [← hmost]
  have nb1 : 0 ≤ hm' ∧ hm' ≤ 1000 * ((j + 1 : Nat) : Int) ∧ 0 ≤ ha' ∧ ha' ≤ 1000 * ((j + 1 : Nat) : Int) := by
    rcases hcase with ⟨r1, r2, _⟩ | ⟨r1, r2, _⟩ | ⟨r1, r2⟩ <;> omega
  have q1 : most * sh 1 ≤ most' * sh 1 := Int.mul_le_mul_of_nonneg_right hmo.2.2.1 (by omega)
  have q2 : most * sh 0 ≤ most' * sh 0 := Int.mul_le_mul_of_nonneg_right hmo.2.2.1 (by omega)
  have q3 : c * sh 1 ≤ most' * sh 1 := Int.mul_le_mul_of_nonneg_right hmo.2.2.2 (by omega)
  have q4 : c * sh 0 ≤ most' * sh 0 := Int.mul_le_mul_of_nonneg_right hmo.2.2.2 (by omega)
  have q5 : 0 ≤ c * sh 1 := Int.mul_nonneg hch1.1 (by omega)
  have q6 : 0 ≤ c * sh 0 := Int.mul_nonneg hch1.1 (by omega)
  have fin : hm' * sh 1 - ha' * sh 0 ≤ most' * sh 1 ∧ ha' * sh 0 - hm' * sh 1 ≤ most' * sh 0 := by
    rcases hcase with ⟨rfl, rfl, hle⟩ | ⟨rfl, rfl, hle⟩ | ⟨rfl, rfl⟩
    · rw [Int.add_mul]; omega
    · rw [Int.add_mul]; omega
    · omega
  have p1 := mulB (a := hm') (b := sh 1) (A := 301000) (B := 1000) ⟨by omega, by omega⟩ ⟨by omega, a0.2⟩
  have p2 := mulB (a := ha') (b := sh 0) (A := 301000) (B := 1000) ⟨by omega, by omega⟩ ⟨by omega, m0.2⟩
  have p3 := mulB (a := most') (b := sh 1) (A := 1000) (B := 1000) ⟨by omega, by omega⟩ ⟨by omega, a0.2⟩
  have p4 := mulB (a := most') (b := sh 0) (A := 1000) (B := 1000) ⟨by omega, by omega⟩ ⟨by omega, m0.2⟩
  rw [wi (hm' * sh 1) (by omega), wi (ha' * sh 0) (by omega), wi (most' * sh 1) (by omega), wi (most' * sh 0) (by omega), wi (hm' * sh 1 - ha' * sh 0) (by omega), wi (ha' * sh 0 - hm' * sh 1) (by omega)]
  exact IfB.df (by omega) (IfB.df (by omega) ⟨y.l - (j + 1), by omega, j + 1, M3, hm', ha', true, by rw [wi _ (by omega)]; omega, by omega, rfl, hmo.1, hmo.2.1, h9, hJ', nb1.1, nb1.2.1, nb1.2.2.1, nb1.2.2.2, fin.1, fin.2⟩)
end Go.Proofs.Ythgeacnemojjgaa
