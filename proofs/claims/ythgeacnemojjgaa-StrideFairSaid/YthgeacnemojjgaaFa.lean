/- The law StrideFair: the plain step; what its parameters read as. -/
import Derived.Test.YthgeacnemojjgaaTv
set_option linter.unusedVariables false
set_option linter.unusedSimpArgs false
set_option maxRecDepth 20000
namespace Go.Proofs.Ythgeacnemojjgaa
open Go Go.Proofs.YthgeacnemojjgaaV
theorem op54 (w : World) : Opens prog w 54 (fun l : List Int => l.map fun n => Value.int .i64 n) (fun l => l.length = 4) := by
  intro H enc fuel cs x hx hw
  have ht : prog.underlying 54 = some (.array 4 3) := by kernel_rfl
  obtain ⟨xs, m, rfl, rfl, hl, hxs, hf⟩ := DataW.trod_array ht hx
  have hc : prog.cellsOf 54 = 4 := by kernel_rfl
  have hc3 : prog.cellsOf 3 = 1 := by kernel_rfl
  rw [hc] at hl
  rw [hc3] at hf
  have get : ∀ i, i < 4 → ∃ n : Int, (cs.drop (i * 1)).take 1 = [Value.int .i64 n] := by
    intro i hi
    obtain ⟨y, hy⟩ : ∃ y, xs[i]? = some y := ⟨_, List.getElem?_eq_getElem (by omega)⟩
    have h1 := hf i hi
    rw [hy] at h1
    obtain ⟨a, ha, _⟩ := (opens_int (P := prog) (w := w) (t := 3) (k := .i64) (by kernel_rfl)) H enc m _ y h1 (fun n hn => hw n (by
      simp only [DataW.weights, ht]
      exact weightsAll_mem (List.mem_map.2 ⟨y, List.mem_of_getElem? hy, rfl⟩) hn))
    exact ⟨a, ha⟩
  obtain ⟨n0, h0⟩ := get 0 (by omega)
  obtain ⟨n1, h1⟩ := get 1 (by omega)
  obtain ⟨n2, h2⟩ := get 2 (by omega)
  obtain ⟨n3, h3⟩ := get 3 (by omega)
  refine ⟨[n0, n1, n2, n3], ?_, rfl⟩
  match cs, hl with
  | [c0, c1, c2, c3], _ =>
    simp at h0 h1 h2 h3
    simp [h0, h1, h2, h3]
theorem op55 (w : World) : Opens prog w 55 (fun p : Sl × List Int => [.slice p.1.a p.1.l p.1.c]) (fun p => HasL w p.1 1 (fun n : Int => [Value.int .u16 n]) p.2 ∧ (∀ a ∈ p.2, 0 ≤ a ∧ a ≤ 65535) ∧ p.1.l ≤ p.1.c ∧ p.1.c ≤ maxLen ∧ p.1.c * 2 ≤ 140737488351232) :=
  opens_slice Try.underlying55 (by kernel_rfl) (by kernel_rfl) ((opens_int (k := .u16) (by kernel_rfl)).map (fun n => n) fun n h => by
    have e1 : IntKind.min .u16 = 0 := by decide
    have e2 : IntKind.max .u16 = 65535 := by decide
    rw [e1, e2] at h
    exact ⟨rfl, h⟩)
theorem okWide_array {P : Program} {w : World} {r : Reach} {base : Nat} {t : TypeId} {v : Value} {n : Nat} {e : TypeId} (ht : P.underlying t = some (.array n e)) (h : Value.okWide P w r base t v) : ∃ cs, v = .agg cs ∧ cs.size = P.cellsOf t := by
  simp only [Value.okWide, ht] at h
  obtain ⟨cs, h1, h2, _⟩ := h
  exact ⟨cs, h1, h2⟩
/-! ### Two that wait at each Next -/
def nmF : Nat → ByteArray
  | 0 => ⟨#[109]⟩
  | 1 => ⟨#[97]⟩
  | 2 => ⟨#[122]⟩
  | _ => ⟨#[98]⟩
def FS (i : Nat) (s : Nat → Int) : List Pj := match i with
  | 0 => []
  | 1 => [⟨⟨#[109]⟩, s 0, 0, false⟩]
  | 2 => [⟨⟨#[97]⟩, s 1, 0, false⟩, ⟨⟨#[109]⟩, s 0, 0, false⟩]
  | 3 => [⟨⟨#[97]⟩, s 1, 0, false⟩, ⟨⟨#[109]⟩, s 0, 0, false⟩, ⟨⟨#[122]⟩, s 2, 0, false⟩]
  | _ => [⟨⟨#[97]⟩, s 1, 0, false⟩, ⟨⟨#[98]⟩, s 3, 0, false⟩, ⟨⟨#[109]⟩, s 0, 0, false⟩, ⟨⟨#[122]⟩, s 2, 0, false⟩]
theorem FS_set {i : Nat} (hi : i < 4) {s : Nat → Int} (hs : 1 ≤ s i ∧ s i ≤ 1000) : setP (nmF i) (s i) (FS i s) = (0, FS (i + 1) s) := by
  have hg : goodP (nmF i) := by
    have hh : i = 0 ∨ i = 1 ∨ i = 2 ∨ i = 3 := by omega
    rcases hh with rfl | rfl | rfl | rfl <;> decide
  unfold setP
  rw [if_neg (by simpa using hg), if_neg (by omega)]
  have hh : i = 0 ∨ i = 1 ∨ i = 2 ∨ i = 3 := by omega
  rcases hh with rfl | rfl | rfl | rfl <;> rfl
structure FJ (M : List Pj) (sm sa hm ha : Int) (w : Bool) : Prop where
  ex : ∃ pb pz : Pj, M = [⟨⟨#[97]⟩, sa, ha, w⟩, pb, ⟨⟨#[109]⟩, sm, hm, w⟩, pz] ∧ pb.n = ⟨#[98]⟩ ∧ pz.n = ⟨#[122]⟩ ∧ (w = false → pb.wt = false ∧ pz.wt = false)
theorem fair_lifted {M : List Pj} {sm sa hm ha : Int} {w : Bool} {ws : List ByteArray} (h : FJ M sm sa hm ha w) : FJ (lifted ws M) sm sa hm ha w := by
  obtain ⟨pb, pz, rfl, e1, e2, e3⟩ := h.ex
  unfold lifted
  split
  · exact h
  · rename_i m hm'
    obtain ⟨_, q, hq, hqw⟩ := lst_lt hm'
    rw [hq]
    simp only
    have hqt : q.wt = true := by simp only [Bool.and_eq_true] at hqw; exact hqw.2
    cases w with
    | false =>
      exfalso
      obtain ⟨e4, e5⟩ := e3 rfl
      have := List.mem_of_getElem? hq
      simp at this
      rcases this with rfl | rfl | rfl | rfl
      · cases hqt
      · rw [e4] at hqt; cases hqt
      · cases hqt
      · rw [e5] at hqt; cases hqt
    | true =>
      refine ⟨_, _, by simp only [List.map_cons, List.map_nil, Bool.not_true, Bool.and_false, if_false]; rfl, ?_, ?_, fun h => by cases h⟩
      · split
        · rw [lift_n]; exact e1
        · exact e1
      · split
        · rw [lift_n]; exact e2
        · exact e2
theorem fair_step {M : List Pj} {sm sa hm ha : Int} {w : Bool} (ok : OkM M) (h : FJ M sm sa hm ha w) {ws : List ByteArray} (h1 : (⟨#[109]⟩ : ByteArray) ∈ ws) (h2 : (⟨#[97]⟩ : ByteArray) ∈ ws) {n : Int} (hn : 0 ≤ n ∧ n ≤ 1000) (bm : hm ≤ 300000) (ba : ha ≤ 300000) :
    ∃ q M2 M3 hm' ha', nextP ws M = (q, 0, M2) ∧ chgP q n M2 = (0, M3) ∧ FJ M3 sm sa hm' ha' true ∧ ((hm' = hm + n ∧ ha' = ha ∧ hm * sa ≤ ha * sm) ∨ (hm' = hm ∧ ha' = ha + n ∧ ha * sm ≤ hm * sa) ∨ (hm' = hm ∧ ha' = ha)) := by
  have hl := fair_lifted (ws := ws) h
  have okl := lifted_ok ok ws
  have okn := nextP_ok ok ws
  obtain ⟨pb0, pz0, e0, _⟩ := h.ex
  obtain ⟨pb, pz, e, e1, e2, e3⟩ := hl.ex
  have wa : ∀ v h', isW ws ⟨⟨#[97]⟩, sa, h', v⟩ = true := fun v h' => isW_iff.2 h2
  have wm : ∀ v h', isW ws ⟨⟨#[109]⟩, sm, h', v⟩ = true := fun v h' => isW_iff.2 h1
  obtain ⟨b, p, hpb, hfp, he, hle⟩ := nextP_told ok (ws := ws) (i := 0) (p0 := ⟨⟨#[97]⟩, sa, ha, w⟩) (by rw [e0]; rfl) (wa _ _) ⟨⟨⟨#[97]⟩, sa, ha, w⟩, by rw [e]; rfl, wa _ _⟩
  rw [he] at okn
  have okp := okl.at hpb
  have hma : (⟨⟨#[97]⟩, sa, ha, w⟩ : Pj) ∈ lifted ws M := by rw [e]; simp
  have hmm : (⟨⟨#[109]⟩, sm, hm, w⟩ : Pj) ∈ lifted ws M := by rw [e]; simp
  have oka := okl.each _ hma
  have okm := okl.each _ hmm
  have la := hle _ hma (wa _ _)
  have lm := hle _ hmm (wm _ _)
  simp only at la lm
  have s1 := okm.s1
  have s2 := okp.s2
  have q1 := okp.s1
  have m0 := okm.h1
  simp only at s1 m0
  have bp : p.had ≤ 300000000 := by
    have a1 : p.had * 1 ≤ p.had * sm := Int.mul_le_mul_of_nonneg_left s1 okp.h1
    have a2 : hm * p.sh ≤ 300000 * 1000 := Int.mul_le_mul bm s2 (by omega) (by omega)
    omega
  have hp2 : ((lifted ws M).map (wtf ws))[b]? = some (wtf ws p) := by rw [List.getElem?_map, hpb]; rfl
  have oksr : Srt ((lifted ws M).map (wtf ws)) := okn.srt
  have hix : ix p.n ((lifted ws M).map (wtf ws)) = some b := ix_at (p := wtf ws p) oksr hp2
  have hc : chgP p.n n ((lifted ws M).map (wtf ws)) = (0, ((lifted ws M).map (wtf ws)).set b { wtf ws p with had := (wtf ws p).had + n }) := by
    unfold chgP
    rw [hix]
    simp only [hp2]
    rw [if_neg (by omega), if_neg (by show ¬ 2147483647 - p.had < n; omega)]
  have emap : (lifted ws M).map (wtf ws) = [⟨⟨#[97]⟩, sa, ha, true⟩, wtf ws pb, ⟨⟨#[109]⟩, sm, hm, true⟩, wtf ws pz] := by
    rw [e]
    simp only [List.map_cons, List.map_nil, wtf, wa, wm]
  have hb4 : b < 4 := by have := (List.getElem?_eq_some_iff.1 hpb).1; rw [e] at this; simpa using this
  have nb' : (wtf ws pb).n = ⟨#[98]⟩ := e1
  have nz' : (wtf ws pz).n = ⟨#[122]⟩ := e2
  rw [e] at hpb
  have hh : b = 0 ∨ b = 1 ∨ b = 2 ∨ b = 3 := by omega
  rw [emap] at hc
  rw [emap] at he
  rcases hh with rfl | rfl | rfl | rfl
  · cases hpb
    simp only at lm
    refine ⟨_, _, _, hm, ha + n, he, hc, ⟨wtf ws pb, wtf ws pz, ?_, nb', nz', fun h => by cases h⟩, .inr (.inl ⟨rfl, rfl, lm⟩)⟩
    simp only [List.set_cons_zero, wtf, wa]
  · obtain rfl : pb = p := by simpa using hpb
    refine ⟨_, _, _, hm, ha, he, hc, ⟨{ wtf ws pb with had := (wtf ws pb).had + n }, wtf ws pz, ?_, e1, nz', fun h => by cases h⟩, .inr (.inr ⟨rfl, rfl⟩)⟩
    simp only [List.set_cons_succ, List.set_cons_zero]
  · cases hpb
    simp only at la
    refine ⟨_, _, _, hm + n, ha, he, hc, ⟨wtf ws pb, wtf ws pz, ?_, nb', nz', fun h => by cases h⟩, .inl ⟨rfl, rfl, la⟩⟩
    simp only [List.set_cons_succ, List.set_cons_zero, wtf, wm]
  · obtain rfl : pz = p := by simpa using hpb
    refine ⟨_, _, _, hm, ha, he, hc, ⟨wtf ws pb, { wtf ws pz with had := (wtf ws pz).had + n }, ?_, nb', e2, fun h => by cases h⟩, .inr (.inr ⟨rfl, rfl⟩)⟩
    simp only [List.set_cons_succ, List.set_cons_zero]
end Go.Proofs.Ythgeacnemojjgaa
