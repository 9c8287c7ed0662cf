/- Projects in memory; where a name stands; names; ratios. -/
import Derived.Test.YthgeacnemojjgaaPm
import Derived.Test.YthgeacnemojjgaaIns
import Derived.Test.YthgeacnemojjgaaQ
import Derived.Test.YthgeacnemojjgaaF2
set_option linter.unusedVariables false
set_option linter.unusedSimpArgs false
set_option maxRecDepth 20000
namespace Go.Proofs.Ythgeacnemojjgaa
open Go Go.Proofs.YthgeacnemojjgaaV
def pc (p : Pj) (c : Bool) : Array Value := #[.string p.n, .int .i64 p.sh, .int .i64 p.had, .bool p.wt, .bool c]
def pv (ps : List Nat) : List Value := ps.map fun k => Value.pointer (some ⟨k, 0, none⟩)
theorem pv_len (ps : List Nat) : (pv ps).length = ps.length := by simp [pv]
theorem pv_one (l : List Nat) : ∀ u ∈ pv l, u.oneCell' = true := by
  intro u hu
  obtain ⟨b, _, rfl⟩ := List.mem_map.1 hu
  rfl
structure Shr (w : World) (b : Nat) (s : Sl) (ps : List Nat) (nw : Nat → Bool) (M : List Pj) : Prop where
  blk : Blk w b #[.slice s.a s.l s.c] 73
  row : Row w s 74 1 (pv ps)
  len : ps.length = M.length
  nd : ps.Nodup
  each : ∀ i k p, ps[i]? = some k → M[i]? = some p → Blk w k (pc p (nw i)) 77
def ft (b : Nat) (s : Sl) (ps : List Nat) (k : Nat) : Prop := k = b ∨ s.blk = some k ∨ k ∈ ps
theorem blk_ne {w : World} {b b' : Nat} {cs cs' : Array Value} {T T' : TypeId} (h : Blk w b cs T) (h' : Blk w b' cs' T') (hT : T ≠ T') : b ≠ b' := by
  rintro rfl
  have h : w.heap[b]? = _ := h
  have h' : w.heap[b]? = _ := h'
  rw [h] at h'
  cases h'
  exact hT rfl
theorem Shr.sl {w : World} {b : Nat} {s : Sl} {ps : List Nat} {nw : Nat → Bool} {M : List Pj} (h : Shr w b s ps nw M) : s.l = M.length := by
  have := h.row.len
  rw [pv_len, h.len] at this
  omega
theorem Shr.mem {w : World} {b : Nat} {s : Sl} {ps : List Nat} {nw : Nat → Bool} {M : List Pj} (h : Shr w b s ps nw M) {k : Nat} (hk : k ∈ ps) : ∃ i p, ps[i]? = some k ∧ M[i]? = some p ∧ Blk w k (pc p (nw i)) 77 := by
  obtain ⟨i, hi⟩ := List.mem_iff_getElem?.1 hk
  have hlt := (List.getElem?_eq_some_iff.1 hi).1
  obtain ⟨p, hM⟩ : ∃ p, M[i]? = some p := ⟨_, List.getElem?_eq_getElem (by rw [← h.len]; exact hlt)⟩
  exact ⟨i, _, hi, hM, h.each _ _ _ hi hM⟩
theorem Shr.lt {w : World} {b : Nat} {s : Sl} {ps : List Nat} {nw : Nat → Bool} {M : List Pj} (h : Shr w b s ps nw M) : ∀ k, ft b s ps k → k < w.heap.size := by
  rintro k (rfl | hk | hk)
  · exact h.blk.lt
  · exact h.row.lt k hk
  · obtain ⟨i, p, _, _, hB⟩ := h.mem hk
    exact hB.lt
theorem Shr.mod {F : Nat → Prop} {w w' : World} {b : Nat} {s : Sl} {ps : List Nat} {nw : Nat → Bool} {M : List Pj} (h : Shr w b s ps nw M) (hm : Frm F w w') (hn : ∀ k, ft b s ps k → ¬ F k) : Shr w' b s ps nw M :=
  ⟨h.blk.mod hm (hn b (.inl rfl)), h.row.mod hm (fun k hk => hn k (.inr (.inl hk))), h.len, h.nd, fun i k p hk hp => (h.each i k p hk hp).mod hm (hn k (.inr (.inr (List.mem_of_getElem? hk))))⟩
theorem Shr.n {w w' : World} {b : Nat} {s : Sl} {ps : List Nat} {nw : Nat → Bool} {M : List Pj} (h : Shr w b s ps nw M) (hm : Frm none_ w w') : Shr w' b s ps nw M := h.mod hm (fun _ _ h => h)
theorem Shr.at {w : World} {b : Nat} {s : Sl} {ps : List Nat} {nw : Nat → Bool} {M : List Pj} (h : Shr w b s ps nw M) {i : Nat} {p : Pj} (hp : M[i]? = some p) :
    ∃ q k, s.a = some q ∧ i < s.l ∧ ps[i]? = some k ∧ k ∈ ps ∧ Ld w (q.add ((i : Int).toNat * 1)) (.pointer (some ⟨k, 0, none⟩)) ∧ Blk w k (pc p (nw i)) 77 := by
  have hi := (List.getElem?_eq_some_iff.1 hp).1
  have hsl := h.sl
  obtain ⟨q, v, hq, hv, hl⟩ := h.row.has.at1 (i := (i : Int)) (by omega) (by omega)
  rw [Int.toNat_natCast] at hv
  simp only [pv, List.getElem?_map, Option.map_eq_some_iff] at hv
  obtain ⟨k, hk, rfl⟩ := hv
  exact ⟨q, k, hq, by omega, hk, List.mem_of_getElem? hk, hl, h.each _ _ _ hk hp⟩
theorem Shr.upd {w w' : World} {b : Nat} {s : Sl} {ps : List Nat} {nw : Nat → Bool} {M : List Pj} (h : Shr w b s ps nw M) {i k : Nat} {p p' : Pj} {c : Bool} (hi : ps[i]? = some k) (hp : M[i]? = some p) (hm : Frm (fun b => b = k) w w') (hk : Blk w' k (pc p' c) 77) :
    Shr w' b s ps (fun j => if j = i then c else nw j) (M.set i p') := by
  have hB := h.each _ _ _ hi hp
  refine ⟨h.blk.mod hm (blk_ne h.blk hB (by decide)), h.row.mod hm (fun g hg e => ?_), by rw [h.len, List.length_set], h.nd, ?_⟩
  · have e : g = k := e
    subst e
    exact h.row.g.blkNeB hB.g (by decide) hg
  · intro j k' q hj hq
    by_cases hji : j = i
    · subst hji
      rw [hi] at hj; cases hj
      rw [List.getElem?_set_self (List.getElem?_eq_some_iff.1 hp).1] at hq
      cases hq
      simpa using hk
    · rw [List.getElem?_set_ne (fun h => hji h.symm)] at hq
      simp only [if_neg hji]
      refine (h.each _ _ _ hj hq).mod hm (fun e => hji ?_)
      have e : k' = k := e
      subst e
      have h1 := (List.getElem?_eq_some_iff.1 hj).1
      exact (List.getElem?_inj h1 h.nd).1 (hj.trans hi.symm)
/-- The same, without what is now. -/
def Shw (w : World) (D : Nat → Prop) (b : Nat) (M : List Pj) : Prop := ∃ s ps nw, Shr w b s ps nw M ∧ (∀ k, ft b s ps k → D k) ∧ ∀ k, D k → k < w.heap.size
theorem Shw.mod {F : Nat → Prop} {w w' : World} {D : Nat → Prop} {b : Nat} {M : List Pj} (h : Shw w D b M) (hm : Frm F w w') (hn : ∀ k, D k → ¬ F k) : Shw w' D b M := by
  obtain ⟨s, ps, nw, h1, h2, h3⟩ := h
  exact ⟨s, ps, nw, h1.mod hm (fun k hk => hn k (h2 k hk)), h2, fun k hk => Nat.lt_of_lt_of_le (h3 k hk) hm.size⟩
theorem Shw.n {w w' : World} {D : Nat → Prop} {b : Nat} {M : List Pj} (h : Shw w D b M) (hm : Frm none_ w w') : Shw w' D b M := h.mod hm (fun _ _ h => h)
theorem Shw.lt {w : World} {D : Nat → Prop} {b : Nat} {M : List Pj} (h : Shw w D b M) : ∀ k, D k → k < w.heap.size := by obtain ⟨s, ps, nw, h1, h2, h3⟩ := h; exact h3
/-- What a call leaves. -/
def Went (w : World) (D : Nat → Prop) (b : Nat) (M' : List Pj) (w' : World) : Prop := Frm D w w' ∧ ∃ D', Shw w' D' b M' ∧ ∀ k, D' k → D k ∨ w.heap.size ≤ k
theorem went {w w' : World} {D : Nat → Prop} {b : Nat} {s : Sl} {ps : List Nat} {nw : Nat → Bool} {M' : List Pj} (hf : Frm D w w') (h : Shr w' b s ps nw M') (hD : ∀ k, ft b s ps k → D k ∨ w.heap.size ≤ k) : Went w D b M' w' :=
  ⟨hf, ft b s ps, ⟨s, ps, nw, h, fun _ h => h, h.lt⟩, hD⟩
theorem Went.same {w w' : World} {D : Nat → Prop} {b : Nat} {M : List Pj} (h : Shw w D b M) (hf : Frm none_ w w') : Went w D b M w' := ⟨hf.none, D, h.n hf, fun _ h => .inl h⟩
/-! ### Names held against each other -/
def cmpS (a b : ByteArray) : Int := if blt a b then -1 else if a = b then 0 else 1
def cmpI (a b : Int) : Int := if a < b then -1 else if a = b then 0 else 1
theorem nanS_calls (w : World) (a : ByteArray) : Calls prog 92 #[.string a] w fun e w' => e = .returned (.bool false) ∧ w' = w := by
  refine calls_ret (W92 (Q := fun v w' => v = .bool false ∧ w' = w) ?_) (fun v w' ⟨h, h'⟩ => ⟨by rw [h], h'⟩)
  unfold F92
  refine ⟨?_, rfl⟩
  rw [beq_self_eq_true]; rfl
theorem nanI_calls (w : World) (a : Int) : Calls prog 93 #[.int .i64 a] w fun e w' => e = .returned (.bool false) ∧ w' = w := by
  refine calls_ret (W93 (Q := fun v w' => v = .bool false ∧ w' = w) ?_) (fun v w' ⟨h, h'⟩ => ⟨by rw [h], h'⟩)
  unfold F93
  exact ⟨by simp, rfl⟩
theorem cmpS_calls (w : World) (a b : ByteArray) : Calls prog 73 #[.string a, .string b] w fun e w' => e = .returned (.int .i64 (cmpS a b)) ∧ w' = w := by
  refine calls_ret (W73 (x0 := a) (x1 := b) (Q := fun v w' => v = .int .i64 (cmpS a b) ∧ w' = w) ?_) (fun v w' ⟨h, h'⟩ => ⟨by rw [h], h'⟩)
  unfold F73
  refine (nanS_calls w a).mono ?_
  rintro _ _ ⟨rfl, rfl⟩
  refine ⟨_, rfl, (nanS_calls _ b).mono ?_⟩
  rintro _ _ ⟨rfl, rfl⟩
  refine ⟨_, rfl, IfB.f rfl (IfB.f rfl ?_)⟩
  have e : Op.bytesLess a.toList b.toList = blt a b := by rw [ByteArray.toList_eq, ByteArray.toList_eq]; rfl
  rw [e]
  unfold cmpS
  refine IfB.intro (fun h => ⟨by rw [if_pos h], rfl⟩) (fun h => ?_)
  rw [if_neg (by rw [h]; decide), h, Bool.false_or]
  by_cases he : a = b
  · rw [if_pos he]
    refine IfB.f (by rw [(str_eqIff a b).2 he]; rfl) ⟨rfl, rfl⟩
  · rw [if_neg he]
    refine IfB.t ?_ ⟨rfl, rfl⟩
    cases h' : (a.toList == b.toList) with
    | true => exact (he ((str_eqIff a b).1 h')).elim
    | false => rfl
theorem cmpI_calls (w : World) (a b : Int) : Calls prog 74 #[.int .i64 a, .int .i64 b] w fun e w' => e = .returned (.int .i64 (cmpI a b)) ∧ w' = w := by
  refine calls_ret (W74 (x0 := a) (x1 := b) (Q := fun v w' => v = .int .i64 (cmpI a b) ∧ w' = w) ?_) (fun v w' ⟨h, h'⟩ => ⟨by rw [h], h'⟩)
  unfold F74
  refine (nanI_calls w a).mono ?_
  rintro _ _ ⟨rfl, rfl⟩
  refine ⟨_, rfl, (nanI_calls _ b).mono ?_⟩
  rintro _ _ ⟨rfl, rfl⟩
  refine ⟨_, rfl, IfB.f rfl (IfB.f rfl ?_)⟩
  unfold cmpI
  refine IfB.dec (fun h => ⟨by rw [if_pos h], rfl⟩) (fun h => IfB.dec (fun h2 => ⟨by rw [if_neg h, if_neg (by omega)], rfl⟩) (fun h2 => ⟨by rw [if_neg h, if_pos (by omega)], rfl⟩))
theorem byName_calls (w : World) (k : Nat) (p : Pj) (c : Bool) (nm : ByteArray) (h : Blk w k (pc p c) 77) : Calls prog 76 #[.pointer (some ⟨k, 0, none⟩), .string nm] w fun e w' => e = .returned (.int .i64 (cmpS p.n nm)) ∧ w' = w := by
  refine calls_ret (W76 (x0 := some ⟨k, 0, none⟩) (x1 := nm) (Q := fun v w' => v = .int .i64 (cmpS p.n nm) ∧ w' = w) ?_) (fun v w' ⟨h, h'⟩ => ⟨by rw [h], h'⟩)
  unfold F76
  refine ⟨_, rfl, p.n, by rw [addr_add]; exact h.ld rfl, (cmpS_calls w p.n nm).mono ?_⟩
  rintro _ _ ⟨rfl, rfl⟩
  exact ⟨_, rfl, rfl, rfl⟩
theorem cmpS_neg {a b : ByteArray} : cmpS a b < 0 ↔ blt a b = true := by
  unfold cmpS
  split
  · rename_i h; simp [h]
  · rename_i h
    split <;> simp [h]
theorem cmpS_zero {a b : ByteArray} : cmpS a b = 0 ↔ a = b := by
  unfold cmpS
  split
  · rename_i h
    constructor
    · intro h; cases h
    · intro he; exact (blt_ne h he).elim
  · split
    · rename_i h; exact ⟨fun _ => h, fun _ => rfl⟩
    · rename_i h; exact ⟨fun h => by omega, fun h' => (h h').elim⟩
theorem search_calls (w : World) (b : Nat) (s : Sl) (ps : List Nat) (nw : Nat → Bool) (M : List Pj) (h : Shr w b s ps nw M) (hs : Srt M) (hn : M.length ≤ 100000) (nm : ByteArray) :
    Calls prog 75 #[.slice s.a s.l s.c, .string nm, .func (.func 76) #[] #[]] w fun e w' => e = .returned (.tuple #[.int .i64 (lo nm M : Int), .bool (ix nm M).isSome]) ∧ w' = w := by
  refine calls_ret (W75 (x0 := s) (x1 := nm) (x2 := .func (.func 76) #[] #[]) (Q := fun v w' => v = .tuple #[.int .i64 (lo nm M : Int), .bool (ix nm M).isSome] ∧ w' = w) ?_) (fun v w' ⟨h, h'⟩ => ⟨by rw [h], h'⟩)
  have hsl := h.sl
  unfold F75
  refine ⟨fun n x9 x10 w1 => ∃ i j : Nat, x9 = (i : Int) ∧ x10 = (j : Int) ∧ n = j - i ∧ i ≤ j ∧ j ≤ M.length ∧ (∀ a p, a < i → M[a]? = some p → blt p.n nm = true) ∧ (∀ a p, j ≤ a → M[a]? = some p → blt p.n nm = false) ∧ w1 = w, M.length, ⟨0, M.length, rfl, by rw [hsl], by omega, by omega, by omega, by omega, fun a p ha hp => (by rw [List.getElem?_eq_none (by omega)] at hp; cases hp), rfl⟩, ?_⟩
  rintro n u x9 x10 w1 ⟨i, j, rfl, rfl, rfl, hij, hj, hlo, hhi, rfl⟩
  refine IfB.dec (fun hlt => ?_) (fun hge => ?_)
  · have e : IntKind.wrap .i64 (Int.fdiv (IntKind.wrap .u64 (IntKind.wrap .i64 ((i : Int) + (j : Int)))) (2 ^ (min 1 64))) = (((i + j) / 2 : Nat) : Int) := by
      rw [wi ((i : Int) + (j : Int)) (by omega), wu64 _ (by omega), fdiv_pow _ (by omega)]
      have : ((i : Int) + (j : Int)).toNat / 2 ^ (min 1 64) = (i + j) / 2 := by
        rw [show ((i : Int) + (j : Int)).toNat = i + j by omega]; rfl
      rw [this, wi _ (by omega)]
    rw [e]
    have hm : (i + j) / 2 < M.length := by omega
    obtain ⟨p, hp⟩ : ∃ p, M[(i + j) / 2]? = some p := ⟨_, List.getElem?_eq_getElem hm⟩
    obtain ⟨q, k, hq, hil, hk, hkm, hld, hB⟩ := h.at hp
    refine ⟨by decide, q, hq, by omega, by omega, _, hld, callV_of (by kernel_rfl) ((byName_calls w1 k p _ nm hB).mono ?_)⟩
    rintro _ _ ⟨rfl, rfl⟩
    refine ⟨_, rfl, _, rfl, IfB.dec (fun hneg => ?_) (fun hpos => ?_)⟩
    · have hb := cmpS_neg.1 hneg
      refine ⟨j - ((i + j) / 2 + 1), by omega, (i + j) / 2 + 1, j, by rw [wi _ (by omega)]; omega, rfl, rfl, by omega, hj, fun a p' ha hp' => ?_, hhi, rfl⟩
      by_cases hal : a = (i + j) / 2
      · subst hal; rw [hp] at hp'; cases hp'; exact hb
      · exact blt_trans (hs.lt (by omega) hp' hp) hb
    · have hb : blt p.n nm = false := by
        cases hb : blt p.n nm with
        | false => rfl
        | true => exact (hpos (cmpS_neg.2 hb)).elim
      refine ⟨(i + j) / 2 - i, by omega, i, (i + j) / 2, rfl, rfl, rfl, by omega, by omega, hlo, fun a p' ha hp' => ?_, rfl⟩
      by_cases hal : a = (i + j) / 2
      · subst hal; rw [hp] at hp'; cases hp'; exact hb
      · cases hb' : blt p'.n nm with
        | false => rfl
        | true =>
          have := blt_trans (hs.lt (by omega) hp hp') hb'
          rw [hb] at this; cases this
  · have hij' : i = j := by omega
    subst hij'
    have hl : lo nm M = i := lo_eq hj hlo (fun p hp => hhi i p (Nat.le_refl _) hp)
    refine IfB.dec (fun hlt => ?_) (fun hge2 => ?_)
    · obtain ⟨p, hp⟩ : ∃ p, M[i]? = some p := ⟨_, List.getElem?_eq_getElem (by omega)⟩
      obtain ⟨q, k, hq, hil, hk, hkm, hld, hB⟩ := h.at hp
      refine ⟨q, hq, by omega, by omega, _, hld, callV_of (by kernel_rfl) ((byName_calls w1 k p _ nm hB).mono ?_)⟩
      rintro _ _ ⟨rfl, rfl⟩
      refine ⟨_, rfl, _, rfl, ?_, rfl⟩
      have : (ix nm M).isSome = (cmpS p.n nm == 0) := by
        unfold ix
        rw [hl, hp]
        by_cases he : p.n = nm
        · simp only [if_pos he]
          exact (beq_iff_eq.2 (cmpS_zero.2 he)).symm
        · simp only [if_neg he]
          exact (beq_eq_false_iff_ne.2 (fun h => he (cmpS_zero.1 h))).symm
      rw [hl, this]
    · have : ix nm M = none := by
        unfold ix
        rw [hl, List.getElem?_eq_none (by omega)]
      rw [hl, this]
      exact ⟨rfl, rfl⟩
theorem find_calls (w : World) (b : Nat) (s : Sl) (ps : List Nat) (nw : Nat → Bool) (M : List Pj) (h : Shr w b s ps nw M) (hs : Srt M) (hn : M.length ≤ 100000) (nm : ByteArray) :
    Calls prog 45 #[.pointer (some ⟨b, 0, none⟩), .string nm] w fun e w' => e = .returned (.tuple #[.int .i64 (lo nm M : Int), .bool (ix nm M).isSome]) ∧ w' = w := by
  refine calls_ret (W45 (x0 := some ⟨b, 0, none⟩) (x1 := nm) (Q := fun v w' => v = .tuple #[.int .i64 (lo nm M : Int), .bool (ix nm M).isSome] ∧ w' = w) ?_) (fun v w' ⟨h, h'⟩ => ⟨by rw [h], h'⟩)
  unfold F45
  refine ⟨_, rfl, s, by rw [addr_add]; exact h.blk.ld rfl, (search_calls w b s ps nw M h hs hn nm).mono ?_⟩
  rintro _ _ ⟨rfl, rfl⟩
  exact ⟨_, _, rfl, rfl, rfl⟩
/-! ### Names -/
theorem good_calls (w : World) (s : ByteArray) : Calls prog 44 #[.string s] w fun e w' => e = .returned (.bool (decide (goodP s))) ∧ w' = w := by
  refine calls_ret (W44 (x0 := s) (Q := fun v w' => v = .bool (decide (goodP s)) ∧ w' = w) ?_) (fun v w' ⟨h, h'⟩ => ⟨by rw [h], h'⟩)
  unfold F44
  refine ⟨fun c w' => w' = w ∧ ((c = true ∧ ¬ goodP s) ∨ (c = false ∧ 1 ≤ s.size ∧ s.size ≤ 24 ∧ (97 ≤ bt s 0 ∧ bt s 0 ≤ 122))), ?_, ?_⟩
  · refine IfB.intro (fun h => ⟨rfl, .inl ⟨rfl, ?_⟩⟩) (fun h => ?_)
    · have := (str_eqIff _ _).1 h
      subst this
      rintro ⟨h1, _⟩
      exact absurd h1 (by decide)
    · have hsz : 1 ≤ s.size := by
        refine Nat.pos_of_ne_zero fun h0 => ?_
        have : s = ⟨#[]⟩ := ba_ext (List.eq_nil_of_length_eq_zero (by rw [Array.length_toList]; exact h0))
        rw [this] at h
        simp at h
      refine IfB.dec (fun h24 => ⟨rfl, .inl ⟨rfl, fun hg => by have := hg.2.1; omega⟩⟩) (fun h24 => ⟨by decide, by omega, IfB.dec (fun h97 => ⟨rfl, .inl ⟨rfl, fun hg => by have := hg.2.2.1.1; omega⟩⟩) (fun h97 => ⟨by decide, by omega, rfl, ?_⟩)⟩)
      by_cases h122 : bt s 0 > 122
      · exact .inl ⟨decide_eq_true h122, fun hg => by have := hg.2.2.1.2; omega⟩
      · exact .inr ⟨decide_eq_false h122, hsz, by omega, by omega, by omega⟩
  rintro u c w1 ⟨rfl, ⟨rfl, hbad⟩ | ⟨rfl, h1, h2, h3⟩⟩
  · exact IfB.t rfl ⟨by rw [decide_eq_false hbad], rfl⟩
  refine IfB.f rfl ⟨fun n x w' => ∃ j : Nat, x = (j : Int) ∧ j ≤ s.size ∧ n = s.size - j ∧ w' = w1 ∧ ∀ i, i < j → (97 ≤ bt s (i : Nat) ∧ bt s (i : Nat) ≤ 122) ∨ (48 ≤ bt s (i : Nat) ∧ bt s (i : Nat) ≤ 57) ∨ bt s (i : Nat) = 45 ∨ bt s (i : Nat) = 95, s.size, ⟨0, rfl, by omega, rfl, rfl, by omega⟩, ?_⟩
  rintro n u1 x w2 ⟨j, rfl, hj, rfl, rfl, hall⟩
  refine IfB.dec (fun hlt => ⟨by omega, by omega, ?_⟩) (fun hge => ?_)
  · have next : ((97 ≤ bt s (j : Nat) ∧ bt s (j : Nat) ≤ 122) ∨ (48 ≤ bt s (j : Nat) ∧ bt s (j : Nat) ≤ 57) ∨ bt s (j : Nat) = 45 ∨ bt s (j : Nat) = 95) → ∃ n', n' < s.size - j ∧ ∃ j' : Nat, IntKind.wrap .i64 ((j : Int) + (1 : Int)) = (j' : Int) ∧ j' ≤ s.size ∧ n' = s.size - j' ∧ w2 = w2 ∧ ∀ i, i < j' → (97 ≤ bt s (i : Nat) ∧ bt s (i : Nat) ≤ 122) ∨ (48 ≤ bt s (i : Nat) ∧ bt s (i : Nat) ≤ 57) ∨ bt s (i : Nat) = 45 ∨ bt s (i : Nat) = 95 := by
      intro h
      refine ⟨s.size - (j + 1), by omega, j + 1, by rw [wi _ (by omega)]; omega, by omega, rfl, rfl, fun i hi => ?_⟩
      by_cases hij : i = j
      · subst hij; exact h
      · exact hall i (by omega)
    have bad : ¬ ((97 ≤ bt s (j : Nat) ∧ bt s (j : Nat) ≤ 122) ∨ (48 ≤ bt s (j : Nat) ∧ bt s (j : Nat) ≤ 57) ∨ bt s (j : Nat) = 45 ∨ bt s (j : Nat) = 95) → (Value.bool false = .bool (decide (goodP s)) ∧ w2 = w2) := by
      intro h
      refine ⟨?_, rfl⟩
      rw [decide_eq_false]
      rintro ⟨_, _, _, hg⟩
      exact h (hg j (by omega))
    have hb : ∀ (a : Int) (c : Bool), (a != c.toNat) = (a != c.toNat) := fun _ _ => rfl
    have low : ∀ (hx : ¬ (97 ≤ bt s (j : Nat) ∧ bt s (j : Nat) ≤ 122) ∧ ¬ (48 ≤ bt s (j : Nat) ∧ bt s (j : Nat) ≤ 57)), IfB (bt s (j : Int) != (45 : Int)) (IfB (bt s (j : Int) != (95 : Int)) (Value.bool false = .bool (decide (goodP s)) ∧ w2 = w2) (∃ n', n' < s.size - j ∧ ∃ j' : Nat, IntKind.wrap .i64 ((j : Int) + (1 : Int)) = (j' : Int) ∧ j' ≤ s.size ∧ n' = s.size - j' ∧ w2 = w2 ∧ ∀ i, i < j' → (97 ≤ bt s (i : Nat) ∧ bt s (i : Nat) ≤ 122) ∨ (48 ≤ bt s (i : Nat) ∧ bt s (i : Nat) ≤ 57) ∨ bt s (i : Nat) = 45 ∨ bt s (i : Nat) = 95)) (∃ n', n' < s.size - j ∧ ∃ j' : Nat, IntKind.wrap .i64 ((j : Int) + (1 : Int)) = (j' : Int) ∧ j' ≤ s.size ∧ n' = s.size - j' ∧ w2 = w2 ∧ ∀ i, i < j' → (97 ≤ bt s (i : Nat) ∧ bt s (i : Nat) ≤ 122) ∨ (48 ≤ bt s (i : Nat) ∧ bt s (i : Nat) ≤ 57) ∨ bt s (i : Nat) = 45 ∨ bt s (i : Nat) = 95) := by
      intro hx
      refine IfB.intro (fun h1 => IfB.intro (fun h2 => bad ?_) (fun h2 => next (.inr (.inr (.inr (iEq h2)))))) (fun h1 => next (.inr (.inr (.inl (iEq h1)))))
      have := iNe h1
      have := iNe h2
      omega
    refine IfB.dec (fun ha => ?_) (fun ha => IfB.dec (fun hz => ?_) (fun hz => next (.inl (by omega))))
    · exact IfB.dec (fun h0 => low (by omega)) (fun h0 => IfB.dec (fun h9 => low (by omega)) (fun h9 => next (.inr (.inl (by omega)))))
    · exact IfB.dec (fun h0 => low (by omega)) (fun h0 => IfB.dec (fun h9 => low (by omega)) (fun h9 => next (.inr (.inl (by omega)))))
  · refine ⟨?_, rfl⟩
    rw [decide_eq_true]
    exact ⟨h1, h2, h3, fun i hi => hall i (by omega)⟩
/-! ### Ratios -/
theorem scaled_calls (w : World) (had of sh : Int) (h0 : 0 ≤ had ∧ had ≤ 2147483647) (h1 : 1 ≤ of ∧ of ≤ 1000) (h2 : 1 ≤ sh ∧ sh ≤ 1000) : Calls prog 43 #[.int .i64 had, .int .i64 of, .int .i64 sh] w fun e w' => e = .returned (.int .i64 (scl had of sh)) ∧ w' = w := by
  refine calls_ret (W43 (x0 := had) (x1 := of) (x2 := sh) (Q := fun v w' => v = .int .i64 (scl had of sh) ∧ w' = w) ?_) (fun v w' ⟨h, h'⟩ => ⟨by rw [h], h'⟩)
  unfold F43
  have hp : 0 ≤ had * sh := Int.mul_nonneg h0.1 (by omega)
  have hp2 : had * sh ≤ 2147483647 * 1000 := Int.mul_le_mul h0.2 h2.2 (by omega) (by omega)
  refine ⟨by omega, ?_, rfl⟩
  rw [wi (had * sh) (by omega), wi (had * sh + of) (by omega), wi (had * sh + of - 1) (by omega), Int.tdiv_eq_ediv_of_nonneg (by omega)]
  have a1 : 0 ≤ (had * sh + of - 1) / of := Int.ediv_nonneg (by omega) (by omega)
  have a2 : (had * sh + of - 1) / of ≤ had * sh + of - 1 := Int.ediv_le_self _ (by omega)
  rw [wi _ (by omega)]
  rfl
theorem mulb {a b : Int} (h0 : 0 ≤ a ∧ a ≤ 2147483647) (h1 : 1 ≤ b ∧ b ≤ 1000) : IntKind.wrap .i64 (a * b) = a * b := by
  have hp : 0 ≤ a * b := Int.mul_nonneg h0.1 (by omega)
  have hp2 : a * b ≤ 2147483647 * 1000 := Int.mul_le_mul h0.2 h1.2 (by omega) (by omega)
  exact wi _ (by omega)
theorem ratio_calls (w : World) (k l : Nat) (p q : Pj) (c d : Bool) (h : Blk w k (pc p c) 77) (h' : Blk w l (pc q d) 77) (hp : OkP p) (hq : OkP q) : Calls prog 42 #[.pointer (some ⟨k, 0, none⟩), .pointer (some ⟨l, 0, none⟩)] w fun e w' => e = .returned (.int .i64 (cmpI (p.had * q.sh) (q.had * p.sh))) ∧ Frm none_ w w' ∧ w'.heap = w.heap := by
  refine calls_ret (W42 (x0 := some ⟨k, 0, none⟩) (x1 := some ⟨l, 0, none⟩) (Q := fun v w' => v = .int .i64 (cmpI (p.had * q.sh) (q.had * p.sh)) ∧ Frm none_ w w' ∧ w'.heap = w.heap) ?_) (fun v w' ⟨h, h'⟩ => ⟨by rw [h], h'⟩)
  unfold F42
  refine ⟨fun w' => w' = w.drew, rfl, _, rfl, p.had, fun w' e => by subst e; rw [addr_add]; exact h.drew.ld rfl, _, rfl, q.sh, fun w' e => by subst e; rw [addr_add]; exact h'.drew.ld rfl, _, rfl, q.had, fun w' e => by subst e; rw [addr_add]; exact h'.drew.ld rfl, _, rfl, p.sh, fun w' e => by subst e; rw [addr_add]; exact h.drew.ld rfl, ?_⟩
  rw [mulb ⟨hp.h1, hp.h2⟩ ⟨hq.s1, hq.s2⟩, mulb ⟨hq.h1, hq.h2⟩ ⟨hp.s1, hp.s2⟩]
  refine (cmpI_calls _ _ _).mono ?_
  rintro _ _ ⟨rfl, rfl⟩
  exact ⟨_, rfl, rfl, frm_drew _, rfl⟩
end Go.Proofs.Ythgeacnemojjgaa
