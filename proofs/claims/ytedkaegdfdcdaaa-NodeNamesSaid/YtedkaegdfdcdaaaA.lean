/- Nodes in memory; which may be: the program's and the document's. -/
import Derived.Test.YtedkaegdfdcdaaaS
set_option linter.unusedVariables false
set_option linter.unusedSimpArgs false
namespace Go.Proofs.Ytedkaegdfdcdaaa
open Go Go.Proofs.YtedkaegdfdcdaaaV
def sv (l : List ByteArray) : List Value := l.map Value.string
def iv (l : List Int) : List Value := l.map (Value.int .i64)
theorem sv_len (l : List ByteArray) : (sv l).length = l.length := by simp [sv]
theorem iv_len (l : List Int) : (iv l).length = l.length := by simp [iv]
theorem has_sv {w : World} {s : Sl} {l : List ByteArray} (h : Has w s 1 (sv l)) : s.l = l.length := by have := h.len; rw [sv_len] at this; omega
theorem has_iv {w : World} {s : Sl} {l : List Int} (h : Has w s 1 (iv l)) : s.l = l.length := by have := h.len; rw [iv_len] at this; omega
theorem sv_at {w : World} {s : Sl} {l : List ByteArray} (h : Has w s 1 (sv l)) {i : Nat} (hi : i < s.l) : ∃ q x, s.a = some q ∧ l[i]? = some x ∧ Ld w (q.add ((i : Int).toNat * 1)) (.string x) := by
  obtain ⟨q, v, hq, hv, hl⟩ := h.at1 (i := (i : Int)) (by omega) (by omega)
  rw [Int.toNat_natCast] at hv
  simp only [sv, List.getElem?_map, Option.map_eq_some_iff] at hv
  obtain ⟨x, hx, rfl⟩ := hv
  exact ⟨q, x, hq, hx, hl⟩
theorem iv_at {w : World} {s : Sl} {l : List Int} (h : Has w s 1 (iv l)) {i : Nat} (hi : i < s.l) : ∃ q x, s.a = some q ∧ l[i]? = some x ∧ Ld w (q.add ((i : Int).toNat * 1)) (.int .i64 x) := by
  obtain ⟨q, v, hq, hv, hl⟩ := h.at1 (i := (i : Int)) (by omega) (by omega)
  rw [Int.toNat_natCast] at hv
  simp only [iv, List.getElem?_map, Option.map_eq_some_iff] at hv
  obtain ⟨x, hx, rfl⟩ := hv
  exact ⟨q, x, hq, hx, hl⟩
theorem sv_one (l : List ByteArray) : ∀ u ∈ sv l, u.oneCell' = true := by
  intro u hu
  obtain ⟨b, _, rfl⟩ := List.mem_map.1 hu
  rfl
theorem iv_one (l : List Int) : ∀ u ∈ iv l, u.oneCell' = true := by
  intro u hu
  obtain ⟨b, _, rfl⟩ := List.mem_map.1 hu
  rfl
theorem st22s : SlT prog 22 9 1 16 (.string (⟨#[]⟩ : ByteArray)) := ⟨by kernel_rfl, by kernel_rfl, rfl, by decide⟩
theorem st23 : SlT prog 23 3 1 8 (.int .i64 0) := ⟨by kernel_rfl, by kernel_rfl, rfl, by decide⟩
def blt (a b : ByteArray) : Bool := Op.bytesLess a.toList b.toList
structure Nd where
  leaf : Bool
  keys : List ByteArray
  vals : List ByteArray
  kids : List Int
def ndc (b : Bool) (k v d : Sl) : Array Value := #[.bool b, .slice k.a k.l k.c, .slice v.a v.l v.c, .slice d.a d.l d.c]
structure NdS (w : World) (k v d : Sl) (n : Nd) : Prop where
  hk : Has w k 1 (sv n.keys)
  hv : Has w v 1 (sv n.vals)
  hd : Has w d 1 (iv n.kids)
theorem NdS.mod {w w' : World} {k v d : Sl} {n : Nd} (h : NdS w k v d n) (f : Frm none_ w w') : NdS w' k v d n := ⟨h.hk.mod f (fun _ _ h => h), h.hv.mod f (fun _ _ h => h), h.hd.mod f (fun _ _ h => h)⟩
theorem NdS.drew {w : World} {k v d : Sl} {n : Nd} (h : NdS w k v d n) : NdS w.drew k v d n := ⟨h.hk.drew, h.hv.drew, h.hd.drew⟩
structure Bk (w : World) (b T : Nat) (k v d : Sl) (n : Nd) : Prop where
  blk : Blk w b (ndc n.leaf k v d) T
  nd : NdS w k v d n
theorem Bk.mod {w w' : World} {b T : Nat} {k v d : Sl} {n : Nd} (h : Bk w b T k v d n) (f : Frm none_ w w') : Bk w' b T k v d n := ⟨h.blk.mod f (fun h => h), h.nd.mod f⟩
theorem Bk.drew {w : World} {b T : Nat} {k v d : Sl} {n : Nd} (h : Bk w b T k v d n) : Bk w.drew b T k v d n := ⟨h.blk.drew, h.nd.drew⟩
theorem Bk.l0 {w : World} {b T : Nat} {k v d : Sl} {n : Nd} (h : Bk w b T k v d n) : Ld w ((⟨b, 0, none⟩ : Addr).add 0) (.bool n.leaf) := by rw [addr_add]; exact h.blk.ld rfl
theorem Bk.l1 {w : World} {b T : Nat} {k v d : Sl} {n : Nd} (h : Bk w b T k v d n) : Ld w ((⟨b, 0, none⟩ : Addr).add 1) (.slice k.a k.l k.c) := by rw [addr_add]; exact h.blk.ld rfl
theorem Bk.l2 {w : World} {b T : Nat} {k v d : Sl} {n : Nd} (h : Bk w b T k v d n) : Ld w ((⟨b, 0, none⟩ : Addr).add 2) (.slice v.a v.l v.c) := by rw [addr_add]; exact h.blk.ld rfl
theorem Bk.l3 {w : World} {b T : Nat} {k v d : Sl} {n : Nd} (h : Bk w b T k v d n) : Ld w ((⟨b, 0, none⟩ : Addr).add 3) (.slice d.a d.l d.c) := by rw [addr_add]; exact h.blk.ld rfl
theorem Bk.la {w : World} {b T : Nat} {k v d : Sl} {n : Nd} (h : Bk w b T k v d n) : LdA w ⟨b, 0, none⟩ 4 (ndc n.leaf k v d) := h.blk.ldA rfl
theorem Bk.new {w w1 : World} {b T : Nat} {k v d : Sl} {n : Nd} (hN : NewB w (.cells (ndc n.leaf k v d) T) b w1) (h : NdS w k v d n) : Bk w1 b T k v d n := ⟨hN.blk, h.mod (hN.mod none_)⟩
/-- A key at its place. -/
def KOk (l : List ByteArray) (i : Nat) : Prop := ∀ k, l[i]? = some k → 1 ≤ k.size ∧ k.size ≤ 32 ∧ (0 < i → ∀ p, l[i - 1]? = some p → blt p k = true)
def MayN (n : Nd) : Prop := (∀ i, i < n.keys.length → KOk n.keys i) ∧ (∀ i, i < n.vals.length → ∀ v, n.vals[i]? = some v → v.size ≤ 64) ∧ (∀ i, i < n.kids.length → ∀ d, n.kids[i]? = some d → 0 ≤ d ∧ d ≤ 32768) ∧
  (if n.leaf = true then n.vals.length = n.keys.length ∧ n.kids.length = 0 else n.vals.length = 0 ∧ n.kids.length = n.keys.length + 1)
/-- What a statement goes over at most. -/
structure SmN (n : Nd) : Prop where
  k : n.keys.length ≤ 100000
  v : n.vals.length ≤ 100000
  d : n.kids.length ≤ 100000
theorem size0 {s : ByteArray} : (s.toList == (⟨#[]⟩ : ByteArray).toList) = true ↔ s.size = 0 := by
  rw [str_eqIff]
  constructor
  · rintro rfl; rfl
  · intro h
    cases s with
    | mk a =>
      have : a = #[] := Array.eq_empty_of_size_eq_zero h
      rw [this]
set_option maxRecDepth 20000 in
theorem may_calls (w : World) (k v d : Sl) (n : Nd) (h : NdS w k v d n) (hsm : SmN n) : Calls prog 24 #[.agg (ndc n.leaf k v d)] w fun e w' => ∃ b : Bool, e = .returned (.bool b) ∧ (b = true ↔ MayN n) ∧ Frm none_ w w' := by
  refine callsRet (W24 (Q := fun v w' => ∃ b : Bool, v = .bool b ∧ (b = true ↔ MayN n) ∧ Frm none_ w w') ?_) (fun v w' ⟨b, h, h'⟩ => ⟨b, by rw [h], h'⟩)
  unfold F24
  intro b1 w1 hN
  have hB := Bk.new hN h
  have f1 : Frm none_ w w1 := hN.mod _
  have hkl := has_sv h.hk
  have hvl := has_sv h.hv
  have hdl := has_iv h.hd
  have hs1 := hsm.k
  have hs2 := hsm.v
  have hs3 := hsm.d
  refine ⟨k, hB.l1, fun m x w' => ∃ i : Nat, x = (i : Int) ∧ i ≤ k.l ∧ m = k.l - i ∧ (∀ j, j < i → KOk n.keys j) ∧ w' = w1, k.l, ⟨0, rfl, Nat.zero_le _, by omega, by omega, rfl⟩, ?_⟩
  rintro m u x w2 ⟨i, rfl, hi, rfl, hok, rfl⟩
  refine IfB.intro (fun hc => ?_) (fun hc => ?_)
  · have hlt := of_decide_eq_true hc
    obtain ⟨q, x, hq, hx, hld⟩ := sv_at hB.nd.hk (i := i) (by omega)
    have bad : ¬ KOk n.keys i → ∃ b : Bool, (Value.bool false) = .bool b ∧ (b = true ↔ MayN n) ∧ Frm none_ w w2 := fun hb => ⟨false, rfl, by simp only [Bool.false_eq_true, false_iff]; exact fun hm => hb (hm.1 i (by omega)), f1⟩
    refine ⟨q, hq, by omega, by omega, x, hld, IfB.intro (fun hd => bad (fun hk => ?_)) (fun hd => IfB.intro (fun he => bad (fun hk => ?_)) (fun he => IfB.intro (fun hf => ?_) (fun hf => ?_)))⟩
    · have := (hk x hx).1
      have := size0.1 hd; omega
    · have := (hk x hx).2.1
      have := of_decide_eq_true he; omega
    · have hf := of_decide_eq_true hf
      have hsz : ¬ x.size = 0 := fun e => by rw [size0.2 e] at hd; cases hd
      have he := of_decide_eq_false he
      have e1 : IntKind.wrap .i64 ((i : Int) - 1) = ((i - 1 : Nat) : Int) := by rw [wrap64 _ (by omega)]; omega
      rw [e1]
      obtain ⟨q', x', hq', hx', hld'⟩ := sv_at hB.nd.hk (i := i - 1) (by omega)
      refine ⟨k, hB.l1, q', hq', by omega, by omega, x', hld', IfB.intro (fun hg => bad (fun hk => ?_)) (fun hg => ?_)⟩
      · have := (hk x hx).2.2 (by omega) x' hx'
        unfold blt at this
        rw [this] at hg; cases hg
      · refine ⟨k.l - (i + 1), by omega, i + 1, by rw [wrap64 _ (by omega)]; omega, by omega, rfl, ?_, rfl⟩
        intro j hj
        rcases Nat.lt_succ_iff_lt_or_eq.1 hj with hh | rfl
        · exact hok j hh
        · intro y hy
          rw [hx] at hy; cases hy
          refine ⟨by omega, by omega, fun _ p hp => ?_⟩
          rw [hx'] at hp; cases hp
          simpa [blt] using hg
    · have hf := of_decide_eq_false hf
      have hsz : ¬ x.size = 0 := fun e => by rw [size0.2 e] at hd; cases hd
      have he := of_decide_eq_false he
      refine ⟨k.l - (i + 1), by omega, i + 1, by rw [wrap64 _ (by omega)]; omega, by omega, rfl, ?_, rfl⟩
      intro j hj
      rcases Nat.lt_succ_iff_lt_or_eq.1 hj with hh | rfl
      · exact hok j hh
      · intro y hy
        rw [hx] at hy; cases hy
        exact ⟨by omega, by omega, fun h0 => by omega⟩
  · have hge := of_decide_eq_false hc
    have hK : ∀ i, i < n.keys.length → KOk n.keys i := fun j hj => hok j (by omega)
    refine ⟨v, hB.l2, fun m x w' => ∃ i : Nat, x = (i : Int) ∧ i ≤ v.l ∧ m = v.l - i ∧ (∀ j, j < i → ∀ y, n.vals[j]? = some y → y.size ≤ 64) ∧ w' = w2, v.l, ⟨0, rfl, Nat.zero_le _, by omega, by omega, rfl⟩, ?_⟩
    clear hok hi hc hge
    rintro m u1 x w3 ⟨i, rfl, hi, rfl, hok, rfl⟩
    refine IfB.intro (fun hc => ?_) (fun hc => ?_)
    · have hlt := of_decide_eq_true hc
      obtain ⟨q, x, hq, hx, hld⟩ := sv_at hB.nd.hv (i := i) (by omega)
      refine ⟨q, hq, by omega, by omega, x, hld, IfB.intro (fun hd => ⟨false, rfl, by
        simp only [Bool.false_eq_true, false_iff]
        intro hm
        have := hm.2.1 i (by omega) x hx
        have := of_decide_eq_true hd; omega, f1⟩) (fun hd => ?_)⟩
      have hd := of_decide_eq_false hd
      refine ⟨v.l - (i + 1), by omega, i + 1, by rw [wrap64 _ (by omega)]; omega, by omega, rfl, ?_, rfl⟩
      intro j hj y hy
      rcases Nat.lt_succ_iff_lt_or_eq.1 hj with hh | rfl
      · exact hok j hh y hy
      · rw [hx] at hy; cases hy; omega
    · have hge := of_decide_eq_false hc
      have hV : ∀ i, i < n.vals.length → ∀ y, n.vals[i]? = some y → y.size ≤ 64 := fun j hj => hok j (by omega)
      refine ⟨d, hB.l3, fun m x w' => ∃ i : Nat, x = (i : Int) ∧ i ≤ d.l ∧ m = d.l - i ∧ (∀ j, j < i → ∀ y, n.kids[j]? = some y → 0 ≤ y ∧ y ≤ 32768) ∧ w' = w3, d.l, ⟨0, rfl, Nat.zero_le _, by omega, by omega, rfl⟩, ?_⟩
      clear hok hi hc hge
      rintro m u2 x w4 ⟨i, rfl, hi, rfl, hok, rfl⟩
      refine IfB.intro (fun hc => ?_) (fun hc => ?_)
      · have hlt := of_decide_eq_true hc
        obtain ⟨q, x, hq, hx, hld⟩ := iv_at hB.nd.hd (i := i) (by omega)
        refine ⟨q, hq, by omega, by omega, x, hld, IfB.intro (fun hd => ⟨false, rfl, by
          simp only [Bool.false_eq_true, false_iff]
          intro hm
          have := hm.2.2.1 i (by omega) x hx
          have := of_decide_eq_true hd; omega, f1⟩) (fun hd => IfB.intro (fun he => ⟨false, rfl, by
          simp only [Bool.false_eq_true, false_iff]
          intro hm
          have := hm.2.2.1 i (by omega) x hx
          have := of_decide_eq_true he; omega, f1⟩) (fun he => ?_))⟩
        have hd := of_decide_eq_false hd
        have he := of_decide_eq_false he
        refine ⟨d.l - (i + 1), by omega, i + 1, by rw [wrap64 _ (by omega)]; omega, by omega, rfl, ?_, rfl⟩
        intro j hj y hy
        rcases Nat.lt_succ_iff_lt_or_eq.1 hj with hh | rfl
        · exact hok j hh y hy
        · rw [hx] at hy; cases hy; omega
      · have hge := of_decide_eq_false hc
        have hD : ∀ i, i < n.kids.length → ∀ y, n.kids[i]? = some y → 0 ≤ y ∧ y ≤ 32768 := fun j hj => hok j (by omega)
        refine ⟨n.leaf, hB.l0, IfB.intro (fun hlf => ⟨v, hB.l2, k, hB.l1, IfB.intro (fun hd => ⟨d, hB.l3, ?_⟩) (fun hd => ?_)⟩) (fun hlf => ⟨v, hB.l2, IfB.intro (fun hd => ⟨d, hB.l3, k, hB.l1, ?_⟩) (fun hd => ?_)⟩)⟩
        · have hd := eq_of_beq hd
          refine ⟨_, rfl, ?_, f1⟩
          rw [beq_iff_eq]
          constructor
          · intro e; exact ⟨hK, hV, hD, by rw [if_pos hlf]; omega⟩
          · intro hm; have := hm.2.2.2; rw [if_pos hlf] at this; omega
        · have hd := ne_of_beq_false hd
          refine ⟨_, rfl, ?_, f1⟩
          simp only [Bool.false_eq_true, false_iff]
          intro hm; have := hm.2.2.2; rw [if_pos hlf] at this; omega
        · have hd := eq_of_beq hd
          refine ⟨_, rfl, ?_, f1⟩
          rw [wrap64 _ (by omega), beq_iff_eq]
          constructor
          · intro e; exact ⟨hK, hV, hD, by rw [if_neg (by rw [hlf]; decide)]; omega⟩
          · intro hm; have := hm.2.2.2; rw [if_neg (by rw [hlf]; decide)] at this; omega
        · have hd := ne_of_beq_false hd
          refine ⟨_, rfl, ?_, f1⟩
          simp only [Bool.false_eq_true, false_iff]
          intro hm; have := hm.2.2.2; rw [if_neg (by rw [hlf]; decide)] at this; omega
set_option maxRecDepth 20000 in
theorem May_calls (w : World) (k v d : Sl) (n : Nd) (h : NdS w k v d n) (hsm : SmN n) : Calls prog 26 #[.agg (ndc n.leaf k v d)] w fun e w' => ∃ b : Bool, e = .returned (.bool b) ∧ (b = true ↔ MayN n) ∧ Frm none_ w w' := by
  refine callsRet (W26 (Q := fun v w' => ∃ b : Bool, v = .bool b ∧ (b = true ↔ MayN n) ∧ Frm none_ w w') ?_) (fun v w' ⟨b, h, h'⟩ => ⟨b, by rw [h], h'⟩)
  unfold F26
  intro b1 w1 hN
  have hB := Bk.new hN h
  have f1 : Frm none_ w w1 := hN.mod _
  have hkl := has_sv h.hk
  have hvl := has_sv h.hv
  have hdl := has_iv h.hd
  have hs1 := hsm.k
  have hs2 := hsm.v
  have hs3 := hsm.d
  refine ⟨fun m x w' => ∃ i : Nat, x = (i : Int) ∧ i ≤ k.l ∧ m = k.l - i ∧ (∀ j, j < i → KOk n.keys j) ∧ Bk w' b1 25 k v d n ∧ Frm none_ w w', k.l, ⟨0, rfl, Nat.zero_le _, by omega, by omega, hB, f1⟩, ?_⟩
  clear hB f1 hN
  rintro m u x w2 ⟨i, rfl, hi, rfl, hok, hB, f1⟩
  refine ⟨k, hB.l1, IfB.intro (fun hc => ?_) (fun hc => ?_)⟩
  · have hlt := of_decide_eq_true hc
    obtain ⟨q, x, hq, hx, hld⟩ := sv_at hB.drew.nd.hk (i := i) (by omega)
    have bad : ¬ KOk n.keys i → ∃ b : Bool, (Value.bool false) = .bool b ∧ (b = true ↔ MayN n) ∧ Frm none_ w w2.drew := fun hb => ⟨false, rfl, by simp only [Bool.false_eq_true, false_iff]; exact fun hm => hb (hm.1 i (by omega)), f1.drew⟩
    refine ⟨k, hB.drew.l1, q, hq, by omega, by omega, x, hld, IfB.intro (fun hd => bad (fun hk => ?_)) (fun hd => ⟨k, hB.drew.l1, q, hq, by omega, by omega, x, hld, IfB.intro (fun he => bad (fun hk => ?_)) (fun he => IfB.intro (fun hf => ?_) (fun hf => ?_))⟩)⟩
    · have := (hk x hx).1
      have := of_decide_eq_true hd; omega
    · have := (hk x hx).2.1
      have := of_decide_eq_true he; omega
    · have hf := of_decide_eq_true hf
      have hd := of_decide_eq_false hd
      have he := of_decide_eq_false he
      have e1 : IntKind.wrap .i64 ((i : Int) - 1) = ((i - 1 : Nat) : Int) := by rw [wrap64 _ (by omega)]; omega
      rw [e1]
      obtain ⟨q', x', hq', hx', hld'⟩ := sv_at hB.drew.nd.hk (i := i - 1) (by omega)
      refine ⟨k, hB.drew.l1, q', hq', by omega, by omega, x', hld', k, hB.drew.l1, q, hq, by omega, by omega, x, hld, IfB.intro (fun hg => bad (fun hk => ?_)) (fun hg => ?_)⟩
      · have := (hk x hx).2.2 (by omega) x' hx'
        unfold blt at this
        rw [this] at hg; cases hg
      · refine ⟨k.l - (i + 1), by omega, i + 1, by rw [wrap64 _ (by omega)]; omega, by omega, rfl, ?_, hB.drew, f1.drew⟩
        intro j hj
        rcases Nat.lt_succ_iff_lt_or_eq.1 hj with hh | rfl
        · exact hok j hh
        · intro y hy
          rw [hx] at hy; cases hy
          refine ⟨by omega, by omega, fun _ p hp => ?_⟩
          rw [hx'] at hp; cases hp
          simpa [blt] using hg
    · have hf := of_decide_eq_false hf
      have hd := of_decide_eq_false hd
      have he := of_decide_eq_false he
      refine ⟨k.l - (i + 1), by omega, i + 1, by rw [wrap64 _ (by omega)]; omega, by omega, rfl, ?_, hB.drew, f1.drew⟩
      intro j hj
      rcases Nat.lt_succ_iff_lt_or_eq.1 hj with hh | rfl
      · exact hok j hh
      · intro y hy
        rw [hx] at hy; cases hy
        exact ⟨by omega, by omega, fun h0 => by omega⟩
  · have hge := of_decide_eq_false hc
    have hK : ∀ i, i < n.keys.length → KOk n.keys i := fun j hj => hok j (by omega)
    clear hok hi hc hge
    refine ⟨n.leaf, hB.l0, IfB.intro (fun hlf => ?_) (fun hlf => ?_)⟩
    · refine ⟨fun m x w' => ∃ i : Nat, x = (i : Int) ∧ i ≤ v.l ∧ m = v.l - i ∧ (∀ j, j < i → ∀ y, n.vals[j]? = some y → y.size ≤ 64) ∧ w' = w2, v.l, ⟨0, rfl, Nat.zero_le _, by omega, by omega, rfl⟩, ?_⟩
      rintro m u1 x w3 ⟨i, rfl, hi, rfl, hok, rfl⟩
      refine ⟨v, hB.l2, IfB.intro (fun hc => ?_) (fun hc => ?_)⟩
      · have hlt := of_decide_eq_true hc
        obtain ⟨q, x, hq, hx, hld⟩ := sv_at hB.nd.hv (i := i) (by omega)
        refine ⟨v, hB.l2, q, hq, by omega, by omega, x, hld, IfB.intro (fun hd => ⟨false, rfl, by
          simp only [Bool.false_eq_true, false_iff]
          intro hm
          have := hm.2.1 i (by omega) x hx
          have := of_decide_eq_true hd; omega, f1⟩) (fun hd => ?_)⟩
        have hd := of_decide_eq_false hd
        refine ⟨v.l - (i + 1), by omega, i + 1, by rw [wrap64 _ (by omega)]; omega, by omega, rfl, ?_, rfl⟩
        intro j hj y hy
        rcases Nat.lt_succ_iff_lt_or_eq.1 hj with hh | rfl
        · exact hok j hh y hy
        · rw [hx] at hy; cases hy; omega
      · have hge := of_decide_eq_false hc
        have hV : ∀ i, i < n.vals.length → ∀ y, n.vals[i]? = some y → y.size ≤ 64 := fun j hj => hok j (by omega)
        refine ⟨v, hB.l2, k, hB.l1, IfB.intro (fun hd => ⟨d, hB.l3, ?_⟩) (fun hd => ?_)⟩
        · have hd := eq_of_beq hd
          refine ⟨_, rfl, ?_, f1⟩
          rw [beq_iff_eq]
          constructor
          · intro e; exact ⟨hK, hV, fun j hj => by omega, by rw [if_pos hlf]; omega⟩
          · intro hm; have := hm.2.2.2; rw [if_pos hlf] at this; omega
        · have hd := ne_of_beq_false hd
          refine ⟨_, rfl, ?_, f1⟩
          simp only [Bool.false_eq_true, false_iff]
          intro hm; have := hm.2.2.2; rw [if_pos hlf] at this; omega
    · refine ⟨fun m x w' => ∃ i : Nat, x = (i : Int) ∧ i ≤ d.l ∧ m = d.l - i ∧ (∀ j, j < i → ∀ y, n.kids[j]? = some y → 0 ≤ y ∧ y ≤ 32768) ∧ w' = w2, d.l, ⟨0, rfl, Nat.zero_le _, by omega, by omega, rfl⟩, ?_⟩
      rintro m u2 x w4 ⟨i, rfl, hi, rfl, hok, rfl⟩
      refine ⟨d, hB.l3, IfB.intro (fun hc => ?_) (fun hc => ?_)⟩
      · have hlt := of_decide_eq_true hc
        obtain ⟨q, x, hq, hx, hld⟩ := iv_at hB.nd.hd (i := i) (by omega)
        refine ⟨d, hB.l3, q, hq, by omega, by omega, x, hld, IfB.intro (fun hd => ⟨false, rfl, by
          simp only [Bool.false_eq_true, false_iff]
          intro hm
          have := hm.2.2.1 i (by omega) x hx
          have := of_decide_eq_true hd; omega, f1⟩) (fun hd => ⟨d, hB.l3, q, hq, by omega, by omega, x, hld, IfB.intro (fun he => ⟨false, rfl, by
          simp only [Bool.false_eq_true, false_iff]
          intro hm
          have := hm.2.2.1 i (by omega) x hx
          have := of_decide_eq_true he; omega, f1⟩) (fun he => ?_)⟩)⟩
        have hd := of_decide_eq_false hd
        have he := of_decide_eq_false he
        refine ⟨d.l - (i + 1), by omega, i + 1, by rw [wrap64 _ (by omega)]; omega, by omega, rfl, ?_, rfl⟩
        intro j hj y hy
        rcases Nat.lt_succ_iff_lt_or_eq.1 hj with hh | rfl
        · exact hok j hh y hy
        · rw [hx] at hy; cases hy; omega
      · have hge := of_decide_eq_false hc
        have hD : ∀ i, i < n.kids.length → ∀ y, n.kids[i]? = some y → 0 ≤ y ∧ y ≤ 32768 := fun j hj => hok j (by omega)
        refine ⟨d, hB.l3, k, hB.l1, IfB.intro (fun hd => ⟨v, hB.l2, ?_⟩) (fun hd => ?_)⟩
        · rw [wrap64 _ (by omega)] at hd
          have hd := eq_of_beq hd
          refine ⟨_, rfl, ?_, f1⟩
          rw [beq_iff_eq]
          constructor
          · intro e; exact ⟨hK, fun j hj => by omega, hD, by rw [if_neg (by rw [hlf]; decide)]; omega⟩
          · intro hm; have := hm.2.2.2; rw [if_neg (by rw [hlf]; decide)] at this; omega
        · rw [wrap64 _ (by omega)] at hd
          have hd := ne_of_beq_false hd
          refine ⟨_, rfl, ?_, f1⟩
          simp only [Bool.false_eq_true, false_iff]
          intro hm; have := hm.2.2.2; rw [if_neg (by rw [hlf]; decide)] at this; omega
end Go.Proofs.Ytedkaegdfdcdaaa
