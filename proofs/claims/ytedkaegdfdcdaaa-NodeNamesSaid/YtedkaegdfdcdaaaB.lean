/- A node's bytes; Encode, Size, Fits: the program's and the document's. -/
import Derived.Test.YtedkaegdfdcdaaaA
set_option linter.unusedVariables false
set_option linter.unusedSimpArgs false
namespace Go.Proofs.Ytedkaegdfdcdaaa
open Go Go.Proofs.YtedkaegdfdcdaaaV
theorem gdS {l : List ByteArray} {i : Nat} {x : ByteArray} (h : l[i]? = some x) : l.getD i ⟨#[]⟩ = x := by rw [List.getD_eq_getElem?_getD, h]; rfl
theorem gdI {l : List Int} {i : Nat} {x : Int} (h : l[i]? = some x) : l.getD i 0 = x := by rw [List.getD_eq_getElem?_getD, h]; rfl
def item (n : Nd) (i : Nat) : List UInt8 := sb (n.keys.getD i ⟨#[]⟩) ++ (if n.leaf = true then sb (n.vals.getD i ⟨#[]⟩) else cb (n.kids.getD (i + 1) 0))
def nb0 (n : Nd) : List UInt8 := fb n.leaf ++ cb (n.keys.length : Int) ++ (if n.leaf = true then [] else cb (n.kids.getD 0 0))
def nbT (n : Nd) (i : Nat) : List UInt8 := nb0 n ++ (List.range i).flatMap (item n)
def nb (n : Nd) : List UInt8 := nbT n n.keys.length
theorem nbT_succ (n : Nd) (i : Nat) : nbT n (i + 1) = nbT n i ++ item n i := by
  unfold nbT
  rw [List.range_succ, List.flatMap_append, List.append_assoc]
  simp
theorem cb_len (m : Int) : (cb m).length ≤ 5 := by
  unfold cb
  split
  · simp
  · exact gb_len5 (by omega)
theorem sb_len (s : ByteArray) : (sb s).length ≤ 5 + s.size := by
  have : s.data.toList.length = s.size := Array.length_toList
  unfold sb
  split
  · simp
  · have := gb_len5 (u := s.size) (by omega)
    rw [List.length_append]; omega
theorem fb_len (v : Bool) : (fb v).length = 1 := by unfold fb; split <;> rfl
theorem nb0_len (n : Nd) : (nb0 n).length ≤ 11 := by
  unfold nb0
  have := fb_len n.leaf
  have := cb_len (n.keys.length : Int)
  have := cb_len (n.kids.getD 0 0)
  rw [List.length_append, List.length_append]
  split
  · rw [List.length_nil]; omega
  · omega
theorem MayN.key {n : Nd} (h : MayN n) {i : Nat} {x : ByteArray} (hx : n.keys[i]? = some x) : 1 ≤ x.size ∧ x.size ≤ 32 := by
  have hi := (List.getElem?_eq_some_iff.1 hx).1
  have := h.1 i hi x hx
  exact ⟨this.1, this.2.1⟩
theorem MayN.val {n : Nd} (h : MayN n) {i : Nat} {x : ByteArray} (hx : n.vals[i]? = some x) : x.size ≤ 64 := h.2.1 i (List.getElem?_eq_some_iff.1 hx).1 x hx
theorem item_len {n : Nd} (h : MayN n) {i : Nat} (hi : i < n.keys.length) : (item n i).length ≤ 106 := by
  have hx : n.keys[i]? = some n.keys[i] := by simp [hi]
  have h1 := sb_len n.keys[i]
  have h2 := (h.key hx).2
  unfold item
  rw [gdS hx, List.length_append]
  split
  · rename_i hl
    have h3 := h.2.2.2
    rw [if_pos hl] at h3
    have hy : n.vals[i]? = some n.vals[i] := by simp [show i < n.vals.length by omega]
    rw [gdS hy]
    have h4 := sb_len n.vals[i]
    have h5 := h.val hy
    omega
  · have := cb_len (n.kids.getD (i + 1) 0)
    omega
theorem nbT_len {n : Nd} (h : MayN n) : ∀ i, i ≤ n.keys.length → (nbT n i).length ≤ 11 + i * 106 := by
  intro i
  induction i with
  | zero => intro _; have := nb0_len n; simp [nbT]; omega
  | succ i ih =>
    intro hi
    have := ih (by omega)
    have := item_len h (i := i) (by omega)
    rw [nbT_succ, List.length_append]; omega
set_option maxRecDepth 20000 in
theorem bytes_calls (w : World) (k v d : Sl) (n : Nd) (h : NdS w k v d n) (hsm : SmN n) (hm : MayN n) : Calls prog 25 #[.agg (ndc n.leaf k v d)] w fun e w' => ∃ r : Sl, e = .returned (.slice r.a r.l r.c) ∧ Row w' r 5 1 (bv (nb n)) ∧ New w r ∧ Frm none_ w w' := by
  refine callsRet (W25 (Q := fun v w' => ∃ r : Sl, v = .slice r.a r.l r.c ∧ Row w' r 5 1 (bv (nb n)) ∧ New w r ∧ Frm none_ w w') ?_) (fun v w' ⟨r, h, h'⟩ => ⟨r, by rw [h], h'⟩)
  unfold F25
  intro b1 w1 hN
  have hB := Bk.new hN h
  have f1 : Frm none_ w w1 := hN.mod _
  have z1 := f1.size
  have hkl := has_sv h.hk
  have hvl := has_sv h.hv
  have hdl := has_iv h.hd
  have hs1 := hsm.k
  have hs2 := hsm.v
  have hs3 := hsm.d
  have h4 := hm.2.2.2
  refine ⟨fun w' => Bk w' b1 28 k v d n, hB.drew, n.leaf, fun w' h => h.l0, k, fun w' h => h.l1, (flag_calls w1.drew ⟨none, 0, 0⟩ [] n.leaf (nilHas _) (by decide)).mono ?_⟩
  rintro _ w2 ⟨r1, rfl, hr1, hn1, f2⟩
  have hB2 := hB.drew.mod f2
  have f12 := f1.drew.n f2
  have z2 := f2.size
  have hl1 := rowLen hr1
  refine ⟨r1, rfl, hB2, (count_calls w2 r1 _ (k.l : Int) hr1.has (by rw [hl1]; have := fb_len n.leaf; simp; omega)).mono ?_⟩
  rintro _ w3 ⟨r2, rfl, hr2, ⟨k2, hk2, hz2⟩, f3⟩
  have hB3 := hB2.mod f3
  have f13 := f12.n f3
  have hl2 := rowLen hr2
  have z3 := f3.size
  have zd : w1.drew.heap.size = w1.heap.size := rfl
  have hlen2 : ([] ++ fb n.leaf ++ cb (k.l : Int)).length ≤ 6 := by
    have := fb_len n.leaf
    have := cb_len (k.l : Int)
    rw [List.length_append]; simp; omega
  refine ⟨r2, rfl, fun x w' => Row w' x 5 1 (bv (nb0 n)) ∧ New w x ∧ Bk w' b1 28 k v d n ∧ Frm none_ w w', ?_, ?_⟩
  · refine ⟨n.leaf, hB3.l0, IfB.intro (fun hlf => ?_) (fun hlf => ?_)⟩
    · have hlf : n.leaf = false := by simpa using hlf
      rw [if_neg (by rw [hlf]; decide)] at h4
      obtain ⟨q, x, hq, hx, hld⟩ := iv_at hB3.nd.hd (i := 0) (by omega)
      refine ⟨d, hB3.l3, q, hq, by omega, by omega, x, hld, (count_calls w3 r2 _ x hr2.has (by omega)).mono ?_⟩
      rintro _ w4 ⟨r3, rfl, hr3, ⟨k3, hk3, hz3⟩, f4⟩
      refine ⟨r3, rfl, ?_, fun j hj => by rw [hk3] at hj; simp at hj; omega, hB3.mod f4, f13.n f4⟩
      have e : nb0 n = [] ++ fb n.leaf ++ cb (k.l : Int) ++ cb x := by
        unfold nb0
        rw [if_neg (by rw [hlf]; decide), gdI hx, hkl, List.nil_append]
      rw [e]; exact hr3
    · have hlf : n.leaf = true := by simpa using hlf
      refine ⟨?_, fun j hj => by rw [hk2] at hj; simp at hj; omega, hB3, f13⟩
      have e : nb0 n = [] ++ fb n.leaf ++ cb (k.l : Int) := by
        unfold nb0
        rw [if_pos hlf, hkl, List.nil_append, List.append_nil]
      rw [e]; exact hr2
  rintro u x w4 ⟨hr, hnw, hB4, f4⟩
  refine ⟨k, hB4.l1, fun m x y w' => ∃ i : Nat, y = (i : Int) ∧ i ≤ k.l ∧ m = k.l - i ∧ Row w' x 5 1 (bv (nbT n i)) ∧ New w x ∧ Bk w' b1 28 k v d n ∧ Frm none_ w w', k.l, ⟨0, rfl, Nat.zero_le _, by omega, by simpa [nbT] using hr, hnw, hB4, f4⟩, ?_⟩
  clear hr hnw hB4 f4
  rintro m u1 x y w5 ⟨i, rfl, hi, rfl, hr, hnw, hB5, f5⟩
  have hrl := rowLen hr
  have hbl := nbT_len hm i (by omega)
  have z5 := f5.size
  refine IfB.intro (fun hc => ?_) (fun hc => ?_)
  · have hlt := of_decide_eq_true hc
    obtain ⟨q, x5, hq, hx5, hld⟩ := sv_at hB5.nd.hk (i := i) (by omega)
    refine ⟨q, hq, by omega, by omega, x5, hld, (str_calls w5 x _ x5 hr.has (by omega)).mono ?_⟩
    rintro _ w6 ⟨r6, rfl, hr6, ⟨k6, hk6, hz6⟩, f6⟩
    have hB6 := hB5.mod f6
    have hrl6 := rowLen hr6
    have z6 := f6.size
    have hxl := sb_len x5
    have hxs := (hm.key hx5).2
    rw [List.length_append] at hrl6
    refine ⟨r6, rfl, n.leaf, hB6.l0, IfB.intro (fun hlf => ?_) (fun hlf => ?_)⟩
    · rw [if_pos hlf] at h4
      obtain ⟨q7, x7, hq7, hx7, hld7⟩ := sv_at hB6.nd.hv (i := i) (by omega)
      refine ⟨v, hB6.l2, q7, hq7, by omega, by omega, x7, hld7, (str_calls w6 r6 _ x7 hr6.has (by omega)).mono ?_⟩
      rintro _ w7 ⟨r7, rfl, hr7, ⟨k7, hk7, hz7⟩, f7⟩
      refine ⟨r7, rfl, k.l - (i + 1), by omega, i + 1, by rw [wrap64 _ (by omega)]; omega, by omega, rfl, ?_, fun j hj => by rw [hk7] at hj; simp at hj; omega, hB6.mod f7, (f5.n f6).n f7⟩
      rw [nbT_succ, item, if_pos hlf, gdS hx5, gdS hx7, ← List.append_assoc]
      exact hr7
    · rw [if_neg (by rw [hlf]; decide)] at h4
      have e1 : IntKind.wrap .i64 ((i : Int) + 1) = ((i + 1 : Nat) : Int) := by rw [wrap64 _ (by omega)]; omega
      rw [e1]
      obtain ⟨q7, x7, hq7, hx7, hld7⟩ := iv_at hB6.nd.hd (i := i + 1) (by omega)
      refine ⟨d, hB6.l3, q7, hq7, by omega, by omega, x7, hld7, (count_calls w6 r6 _ x7 hr6.has (by omega)).mono ?_⟩
      rintro _ w7 ⟨r7, rfl, hr7, ⟨k7, hk7, hz7⟩, f7⟩
      refine ⟨r7, rfl, k.l - (i + 1), by omega, i + 1, rfl, by omega, rfl, ?_, fun j hj => by rw [hk7] at hj; simp at hj; omega, hB6.mod f7, (f5.n f6).n f7⟩
      rw [nbT_succ, item, if_neg (by rw [hlf]; decide), gdS hx5, gdI hx7, ← List.append_assoc]
      exact hr7
  · have hge := of_decide_eq_false hc
    have e : nb n = nbT n i := by unfold nb; rw [show n.keys.length = i by omega]
    rw [← e] at hr
    exact ⟨x, rfl, hr, hnw, f5⟩
set_option maxRecDepth 20000 in
theorem Bytes_calls (w : World) (k v d : Sl) (n : Nd) (h : NdS w k v d n) (hsm : SmN n) (hm : MayN n) : Calls prog 27 #[.agg (ndc n.leaf k v d)] w fun e w' => ∃ r : Sl, e = .returned (.slice r.a r.l r.c) ∧ Row w' r 5 1 (bv (nb n)) ∧ New w r ∧ Frm none_ w w' := by
  refine callsRet (W27 (Q := fun v w' => ∃ r : Sl, v = .slice r.a r.l r.c ∧ Row w' r 5 1 (bv (nb n)) ∧ New w r ∧ Frm none_ w w') ?_) (fun v w' ⟨r, h, h'⟩ => ⟨r, by rw [h], h'⟩)
  unfold F27
  intro b1 w1 hN
  have hB := Bk.new hN h
  have f1 : Frm none_ w w1 := hN.mod _
  have z1 := f1.size
  have hkl := has_sv h.hk
  have hvl := has_sv h.hv
  have hdl := has_iv h.hd
  have hs1 := hsm.k
  have hs2 := hsm.v
  have hs3 := hsm.d
  have h4 := hm.2.2.2
  refine ⟨fun w' => Bk w' b1 25 k v d n, hB.drew, n.leaf, fun w' h => h.l0, k, fun w' h => h.l1, (rflag_calls w1.drew ⟨none, 0, 0⟩ [] n.leaf (nilHas _) (by decide)).mono ?_⟩
  rintro _ w2 ⟨r1, rfl, hr1, hn1, f2⟩
  have hB2 := hB.drew.mod f2
  have f12 := f1.drew.n f2
  have z2 := f2.size
  have hl1 := rowLen hr1
  refine ⟨r1, rfl, hB2, (rcount_calls w2 r1 _ (k.l : Int) hr1.has (by rw [hl1]; have := fb_len n.leaf; simp; omega)).mono ?_⟩
  rintro _ w3 ⟨r2, rfl, hr2, hn2, f3⟩
  have hB3 := hB2.mod f3
  have f13 := f12.n f3
  have hl2 := rowLen hr2
  have z3 := f3.size
  have zd : w1.drew.heap.size = w1.heap.size := rfl
  have hlen2 : ([] ++ fb n.leaf ++ cb (k.l : Int)).length ≤ 6 := by
    have := fb_len n.leaf
    have := cb_len (k.l : Int)
    rw [List.length_append]; simp; omega
  refine ⟨r2, rfl, fun x w' => Row w' x 5 1 (bv (nb0 n)) ∧ New w x ∧ Bk w' b1 25 k v d n ∧ Frm none_ w w', ?_, ?_⟩
  · refine ⟨n.leaf, hB3.l0, IfB.intro (fun hlf => ?_) (fun hlf => ?_)⟩
    · have hlf : n.leaf = false := by simpa using hlf
      rw [if_neg (by rw [hlf]; decide)] at h4
      obtain ⟨q, x, hq, hx, hld⟩ := iv_at hB3.nd.hd (i := 0) (by omega)
      refine ⟨d, hB3.l3, q, hq, by omega, by omega, x, hld, (rcount_calls w3 r2 _ x hr2.has (by omega)).mono ?_⟩
      rintro _ w4 ⟨r3, rfl, hr3, hn3, f4⟩
      refine ⟨r3, rfl, ?_, fun j hj => by have := hn3 j hj; omega, hB3.mod f4, f13.n f4⟩
      have e : nb0 n = [] ++ fb n.leaf ++ cb (k.l : Int) ++ cb x := by
        unfold nb0
        rw [if_neg (by rw [hlf]; decide), gdI hx, hkl, List.nil_append]
      rw [e]; exact hr3
    · have hlf : n.leaf = true := by simpa using hlf
      refine ⟨?_, fun j hj => by have := hn2 j hj; omega, hB3, f13⟩
      have e : nb0 n = [] ++ fb n.leaf ++ cb (k.l : Int) := by
        unfold nb0
        rw [if_pos hlf, hkl, List.nil_append, List.append_nil]
      rw [e]; exact hr2
  rintro u x w4 ⟨hr, hnw, hB4, f4⟩
  refine ⟨fun m x y w' => ∃ i : Nat, y = (i : Int) ∧ i ≤ k.l ∧ m = k.l - i ∧ Row w' x 5 1 (bv (nbT n i)) ∧ New w x ∧ Bk w' b1 25 k v d n ∧ Frm none_ w w', k.l, ⟨0, rfl, Nat.zero_le _, by omega, by simpa [nbT] using hr, hnw, hB4, f4⟩, ?_⟩
  clear hr hnw hB4 f4
  rintro m u1 x y w5 ⟨i, rfl, hi, rfl, hr, hnw, hB5, f5⟩
  have hrl := rowLen hr
  have hbl := nbT_len hm i (by omega)
  have z5 := f5.size
  refine ⟨k, hB5.l1, IfB.intro (fun hc => ?_) (fun hc => ?_)⟩
  · have hlt := of_decide_eq_true hc
    obtain ⟨q, x5, hq, hx5, hld⟩ := sv_at hB5.nd.hk (i := i) (by omega)
    have hxl := sb_len x5
    have hxs := (hm.key hx5).2
    refine ⟨k, hB5.l1, q, hq, by omega, by omega, x5, hld, (rstr_calls w5 x _ x5 hr.has (by omega) (by omega)).mono ?_⟩
    rintro _ w6 ⟨r6, rfl, hr6, hn6, f6⟩
    have hB6 := hB5.mod f6
    have hrl6 := rowLen hr6
    have z6 := f6.size
    rw [List.length_append] at hrl6
    refine ⟨r6, rfl, n.leaf, hB6.l0, IfB.intro (fun hlf => ?_) (fun hlf => ?_)⟩
    · rw [if_pos hlf] at h4
      obtain ⟨q7, x7, hq7, hx7, hld7⟩ := sv_at hB6.nd.hv (i := i) (by omega)
      have := hm.val hx7
      refine ⟨v, hB6.l2, q7, hq7, by omega, by omega, x7, hld7, (rstr_calls w6 r6 _ x7 hr6.has (by omega) (by omega)).mono ?_⟩
      rintro _ w7 ⟨r7, rfl, hr7, hn7, f7⟩
      refine ⟨r7, rfl, k.l - (i + 1), by omega, i + 1, by rw [wrap64 _ (by omega)]; omega, by omega, rfl, ?_, fun j hj => by have := hn7 j hj; omega, hB6.mod f7, (f5.n f6).n f7⟩
      rw [nbT_succ, item, if_pos hlf, gdS hx5, gdS hx7, ← List.append_assoc]
      exact hr7
    · rw [if_neg (by rw [hlf]; decide)] at h4
      have e1 : IntKind.wrap .i64 ((i : Int) + 1) = ((i + 1 : Nat) : Int) := by rw [wrap64 _ (by omega)]; omega
      rw [e1]
      obtain ⟨q7, x7, hq7, hx7, hld7⟩ := iv_at hB6.nd.hd (i := i + 1) (by omega)
      refine ⟨d, hB6.l3, q7, hq7, by omega, by omega, x7, hld7, (rcount_calls w6 r6 _ x7 hr6.has (by omega)).mono ?_⟩
      rintro _ w7 ⟨r7, rfl, hr7, hn7, f7⟩
      refine ⟨r7, rfl, k.l - (i + 1), by omega, i + 1, rfl, by omega, rfl, ?_, fun j hj => by have := hn7 j hj; omega, hB6.mod f7, (f5.n f6).n f7⟩
      rw [nbT_succ, item, if_neg (by rw [hlf]; decide), gdS hx5, gdI hx7, ← List.append_assoc]
      exact hr7
  · have hge := of_decide_eq_false hc
    have e : nb n = nbT n i := by unfold nb; rw [show n.keys.length = i by omega]
    rw [← e] at hr
    exact ⟨x, rfl, hr, hnw, f5⟩
open Classical in
noncomputable def encC (n : Nd) : Int := if MayN n then (if (nb n).length > 256 then 3 else 0) else 1
def enc (n : Nd) : List UInt8 := nb n ++ List.replicate (256 - (nb n).length) 0
open Classical in
noncomputable def encL (n : Nd) : List UInt8 := if encC n = 0 then enc n else []
open Classical in
noncomputable def sizN (n : Nd) : Int := if MayN n then ((nb n).length : Int) else 0
theorem encC_cases (n : Nd) : (¬ MayN n ∧ encC n = 1 ∧ encL n = []) ∨ (MayN n ∧ 256 < (nb n).length ∧ encC n = 3 ∧ encL n = []) ∨ (MayN n ∧ (nb n).length ≤ 256 ∧ encC n = 0 ∧ encL n = enc n) := by
  unfold encL encC
  by_cases hm : MayN n
  · by_cases hl : (nb n).length > 256
    · right; left; simp [hm, hl]
    · right; right; simp [hm, hl]; omega
  · left; simp [hm]
theorem enc_len {n : Nd} (h : (nb n).length ≤ 256) : (enc n).length = 256 := by unfold enc; rw [List.length_append, List.length_replicate]; omega
theorem bv_zero (m : Nat) : bv (List.replicate m 0) = List.replicate m (.int .u8 0) := by unfold bv; rw [List.map_replicate]; rfl
theorem made_zero (n : Nat) : (madeCells (Value.int IntKind.u8 0).cells n).toList = bv (List.replicate n 0) := by
  rw [bv_zero]
  apply List.eq_replicate_iff.2
  refine ⟨by rw [Array.length_toList, size_madeCells], ?_⟩
  intro u hu
  simp only [madeCells, Array.toList_map, List.mem_map] at hu
  obtain ⟨i, _, rfl⟩ := hu
  have h1 : i % (Value.int IntKind.u8 0).cells.size = 0 := by show i % 1 = 0; omega
  rw [h1]; rfl
theorem zeroCells_u8 (n : Nat) : (Builtin.zeroCells (Value.int IntKind.u8 0).cells n).toList = List.replicate n (.int .u8 0) := by
  apply List.eq_replicate_iff.2
  refine ⟨by rw [Array.length_toList, size_zeroCells]; show n * 1 = n; omega, ?_⟩
  intro u hu
  simp only [Builtin.zeroCells, Array.toList_map, List.mem_map] at hu
  obtain ⟨i, _, rfl⟩ := hu
  have h1 : i % (Value.int IntKind.u8 0).cells.size = 0 := by show i % 1 = 0; omega
  rw [h1]; rfl
theorem encode_calls (w : World) (k v d : Sl) (n : Nd) (h : NdS w k v d n) (hsm : SmN n) : Calls prog 12 #[.agg (ndc n.leaf k v d)] w fun e w' => ∃ r : Sl, e = .returned (.tuple #[.slice r.a r.l r.c, .int .i64 (encC n)]) ∧ Has w' r 1 (bv (encL n)) ∧ r.l ≤ r.c ∧ New w r ∧ Frm none_ w w' := by
  refine callsRet (W12 (Q := fun v w' => ∃ r : Sl, v = .tuple #[.slice r.a r.l r.c, .int .i64 (encC n)] ∧ Has w' r 1 (bv (encL n)) ∧ r.l ≤ r.c ∧ New w r ∧ Frm none_ w w') ?_) (fun v w' ⟨r, h, h'⟩ => ⟨r, by rw [h], h'⟩)
  unfold F12
  intro b1 w1 hN
  have hB := Bk.new hN h
  have f1 : Frm none_ w w1 := hN.mod _
  refine ⟨_, hB.la, (may_calls w1 k v d n hB.nd hsm).mono ?_⟩
  rintro _ w2 ⟨b, rfl, hb, f2⟩
  have f12 := f1.n f2
  have hnil : New w ⟨none, 0, 0⟩ := fun k hk => by simp [Sl.blk] at hk
  refine ⟨_, rfl, IfB.intro (fun hc => ?_) (fun hc => ?_)⟩
  · have hc : b = false := by simpa using hc
    have hn : ¬ MayN n := fun hm => by have := hb.2 hm; rw [hc] at this; cases this
    rcases encC_cases n with ⟨_, e1, e2⟩ | ⟨hm, _⟩ | ⟨hm, _⟩
    · refine ⟨⟨none, 0, 0⟩, by rw [e1], by rw [e2]; exact nilHas _, Nat.le_refl _, hnil, f12⟩
    · exact absurd hm hn
    · exact absurd hm hn
  have hc : b = true := by simpa using hc
  have hm := hb.1 hc
  have hB2 := hB.mod f2
  refine ⟨_, hB2.la, (bytes_calls w2 k v d n hB2.nd hsm hm).mono ?_⟩
  rintro _ w3 ⟨r, rfl, hr, hn, f3⟩
  have f13 := f12.n f3
  have hrl := rowLen hr
  refine ⟨r, rfl, IfB.intro (fun hd => ?_) (fun hd => ?_)⟩
  · have hd := of_decide_eq_true hd
    rcases encC_cases n with ⟨hn, _⟩ | ⟨_, _, e1, e2⟩ | ⟨_, hl, _⟩
    · exact absurd hm hn
    · refine ⟨⟨none, 0, 0⟩, by rw [e1], by rw [e2]; exact nilHas _, Nat.le_refl _, hnil, f13⟩
    · omega
  have hd := of_decide_eq_false hd
  rcases encC_cases n with ⟨hn, _⟩ | ⟨_, hl, _⟩ | ⟨_, hl, e1, e2⟩
  · exact absurd hm hn
  · omega
  refine runT_makeN st22 (by decide) (by decide) (by decide) ?_
  intro t w4 hr4 htl htc hta f4 z4
  rw [made_zero] at hr4
  have e256 : (256 : Int).toNat * 1 = 256 := rfl
  rw [e256] at hr4
  have htb : t.blk = some w3.heap.size := by simp [Sl.blk, hta]
  have h256 : (256 : Int).toNat = 256 := rfl
  rw [h256] at htl htc
  have hr3 := hr.mod f4 (fun _ _ h => h)
  have hpos : 1 ≤ (nb n).length := by
    have := fb_len n.leaf
    unfold nb nbT nb0
    simp only [List.length_append]; omega
  rcases hr3.cases with ⟨rfl, _⟩ | ⟨g, cur, ha, _⟩
  · simp at hrl; omega
  rcases hr4.cases with ⟨rfl, _⟩ | ⟨g4, cur4, ha4, hB4, _, _, hcs4, htk4⟩
  · simp at htl
  have hg4 : g4 = w3.heap.size := by
    have : t.blk = some g4 := by simp [Sl.blk, ha4]
    rw [htb] at this; simpa using this.symm
  have hcur4 : cur4.toList = bv (List.replicate 256 0) := by
    rw [← htk4]
    exact (List.take_of_length_le (by rw [Array.length_toList, hcs4]; omega)).symm
  have hr3h := hr3.has
  have hreq : r = ⟨some ⟨g, 0, none⟩, r.l, r.c⟩ := by rw [← ha]
  have hteq : t = ⟨some ⟨g4, 0, none⟩, t.l, t.c⟩ := by rw [← ha4]
  rw [hreq] at hr3h
  have hmin : Nat.min r.l t.l = r.l := Nat.min_eq_left (by omega)
  have hL : 0 + Nat.min r.l t.l * 1 ≤ cur4.size := by rw [hcs4, hmin]; omega
  have goal := runT_copy (dT := 30) (sT := 30) (ty := 3) (dLen := t.l) (dCap := t.c) st22 hB4 (o := 0) hr3h hL (bv_one _) (K := fun (t17 : Int) w5 => (fun v w' => ∃ r : Sl, v = Value.tuple #[.slice r.a r.l r.c, .int .i64 (encC n)] ∧ Has w' r 1 (bv (encL n)) ∧ r.l ≤ r.c ∧ New w r ∧ Frm none_ w w') (.tuple #[.slice t.a t.l t.c, .int .i64 0]) w5) (by
    intro w5 hB5 f5 z5
    have f15 := (f13.n f4).b f5 (by have := f13.size; omega)
    rw [hmin, Nat.mul_one, hcur4] at hB5
    have e5 : ((bv (List.replicate 256 0)).take 0 ++ (bv (nb n)).take r.l ++ (bv (List.replicate 256 0)).drop (0 + r.l)) = bv (enc n) := by
      rw [List.take_zero, List.nil_append, List.take_of_length_le (by rw [bv_length]; omega), Nat.zero_add]
      unfold enc
      rw [bv_append]
      congr 1
      unfold bv
      rw [← List.map_drop, List.drop_replicate, hrl]
    rw [e5] at hB5
    have hrow := Row.mk (n := 256) (c := 256) (sz := 1) hB5 (Nat.le_refl _) (by decide) (by rw [List.size_toArray, bv_length, enc_len hl])
    have hcut : (bv (enc n)).take (256 * 1) = bv (enc n) := List.take_of_length_le (by rw [bv_length, enc_len hl]; omega)
    rw [List.toList_toArray, hcut] at hrow
    refine ⟨t, by rw [e1], ?_, by omega, fun j hj => by rw [htb] at hj; simp at hj; have := f13.size; omega, f15⟩
    rw [e2, hteq, htl, htc]
    exact hrow.has)
  rw [ha, ha4]
  rw [ha4] at goal
  exact goal
/-- append of n zeros -/
theorem runT_appendZ {w : World} {s : Sl} {cs : List Value} (h : Row w s 5 1 cs) (hne : ∃ g, s.blk = some g) (m : Nat) (hb : s.l + m ≤ 140737488355328) {K : Sl → World → Prop}
    (hk : ∀ s' w', Row w' s' 5 1 (cs ++ List.replicate m (.int .u8 0)) → s'.l = s.l + m → Near w s s' → Frm (fun b => s.blk = some b) w w' → K s' w') :
    RunT prog .slice (Builtin.append_ #[30, 3] 30 #[.slice s.a s.l s.c, .int .i64 (m : Int)]) w K := by
  obtain ⟨i, hi, hz, hsz, hby⟩ := st22.info
  have hu3 : prog.underlying 3 = some (.int .i64) := by kernel_rfl
  have hwm : IntKind.i64.wrap (m : Int) = m := by rw [IntKind.wrap_i64]; omega
  have hneg : ¬ ((m : Int) < 0) := by omega
  have h48i : ¬ (281474976710656 < (m : Int) * (i.bytes : Int)) := by rw [hby]; omega
  unfold RunT
  rcases h.cases with ⟨rfl, _⟩ | ⟨g, cur, ha, hB, hlc, hcm, hcs, htake⟩
  · obtain ⟨g, hg⟩ := hne; simp [Sl.blk] at hg
  · have hblk : s.blk = some g := by simp [Sl.blk, ha]
    simp only [Nat.mul_one] at hcs htake
    have hzl : (List.replicate m (Value.int .u8 0)).length = m := List.length_replicate
    by_cases hroom : s.l + m ≤ s.c
    · have hst := run_storeCells_at prog g s.l 5 (List.replicate m (Value.int .u8 0)) 0 cur w hB (by rw [hzl]; omega) (fun u hu => by rw [(List.mem_replicate.1 hu).2]; rfl)
      simp only [Nat.add_zero, hzl] at hst
      have hr : (Builtin.append_ #[30, 3] 30 #[.slice (some ⟨g, 0, none⟩) s.l s.c, .int .i64 (m : Int)]).run prog w = .ok (.slice (some ⟨g, 0, none⟩) (s.l + m) s.c) (w.setRow g (cur.toList.take s.l ++ List.replicate m (Value.int .u8 0) ++ cur.toList.drop (s.l + m)).toArray) := by
        by_cases hm0 : m = 0
        · subst hm0
          have hw0 : IntKind.i64.wrap (0 : Int) = 0 := by decide
          simp only [List.replicate_zero] at hst
          simp [Builtin.append_, run_underlying st22.und, run_underlying hu3, sizeOf, typeInfo, hi, hsz, asInt, asIntOf, hw0, hlc, Addr.add_lit]
          simpa [storeCells] using hst
        · simp [Builtin.append_, run_underlying st22.und, run_underlying hu3, sizeOf, typeInfo, zeroValue, hi, hz, hsz, asInt, asIntOf, hwm, hneg, h48i, hroom, hm0, zeroCells_u8, Addr.add_lit, hst]
      rw [ha, hr]
      refine ⟨⟨some ⟨g, 0, Option.none⟩, s.l + m, s.c⟩, rfl, hk _ _ ?_ rfl (.inl (by simp [Sl.blk, ha])) ?_⟩
      · have hB' : Blk (w.setRow g (cur.toList.take s.l ++ List.replicate m (Value.int .u8 0) ++ cur.toList.drop (s.l + m)).toArray) g (cur.toList.take s.l ++ List.replicate m (Value.int .u8 0) ++ cur.toList.drop (s.l + m)).toArray 5 := setRow_heap w g cur _ 5 _ hB
        have hlt : (cur.toList.take s.l ++ List.replicate m (Value.int .u8 0)).length = s.l + m := by simp; omega
        have := Row.mk (n := s.l + m) (c := s.c) (sz := 1) hB' hroom hcm (by simp; omega)
        rw [Nat.mul_one] at this
        have he : ((cur.toList.take s.l ++ List.replicate m (Value.int .u8 0) ++ cur.toList.drop (s.l + m)).toArray.toList.take (s.l + m)) = cs ++ List.replicate m (.int .u8 0) := by
          rw [← htake]
          simp only [List.toList_toArray]
          rw [← hlt]
          exact List.take_left
        rwa [he] at this
      · exact (mod_setRow w g _).mono fun b _ hb => by rw [hb]; exact hblk
    · have hgl := grownCap_ge w (s.l + m) s.c 5
      have hgm := grownCap_le_maxLen w (s.l + m) s.c 5 (by simp only [maxLen]; omega)
      have hcl : cs.length = s.l := by have := h.len; omega
      have hhas := h.has
      have hm0 : ¬ m = 0 := by omega
      have hfit : ¬ (281474976710656 < Builtin.nextslicecap (s.l + m) s.c * i.bytes) := by
        rw [hby]
        have := nextslicecap_le (need := s.l + m) (old := s.c) (by omega)
        omega
      have h63' : ¬ (9223372036854775807 < ((s.l : Int) + (m : Int))) := by omega
      have hfo := run_firstCells_some (P := prog) w.drew i.size s.l ⟨g, 0, none⟩ s.l s.c cs (by rw [hsz]; omega) (fun j v hv => by
        obtain ⟨a, ha', hc⟩ := hhas.get j v hv
        rw [ha] at ha'; cases ha'; exact hc)
      rw [hsz] at hfo
      have hr : (Builtin.append_ #[30, 3] 30 #[.slice (some ⟨g, 0, none⟩) s.l s.c, .int .i64 (m : Int)]).run prog w = .ok (.slice (some ⟨w.heap.size, 0, none⟩) (s.l + m) (grownCap w (s.l + m) s.c 5))
          (w.drew.alloc (.cells (cs.toArray ++ Builtin.zeroCells (Value.int .u8 0).cells m ++ Builtin.zeroCells (Value.int .u8 0).cells (grownCap w (s.l + m) s.c 5 - (s.l + m))) 5)) := by
        simp [Builtin.append_, run_underlying st22.und, run_underlying hu3, sizeOf, typeInfo, zeroValue, hi, hz, hsz, asInt, asIntOf, hwm, hneg, h48i, hroom, hm0, hfit, h63', Question.forced, hfo, newRow, grownCap]
      rw [ha, hr]
      refine ⟨⟨some ⟨w.heap.size, 0, Option.none⟩, s.l + m, grownCap w (s.l + m) s.c 5⟩, rfl, hk _ _ ?_ rfl (.inr rfl) ?_⟩
      · have hB' := NewB.blk (w := w.drew) (cs := cs.toArray ++ Builtin.zeroCells (Value.int .u8 0).cells m ++ Builtin.zeroCells (Value.int .u8 0).cells (grownCap w (s.l + m) s.c 5 - (s.l + m))) (T := 5) ⟨rfl, rfl⟩
        have hz1 : (Value.int IntKind.u8 0).cells.size = 1 := rfl
        have hlt : (cs ++ List.replicate m (Value.int .u8 0)).length = s.l + m := by simp; omega
        have := Row.mk (n := s.l + m) (sz := 1) hB' hgl hgm (by simp only [Array.size_append, List.size_toArray, size_zeroCells, hz1, hcl]; omega)
        rw [Nat.mul_one] at this
        have he : ((cs.toArray ++ Builtin.zeroCells (Value.int .u8 0).cells m ++ Builtin.zeroCells (Value.int .u8 0).cells (grownCap w (s.l + m) s.c 5 - (s.l + m))).toList.take (s.l + m)) = cs ++ List.replicate m (.int .u8 0) := by
          simp only [Array.toList_append, zeroCells_u8]
          rw [← hlt]
          exact List.take_left
        rwa [he] at this
      · exact (NewB.mod (w := w.drew) ⟨rfl, rfl⟩ _).ofDrew
end Go.Proofs.Ytedkaegdfdcdaaa
