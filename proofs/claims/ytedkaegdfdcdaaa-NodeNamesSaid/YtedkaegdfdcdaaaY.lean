/- The laws NodeRoom and NodeReads walked. -/
import Derived.Test.YtedkaegdfdcdaaaZ
set_option linter.unusedVariables false
set_option linter.unusedSimpArgs false
namespace Go.Proofs.Ytedkaegdfdcdaaa
open Go Go.Proofs.YtedkaegdfdcdaaaV
theorem er_next {α : Type} {l : List α} {i j : Nat} {x : α} (h : l[j]? = some x) : (l.take (j + 1)).eraseIdx i = (l.take j).eraseIdx i ++ (if j = i then [] else [x]) := by
  have hj := (List.getElem?_eq_some_iff.1 h).1
  have hl : (l.take j).length = j := by rw [List.length_take]; omega
  have e : l.take (j + 1) = l.take j ++ [x] := by rw [List.take_add_one, h]; rfl
  rw [e]
  rcases Nat.lt_trichotomy i j with hh | hh | hh
  · rw [List.eraseIdx_append_of_lt_length (by omega), if_neg (by omega)]
  · rw [List.eraseIdx_append_of_length_le (by omega), if_pos hh.symm, hl, hh, Nat.sub_self]
    rw [List.eraseIdx_of_length_le (show (l.take j).length ≤ j by omega)]; rfl
  · rw [List.eraseIdx_append_of_length_le (by omega), if_neg (by omega), hl]
    rw [List.eraseIdx_of_length_le (show (l.take j).length ≤ i by omega), List.eraseIdx_of_length_le (show [x].length ≤ i - j by simp; omega)]
structure Ws (wb w : World) (b2 b5 : Nat) (xk xv xd k v d : Sl) (n m : Nd) : Prop where
  np : Np wb w b5 25 k v d m
  src : Bk w b2 25 xk xv xd n
  fr : Frm none_ wb w
theorem Ws.step {wb w w' : World} {b2 b5 : Nat} {xk xv xd k v d k' v' d' : Sl} {n m m' : Nd} {F : Nat → Prop} (h : Ws wb w b2 b5 xk xv xd k v d n m) (hs : Bk wb b2 25 xk xv xd n) (hn : Np wb w' b5 25 k' v' d' m') (f : Frm F w w') (hF : ∀ j, F j → wb.heap.size ≤ j) : Ws wb w' b2 b5 xk xv xd k' v' d' n m' := by
  have g : Frm none_ wb w' := h.fr.trans f (fun _ _ h => h) (fun j hj e => by have := hF j e; omega)
  exact ⟨hn, hs.mod g, g⟩
theorem Ws.drew {wb w : World} {b2 b5 : Nat} {xk xv xd k v d : Sl} {n m : Nd} (h : Ws wb w b2 b5 xk xv xd k v d n m) : Ws wb w.drew b2 b5 xk xv xd k v d n m := ⟨h.np.drew, h.src.drew, h.fr.drew⟩
set_option maxRecDepth 20000 in
theorem without_calls (w : World) (xk xv xd : Sl) (n : Nd) (h : NdS w xk xv xd n) (hsm : SmN n) (i : Nat) (hi : i < 1000000) : Calls prog 23 #[.agg (ndc n.leaf xk xv xd), .int .i64 (i : Int)] w fun e w' =>
    ∃ k v d, e = .returned (.agg (ndc n.leaf k v d)) ∧ Own w w' k v d (wo n i) ∧ Frm none_ w w' := by
  refine callsRet (W23 (Q := fun x w' => ∃ k v d, x = .agg (ndc n.leaf k v d) ∧ Own w w' k v d (wo n i) ∧ Frm none_ w w') ?_) (fun x w' ⟨k, v, d, h, h'⟩ => ⟨k, v, d, by rw [h], h'⟩)
  unfold F23
  intro b2 w1 hN2 b4 w2 hN4
  have f1 : Frm none_ w w1 := hN2.mod _
  have f2 : Frm none_ w1 w2 := hN4.mod _
  have hA2 := (Bk.new hN2 h).mod f2
  have z1 := f1.size
  have z2 := f2.size
  have hb4 := hN4.b
  have hb4l := hN4.blk.lt
  have hkl := has_sv h.hk
  have hvl := has_sv h.hv
  have hdl := has_iv h.hd
  have hs1 := hsm.k
  have hs2 := hsm.v
  have hs3 := hsm.d
  refine ⟨n.leaf, hA2.l0, _, b25a _, ?_⟩
  intro b5 w3 hN5
  have f3 : Frm none_ w2 w3 := hN5.mod _
  refine hN5.blk.setW rfl rfl (ndc_one _ _ _ _) ?_
  intro w4 hB4 f4
  have hb5 := hN5.b
  have z3 := f3.size
  have f24 : Frm none_ w2 w4 := f3.b f4 (by omega)
  have hW : Ws w2 w4 b2 b5 xk xv xd ⟨none, 0, 0⟩ ⟨none, 0, 0⟩ ⟨none, 0, 0⟩ n ⟨n.leaf, [], [], []⟩ := ⟨⟨hB4, own0 _ _ _, by omega, by decide, by decide⟩, hA2.mod f24, f24⟩
  refine ⟨fun m x w' => ∃ (j : Nat) (k : Sl), x = (j : Int) ∧ j ≤ xk.l ∧ m = xk.l - j ∧ Ws w2 w' b2 b5 xk xv xd k ⟨none, 0, 0⟩ ⟨none, 0, 0⟩ n ⟨n.leaf, (n.keys.take j).eraseIdx i, [], []⟩, xk.l, ⟨0, ⟨none, 0, 0⟩, rfl, Nat.zero_le _, by omega, by simpa using hW⟩, ?_⟩
  clear hW hB4 f4 f24
  rintro m u x w5 ⟨j, k, rfl, hj, rfl, hW⟩
  refine ⟨xk, hW.src.l1, IfB.intro (fun hc => ?_) (fun hc => ?_)⟩
  · have hlt := of_decide_eq_true hc
    obtain ⟨q, y, hq, hy, _⟩ := sv_at hA2.nd.hk (i := j) (by omega)
    have hld : ∀ w', Frm none_ w2 w' → Ld w' (q.add ((j : Int).toNat * 1)) (.string y) := fun w' f => by
      obtain ⟨q', y', hq', hy', hl'⟩ := sv_at (hA2.mod f).nd.hk (i := j) (by omega)
      rw [hq] at hq'; cases hq'
      rw [hy] at hy'; cases hy'
      exact hl'
    have hnx := er_next (i := i) hy
    refine IfB.intro (fun hd => ?_) (fun hd => ?_)
    · have hd := iNe hd
      have hne : ¬ j = i := fun e => hd (by rw [e])
      rw [if_neg hne] at hnx
      have hWd := hW.drew
      have hz := hWd.fr.size
      refine ⟨fun w' => Bk w' b5 25 k ⟨none, 0, 0⟩ ⟨none, 0, 0⟩ ⟨n.leaf, (n.keys.take j).eraseIdx i, [], []⟩ ∧ Bk w' b2 25 xk xv xd n ∧ Frm none_ w2 w', ⟨hWd.np.bk, hWd.src, hWd.fr⟩, k, fun w' h => h.1.l1, xk, fun w' h => h.2.1.l1, q, hq, by omega, by omega, y, fun w' h => hld w' h.2.2, hWd.np.pushK hz y (by have : ((n.keys.take j).eraseIdx i).length ≤ (n.keys.take j).length := List.length_eraseIdx_le _ _; rw [List.length_take] at this; simp only; omega) (S := fun w' => Bk w' b5 25 k ⟨none, 0, 0⟩ ⟨none, 0, 0⟩ ⟨n.leaf, (n.keys.take j).eraseIdx i, [], []⟩ ∧ Bk w' b2 25 xk xv xd n ∧ Frm none_ w2 w') (fun w' f => ⟨hWd.np.bk.mod f, hWd.src.mod f, hWd.fr.n f⟩) ?_⟩
      intro w6 k' F hn6 f6 hF
      refine ⟨xk.l - (j + 1), by omega, j + 1, k', by rw [wrap64 _ (by omega)]; omega, by omega, rfl, ?_⟩
      rw [hnx]
      exact hWd.step hA2 hn6 f6 hF
    · have hd := iEq hd
      rw [if_pos (by omega), List.append_nil] at hnx
      refine ⟨xk.l - (j + 1), by omega, j + 1, k, by rw [wrap64 _ (by omega)]; omega, by omega, rfl, ?_⟩
      rw [hnx]; exact hW
  have hge := of_decide_eq_false hc
  have ek : n.keys.take j = n.keys := List.take_of_length_le (by omega)
  rw [ek] at hW
  clear hc hge ek hj
  refine ⟨fun m x w' => ∃ (j : Nat) (v : Sl), x = (j : Int) ∧ j ≤ xv.l ∧ m = xv.l - j ∧ Ws w2 w' b2 b5 xk xv xd k v ⟨none, 0, 0⟩ n ⟨n.leaf, n.keys.eraseIdx i, (n.vals.take j).eraseIdx i, []⟩, xv.l, ⟨0, ⟨none, 0, 0⟩, rfl, Nat.zero_le _, by omega, by simpa using hW⟩, ?_⟩
  clear hW j w5
  rintro m u1 x w5 ⟨j, v, rfl, hj, rfl, hW⟩
  refine ⟨xv, hW.src.l2, IfB.intro (fun hc => ?_) (fun hc => ?_)⟩
  · have hlt := of_decide_eq_true hc
    obtain ⟨q, y, hq, hy, _⟩ := sv_at hA2.nd.hv (i := j) (by omega)
    have hld : ∀ w', Frm none_ w2 w' → Ld w' (q.add ((j : Int).toNat * 1)) (.string y) := fun w' f => by
      obtain ⟨q', y', hq', hy', hl'⟩ := sv_at (hA2.mod f).nd.hv (i := j) (by omega)
      rw [hq] at hq'; cases hq'
      rw [hy] at hy'; cases hy'
      exact hl'
    have hnx := er_next (i := i) hy
    refine IfB.intro (fun hd => ?_) (fun hd => ?_)
    · have hd := iNe hd
      have hne : ¬ j = i := fun e => hd (by rw [e])
      rw [if_neg hne] at hnx
      have hWd := hW.drew
      have hz := hWd.fr.size
      refine ⟨fun w' => Bk w' b5 25 k v ⟨none, 0, 0⟩ ⟨n.leaf, n.keys.eraseIdx i, (n.vals.take j).eraseIdx i, []⟩ ∧ Bk w' b2 25 xk xv xd n ∧ Frm none_ w2 w', ⟨hWd.np.bk, hWd.src, hWd.fr⟩, v, fun w' h => h.1.l2, xv, fun w' h => h.2.1.l2, q, hq, by omega, by omega, y, fun w' h => hld w' h.2.2, hWd.np.pushV hz y (by have : ((n.vals.take j).eraseIdx i).length ≤ (n.vals.take j).length := List.length_eraseIdx_le _ _; rw [List.length_take] at this; simp only; omega) (S := fun w' => Bk w' b5 25 k v ⟨none, 0, 0⟩ ⟨n.leaf, n.keys.eraseIdx i, (n.vals.take j).eraseIdx i, []⟩ ∧ Bk w' b2 25 xk xv xd n ∧ Frm none_ w2 w') (fun w' f => ⟨hWd.np.bk.mod f, hWd.src.mod f, hWd.fr.n f⟩) ?_⟩
      intro w6 k' F hn6 f6 hF
      refine ⟨xv.l - (j + 1), by omega, j + 1, k', by rw [wrap64 _ (by omega)]; omega, by omega, rfl, ?_⟩
      rw [hnx]
      exact hWd.step hA2 hn6 f6 hF
    · have hd := iEq hd
      rw [if_pos (by omega), List.append_nil] at hnx
      refine ⟨xv.l - (j + 1), by omega, j + 1, v, by rw [wrap64 _ (by omega)]; omega, by omega, rfl, ?_⟩
      rw [hnx]; exact hW
  have hge := of_decide_eq_false hc
  have ek : n.vals.take j = n.vals := List.take_of_length_le (by omega)
  rw [ek] at hW
  clear hc hge ek hj
  refine ⟨fun m x w' => ∃ (j : Nat) (d : Sl), x = (j : Int) ∧ j ≤ xd.l ∧ m = xd.l - j ∧ Ws w2 w' b2 b5 xk xv xd k v d n ⟨n.leaf, n.keys.eraseIdx i, n.vals.eraseIdx i, (n.kids.take j).eraseIdx (i + 1)⟩, xd.l, ⟨0, ⟨none, 0, 0⟩, rfl, Nat.zero_le _, by omega, by simpa using hW⟩, ?_⟩
  clear hW j w5
  rintro m u2 x w5 ⟨j, d, rfl, hj, rfl, hW⟩
  have ei : IntKind.wrap .i64 ((i : Int) + 1) = ((i + 1 : Nat) : Int) := by rw [wrap64 _ (by omega)]; omega
  rw [ei]
  refine ⟨xd, hW.src.l3, IfB.intro (fun hc => ?_) (fun hc => ?_)⟩
  · have hlt := of_decide_eq_true hc
    obtain ⟨q, y, hq, hy, _⟩ := iv_at hA2.nd.hd (i := j) (by omega)
    have hld : ∀ w', Frm none_ w2 w' → Ld w' (q.add ((j : Int).toNat * 1)) (.int .i64 y) := fun w' f => by
      obtain ⟨q', y', hq', hy', hl'⟩ := iv_at (hA2.mod f).nd.hd (i := j) (by omega)
      rw [hq] at hq'; cases hq'
      rw [hy] at hy'; cases hy'
      exact hl'
    have hnx := er_next (i := i + 1) hy
    refine IfB.intro (fun hd => ?_) (fun hd => ?_)
    · have hd := iNe hd
      have hne : ¬ j = i + 1 := fun e => hd (by rw [e])
      rw [if_neg hne] at hnx
      have hWd := hW.drew
      have hz := hWd.fr.size
      refine ⟨fun w' => Bk w' b5 25 k v d ⟨n.leaf, n.keys.eraseIdx i, n.vals.eraseIdx i, (n.kids.take j).eraseIdx (i + 1)⟩ ∧ Bk w' b2 25 xk xv xd n ∧ Frm none_ w2 w', ⟨hWd.np.bk, hWd.src, hWd.fr⟩, d, fun w' h => h.1.l3, xd, fun w' h => h.2.1.l3, q, hq, by omega, by omega, y, fun w' h => hld w' h.2.2, hWd.np.pushD hz y (by have : ((n.kids.take j).eraseIdx (i + 1)).length ≤ (n.kids.take j).length := List.length_eraseIdx_le _ _; rw [List.length_take] at this; simp only; omega) (S := fun w' => Bk w' b5 25 k v d ⟨n.leaf, n.keys.eraseIdx i, n.vals.eraseIdx i, (n.kids.take j).eraseIdx (i + 1)⟩ ∧ Bk w' b2 25 xk xv xd n ∧ Frm none_ w2 w') (fun w' f => ⟨hWd.np.bk.mod f, hWd.src.mod f, hWd.fr.n f⟩) ?_⟩
      intro w6 k' F hn6 f6 hF
      refine ⟨xd.l - (j + 1), by omega, j + 1, k', by rw [wrap64 _ (by omega)]; omega, by omega, rfl, ?_⟩
      rw [hnx]
      exact hWd.step hA2 hn6 f6 hF
    · have hd := iEq hd
      rw [if_pos (by omega), List.append_nil] at hnx
      refine ⟨xd.l - (j + 1), by omega, j + 1, d, by rw [wrap64 _ (by omega)]; omega, by omega, rfl, ?_⟩
      rw [hnx]; exact hW
  have hge := of_decide_eq_false hc
  have ek : n.kids.take j = n.kids := List.take_of_length_le (by omega)
  rw [ek] at hW
  have hz4 := hN4.blk.mod hW.fr (fun h => h)
  refine ⟨_, hW.np.bk.la, hz4.setW rfl rfl (ndc_one _ _ _ _) ?_⟩
  intro w6 hB6 f6
  have hO := hW.np.own.mod f6 (fun j hj e => by have e : j = b4 := e; omega)
  exact ⟨_, hB6.ldA rfl, k, v, d, rfl, ⟨hO.rk, hO.rv, hO.rd, fun j hj => by have := hO.nk j hj; omega, fun j hj => by have := hO.nv j hj; omega, fun j hj => by have := hO.nd j hj; omega, hO.kv⟩, ((f1.n f2).n hW.fr).b f6 (by omega)⟩
theorem umod (x : Int) (n : Nat) (h0 : 0 < n) (hn : n ≤ 1000000) : IntKind.wrap .u64 (n : Int) ≠ 0 ∧ ∃ k : Nat, IntKind.wrap .i64 (Int.tmod (IntKind.wrap .u64 x) (IntKind.wrap .u64 (n : Int))) = (k : Int) ∧ k < n := by
  have e : IntKind.wrap .u64 (n : Int) = (n : Int) := wu64 _ (by omega)
  have hx : 0 ≤ IntKind.wrap .u64 x := by rw [wu64m]; omega
  rw [e, Int.tmod_eq_emod_of_nonneg hx]
  generalize IntKind.wrap .u64 x = y at hx
  have h1 := Int.emod_nonneg y (show (n : Int) ≠ 0 by omega)
  have h2 := Int.emod_lt_of_pos y (show (0 : Int) < (n : Int) by omega)
  generalize y % (n : Int) = z at h1 h2
  refine ⟨by omega, z.toNat, ?_, by omega⟩
  rw [wrap64 _ (by omega)]
  omega
set_option maxRecDepth 20000 in
theorem room_law (W : World) (x : Na) (hx : OkA W x) (i : Int) (hi : -9223372036854775808 ≤ i ∧ i ≤ 9223372036854775807) : Calls prog 7 #[.agg (na x).toArray, .int .i64 i] W fun e w' => e = .returned (.bool true) ∧ Frm none_ W w' := by
  refine callsRet (W7 (x0 := ndc (nd x).leaf x.k x.v x.d) (x1 := i) (Q := fun v w' => v = .bool true ∧ Frm none_ W w') ?_) (fun v w' ⟨h, h'⟩ => ⟨by rw [h], h'⟩)
  unfold F7
  intro b2 w1 hN
  have f1 : Frm none_ W w1 := hN.mod _
  have hA := Bk.new hN hx.s
  refine ⟨fun c w' => Frm none_ w1 w' ∧ (c = false → (nd x).keys.length + (nd x).vals.length + (nd x).kids.length ≤ 5000), ⟨_, hA.la, (large_calls w1 _ _ _ _ hA.nd ⟨hx.lk, hx.lv, hx.ld⟩ hx.ck hx.cv).mono ?_⟩, ?_⟩
  · rintro _ w2 ⟨b, rfl, hb, f2⟩
    refine ⟨_, rfl, IfB.intro (fun _ => ⟨f2, by simp⟩) (fun hbf => (awake_calls w2).mono ?_)⟩
    rintro _ w3 ⟨rfl, f3⟩
    exact ⟨_, rfl, f2.n f3, fun _ => hb hbf⟩
  rintro u c w2 ⟨f2, hc⟩
  have f12 := f1.n f2
  refine IfB.intro (fun _ => (awake_calls w2).mono ?_) (fun hcf => ?_)
  · rintro _ w3 ⟨rfl, f3⟩
    exact ⟨_, rfl, rfl, f12.n f3⟩
  have hlen := hc hcf
  have hsm := sm_of hlen
  have hbd : (nd x).keys.length ≤ 1000000000 ∧ (nd x).vals.length ≤ 1000000000 ∧ (nd x).kids.length ≤ 1000000000 := ⟨by omega, by omega, by omega⟩
  have hA2 := hA.mod f2
  refine ⟨_, hA2.la, (given_calls w2 _ _ _ _ hA2.nd hbd).mono ?_⟩
  rintro _ w3 ⟨k, v, d, rfl, hO, f3⟩
  refine ⟨_, rfl, (size_calls w3 _ _ _ _ hO.s hsm).mono ?_⟩
  rintro _ w4 ⟨rfl, f4⟩
  have f14 := f12.n (f3.n f4)
  have hA4 := hA2.mod (f3.n f4)
  have hkl := has_sv hA4.nd.hk
  -- whether a copy fits
  have fit : ∀ {w : World} {K : Bool → World → Prop}, Frm none_ w4 w → (∀ b w', (b = true ↔ FitsN (nd x)) → Frm none_ w4 w' → K b w') → ∃ t41 : Array Value, LdA w (⟨b2, 0, none⟩ : Addr) 4 t41 ∧
      Calls prog 11 #[.agg t41] w fun en w1_4 => ∃ t42 : Array Value, en = .returned (.agg t42) ∧ Calls prog 18 #[.agg t42] w1_4 fun en w1_5 => ∃ t43 : Bool, en = .returned (.bool t43) ∧ K t43 w1_5 := by
    intro w K f hK
    have hAw := hA4.mod f
    refine ⟨_, hAw.la, (given_calls w _ _ _ _ hAw.nd hbd).mono ?_⟩
    rintro _ w6 ⟨k6, v6, d6, rfl, hO6, f6⟩
    refine ⟨_, rfl, (fits_calls w6 _ _ _ _ hO6.s hsm).mono ?_⟩
    rintro _ w7 ⟨b, rfl, hb, f7⟩
    exact ⟨b, rfl, hK b w7 hb (f.n (f6.n f7))⟩
  refine ⟨_, rfl, fun c w' => c = false ∧ Frm none_ w4 w', IfB.intro (fun hs => ?_) (fun _ => ⟨rfl, Frm.refl _ _⟩), ?_⟩
  · have hs := of_decide_eq_true hs
    have hm : MayN (nd x) := by
      refine Classical.byContradiction fun hn => ?_
      rw [sizN, if_neg hn] at hs; omega
    refine ⟨_, hA4.l0, IfB.intro (fun hf => ⟨x.k, hA4.l1, IfB.intro (fun hk2 => fit (Frm.refl _ _) (fun b w' hb f => ⟨?_, f⟩)) (fun _ => ⟨_, hA4.l0, IfB.f (by rw [hf]; rfl) ⟨rfl, Frm.refl _ _⟩⟩)⟩) (fun hf => ⟨_, hA4.l0, IfB.t (by rw [hf]; rfl) ⟨x.k, hA4.l1, IfB.intro (fun hk6 => fit (Frm.refl _ _) (fun b w' hb f => ⟨?_, f⟩)) (fun _ => ⟨rfl, Frm.refl _ _⟩)⟩⟩)⟩
    · have hk2 := of_decide_eq_true hk2
      rw [hb.2 ⟨hm, room_leaf hm hf (by omega)⟩]; rfl
    · have hk6 := of_decide_eq_true hk6
      rw [hb.2 ⟨hm, room_kids hm hf (by omega)⟩]; rfl
  rintro u1 c w5 ⟨rfl, f5⟩
  have hA5 := hA4.mod f5
  refine IfB.f rfl ⟨fun c w' => Frm none_ w4 w' ∧ (c = false → FitsN (nd x) ∧ 0 < (nd x).keys.length), fit f5 (fun b w' hb f => IfB.intro (fun _ => ⟨f, by simp⟩) (fun hbt => ?_)), ?_⟩
  · have hbt : b = true := by simpa using hbt
    refine ⟨x.k, (hA4.mod f).l1, f, fun e => ⟨hb.1 hbt, ?_⟩⟩
    have e := ne_of_beq_false e
    omega
  rintro u2 c w6 ⟨f6, hc6⟩
  have f16 := f14.n f6
  refine IfB.intro (fun _ => ⟨rfl, f16⟩) (fun hcf6 => ?_)
  obtain ⟨⟨hm, hl256⟩, hpos⟩ := hc6 hcf6
  have hA6 := (hA4.mod f6).drew
  have F6 := f16.drew
  generalize hgw : w6.drew = w7 at *
  obtain ⟨hne, j, hj, hjl⟩ := umod i x.k.l (by omega) (by omega)
  have hjk : j < (nd x).keys.length := by omega
  have hmw := wo_may hm hjk
  have hlw := wo_len hm (by omega) hjk
  have hsw : SmN (wo (nd x) j) := by
    have h1 : ((nd x).keys.eraseIdx j).length ≤ (nd x).keys.length := List.length_eraseIdx_le _ _
    have h2 : ((nd x).vals.eraseIdx j).length ≤ (nd x).vals.length := List.length_eraseIdx_le _ _
    have h3 : ((nd x).kids.eraseIdx (j + 1)).length ≤ (nd x).kids.length := List.length_eraseIdx_le _ _
    exact ⟨by show ((nd x).keys.eraseIdx j).length ≤ _; omega, by show ((nd x).vals.eraseIdx j).length ≤ _; omega, by show ((nd x).kids.eraseIdx (j + 1)).length ≤ _; omega⟩
  have hbw : (wo (nd x) j).keys.length ≤ 1000000000 ∧ (wo (nd x) j).vals.length ≤ 1000000000 ∧ (wo (nd x) j).kids.length ≤ 1000000000 := ⟨by have := hsw.k; omega, by have := hsw.v; omega, by have := hsw.d; omega⟩
  refine ⟨fun w' => Frm none_ w7 w', Frm.refl _ _, _, fun w' f => (hA6.mod f).la, x.k, fun w' f => (hA6.mod f).l1, hne, ?_, ?_⟩
  · rw [hj]
    refine (without_calls w7 _ _ _ _ hA6.nd hsm j (by omega)).mono ?_
    rintro _ w8 ⟨k8, v8, d8, rfl, hO8, f8⟩
    refine ⟨_, rfl, ?_⟩
    intro b6 w9 hN9
    have f9 : Frm none_ w8 w9 := hN9.mod _
    refine ⟨trivial, hN9.blk.setW rfl rfl (ndc_one _ _ _ _) ?_⟩
    intro w10 hB10 f10
    have hb6 := hN9.b
    have z9 := f9.size
    have f8_10 : Frm none_ w8 w10 := f9.b f10 (by omega)
    have hM : Bk w10.drew b6 25 k8 v8 d8 (wo (nd x) j) := (⟨hB10, hO8.s.mod f8_10⟩ : Bk w10 b6 25 k8 v8 d8 (wo (nd x) j)).drew
    have hS := (hA6.mod (f8.n f8_10)).drew
    have FF := (F6.n (f8.n f8_10)).drew
    generalize w10.drew = w11 at hM hS FF
    refine ⟨fun w' => Frm none_ w11 w', Frm.refl _ _, _, fun w' f => (hM.mod f).la, (given_calls w11 _ _ _ _ hM.nd hbw).mono ?_⟩
    rintro _ w12 ⟨ka, va, da, rfl, hOa, fa⟩
    refine ⟨_, rfl, fun w' => Frm none_ w11 w', fun _ h => h, fa, (fits_calls w12 _ _ _ _ hOa.s hsw).mono ?_⟩
    rintro _ w13 ⟨b, rfl, hb, fb'⟩
    obtain rfl : b = true := hb.2 ⟨hmw, by omega⟩
    have g13 := fa.n fb'
    refine ⟨_, rfl, fun w' => Frm none_ w11 w', fun _ h => h, g13, IfB.t rfl ⟨_, fun w' f => (hM.mod f).la, _, fun w' f => (hS.mod f).la, (given_calls w13 _ _ _ _ (hM.nd.mod g13) hbw).mono ?_⟩⟩
    rintro _ w14 ⟨kc, vc, dc, rfl, hOc, fc⟩
    have g14 := g13.n fc
    refine ⟨_, rfl, g14, (size_calls w14 _ _ _ _ hOc.s hsw).mono ?_⟩
    rintro _ w15 ⟨rfl, fd'⟩
    have g15 := g14.n fd'
    refine ⟨_, rfl, g15, (given_calls w15 _ _ _ _ (hS.nd.mod g15) hbd).mono ?_⟩
    rintro _ w16 ⟨ke, ve, de, rfl, hOe, fe⟩
    have g16 := g15.n fe
    refine ⟨_, rfl, (size_calls w16 _ _ _ _ hOe.s hsm).mono ?_⟩
    rintro _ w17 ⟨rfl, ff⟩
    refine ⟨_, rfl, ?_, FF.n (g16.n ff)⟩
    rw [sizN, if_pos hmw, sizN, if_pos hm, decide_eq_true (by omega)]
  · intro b6 w8 hN9
    have f8 : Frm none_ w7 w8 := hN9.mod _
    rw [hj]
    refine ⟨f8, (without_calls w8 _ _ _ _ (hA6.nd.mod f8) hsm j (by omega)).mono ?_⟩
    rintro _ w9 ⟨k8, v8, d8, rfl, hO8, f9⟩
    refine ⟨_, rfl, (hN9.blk.mod f9 (fun h => h)).setW rfl rfl (ndc_one _ _ _ _) ?_⟩
    intro w10 hB10 f10
    have hb6 := hN9.b
    have hb6l := hN9.blk.lt
    have z8 := f8.size
    have z9 := f9.size
    have hO10 := hO8.mod f10 (fun j hj e => by have e : j = b6 := e; omega)
    have hM : Bk w10.drew b6 25 k8 v8 d8 (wo (nd x) j) := (⟨hB10, hO10.s⟩ : Bk w10 b6 25 k8 v8 d8 (wo (nd x) j)).drew
    have f7_10 : Frm none_ w7 w10 := (f8.n f9).b f10 (by omega)
    have hS := (hA6.mod f7_10).drew
    have FF := (F6.n f7_10).drew
    generalize w10.drew = w11 at hM hS FF
    refine ⟨fun w' => Frm none_ w11 w', Frm.refl _ _, _, fun w' f => (hM.mod f).la, (given_calls w11 _ _ _ _ hM.nd hbw).mono ?_⟩
    rintro _ w12 ⟨ka, va, da, rfl, hOa, fa⟩
    refine ⟨_, rfl, fun w' => Frm none_ w11 w', fun _ h => h, fa, (fits_calls w12 _ _ _ _ hOa.s hsw).mono ?_⟩
    rintro _ w13 ⟨b, rfl, hb, fb'⟩
    obtain rfl : b = true := hb.2 ⟨hmw, by omega⟩
    have g13 := fa.n fb'
    refine ⟨_, rfl, fun w' => Frm none_ w11 w', fun _ h => h, g13, IfB.t rfl ⟨_, fun w' f => (hM.mod f).la, _, fun w' f => (hS.mod f).la, (given_calls w13 _ _ _ _ (hM.nd.mod g13) hbw).mono ?_⟩⟩
    rintro _ w14 ⟨kc, vc, dc, rfl, hOc, fc⟩
    have g14 := g13.n fc
    refine ⟨_, rfl, g14, (size_calls w14 _ _ _ _ hOc.s hsw).mono ?_⟩
    rintro _ w15 ⟨rfl, fd'⟩
    have g15 := g14.n fd'
    refine ⟨_, rfl, g15, (given_calls w15 _ _ _ _ (hS.nd.mod g15) hbd).mono ?_⟩
    rintro _ w16 ⟨ke, ve, de, rfl, hOe, fe⟩
    have g16 := g15.n fe
    refine ⟨_, rfl, (size_calls w16 _ _ _ _ hOe.s hsm).mono ?_⟩
    rintro _ w17 ⟨rfl, ff⟩
    refine ⟨_, rfl, ?_, FF.n (g16.n ff)⟩
    rw [sizN, if_pos hmw, sizN, if_pos hm, decide_eq_true (by omega)]
theorem sv_set (l : List ByteArray) (j : Nat) (x : ByteArray) : (sv l).set j (.string x) = sv (l.set j x) := by simp [sv, List.map_set]
theorem iv_set (l : List Int) (j : Nat) (x : Int) : (iv l).set j (.int .i64 x) = iv (l.set j x) := by simp [iv, List.map_set]
set_option maxRecDepth 20000 in
theorem reads_law (W : World) (b : Sl) (lb : List UInt8) (hb : HasL W b 1 (fun b : UInt8 => [Value.int .u8 (b.toNat : Int)]) lb ∧ (∀ a ∈ lb, True) ∧ b.l ≤ b.c ∧ b.c ≤ maxLen ∧ b.c * 1 ≤ 140737488351232) : Calls prog 4 #[.slice b.a b.l b.c] W fun e w' => e = .returned (.bool true) ∧ Frm none_ W w' := by
  refine callsRet (W4 (x0 := b) (Q := fun v w' => v = .bool true ∧ Frm none_ W w') ?_) (fun v w' ⟨h, h'⟩ => ⟨by rw [h], h'⟩)
  have hbh := hb.1.bytes
  have hbl : lb.length = b.l := by have := hbh.len; rw [bv_length] at this; omega
  unfold F4
  refine IfB.intro (fun _ => (awake_calls W).mono ?_) (fun hc => ?_)
  · rintro _ w1 ⟨rfl, f1⟩
    exact ⟨_, rfl, rfl, f1⟩
  have hc := of_decide_eq_false hc
  refine runT_lit0 st22 ?_
  intro w1 hr1 f1 z1
  refine runT_append st22 hr1 (hbh.mod f1 (fun _ _ h => h)) (bv_one _) (by simp only; omega) (by simp only [maxLen]; omega) ?_
  intro t w2 hr2 hl2 hn2 f2
  rw [List.nil_append] at hr2
  have z2 := f2.size
  have htn : New W t := by
    intro j hj
    rcases hn2.cases hj with e | e
    · simp [Sl.blk] at e; omega
    · omega
  have F2 : Frm none_ W w2 := f1.trans f2 (fun _ _ h => h) (fun j hj e => by simp [Sl.blk] at e; omega)
  have htl := rowLen hr2
  refine (decode_calls w2 t lb hr2.has (by omega)).mono ?_
  rintro _ w3 ⟨k, v, d, rfl, hO, f3⟩
  refine ⟨_, _, rfl, ?_⟩
  intro b4 w4 hN4
  have f4 : Frm none_ w3 w4 := hN4.mod _
  refine hN4.blk.setW rfl rfl (ndc_one _ _ _ _) ?_
  intro w5 hB5 f5
  have hb4 := hN4.b
  have z3 := f3.size
  have z4 := f4.size
  have z5 := f5.size
  have zF2 := F2.size
  have f35 : Frm none_ w3 w5 := f4.b f5 (by omega)
  have F5 := F2.n (f3.n f35)
  have hO5 := hO.mod f35 (fun _ _ h => h)
  have hk5 : ∀ j, k.blk = some j → j < w5.heap.size := fun j hj => hO5.rk.lt j hj
  have hd5 : ∀ j, d.blk = some j → j < w5.heap.size := fun j hj => hO5.rd.lt j hj
  have hb4l : b4 < w5.heap.size := hB5.lt
  have htl5 : ∀ j, t.blk = some j → j < w5.heap.size := fun j hj => by have := hr2.lt j hj; omega
  refine (Decode_calls w5 b lb (hbh.mod F5 (fun _ _ h => h)) (by omega)).mono ?_
  rintro _ w6 ⟨k', v', d', rfl, hO', f6⟩
  refine ⟨_, _, rfl, ?_⟩
  intro b6 w7 hN7
  have f7 : Frm none_ w6 w7 := hN7.mod _
  refine hN7.blk.setW rfl rfl (ndc_one _ _ _ _) ?_
  intro w8 hB8 f8
  have hb6 := hN7.b
  have z6 := f6.size
  have z7 := f7.size
  have f68 : Frm none_ w6 w8 := f7.b f8 (by omega)
  have F8 := F5.n (f6.n f68)
  have hM8 : Bk w8 b4 28 k v d (decN lb) := (⟨hB5, hO5.s⟩ : Bk w5 b4 28 k v d (decN lb)).mod (f6.n f68)
  have hO8 := hO5.mod (f6.n f68) (fun _ _ h => h)
  have hW8 : Np w5 w8 b6 25 k' v' d' (decN lb) := ⟨hB8, hO'.mod f68 (fun _ _ h => h), by omega, by decide, by decide⟩
  have hsm := decN_sm lb
  have hbd : (decN lb).keys.length ≤ 1000000000 ∧ (decN lb).vals.length ≤ 1000000000 ∧ (decN lb).kids.length ≤ 1000000000 := ⟨by have := hsm.k; omega, by have := hsm.v; omega, by have := hsm.d; omega⟩
  have hsp : ∀ {w : World}, Frm none_ w8 w → Has w t 1 (bv lb) ∧ Has w b 1 (bv lb) := fun f => ⟨hr2.has.mod (f3.n (f35.n (f6.n (f68.n f)))) (fun _ _ h => h), hbh.mod (F8.n f) (fun _ _ h => h)⟩
  refine ⟨fun c w' => c = false ∧ Frm none_ w8 w', ⟨fun w' => Frm none_ w8 w', (Frm.refl _ _).drew, IfB.f (by simp) ⟨_, fun w' f => (hM8.mod f).la, _, fun w' f => (hW8.bk.mod f).la, (back_calls w8.drew _ _ _ _ hM8.nd.drew).mono ?_⟩⟩, ?_⟩
  · rintro _ w9 ⟨rfl, f9⟩
    have g9 : Frm none_ w8 w9 := Frm.ofDrew f9
    refine ⟨_, rfl, g9, (same_calls w9 _ _ _ _ _ _ _ _ (hM8.nd.mod g9) (hW8.bk.nd.mod g9) hbd).mono ?_⟩
    rintro _ w10 ⟨c, rfl, hc', f10⟩
    obtain rfl : c = true := hc'.2 rfl
    have g10 := g9.n f10
    obtain ⟨h1, h2⟩ := hsp g10
    refine ⟨_, rfl, IfB.f rfl ⟨runT_str un22 un5 un9 h1 (runT_str un22 un5 un9 h2 ⟨?_, g10⟩), runT_str un22 un5 un9 h2 (runT_str un22 un5 un9 h1 ⟨?_, g10⟩)⟩⟩
    · rw [(str_eqIff _ _).2 rfl]; rfl
    · rw [(str_eqIff _ _).2 rfl]; rfl
  rintro u c w9 ⟨rfl, f9⟩
  refine IfB.f rfl ?_
  have hO9 := hO8.mod f9 (fun _ _ h => h)
  have hW9 := hW8.mod f9 (fun _ _ h => h)
  have hM9 := hB5.mod (f6.n (f68.n f9)) (fun h => h)
  have hT9 : Row w9 t 5 1 (bv lb) := hr2.mod (f3.n (f35.n (f6.n (f68.n f9)))) (fun _ _ h => h)
  have F9 := F8.n f9
  have z9 := f9.size
  have z68 := f68.size
  have hkl := has_sv hO9.rk.has
  have hdl := has_iv hO9.rd.has
  have hmk := hsm.k
  have hmd := hsm.d
  -- the keys are spoilt
  refine ⟨fun m y w' => ∃ (j : Nat) (ks : List ByteArray), y = (j : Int) ∧ j ≤ k.l ∧ m = k.l - j ∧ ks.length = k.l ∧ Row w' k 9 1 (sv ks) ∧ Row w' d 3 1 (iv (decN lb).kids) ∧ Blk w' b4 (ndc (decN lb).leaf k v d) 28 ∧ Np w5 w' b6 25 k' v' d' (decN lb) ∧ Row w' t 5 1 (bv lb) ∧ w5.heap.size ≤ w'.heap.size ∧ Frm none_ W w', k.l, ⟨0, _, rfl, Nat.zero_le _, by omega, by omega, hO9.rk, hO9.rd, hM9, hW9, hT9, by omega, F9⟩, ?_⟩
  clear hO9 hW9 hM9 hT9 F9 z9
  rintro m u1 y w10 ⟨j, ks, rfl, hj, rfl, hks, hrk, hrd, hB, hW, hT, hz, F⟩
  have l1 : Ld w10 ((⟨b4, 0, none⟩ : Addr).add 1) (.slice k.a k.l k.c) := by rw [addr_add]; exact hB.ld rfl
  refine ⟨k, l1, IfB.intro (fun hd => ?_) (fun hd => ?_)⟩
  · have hlt := of_decide_eq_true hd
    obtain ⟨g, hg, hwr, hset⟩ := hrk.wr (j := j) (by rw [sv_len]; omega)
    have hgb : k.blk = some g := by simp [Sl.blk, hg]
    have e1 : (⟨g, 0, none⟩ : Addr).add ((j : Int).toNat * 1) = ⟨g, j, none⟩ := by rw [addr_add]; simp
    refine ⟨k, l1, _, hg, by omega, by omega, by rw [e1]; exact hwr, ?_⟩
    rintro w11 rfl
    rw [e1]
    have hr := hset (.string (⟨#[115, 112, 111, 105, 108, 116]⟩ : ByteArray))
    rw [sv_set] at hr
    have f : Frm (fun i => i = g) w10 (w10.setCell ⟨g, j, none⟩ (.string (⟨#[115, 112, 111, 105, 108, 116]⟩ : ByteArray))) := mod_setCell (a := ⟨g, j, none⟩)
    have hgl := hk5 g hgb
    have hgn := hO.nk g hgb
    have zf := f.size
    exact ⟨k.l - (j + 1), by omega, j + 1, _, by rw [wrap64 _ (by omega)]; omega, by omega, rfl, by rw [List.length_set]; exact hks, hr, hrd.mod f (fun i hi e => hrd.g.blkNe hrk.g (by decide) i hi (by rw [e]; exact hgb)), hB.mod f (fun e => hrk.g.blkNeB hB.g (by decide) (by rw [e]; exact hgb)), hW.mod f (fun i hi e => by have e : i = g := e; omega), hT.mod f (fun i hi e => hT.g.blkNe hrk.g (by decide) i hi (by rw [e]; exact hgb)), by omega, F.b f (by omega)⟩
  clear hd hj hrk l1 hks ks j
  -- the kids
  refine ⟨fun m y w' => ∃ (j : Nat) (ds : List Int), y = (j : Int) ∧ j ≤ d.l ∧ m = d.l - j ∧ ds.length = d.l ∧ Row w' d 3 1 (iv ds) ∧ Blk w' b4 (ndc (decN lb).leaf k v d) 28 ∧ Np w5 w' b6 25 k' v' d' (decN lb) ∧ Row w' t 5 1 (bv lb) ∧ w5.heap.size ≤ w'.heap.size ∧ Frm none_ W w', d.l, ⟨0, _, rfl, Nat.zero_le _, by omega, by omega, hrd, hB, hW, hT, hz, F⟩, ?_⟩
  clear hrd hB hW hT hz F
  rintro m u2 y w11 ⟨j, ds, rfl, hj, rfl, hds, hrd, hB, hW, hT, hz, F⟩
  have l3 : Ld w11 ((⟨b4, 0, none⟩ : Addr).add 3) (.slice d.a d.l d.c) := by rw [addr_add]; exact hB.ld rfl
  refine ⟨d, l3, IfB.intro (fun hd => ?_) (fun hd => ?_)⟩
  · have hlt := of_decide_eq_true hd
    obtain ⟨g, hg, hwr, hset⟩ := hrd.wr (j := j) (by rw [iv_len]; omega)
    have hgb : d.blk = some g := by simp [Sl.blk, hg]
    have e1 : (⟨g, 0, none⟩ : Addr).add ((j : Int).toNat * 1) = ⟨g, j, none⟩ := by rw [addr_add]; simp
    refine ⟨d, l3, _, hg, by omega, by omega, by rw [e1]; exact hwr, ?_⟩
    rintro w12 rfl
    rw [e1]
    have hr := hset (.int .i64 (-1))
    rw [iv_set] at hr
    have f : Frm (fun i => i = g) w11 (w11.setCell ⟨g, j, none⟩ (.int .i64 (-1))) := mod_setCell (a := ⟨g, j, none⟩)
    have hgl := hd5 g hgb
    have hgn := hO.nd g hgb
    have zf := f.size
    exact ⟨d.l - (j + 1), by omega, j + 1, _, by rw [wrap64 _ (by omega)]; omega, by omega, rfl, by rw [List.length_set]; exact hds, hr, hB.mod f (fun e => hrd.g.blkNeB hB.g (by decide) (by rw [e]; exact hgb)), hW.mod f (fun i hi e => by have e : i = g := e; omega), hT.mod f (fun i hi e => hT.g.blkNe hrd.g (by decide) i hi (by rw [e]; exact hgb)), by omega, F.b f (by omega)⟩
  -- read again
  refine (decode_calls w11 t lb hT.has (by omega)).mono ?_
  rintro _ w12 ⟨k2, v2, d2, rfl, hO2, f12⟩
  refine ⟨_, _, rfl, ?_⟩
  intro b10 w13 hN13
  have f13 : Frm none_ w12 w13 := hN13.mod _
  refine hN13.blk.setW rfl rfl (ndc_one _ _ _ _) ?_
  intro w14 hB14 f14
  have hb10 := hN13.b
  have z12 := f12.size
  have z13 := f13.size
  have f1214 : Frm none_ w12 w14 := f13.b f14 (by omega)
  have hM14 : Bk w14.drew b10 28 k2 v2 d2 (decN lb) := (⟨hB14, hO2.s.mod f1214⟩ : Bk w14 b10 28 k2 v2 d2 (decN lb)).drew
  have hW14 := (hW.mod (f12.n f1214) (fun _ _ h => h)).drew
  have F14 := (F.n (f12.n f1214)).drew
  generalize w14.drew = w15 at hM14 hW14 F14
  refine ⟨fun w' => Frm none_ w15 w', Frm.refl _ _, _, fun w' f => (hM14.mod f).la, _, fun w' f => (hW14.bk.mod f).la, (back_calls w15 _ _ _ _ hM14.nd).mono ?_⟩
  rintro _ w16 ⟨rfl, f16⟩
  refine ⟨_, rfl, f16, (same_calls w16 _ _ _ _ _ _ _ _ (hM14.nd.mod f16) (hW14.bk.nd.mod f16) hbd).mono ?_⟩
  rintro _ w17 ⟨c, rfl, hc', f17⟩
  obtain rfl : c = true := hc'.2 rfl
  refine ⟨_, rfl, IfB.t rfl ((awake_calls w17).mono ?_)⟩
  rintro _ w18 ⟨rfl, f18⟩
  exact ⟨_, rfl, rfl, F14.n (f16.n (f17.n f18))⟩
end Go.Proofs.Ytedkaegdfdcdaaa
