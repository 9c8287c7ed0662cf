/- The law NetPlays walked: it returns true, and turns nothing that was there. -/
import Derived.Test.YtffcojmpaccppaaNames
set_option linter.unusedVariables false
set_option linter.unusedSimpArgs false
namespace Go.Proofs.Ytffcojmpaccppaa
open Go Go.Proofs.YtffcojmpaccppaaV
set_option maxRecDepth 20000 in
theorem Take_ok (G : Nat → Prop) (w : World) (x : Option Addr) (N : Nt) (i : Int) (h : NetQ 47 G w x N) (hi : 0 ≤ i ∧ i < N.l.length) : Calls prog 20 #[.pointer x, .int .i64 i] w fun e w' =>
    ∃ m t, N.l[i.toNat]? = some m ∧ e = .returned (.tuple #[.agg (mc m t), .int .i64 0]) ∧ RowG w' t 9 1 (sv m.tags) ∧ OkM m ∧ (∃ G', NetQ 47 G' w' x ⟨N.most, N.l.eraseIdx i.toNat⟩ ∧ (∀ k, G' k → G k ∨ w.heap.size ≤ k)) ∧ Frm G w w' := by
  refine calls_ret (W20 (Q := fun v w' => ∃ m t, N.l[i.toNat]? = some m ∧ v = .tuple #[.agg (mc m t), .int .i64 0] ∧ RowG w' t 9 1 (sv m.tags) ∧ OkM m ∧ (∃ G', NetQ 47 G' w' x ⟨N.most, N.l.eraseIdx i.toNat⟩ ∧ (∀ k, G' k → G k ∨ w.heap.size ≤ k)) ∧ Frm G w w') ?_) (fun v w' ⟨m, t, h0, h, h'⟩ => ⟨m, t, h0, by rw [h], h'⟩)
  unfold F20
  obtain ⟨b, s, ps, rfl, h, hpl⟩ := h
  intro b4 w1 hn1
  have f1 := hn1.mod none_
  have e1 := hn1.b; have z1 := hn1.size
  have h1 := h.mod f1 (fun _ _ h => h)
  have hlen : s.l = N.l.length := by rw [← hpl, List.length_map, h.ls.len]
  have hN : N.l.length ≤ 400 := by have := h.lm; have := h.m; have := h.ls.len; omega
  refine ⟨fun c w' => c = false ∧ w' = w1, ?_, ?_⟩
  · exact IfB.f (decide_eq_false (by omega)) ⟨_, rfl, s, by rw [addr_add]; exact h1.blk.ld rfl, decide_eq_false (by omega), rfl⟩
  rintro u c w1' ⟨rfl, rfl⟩
  obtain ⟨p, a, hp, ha, ham, _, hla⟩ := h1.ls.rds.hasL.at (by omega) hi.1 (i := i) (by omega)
  refine IfB.f rfl ⟨_, rfl, s, by rw [addr_add]; exact h1.blk.ld rfl, p, hp, hi.1, by omega, mc a.1 a.2, hla, ?_⟩
  intro b6 w2 hn2
  have e2 := hn2.b; have z2 := hn2.size
  refine Blk.setW hn2.blk rfl rfl (mc_one _ _) ?_
  intro w3 B6 f3
  have f3' : Frm none_ w1' w3 := trB (hn2.mod none_) f3 (by omega)
  have h3 := h1.mod f3' (fun _ _ h => h)
  have B4 := hn1.blk.mod f3' (fun h => h)
  obtain ⟨j, rfl⟩ := Int.eq_ofNat_of_zero_le hi.1
  have ha : ps[j]? = some a := by simpa using ha
  have hlc : s.l ≤ s.c := by
    rcases h3.ls.row.2 with hnil | ⟨g, cur, hg, hBg, hlc, _⟩
    · rw [hnil] at hlen; simp at hlen; omega
    · exact hlc
  refine ⟨_, rfl, s, by rw [addr_add]; exact h3.blk.ld rfl, ⟨hi.1, by omega⟩, ?_⟩
  rw [slA_zero, Nat.sub_zero, Nat.sub_zero, Int.toNat_natCast]
  have hhead := (h3.ls.row.has).head j s.c (by omega)
  refine runT_append st40 (Row.nil w3 33 12) hhead (fun v hv => flat_one ps v (List.mem_of_mem_take hv)) (by simp only; omega) (by simp only [maxLen]; omega) ?_
  intro q w4 hrq hlq hnq f4
  have f4' : Frm none_ w3 w4 := f4.mono (fun k _ hk => by simp [Sl.blk] at hk)
  have hq4 : ∀ k, q.blk = some k → k = w3.heap.size := fun k hk => by
    rcases hnq.cases hk with h | h
    · simp [Sl.blk] at h
    · exact h
  have h4 := h3.mod f4' (fun _ _ h => h)
  refine ⟨_, rfl, s, by rw [addr_add]; exact h4.blk.ld rfl, ?_⟩
  rw [wi ((j : Int) + 1) (by omega), show ((j : Int) + 1).toNat = j + 1 by omega]
  refine ⟨by omega, ?_⟩
  have hcut := (h4.ls.row.has).cut (j + 1) (by omega) hlc
  have hlq : q.l = 0 + j := hlq
  refine runT_append st40 hrq hcut (fun v hv => flat_one ps v (List.mem_of_mem_drop hv)) (by simp only; omega) (by simp only [maxLen]; omega) ?_
  intro r w5 hrr hlr hnr f5
  rw [List.nil_append, ← flat_erase] at hrr
  have z3 := f3'.size; have z4 := f4'.size; have z5 := f5.size
  have hr5 : ∀ k, r.blk = some k → w3.heap.size ≤ k := fun k hk => by
    rcases hnr.cases hk with h | h
    · have := hq4 k h; omega
    · omega
  have f35 : Frm none_ w3 w5 := f4'.trans f5 (fun _ _ h => h) (fun k hk he => by have := hq4 k he; omega)
  have h5 := h3.mod f35 (fun _ _ h => h)
  have hbl := h.lt b h.gb
  refine ⟨_, rfl, by rw [addr_add]; exact h5.blk.wr (show 1 < 2 by decide), ?_⟩
  rintro w6 rfl
  rw [addr_add]
  have f6 : Frm (fun k => k = b) w5 (w5.setCell ⟨b, 0 + 1, none⟩ (.slice r.a r.l r.c)) := mod_setCell (a := ⟨b, 0 + 1, none⟩)
  have B6' := (B6.mod f35 (fun h => h)).mod f6 (fun e => by omega)
  have B4' := (B4.mod f35 (fun h => h)).mod f6 (fun e => by omega)
  refine ⟨mc a.1 a.2, B6'.ldA rfl, Blk.setW B4' rfl rfl (mc_one _ _) ?_⟩
  intro w7 B47 f7
  refine ⟨mc a.1 a.2, B47.ldA rfl, a.1, a.2, ?_⟩
  have hown : ∀ q ∈ ps, RowG w7 q.2 9 1 (sv q.1.tags) := by
    intro q hq
    refine ((h5.ls.own q hq).mod f6 (fun k hk e => h.neP q hq (by rw [hk, e]))).mod f7 (fun k hk e => ?_)
    have := h.lt k (h.ls.gp q hq k hk); omega
  have hmem : ∀ p, p ∈ ps.eraseIdx j → p ∈ ps := fun p hp => (List.eraseIdx_sublist ps j).subset hp
  have hb7 := (h5.blk.set 1 (.slice r.a r.l r.c)).mod f7 (fun e => by omega)
  have hrr7 := (hrr.g.mod f6 (fun k hk e => by have := hr5 k hk; omega)).mod f7 (fun k hk e => by have := hr5 k hk; omega)
  have z6 := f6.size; have z7 := f7.size
  refine ⟨by rw [← hpl, List.getElem?_map, ha]; rfl, rfl, hown a ham, h.ls.ok a ham, ⟨fun k => G k ∨ r.blk = some k, ⟨b, r, ps.eraseIdx j, rfl, ?_, ?_⟩, ?_⟩, ?_⟩
  · refine ⟨.inr rfl, hb7, ⟨hrr7, fun q hq => hown q (hmem q hq), h.ls.ap.sublist (List.eraseIdx_sublist ps j), fun k hk => .inr hk, fun q hq k hk => .inl (h.ls.gp q (hmem q hq) k hk), fun q hq => h.ls.ok q (hmem q hq)⟩, .inl h.gb, ?_, h.m, ?_⟩
    · rintro k (hk | hk)
      · have := h.lt k hk; omega
      · exact hrr7.lt k hk
    · have hlm := h.lm; show ((ps.eraseIdx j).length : Int) ≤ N.most; rw [List.length_eraseIdx]; split <;> omega
  · show _ = N.l.eraseIdx j
    rw [← hpl, List.eraseIdx_eq_take_drop_succ, List.eraseIdx_eq_take_drop_succ, List.map_append, List.map_take, List.map_drop]
  · rintro k (hk | hk)
    · exact .inl hk
    · right; have := hr5 k hk; omega
  · exact ((trN (trN f1 f3') f35).trans f6 (fun _ _ h => h.elim) (fun k _ hk => hk ▸ h.gb) (H := G)).trans f7 (fun _ _ h => h) (fun k hk e => by omega)
theorem Take_no (G : Nat → Prop) (w : World) (x : Option Addr) (N : Nt) (i : Int) (h : NetQ 47 G w x N) (hi : ¬ (0 ≤ i ∧ i < N.l.length)) : Calls prog 20 #[.pointer x, .int .i64 i] w fun e w' =>
    e = .returned (.tuple #[.agg (mc zeroM ⟨none, 0, 0⟩), .int .i64 5]) ∧ Frm none_ w w' := by
  refine calls_ret (W20 (Q := fun v w' => v = .tuple #[.agg (mc zeroM ⟨none, 0, 0⟩), .int .i64 5] ∧ Frm none_ w w') ?_) (fun v w' ⟨h, h'⟩ => ⟨by rw [h], h'⟩)
  unfold F20
  obtain ⟨b, s, ps, rfl, h, hpl⟩ := h
  intro b4 w1 hn1
  have f1 := hn1.mod none_
  have e1 := hn1.b
  have h1 := h.mod f1 (fun _ _ h => h)
  have hlen : s.l = N.l.length := by rw [← hpl, List.length_map, h.ls.len]
  refine ⟨fun c w' => c = true ∧ w' = w1, ?_, ?_⟩
  · refine IfB.intro (fun _ => ⟨rfl, rfl⟩) (fun hc => ?_)
    have hc := of_decide_eq_false hc
    exact ⟨_, rfl, s, by rw [addr_add]; exact h1.blk.ld rfl, decide_eq_true (by omega), rfl⟩
  rintro u c w1' ⟨rfl, rfl⟩
  refine IfB.t rfl ⟨_, b33z, Blk.setW hn1.blk rfl rfl (mc_one _ _) ?_⟩
  intro w2 B4 f2
  exact ⟨_, B4.ldA rfl, rfl, trB f1 f2 (by omega)⟩
theorem Double_calls (G : Nat → Prop) (w : World) (x : Option Addr) (N : Nt) (i : Int) (h : NetQ 47 G w x N) : Calls prog 21 #[.pointer x, .int .i64 i] w fun e w' => e = .returned (.int .i64 (dblN i N).1) ∧ ∃ G', NetQ 47 G' w' x (dblN i N).2 ∧ (∀ k, G' k → G k ∨ w.heap.size ≤ k) ∧ Frm G w w' := by
  refine calls_ret (W21 (Q := fun v w' => v = .int .i64 (dblN i N).1 ∧ ∃ G', NetQ 47 G' w' x (dblN i N).2 ∧ (∀ k, G' k → G k ∨ w.heap.size ≤ k) ∧ Frm G w w') ?_) (fun v w' ⟨h, h'⟩ => ⟨by rw [h], h'⟩)
  unfold F21
  have hq := h
  obtain ⟨b, s, ps, rfl, h, hpl⟩ := h
  have hlen : s.l = N.l.length := by rw [← hpl, List.length_map, h.ls.len]
  refine IfB.intro (fun hc => ?_) (fun hc => ?_)
  · have hc := of_decide_eq_true hc
    rw [dblN_no (by omega)]
    exact ⟨rfl, G, hq, fun k hk => .inl hk, Frm.refl _ _⟩
  have hc := of_decide_eq_false hc
  refine ⟨_, rfl, s, by rw [addr_add]; exact h.blk.ld rfl, IfB.intro (fun hd => ?_) (fun hd => ?_)⟩
  · have hd := of_decide_eq_true hd
    rw [dblN_no (by omega)]
    exact ⟨rfl, G, hq, fun k hk => .inl hk, Frm.refl _ _⟩
  have hd := of_decide_eq_false hd
  obtain ⟨p, a, hp, ha, ham, _, hla⟩ := h.ls.rds.hasL.at (by omega) (i := i) (by omega) (by omega)
  have ea : N.l[i.toNat]? = some a.1 := by rw [← hpl, List.getElem?_map, ha]; rfl
  refine ⟨_, rfl, s, by rw [addr_add]; exact h.blk.ld rfl, p, hp, by omega, by omega, mc a.1 a.2, hla, ?_⟩
  refine (Put_calls G w _ N a.1 a.2 hq (h.ls.own a ham).has (h.ls.ok a ham)).mono ?_
  rintro _ w' ⟨rfl, h'⟩
  refine ⟨_, rfl, ?_⟩
  rw [dblN_ok (by omega) ea]
  exact ⟨rfl, h'⟩
theorem NetQ.lt {T : TypeId} {G : Nat → Prop} {w : World} {x : Option Addr} {N : Nt} (h : NetQ T G w x N) : ∀ k, G k → k < w.heap.size := by obtain ⟨_, _, _, _, h, _⟩ := h; exact h.lt
/-- The program's net and the document's, apart; D: other blocks of the call's own. -/
structure TwoP (D G1 G2 : Nat → Prop) (w0 w : World) (x y : Option Addr) (N1 N2 : Nt) : Prop where
  n1 : NetQ 55 G1 w x N1
  n2 : NetQ 47 G2 w y N2
  ap : ∀ k, G1 k → ¬ G2 k
  d : ∀ k, D k → k < w.heap.size ∧ ¬ G1 k ∧ ¬ G2 k
  a1 : ∀ k, G1 k → w0.heap.size ≤ k
  a2 : ∀ k, G2 k → w0.heap.size ≤ k
  f : Frm none_ w0 w
theorem TwoP.step1 {D G1 G2 G1' : Nat → Prop} {w0 w w' : World} {x y : Option Addr} {N1 N2 N1' : Nt} (h : TwoP D G1 G2 w0 w x y N1 N2) (h' : NetQ 55 G1' w' x N1') (hg : ∀ k, G1' k → G1 k ∨ w.heap.size ≤ k) (f : Frm G1 w w') : TwoP D G1' G2 w0 w' x y N1' N2 := by
  have z := f.size; have z0 := h.f.size
  refine ⟨h', h.n2.mod f (fun k hk hk1 => h.ap k hk1 hk), ?_, ?_, ?_, h.a2, h.f.trans f (fun _ _ h => h) (fun k hk hk1 => by have := h.a1 k hk1; omega)⟩
  · intro k hk hk2
    rcases hg k hk with h1 | h1
    · exact h.ap k h1 hk2
    · have := h.n2.lt k hk2; omega
  · intro k hk
    obtain ⟨d1, d2, d3⟩ := h.d k hk
    refine ⟨by omega, fun hk1 => ?_, d3⟩
    rcases hg k hk1 with h1 | h1
    · exact d2 h1
    · omega
  · intro k hk
    rcases hg k hk with h1 | h1
    · exact h.a1 k h1
    · omega
theorem TwoP.step2 {D G1 G2 G2' : Nat → Prop} {w0 w w' : World} {x y : Option Addr} {N1 N2 N2' : Nt} (h : TwoP D G1 G2 w0 w x y N1 N2) (h' : NetQ 47 G2' w' y N2') (hg : ∀ k, G2' k → G2 k ∨ w.heap.size ≤ k) (f : Frm G2 w w') : TwoP D G1 G2' w0 w' x y N1 N2' := by
  have z := f.size; have z0 := h.f.size
  refine ⟨h.n1.mod f (fun k hk hk1 => h.ap k hk hk1), h', ?_, ?_, h.a1, ?_, h.f.trans f (fun _ _ h => h) (fun k hk hk1 => by have := h.a2 k hk1; omega)⟩
  · intro k hk hk2
    rcases hg k hk2 with h1 | h1
    · exact h.ap k hk h1
    · have := h.n1.lt k hk; omega
  · intro k hk
    obtain ⟨d1, d2, d3⟩ := h.d k hk
    refine ⟨by omega, d2, fun hk1 => ?_⟩
    rcases hg k hk1 with h1 | h1
    · exact d3 h1
    · omega
  · intro k hk
    rcases hg k hk with h1 | h1
    · exact h.a2 k h1
    · omega
theorem TwoP.fr {D G1 G2 F : Nat → Prop} {w0 w w' : World} {x y : Option Addr} {N1 N2 : Nt} (h : TwoP D G1 G2 w0 w x y N1 N2) (f : Frm F w w') (hF : ∀ k, F k → ¬ G1 k ∧ ¬ G2 k ∧ w0.heap.size ≤ k) : TwoP D G1 G2 w0 w' x y N1 N2 := by
  have z := f.size; have z0 := h.f.size
  exact ⟨h.n1.mod f (fun k hk hF' => (hF k hF').1 hk), h.n2.mod f (fun k hk hF' => (hF k hF').2.1 hk), h.ap, fun k hk => by have := h.d k hk; exact ⟨by omega, this.2⟩, h.a1, h.a2, h.f.trans f (fun _ _ h => h) (fun k hk hF' => by have := (hF k hF').2.2; omega)⟩
theorem TwoP.fn {D G1 G2 : Nat → Prop} {w0 w w' : World} {x y : Option Addr} {N1 N2 : Nt} (h : TwoP D G1 G2 w0 w x y N1 N2) (f : Frm none_ w w') : TwoP D G1 G2 w0 w' x y N1 N2 := h.fr f (fun _ h => h.elim)
theorem TwoP.withD {D D' G1 G2 : Nat → Prop} {w0 w : World} {x y : Option Addr} {N1 N2 : Nt} (h : TwoP D G1 G2 w0 w x y N1 N2) (hd : ∀ k, D' k → k < w.heap.size ∧ ¬ G1 k ∧ ¬ G2 k) : TwoP D' G1 G2 w0 w x y N1 N2 := ⟨h.n1, h.n2, h.ap, hd, h.a1, h.a2, h.f⟩
/-- What was made since a world in which both nets stood belongs to none of them. -/
theorem TwoP.freshD {D D' G1 G2 : Nat → Prop} {w0 w w' : World} {x y : Option Addr} {N1 N2 : Nt} (h : TwoP D G1 G2 w0 w x y N1 N2) (f : Frm none_ w w') (hd : ∀ k, D' k → w.heap.size ≤ k ∧ k < w'.heap.size) : TwoP (fun k => D k ∨ D' k) G1 G2 w0 w' x y N1 N2 := by
  have h' := h.fn f
  refine h'.withD ?_
  rintro k (hk | hk)
  · exact h'.d k hk
  · have h2 := hd k hk
    exact ⟨h2.2, fun hk1 => by have := h.n1.lt k hk1; omega, fun hk1 => by have := h.n2.lt k hk1; omega⟩
def scA (p : Stp) : Array Value := #[.int .i64 p.k, .int .i64 p.n, .int .i64 p.m.fr, .int .i64 p.m.to, .int .u8 p.m.ki, .int .i64 p.m.ru, .int .i64 p.m.li, .int .i64 p.m.ba, .int .i64 p.m.pi, .int .i64 p.m.jo, .int .i64 p.m.no, .int .i64 p.m.co, .slice p.s.a p.s.l p.s.c, .string p.m.data]
theorem scA_list (p : Stp) : (sc p).toArray = scA p := rfl
theorem scA_one (p : Stp) : ∀ u, u ∈ (scA p).toList → u.oneCell' = true := by
  intro u hu
  simp only [scA, List.mem_cons, List.not_mem_nil, or_false] at hu
  rcases hu with rfl | rfl | rfl | rfl | rfl | rfl | rfl | rfl | rfl | rfl | rfl | rfl | rfl | rfl <;> rfl
theorem b47 (n : Int) : BuildIs prog 47 #[(0, .int .i64 n)] #[.int .i64 n, .slice none 0 0] := fun w => by kernel_rfl
theorem nil_eql32 (i : Nat) : BinIs prog .eql 24 (.tmp i) (.const (.pointer none)) (.pointer none) (.pointer none) true := fun w => by kernel_rfl
theorem Rds.of {T : TypeId} {G : Nat → Prop} {w : World} {b : Nat} {N : Nt} (h : NetQ T G w (some ⟨b, 0, none⟩) N) : ∃ s ps, Blk w b #[.int .i64 N.most, .slice s.a s.l s.c] T ∧ Rds w s ps ∧ ps.map (·.1) = N.l ∧ s.l = N.l.length := by
  obtain ⟨b', s, ps, hb, h, hpl⟩ := h
  cases hb
  exact ⟨s, ps, h.blk, h.ls.rds, hpl, by rw [← hpl, List.length_map, h.ls.len]⟩
set_option maxRecDepth 20000 in
theorem plays_calls (w : World) (most : Int) (s : Sl) (l : List Stp) (hl : HasL w s 14 sc l) (hok : ∀ a ∈ l, OkS w a) : Calls prog 5 #[.int .i64 most, .slice s.a s.l s.c] w fun e w' => e = .returned (.bool true) ∧ Frm none_ w w' := by
  refine calls_ret (W5 (Q := fun v w' => v = .bool true ∧ Frm none_ w w') ?_) (fun v w' ⟨h, h'⟩ => ⟨by rw [h], h'⟩)
  unfold F5
  refine IfB.intro (fun hc => ⟨rfl, Frm.refl _ _⟩) (fun hc => ?_)
  have hsm := of_decide_eq_false hc
  by_cases hmost : most < 0 ∨ most > 400
  · refine (new_no w most hmost).mono ?_
    rintro _ _ ⟨rfl, rfl⟩
    refine ⟨_, _, rfl, fun b w' => b = true ∧ w' = w, ?_, ?_⟩
    · refine IfB.intro (fun _ => ⟨rfl, rfl⟩) (fun h => ?_)
      have h := of_decide_eq_false h
      exact ⟨decide_eq_true (by omega), rfl⟩
    rintro u b w1 ⟨rfl, rfl⟩
    exact IfB.t rfl ⟨_, nil_eql _, IfB.t rfl ⟨rfl, Frm.refl _ _⟩⟩
  refine (new_calls w most (by omega) (by omega)).mono ?_
  rintro _ w1 ⟨bx, G0, rfl, hq0, hg0, f1⟩
  refine ⟨_, _, rfl, fun b w' => b = false ∧ w' = w1, ?_, ?_⟩
  · exact IfB.f (decide_eq_false (by omega)) ⟨decide_eq_false (by omega), rfl⟩
  rintro u b w1' ⟨rfl, rfl⟩
  refine IfB.f rfl ⟨_, b47 most, ?_⟩
  intro b40 w2 hn
  have e2 := hn.b; have z2 := hn.size; have z1 := f1.size
  have f2 := hn.mod none_
  have hT0 : TwoP (fun _ => False) G0 (fun k => k = b40) w w2 (some ⟨bx, 0, none⟩) (some ⟨b40, 0, none⟩) ⟨most, []⟩ ⟨most, []⟩ :=
    ⟨hq0.mod f2 (fun _ _ h => h), ⟨b40, ⟨none, 0, 0⟩, [], rfl, ⟨.inr rfl, hn.blk, Mls.nil _ _, rfl, fun k hk => by omega, (by show (0 : Int) ≤ most ∧ most ≤ 400; omega), (by show (0 : Int) ≤ most; omega)⟩, rfl⟩, fun k hk he => by have := hq0.lt k hk; omega, fun _ h => h.elim, hg0, fun k hk => by omega, trN f1 f2⟩
  refine IfB.f rfl ⟨fun n x i w' => ∃ (j : Nat) (G1 G2 : Nat → Prop) (N : Nt), i = (j : Int) ∧ j ≤ s.l ∧ n = s.l - j ∧ TwoP (fun _ => False) G1 G2 w w' x (some ⟨b40, 0, none⟩) N N, s.l, ⟨0, G0, _, _, rfl, Nat.zero_le _, by omega, hT0⟩, ?_⟩
  rintro n u x i w3 ⟨j, G1, G2, N, rfl, hj, rfl, hT⟩
  refine IfB.intro (fun hc => ?_) (fun hc => ?_)
  rotate_left
  · -- the end
    have fd : Frm none_ w3 w3.drew := (Frm.refl _ _).drew
    obtain ⟨s2, ps2, hB2, hR2, hp2, hl2⟩ := Rds.of hT.n2
    refine ⟨fun w' => Frm none_ w3 w', fd, _, rfl, s2, fun w' f => by rw [addr_add]; exact (hB2.mod f (fun h => h)).ld rfl, (all_calls G1 w3.drew x N (hT.n1.mod fd (fun _ _ h => h))).mono ?_⟩
    rintro _ w4 ⟨t, qs, Gq, rfl, hM, hqs, hgq, f4⟩
    have htl : t.l ≤ 9223372036854775807 := by
      have := hM.len
      have h2 := congrArg List.length hqs
      rw [List.length_map] at h2
      obtain ⟨_, _, _, _, h, hpl⟩ := hT.n1
      have := h.lm; have := h.m
      rw [← hpl, List.length_map] at h2
      omega
    refine ⟨t, rfl, trN fd f4, (sames_calls w4 t s2 qs ps2 hM.rds (hR2.mod (trN fd f4)) htl).mono ?_⟩
    rintro _ w5 ⟨c, rfl, hc5, f5⟩
    obtain rfl : c = true := hc5.2 (by rw [hqs, hp2])
    exact ⟨_, rfl, rfl, trN hT.f (trN (trN fd f4) f5)⟩
  have hlt := of_decide_eq_true hc
  obtain ⟨p, a, hp, ha, ham, _, hla⟩ := (hl.mod hT.f (fun _ _ h => h)).at (by omega) (i := (j : Int)) (by omega) (by omega)
  obtain ⟨hrng, has, hokm⟩ := hok a ham
  refine ⟨p, hp, by omega, by omega, scA a, hla, ?_⟩
  intro b9 w4 hn4
  have e4 := hn4.b; have z4 := hn4.size
  refine Blk.setW hn4.blk rfl rfl (scA_one a) ?_
  intro w5 B9 f5
  have f45 : Frm none_ w3 w5 := trB (hn4.mod none_) f5 (by omega)
  have z5 := f5.size
  have hT5 : TwoP (fun k => False ∨ k = b9) G1 G2 w w5 x (some ⟨b40, 0, none⟩) N N := hT.freshD f45 (fun k hk => by omega)
  have hb9 : w.heap.size ≤ b9 := by have := hT.f.size; omega
  have hm12 : ∀ {w' : World}, Blk w' b9 (scA a) 49 → LdA w' ((⟨b9, 0, none⟩ : Addr).add 2) 12 (mc a.m a.s) := fun h => by rw [addr_add]; exact h.part rfl (Nat.le_refl 14)
  have hk0 : ∀ {w' : World}, Blk w' b9 (scA a) 49 → Ld w' ((⟨b9, 0, none⟩ : Addr).add 0) (.int .i64 a.k) := fun h => by rw [addr_add]; exact h.ld rfl
  have hk1 : ∀ {w' : World}, Blk w' b9 (scA a) 49 → Ld w' ((⟨b9, 0, none⟩ : Addr).add 1) (.int .i64 a.n) := fun h => by rw [addr_add]; exact h.ld rfl
  refine ⟨fun x' c1 c2 w' => c1 = c2 ∧ ∃ (G1 G2 : Nat → Prop) (N : Nt), TwoP (fun _ => False) G1 G2 w w' x' (some ⟨b40, 0, none⟩) N N, ?_, ?_⟩
  · refine ⟨a.k, hk0 B9, IfB.intro (fun _ => ?_) (fun _ => IfB.intro (fun _ => ?_) (fun _ => IfB.intro (fun _ => ?_) (fun _ => IfB.intro (fun _ => ?_) (fun _ => IfB.intro (fun _ => ?_) (fun _ => ?_)))))⟩
    · -- Put
      refine ⟨mc a.m a.s, hm12 B9, (Own_calls w5 a.m a.s (has.mod hT5.f (fun _ _ h => h)) hokm).mono ?_⟩
      rintro _ w6 ⟨t, rfl, hrt, ht, f6⟩
      have hT6 := hT5.fn f6
      refine ⟨_, rfl, ?_⟩
      intro b12 w7 hn7
      have e7 := hn7.b; have z7 := hn7.size; have z6 := f6.size
      refine Blk.setW hn7.blk rfl rfl (mc_one _ _) ?_
      intro w8 B12 f8
      have f68 : Frm none_ w6 w8 := trB (hn7.mod none_) f8 (by omega)
      have z8 := f8.size
      have hrt8 := hrt.mod f68 (fun _ _ h => h)
      have hT8 := hT6.freshD f68 (D' := fun k => k = b12) (fun k hk => by omega)
      have hT8 := hT8.withD (D' := fun k => k = b9 ∨ k = b12 ∨ t.blk = some k) (fun k hk => by
        rcases hk with hk | hk | hk
        · exact hT8.d k (.inl (.inr hk))
        · exact hT8.d k (.inr hk)
        · have h1 := ht k hk
          have h2 := hrt8.lt k hk
          exact ⟨h2, fun hk1 => by have := hT5.n1.lt k hk1; omega, fun hk1 => by have := hT5.n2.lt k hk1; omega⟩)
      have B9' := (B9.mod f6 (fun h => h)).mod f68 (fun h => h)
      refine ⟨mc a.m t, B12.ldA rfl, (put_calls G1 w8 x N a.m t hT8.n1 hrt8.has hokm).mono ?_⟩
      rintro _ w9 ⟨rfl, G1', hq9, hg9, f9⟩
      have hT9 := hT8.step1 hq9 hg9 f9
      have nd := fun k hk => (hT8.d k hk).2.1
      have B9a := B9'.mod f9 (nd b9 (.inl rfl))
      have B12a := B12.mod f9 (nd b12 (.inr (.inl rfl)))
      have hrt9 := hrt8.mod f9 (fun k hk => nd k (.inr (.inr hk)))
      refine ⟨_, rfl, mc a.m a.s, hm12 B9a, (Put_calls G2 w9 _ N a.m a.s hT9.n2 (has.mod hT9.f (fun _ _ h => h)) hokm).mono ?_⟩
      rintro _ w10 ⟨rfl, G2', hq10, hg10, f10⟩
      have hT10 := hT9.step2 hq10 hg10 f10
      have nd2 := fun k hk => (hT9.d k hk).2.2
      have B12b := B12a.mod f10 (nd2 b12 (.inr (.inl rfl)))
      have hrt10 := hrt9.mod f10 (fun k hk => nd2 k (.inr (.inr hk)))
      refine ⟨_, rfl, mc a.m t, B12b.ldA rfl, (spoil_calls w10 a.m t hrt10 hokm).mono ?_⟩
      rintro _ w11 ⟨rfl, f11⟩
      refine ⟨rfl, rfl, G1', G2', _, (hT10.fr f11 (fun k hk => ?_)).withD (fun _ h => h.elim)⟩
      have h0 := hT10.d k (.inr (.inr hk))
      have h1 := ht k hk
      have h2 := hT5.f.size
      exact ⟨h0.2.1, h0.2.2, by omega⟩
    · -- Take
      intro b13 w6 hn6 b14 w7 hn7
      have e6 := hn6.b; have z6 := hn6.size; have e7 := hn7.b; have z7 := hn7.size
      have f57 : Frm none_ w5 w7 := trN (hn6.mod none_) (hn7.mod none_)
      have hT7 := hT5.freshD f57 (D' := fun k => k = b13 ∨ k = b14) (fun k hk => by omega)
      have hT7 := hT7.withD (D' := fun k => k = b9 ∨ k = b13 ∨ k = b14) (fun k hk => hT7.d k (by rcases hk with hk | hk | hk <;> simp [hk]))
      have B9' := B9.mod f57 (fun h => h)
      have B13 := hn6.blk.mod (hn7.mod none_) (fun h => h)
      have B14 := hn7.blk
      have z57 := f57.size
      by_cases hin : 0 ≤ a.n ∧ a.n < N.l.length
      · refine ⟨a.n, hk1 B9', (take_ok G1 w7 x N a.n hT7.n1 hin).mono ?_⟩
        rintro _ w8 ⟨m, t, hm, rfl, hrt, hokt, htg, ⟨G1', hq8, hg8⟩, f8⟩
        have hT8 := hT7.step1 hq8 (fun k hk => .inl (hg8 k hk).1) f8
        have nd := fun k hk => (hT7.d k hk).2.1
        have B9a := B9'.mod f8 (nd b9 (.inl rfl))
        have B13a := B13.mod f8 (nd b13 (.inr (.inl rfl)))
        have B14a := B14.mod f8 (nd b14 (.inr (.inr rfl)))
        have htw : ∀ k, t.blk = some k → w.heap.size ≤ k := fun k hk => hT7.a1 k (htg k hk)
        have hT8 := hT8.withD (D' := fun k => k = b9 ∨ k = b13 ∨ k = b14 ∨ t.blk = some k) (fun k hk => by
          rcases hk with hk | hk | hk | hk
          · exact hT8.d k (.inl hk)
          · exact hT8.d k (.inr (.inl hk))
          · exact hT8.d k (.inr (.inr hk))
          · exact ⟨hrt.lt k hk, fun hk1 => (hg8 k hk1).2 hk, hT7.ap k (htg k hk)⟩)
        have htne : ∀ k, t.blk = some k → k ≠ b13 ∧ k ≠ b14 := fun k hk => by
          have h1 := hT7.n1.lt k (htg k hk)
          exact ⟨fun e => (hT7.d b13 (.inr (.inl rfl))).2.1 (e ▸ htg k hk), fun e => (hT7.d b14 (.inr (.inr rfl))).2.1 (e ▸ htg k hk)⟩
        refine ⟨_, _, rfl, Blk.setW B13a rfl rfl (mc_one _ _) ?_⟩
        intro w9 B13b f9
        have z8 := f8.size; have z9 := f9.size
        have hT9 := hT8.fr f9 (fun k hk => by
          have h1 := hT8.d b13 (.inr (.inl rfl))
          have hk : k = b13 := hk
          subst hk
          exact ⟨h1.2.1, h1.2.2, by omega⟩)
        have B9b := B9a.mod f9 (by omega)
        have B14b := B14a.mod f9 (by omega)
        have hrt9 := hrt.mod f9 (fun k hk => (htne k hk).1)
        refine ⟨a.n, hk1 B9b, (Take_ok G2 w9 _ N a.n hT9.n2 hin).mono ?_⟩
        rintro _ w10 ⟨m', t', hm', rfl, hrt', hokt', ⟨G2', hq10, hg10⟩, f10⟩
        have hT10 := hT9.step2 hq10 hg10 f10
        have nd2 := fun k hk => (hT9.d k hk).2.2
        have B13c := B13b.mod f10 (nd2 b13 (.inr (.inl rfl)))
        have B14c := B14b.mod f10 (nd2 b14 (.inr (.inr (.inl rfl))))
        have hrt10 := hrt9.mod f10 (fun k hk => nd2 k (.inr (.inr (.inr hk))))
        have emm : m' = m := by rw [hm] at hm'; simpa using hm'.symm
        subst emm
        have z10 := f10.size
        refine ⟨_, _, rfl, Blk.setW B14c rfl rfl (mc_one _ _) ?_⟩
        intro w11 B14d f11
        have hT11 := hT10.fr f11 (fun k hk => by
          have h1 := hT10.d b14 (.inr (.inr (.inl rfl)))
          have hk : k = b14 := hk
          subst hk
          exact ⟨h1.2.1, h1.2.2, by omega⟩)
        have B13d := B13c.mod f11 (by omega)
        have hrt11 := hrt10.mod f11 (fun k hk => (htne k hk).2)
        have hh' : Has w11 t' 1 (sv m'.tags) := by
          refine hrt'.has.mod f11 (fun k hk e => ?_)
          have hk14 : k = b14 := e
          subst hk14
          exact hrt'.blkNeB B14c.g (by decide) hk
        refine ⟨_, B13d.ldA rfl, _, B14d.ldA rfl, (same_calls w11 m' m' t t' hrt11.has hh' (by rw [has_l hrt11.has]; have : m'.tags.length * 16 ≤ 140737488351232 := hokt; omega)).mono ?_⟩
        rintro _ w12 ⟨c, rfl, hc12, f12⟩
        obtain rfl : c = true := hc12.2 rfl
        have hT12 := hT11.fn f12
        refine ⟨_, rfl, IfB.f rfl ⟨_, (B13d.mod f12 (fun h => h)).ldA rfl, (spoil_calls w12 m' t (hrt11.mod f12 (fun _ _ h => h)) hokt).mono ?_⟩⟩
        rintro _ w13 ⟨rfl, f13⟩
        refine ⟨rfl, rfl, G1', G2', _, (hT12.fr f13 (fun k hk => ?_)).withD (fun _ h => h.elim)⟩
        have h0 := hT12.d k (.inr (.inr (.inr hk)))
        exact ⟨h0.2.1, h0.2.2, htw k hk⟩
      · refine ⟨a.n, hk1 B9', (take_no G1 w7 x N a.n hT7.n1 hin).mono ?_⟩
        rintro _ w8 ⟨rfl, f8⟩
        have hT8 := hT7.fn f8
        have B9a := B9'.mod f8 (fun h => h)
        have B13a := B13.mod f8 (fun h => h)
        have B14a := B14.mod f8 (fun h => h)
        have z8 := f8.size
        refine ⟨_, _, rfl, Blk.setW B13a rfl rfl (mc_one _ _) ?_⟩
        intro w9 B13b f9
        have z9 := f9.size
        have hT9 := hT8.fr f9 (fun k hk => by
          have h1 := hT8.d b13 (.inr (.inl rfl))
          have hk : k = b13 := hk
          subst hk
          exact ⟨h1.2.1, h1.2.2, by omega⟩)
        refine ⟨a.n, hk1 (B9a.mod f9 (by omega)), (Take_no G2 w9 _ N a.n hT9.n2 hin).mono ?_⟩
        rintro _ w10 ⟨rfl, f10⟩
        have hT10 := hT9.fn f10
        have B13c := B13b.mod f10 (fun h => h)
        have B14c := (B14a.mod f9 (by omega)).mod f10 (fun h => h)
        have z10 := f10.size
        refine ⟨_, _, rfl, Blk.setW B14c rfl rfl (mc_one _ _) ?_⟩
        intro w11 B14d f11
        have hT11 := hT10.fr f11 (fun k hk => by
          have h1 := hT10.d b14 (.inr (.inr rfl))
          have hk : k = b14 := hk
          subst hk
          exact ⟨h1.2.1, h1.2.2, by omega⟩)
        have B13d := B13c.mod f11 (by omega)
        have hz : Has w11 ⟨none, 0, 0⟩ 1 (sv zeroM.tags) := Has.nil _ _ _ rfl
        refine ⟨_, B13d.ldA rfl, _, B14d.ldA rfl, (same_calls w11 zeroM zeroM _ _ hz hz (by decide)).mono ?_⟩
        rintro _ w12 ⟨c, rfl, hc12, f12⟩
        obtain rfl : c = true := hc12.2 rfl
        have hT12 := hT11.fn f12
        refine ⟨_, rfl, IfB.f rfl ⟨_, (B13d.mod f12 (fun h => h)).ldA rfl, (spoil_calls w12 zeroM ⟨none, 0, 0⟩ (RowG.nil _ _ _) (by show 0 * 16 ≤ 140737488351232; decide)).mono ?_⟩⟩
        rintro _ w13 ⟨rfl, f13⟩
        exact ⟨rfl, rfl, G1, G2, N, (hT12.fr f13 (fun k hk => by simp [Sl.blk] at hk)).withD (fun _ h => h.elim)⟩
    · -- Drop
      by_cases hin : 0 ≤ a.n ∧ a.n < N.l.length
      · refine ⟨a.n, hk1 B9, (drop_ok G1 w5 x N a.n hT5.n1 hin).mono ?_⟩
        rintro _ w6 ⟨rfl, ⟨G1', hq6, hg6⟩, f6⟩
        have hT6 := hT5.step1 hq6 (fun k hk => .inl (hg6 k hk)) f6
        have B9a := B9.mod f6 (hT5.d b9 (.inr rfl)).2.1
        refine ⟨_, rfl, a.n, hk1 B9a, (Take_ok G2 w6 _ N a.n hT6.n2 hin).mono ?_⟩
        rintro _ w7 ⟨m', t', _, rfl, _, _, ⟨G2', hq7, hg7⟩, f7⟩
        exact ⟨_, _, rfl, rfl, G1', G2', _, (hT6.step2 hq7 hg7 f7).withD (fun _ h => h.elim)⟩
      · refine ⟨a.n, hk1 B9, (drop_no G1 w5 x N a.n hT5.n1 hin).mono ?_⟩
        rintro _ w6 ⟨rfl, f6⟩
        refine ⟨_, rfl, a.n, hk1 (B9.mod f6 (fun h => h)), (Take_no G2 w6 _ N a.n (hT5.fn f6).n2 hin).mono ?_⟩
        rintro _ w7 ⟨rfl, f7⟩
        exact ⟨_, _, rfl, rfl, G1, G2, N, ((hT5.fn f6).fn f7).withD (fun _ h => h.elim)⟩
    · -- Double
      refine ⟨a.n, hk1 B9, (double_calls G1 w5 x N a.n hT5.n1).mono ?_⟩
      rintro _ w6 ⟨rfl, G1', hq6, hg6, f6⟩
      have hT6 := hT5.step1 hq6 hg6 f6
      have B9a := B9.mod f6 (hT5.d b9 (.inr rfl)).2.1
      refine ⟨_, rfl, a.n, hk1 B9a, (Double_calls G2 w6 _ N a.n hT6.n2).mono ?_⟩
      rintro _ w7 ⟨rfl, G2', hq7, hg7, f7⟩
      exact ⟨_, rfl, rfl, G1', G2', _, (hT6.step2 hq7 hg7 f7).withD (fun _ h => h.elim)⟩
    · -- it goes on as its copy
      refine (copy_calls G1 w5 x N hT5.n1).mono ?_
      rintro _ w6 ⟨c, Gc, rfl, hqc, hgc, f6⟩
      have hT6 := hT5.fn f6
      have z6 := f6.size
      refine ⟨_, rfl, _, hm12 (B9.mod f6 (fun h => h)), (put_calls G1 w6 x N a.m a.s hT6.n1 (has.mod hT6.f (fun _ _ h => h)) hokm).mono ?_⟩
      rintro _ w7 ⟨rfl, G1', hq7, hg7, f7⟩
      have hT7 := hT6.step1 hq7 hg7 f7
      have hc1 : ∀ k, Gc k → ¬ G1 k := fun k hk hk1 => by have := hT5.n1.lt k hk1; have := hgc k hk; omega
      have hqc7 := hqc.mod f7 hc1
      have hc1' : ∀ k, Gc k → ¬ G1' k := fun k hk hk1 => by
        rcases hg7 k hk1 with h1 | h1
        · exact hc1 k hk h1
        · have := hgc k hk; omega
      have hc2 : ∀ k, Gc k → ¬ G2 k := fun k hk hk1 => by have := hT5.n2.lt k hk1; have := hgc k hk; omega
      have hcw : ∀ k, Gc k → w.heap.size ≤ k := fun k hk => by have := hgc k hk; have := hT5.f.size; omega
      have fin : ∀ w8, Frm G1' w7 w8 → TwoP (fun _ => False) Gc G2 w w8 (some ⟨c, 0, none⟩) (some ⟨b40, 0, none⟩) N N := fun w8 f8 =>
        ⟨hqc7.mod f8 hc1', hT7.n2.mod f8 (fun k hk hk1 => hT7.ap k hk1 hk), hc2, fun _ h => h.elim, hcw, hT7.a2, hT7.f.trans f8 (fun _ _ h => h) (fun k hk hk1 => by have := hT7.a1 k hk1; omega)⟩
      refine ⟨_, rfl, ?_⟩
      by_cases hin : (0 : Int) ≤ 0 ∧ (0 : Int) < (putN a.m N).2.l.length
      · refine (drop_ok G1' w7 x _ 0 hq7 hin).mono ?_
        rintro _ w8 ⟨rfl, _, f8⟩
        exact ⟨_, rfl, rfl, Gc, G2, N, fin w8 f8⟩
      · refine (drop_no G1' w7 x _ 0 hq7 hin).mono ?_
        rintro _ w8 ⟨rfl, f8⟩
        exact ⟨_, rfl, rfl, Gc, G2, N, fin w8 f8.none⟩
    · exact ⟨rfl, G1, G2, N, hT5.withD (fun _ h => h.elim)⟩
  rintro u2 x' c1 c2 w6 ⟨rfl, G1', G2', N', hT6⟩
  refine (all_calls G1' w6 x' N' hT6.n1).mono ?_
  rintro _ w7 ⟨t, qs, Gq, rfl, hM, hqs, hgq, f7⟩
  have hT7 : TwoP (fun k => False ∨ Gq k) G1' G2' w w7 x' (some ⟨b40, 0, none⟩) N' N' := hT6.freshD f7 hgq
  have htl : t.l = N'.l.length := by
    have := hM.len
    have h2 := congrArg List.length hqs
    rw [List.length_map] at h2
    omega
  have hN : N'.l.length ≤ 400 := by
    obtain ⟨_, _, _, _, h, hpl⟩ := hT6.n1
    have := h.lm; have := h.m
    rw [← hpl, List.length_map]; omega
  refine ⟨t, rfl, fun b w' => b = false ∧ TwoP (fun k => False ∨ Gq k) G1' G2' w w' x' (some ⟨b40, 0, none⟩) N' N' ∧ Mls Gq w' t qs, ?_, ?_⟩
  · have fd : Frm none_ w7 w7.drew := (Frm.refl _ _).drew
    obtain ⟨s2, ps2, hB2, hR2, hp2, hl2⟩ := Rds.of hT7.n2
    refine ⟨fun w' => Frm none_ w7 w', fd, IfB.f (by simp) ⟨_, rfl, s2, fun w' f => by rw [addr_add]; exact (hB2.mod f (fun h => h)).ld rfl, ?_⟩⟩
    refine (len_calls G1' w7.drew x' N' (hT7.n1.mod fd (fun _ _ h => h))).mono ?_
    rintro _ _ ⟨rfl, rfl⟩
    refine ⟨_, rfl, fun w' => Frm none_ w7 w', fun _ h => h, fd, IfB.f (by rw [hl2]; simp) ⟨_, rfl, s2, fun w' f => by rw [addr_add]; exact (hB2.mod f (fun h => h)).ld rfl, ?_⟩⟩
    refine (sames_calls w7.drew t s2 qs ps2 (hM.rds.mod fd) (hR2.mod fd) (by omega)).mono ?_
    rintro _ w8 ⟨c, rfl, hc8, f8⟩
    obtain rfl : c = true := hc8.2 (by rw [hqs, hp2])
    exact ⟨_, rfl, rfl, hT7.fn (trN fd f8), hM.modG (trN fd f8) (fun _ _ h => h)⟩
  rintro u3 b w8 ⟨rfl, hT8, hM8⟩
  refine IfB.f rfl ⟨fun n i w' => ∃ (k : Nat), i = (k : Int) ∧ k ≤ t.l ∧ n = t.l - k ∧ TwoP (fun k => False ∨ Gq k) G1' G2' w w' x' (some ⟨b40, 0, none⟩) N' N' ∧ Has w' t 12 (flat qs) ∧ (∀ i q, qs[i]? = some q → k ≤ i → RowG w' q.2 9 1 (sv q.1.tags)), t.l, ⟨0, rfl, Nat.zero_le _, by omega, hT8, hM8.row.has, fun i q hq _ => hM8.own q (List.mem_of_getElem? hq)⟩, ?_⟩
  rintro n' u4 i w9 ⟨k, rfl, hk, rfl, hT9, hh9, hr9⟩
  refine IfB.intro (fun hc => ?_) (fun hc => ?_)
  · have hlt := of_decide_eq_true hc
    have hHL : HasL w9 t 12 (fun p : Ml × Sl => (mc p.1 p.2).toList) qs := ⟨hh9, hM8.len, flat_each qs⟩
    obtain ⟨p', q, hp', hq, hqm, _, hla'⟩ := hHL.at (by omega) (i := (k : Int)) (by omega) (by omega)
    have hq : qs[k]? = some q := by simpa using hq
    refine ⟨p', hp', by omega, by omega, mc q.1 q.2, hla', (spoil_calls w9 q.1 q.2 (hr9 k q hq (Nat.le_refl _)) (hM8.ok q hqm)).mono ?_⟩
    rintro _ w10 ⟨rfl, f10⟩
    refine ⟨rfl, t.l - (k + 1), by omega, k + 1, by rw [wi _ (by omega)]; omega, by omega, rfl, hT9.fr f10 (fun k' hk' => ?_), hh9.mod f10 (fun k' hk' e => ?_), ?_⟩
    · have h1 := hM8.gp q hqm k' hk'
      have h2 := hT9.d k' (.inr h1)
      exact ⟨h2.2.1, h2.2.2, by have := hgq k' h1; have := hT6.f.size; omega⟩
    · exact (hM8.own q hqm).blkNe hM8.row (by decide) k' e hk'
    · intro i q' hq' hi
      refine (hr9 i q' hq' (by omega)).mod f10 (fun k' hk' e => ?_)
      have hki : k < i := by omega
      have hil := (List.getElem?_eq_some_iff.1 hq').1
      have h1 := List.pairwise_iff_getElem.1 hM8.ap k i (by omega) hil hki
      have e1 := (List.getElem?_eq_some_iff.1 hq).2
      have e2 := (List.getElem?_eq_some_iff.1 hq').2
      rw [e1, e2] at h1
      exact h1 k' e hk'
  · exact ⟨s.l - (j + 1), by omega, j + 1, G1', G2', N', by rw [wi _ (by omega)]; omega, by omega, rfl, hT9.withD (fun _ h => h.elim)⟩
theorem plays_law (W : World) (n : Int) (hn : -9223372036854775808 ≤ n ∧ n ≤ 9223372036854775807) (s : Sl) (l : List Stp) (hl : HasL W s 14 sc l ∧ (∀ a ∈ l, OkS W a) ∧ s.l ≤ s.c ∧ s.c ≤ maxLen ∧ s.c * 136 ≤ 140737488351232) :
    Calls prog 5 #[.int .i64 n, .slice s.a s.l s.c] W fun e w' => e = .returned (.bool true) ∧ Frm none_ W w' := plays_calls W n s l hl.1 hl.2.1
end Go.Proofs.Ytffcojmpaccppaa
