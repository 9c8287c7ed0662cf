/- What is seen of projects: look, same, below; the plain law of Next. -/
import Derived.Test.YthgeacnemojjgaaTu
set_option linter.unusedVariables false
set_option linter.unusedSimpArgs false
set_option maxRecDepth 20000
namespace Go.Proofs.Ythgeacnemojjgaa
open Go Go.Proofs.YthgeacnemojjgaaV
theorem st62 : SlT prog 62 67 4 40 (.agg #[.string (⟨#[]⟩ : ByteArray), .int .i64 0, .int .i64 0, .bool false]) := ⟨by kernel_rfl, by kernel_rfl, rfl, by decide⟩
theorem b67s (nm : ByteArray) (x y : Int) : BuildIs prog 67 #[(0, .string nm), (1, .int .i64 x), (2, .int .i64 y)] (qc ⟨nm, x, y, false⟩).toArray := fun w => by kernel_rfl
/-- A row of what is seen. -/
theorem seen_at {w : World} {s : Sl} {M : List Pj} (h : Has w s 4 (qv M)) {i : Nat} {p : Pj} (hp : M[i]? = some p) : ∃ q, s.a = some q ∧ i < s.l ∧ LdA w (q.add ((i : Int).toNat * 4)) 4 (qc p).toArray ∧ ∀ c v, (qc p)[c]? = some v → Ld w ((q.add ((i : Int).toNat * 4)).add c) v := by
  have hi := (List.getElem?_eq_some_iff.1 hp).1
  have hsl : s.l = M.length := by have := h.len; rw [qv_len] at this; omega
  have key : ∀ c v, (qc p)[c]? = some v → ∃ q, s.a = some q ∧ Ld w ((q.add ((i : Int).toNat * 4)).add c) v := by
    intro c v hv
    have := flatMap_at (qc4 M) hp hv
    obtain ⟨q, hq, hc⟩ := h.get _ _ this
    exact ⟨q, hq, by rw [Int.toNat_natCast, add_add]; exact hc⟩
  obtain ⟨q, hq, _⟩ := key 0 _ rfl
  have key2 : ∀ c v, (qc p)[c]? = some v → Ld w ((q.add ((i : Int).toNat * 4)).add c) v := by
    intro c v hv
    obtain ⟨q', hq', hc⟩ := key c v hv
    rw [hq] at hq'; cases hq'; exact hc
  exact ⟨q, hq, by omega, ⟨rfl, fun j u hu => key2 j u (by simpa using hu)⟩, key2⟩
theorem seen_len {w : World} {s : Sl} {M : List Pj} (h : Has w s 4 (qv M)) : s.l = M.length := by have := h.len; rw [qv_len] at this; omega
theorem look_calls (W : World) (a : Nat) (M : List Pj) (V : World) (h : Hs W a M V) (x : Sl) (ws : List ByteArray) (hx : Has V x 1 (sv ws)) (hws : ws.length ≤ 1000000000000) : Calls prog 34 #[.pointer (some ⟨a, 0, none⟩), .slice x.a x.l x.c] V fun e V' => ∃ r : Sl, e = .returned (.slice r.a r.l r.c) ∧ Row V' r 67 4 (qv (M.map (wtf ws))) ∧ New V r ∧ Frm none_ V V' := by
  refine callsRet (W34 (x0 := some ⟨a, 0, none⟩) (x1 := x) (Q := fun v V' => ∃ r : Sl, v = .slice r.a r.l r.c ∧ Row V' r 67 4 (qv (M.map (wtf ws))) ∧ New V r ∧ Frm none_ V V') ?_) (fun v w' ⟨r, h, h'⟩ => ⟨r, by rw [h], h'⟩)
  obtain ⟨D, hD1, hD2⟩ := h.sh
  have ok := h.ok
  have hn := ok.n
  have hxl := has_sv hx
  unfold F34
  refine (names_calls V D a M hD1 ok).mono ?_
  rintro _ V1 ⟨t, rfl, ht, htn, f1⟩
  have htl := has_sv ht.has
  rw [List.length_map] at htl
  refine ⟨t, rfl, fun n y i V2 => ∃ j : Nat, i = (j : Int) ∧ j ≤ M.length ∧ n = M.length - j ∧ Row V2 y 67 4 (qv ((M.take j).map (wtf ws))) ∧ New V1 y ∧ Frm none_ V V2 ∧ Frm none_ V1 V2, M.length, ⟨0, rfl, by omega, rfl, by simpa [qv] using Row.nil _ _ _, fun k hk => by simp [Sl.blk] at hk, f1, Frm.refl _ _⟩, ?_⟩
  rintro n u y i V2 ⟨j, rfl, hj, rfl, hy, hyn, f2, f12⟩
  refine IfB.dec (fun hlt => ?_) (fun hge => ?_)
  rotate_left 1
  · have : j = M.length := by omega
    subst this
    rw [List.take_length] at hy
    exact ⟨y, rfl, hy, fun k hk => Nat.le_trans f1.size (hyn k hk), f2⟩
  obtain ⟨p, hp⟩ : ∃ p, M[j]? = some p := ⟨_, List.getElem?_eq_getElem (by omega)⟩
  have rdt : ∀ V', Frm none_ V1 V' → ∃ q, t.a = some q ∧ Ld V' (q.add ((j : Int).toNat * 1)) (.string p.n) := by
    intro V' hf
    obtain ⟨q, nm, hq, hnm, hld⟩ := sv_at (ht.has.mod hf (fun _ _ h => h)) (i := j) (by omega)
    rw [List.getElem?_map, hp] at hnm
    cases hnm
    exact ⟨q, hq, hld⟩
  obtain ⟨q, hq, hld⟩ := rdt V2 f12
  refine ⟨q, hq, by omega, by omega, p.n, hld, (had_calls V2 D a M (hD1.n f2) ok p.n).mono ?_⟩
  rintro _ V3 ⟨rfl, f3⟩
  rw [hadP_at ok.srt hp]
  have f13 := f12.n f3
  obtain ⟨q3, hq3, hld3⟩ := rdt V3 f13
  refine ⟨_, _, _, rfl, q3, hq3, by omega, by omega, p.n, hld3, _, b67s _ _ _, ?_⟩
  intro b11 V4 hN
  refine Blk.setW hN.blk rfl rfl (by simp [qc, Value.oneCell']) ?_
  intro V5 hB5 g5
  have e11 : b11 = V3.heap.size := hN.2
  have f5 : Frm none_ V3 V5 := (hN.mod none_).b g5 (by omega)
  have f15 := f13.n f5
  have f05 := (f2.n f3).n f5
  have hB5' : Blk V5 b11 (qc ⟨p.n, p.sh, p.had, isW (ws.take 0) p⟩).toArray 67 := by simpa [isW] using hB5
  -- whether it waits
  refine ⟨fun n i V6 => ∃ k : Nat, i = (k : Int) ∧ k ≤ ws.length ∧ n = ws.length - k ∧ Blk V6 b11 (qc ⟨p.n, p.sh, p.had, isW (ws.take k) p⟩).toArray 67 ∧ Frm (fun g => g = b11) V5 V6, ws.length, ⟨0, rfl, by omega, rfl, hB5', Frm.refl _ _⟩, ?_⟩
  rintro n u2 i V6 ⟨k, rfl, hk, rfl, hB6, f6⟩
  have z35 := (hN.size)
  have z3 := (f2.n f3).size
  have z13 := f13.size
  have hb11 : V.heap.size ≤ b11 := by omega
  have f16 : Frm none_ V1 V6 := f15.b f6 (by omega)
  have f06 : Frm none_ V V6 := f05.b f6 hb11
  refine IfB.dec (fun hlt2 => ?_) (fun hge2 => ?_)
  · obtain ⟨q1, nm, hq1, hnm, hld1⟩ := sv_at (hx.mod f06.drew (fun _ _ h => h)) (i := k) (by omega)
    have hB6d : Blk V6.drew b11 (qc ⟨p.n, p.sh, p.had, isW (ws.take k) p⟩).toArray 67 := hB6
    have e : isW (ws.take (k + 1)) p = (isW (ws.take k) p || decide (nm = p.n)) := by rw [take_snoc hnm]; simp [isW]
    have nxt : ∀ (c : Bool) (V7 : World), c = isW (ws.take (k + 1)) p → V7 = V6.drew.setCell ((⟨b11, 0, none⟩ : Addr).add 3) (.bool c) → ∃ n', n' < ws.length - k ∧ ∃ k' : Nat, IntKind.wrap .i64 ((k : Int) + (1 : Int)) = (k' : Int) ∧ k' ≤ ws.length ∧ n' = ws.length - k' ∧ Blk V7 b11 (qc ⟨p.n, p.sh, p.had, isW (ws.take k') p⟩).toArray 67 ∧ Frm (fun g => g = b11) V5 V7 := by
      intro c V7 hc e7
      subst e7
      rw [addr_add]
      refine ⟨ws.length - (k + 1), by omega, k + 1, by rw [wi _ (by omega)]; omega, by omega, rfl, ?_, ?_⟩
      · rw [← hc]; exact hB6d.set (0 + 3) (.bool c)
      · exact f6.trans (Frm.ofDrew (a := V6) (mod_setCell (w := V6.drew) (a := ⟨b11, 0 + 3, none⟩))) (fun _ _ h => h) (fun _ _ h => h)
    refine ⟨fun w' => w' = V6.drew, rfl, isW (ws.take k) p, fun w' e => by subst e; rw [addr_add]; exact hB6d.ld rfl, IfB.intro (fun hw => ?_) (fun hw => ?_)⟩
    · refine ⟨by rw [addr_add]; exact hB6d.wr (by show 3 < 4; omega), fun V7 e7 => nxt true V7 (by rw [e, hw]; rfl) e7⟩
    · obtain ⟨q2, hq2, hld2⟩ := rdt V6.drew f16.drew
      refine ⟨q1, hq1, by omega, by omega, nm, fun w' e => by subst e; exact hld1, q2, hq2, by omega, by omega, p.n, fun w' e => by subst e; exact hld2, by rw [addr_add]; exact hB6d.wr (by show 3 < 4; omega), fun V7 e7 => nxt _ V7 ?_ e7⟩
      rw [e, hw, Bool.false_or]
      by_cases hh : nm = p.n
      · rw [decide_eq_true hh]; exact (str_eqIff _ _).2 hh
      · rw [decide_eq_false hh]; exact beqF hh
  · have hkl : k = ws.length := by omega
    subst hkl
    rw [List.take_length] at hB6
    have hy6 : Row V6 y 67 4 (qv ((M.take j).map (wtf ws))) := ((hy.mod f3 (fun _ _ h => h)).mod f5 (fun _ _ h => h)).mod f6 (fun g hg e => by have := hy.lt g hg; have e : g = b11 := e; have := f3.size; omega)
    have hyl : y.l = j := by have := seen_len hy.has; rw [List.length_map, List.length_take] at this; omega
    refine ⟨(qc (wtf ws p)).toArray, hB6.ldA rfl, runT_lit1 st62 (by decide) rfl ?_⟩
    intro V7 hr7 f7 z7
    refine runT_append st62 (hy6.mod f7 (fun _ _ h => h)) hr7.has ?_ (by simp only; omega) (by simp only [maxLen]; omega) ?_
    · intro u hu
      have hu : u ∈ qc (wtf ws p) := by simpa [Value.cells] using hu
      exact qv_one [wtf ws p] u (by simpa [qv] using hu)
    intro t8 V8 hr8 hl8 hn8 f8
    have f07 := f06.n f7
    have f17 := f16.n f7
    refine ⟨M.length - (j + 1), by omega, j + 1, by rw [wi _ (by omega)]; omega, by omega, rfl, ?_, hyn.near (w2 := V8) hn8 f17.size, f1.n (hyn.frm f17 f8), hyn.frm f17 f8⟩
    rw [take_snoc hp, List.map_append, List.map_cons, List.map_nil, ← qv_snoc]
    simpa [Value.cells] using hr8
end Go.Proofs.Ythgeacnemojjgaa
