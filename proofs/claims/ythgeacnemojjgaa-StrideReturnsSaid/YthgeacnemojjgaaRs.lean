/- same, below; the plain law of Next; returned walked. -/
import Derived.Test.YthgeacnemojjgaaRt
import Derived.Laws.StructEq
set_option linter.unusedVariables false
set_option linter.unusedSimpArgs false
set_option maxRecDepth 20000
namespace Go.Proofs.Ythgeacnemojjgaa
open Go Go.Proofs.YthgeacnemojjgaaV
theorem seen_eq0 (p : Pj) (w : World) : (Op.equalIn 10000 67 (.agg (qc p).toArray) (.agg (qc p).toArray)).run prog w = .ok true w := by
  have hS : prog.underlying 67 = some (.struct (prog.fieldsOf 67)) := by kernel_rfl
  have hp : prog.stoodInHeld 67 = false := by kernel_rfl
  rw [show (10000 : Nat) = 9999 + 1 from rfl, run_equalIn_agg w 9999 67 _ _ hS hp]
  have hF : (prog.fieldsOf 67).toList = [⟨ "name", 9, 0, false, "", "bastion/bastionlaw24", 0⟩, ⟨ "shares", 3, 1, false, "", "bastion/bastionlaw24", 16⟩, ⟨ "had", 3, 2, false, "", "bastion/bastionlaw24", 24⟩, ⟨ "waits", 4, 3, false, "", "bastion/bastionlaw24", 32⟩] := by kernel_rfl
  rw [hF]
  have p1 : ∀ (xs : Array Value) (x y z v : Value) w, xs = #[x, y, z, v] → (part 9 xs 0 : Sem Value).run prog w = .ok x w := by rintro _ x y z v w rfl; kernel_rfl
  have p2 : ∀ (xs : Array Value) (x y z v : Value) w, xs = #[x, y, z, v] → (part 3 xs 1 : Sem Value).run prog w = .ok y w := by rintro _ x y z v w rfl; kernel_rfl
  have p3 : ∀ (xs : Array Value) (x y z v : Value) w, xs = #[x, y, z, v] → (part 3 xs 2 : Sem Value).run prog w = .ok z w := by rintro _ x y z v w rfl; kernel_rfl
  have p4 : ∀ (xs : Array Value) (x y z v : Value) w, xs = #[x, y, z, v] → (part 4 xs 3 : Sem Value).run prog w = .ok v w := by rintro _ x y z v w rfl; kernel_rfl
  have e1 : ("name" ≠ "_") = True := by decide
  have e2 : ("shares" ≠ "_") = True := by decide
  have e3 : ("had" ≠ "_") = True := by decide
  have e4 : ("waits" ≠ "_") = True := by decide
  have hq : (qc p).toArray = #[.string p.n, .int .i64 p.sh, .int .i64 p.had, .bool p.wt] := rfl
  rw [hq]
  have u9 : prog.underlying 9 = some .string := by kernel_rfl
  have u3 : prog.underlying 3 = some (.int .i64) := by kernel_rfl
  have u4 : prog.underlying 4 = some .bool := by kernel_rfl
  simp only [Op.eqFields, e1, e2, e3, e4, if_true, Sem.run_bind, p1 _ _ _ _ _ _ rfl, p2 _ _ _ _ _ _ rfl, p3 _ _ _ _ _ _ rfl, p4 _ _ _ _ _ _ rfl, Result.andThen_ok, run_equalIn_string _ 9998 9 _ _ u9, run_equalIn_int _ 9998 3 .i64 .i64 _ _ u3, run_equalIn_bool _ 9998 4 _ _ u4, Sem.run_ite]
  simp
theorem guard67 : prog.eqGuardType prog.depth 67 = false := by kernel_rfl
theorem seen_neq (i j : Nat) (p : Pj) : BinIs prog .neq 67 (.tmp i) (.tmp j) (.agg (qc p).toArray) (.agg (qc p).toArray) false := by
  intro w
  simp only [Sem.run_bind, run_eqGuard_agg w .neq 67 _ _ _ _ guard67, Result.andThen_ok, run_neq_struct, seen_eq0]
  rfl
theorem same_calls (w : World) (s t : Sl) (L : List Pj) (hs : Has w s 4 (qv L)) (ht : Has w t 4 (qv L)) (hn : L.length ≤ 100000) : Calls prog 35 #[.slice s.a s.l s.c, .slice t.a t.l t.c] w fun e w' => e = .returned (.bool true) ∧ Frm none_ w w' := by
  refine callsRet (W35 (x0 := s) (x1 := t) (Q := fun v w' => v = .bool true ∧ Frm none_ w w') ?_) (fun v w' ⟨h, h'⟩ => ⟨by rw [h], h'⟩)
  have h1 := seen_len hs
  have h2 := seen_len ht
  unfold F35
  refine IfB.f (by rw [h1, h2]; simp) ⟨fun n i V => ∃ j : Nat, i = (j : Int) ∧ j ≤ L.length ∧ n = L.length - j ∧ Frm none_ w V, L.length, ⟨0, rfl, by omega, rfl, Frm.refl _ _⟩, ?_⟩
  rintro n u i V ⟨j, rfl, hj, rfl, f⟩
  refine IfB.dec (fun hlt => ?_) (fun hge => ⟨rfl, f⟩)
  obtain ⟨p, hp⟩ : ∃ p, L[j]? = some p := ⟨_, List.getElem?_eq_getElem (by omega)⟩
  obtain ⟨q1, hq1, g1, hA1, _⟩ := seen_at (hs.mod f.drew (fun _ _ h => h)) hp
  obtain ⟨q2, hq2, g2, hA2, _⟩ := seen_at (ht.mod f.drew (fun _ _ h => h)) hp
  exact ⟨q1, hq1, by omega, by omega, _, hA1, q2, hq2, by omega, by omega, _, hA2, false, seen_neq _ _ _, IfB.f rfl ⟨L.length - (j + 1), by omega, j + 1, by rw [wi _ (by omega)]; omega, by omega, rfl, f.drew⟩⟩
theorem below_calls (w : World) (p q : Pj) (hp : OkP p) (hq : OkP q) : Calls prog 69 #[.agg (qc p).toArray, .agg (qc q).toArray] w fun e w' => e = .returned (.bool (bel p q)) ∧ Frm none_ w w' := by
  refine callsRet (W69 (x0 := (qc p).toArray) (x1 := (qc q).toArray) (Q := fun v w' => v = .bool (bel p q) ∧ Frm none_ w w') ?_) (fun v w' ⟨h, h'⟩ => ⟨by rw [h], h'⟩)
  unfold F69
  intro b2 w1 h1 b3 w2 h2
  have hB2 : Blk w2 b2 (qc p).toArray 67 := h1.blk.mod (h2.mod none_) (fun h => h)
  have hB3 : Blk w2 b3 (qc q).toArray 67 := h2.blk
  refine ⟨p.had, by rw [addr_add]; exact hB2.ld rfl, q.sh, by rw [addr_add]; exact hB3.ld rfl, q.had, by rw [addr_add]; exact hB3.ld rfl, p.sh, by rw [addr_add]; exact hB2.ld rfl, ?_, (h1.mod none_).n (h2.mod none_)⟩
  rw [mulb ⟨hp.h1, hp.h2⟩ ⟨hq.s1, hq.s2⟩, mulb ⟨hq.h1, hq.h2⟩ ⟨hp.s1, hp.s2⟩]
  rfl
/-! ### The plain law -/
theorem lst_noneI {f : Nat → Pj → Bool} {M : List Pj} : ∀ {n : Nat}, lst f M n = none → ∀ i p, i < n → M[i]? = some p → f i p = false
  | 0, _, i, p, hi, _ => by omega
  | m + 1, hl, i, p, hi, hp => by
    cases hw : f i p with
    | false => rfl
    | true =>
      exfalso
      rw [lst] at hl
      by_cases hin : i = m
      · subst hin
        rw [hp] at hl
        simp only [hw, if_true] at hl
        split at hl
        · cases hl
        · split at hl
          · split at hl <;> cases hl
          · cases hl
      · have : lst f M m = none := by
          split at hl
          · exact hl
          · split at hl
            · split at hl
              · cases hl
              · split at hl
                · split at hl <;> cases hl
                · cases hl
            · exact hl
        have := lst_noneI this i p (by omega) hp
        rw [hw] at this; cases this
theorem lst_leastI {f : Nat → Pj → Bool} {M : List Pj} (ok : ∀ p ∈ M, OkP p) : ∀ {n b : Nat}, lst f M n = some b → ∃ p, M[b]? = some p ∧ f b p = true ∧ ∀ j r, j < n → M[j]? = some r → f j r = true → p.had * r.sh ≤ r.had * p.sh
  | 0, b, h => by cases h
  | n + 1, b, h => by
    have okm : ∀ {i : Nat} {p : Pj}, M[i]? = some p → OkP p := fun hp => ok _ (List.mem_of_getElem? hp)
    have ext : ∀ {q : Pj} {j : Nat} {r : Pj}, (∀ j r, j < n → M[j]? = some r → f j r = true → q.had * r.sh ≤ r.had * q.sh) → (∀ r, M[n]? = some r → f n r = true → q.had * r.sh ≤ r.had * q.sh) → j < n + 1 → M[j]? = some r → f j r = true → q.had * r.sh ≤ r.had * q.sh := by
      intro q j r h1 h2 hj hr hf
      by_cases hjn : j = n
      · subst hjn; exact h2 r hr hf
      · exact h1 j r (by omega) hr hf
    rw [lst] at h
    cases hp : M[n]? with
    | none =>
      rw [hp] at h
      obtain ⟨q, hq, hfq, hl⟩ := lst_leastI ok (n := n) h
      exact ⟨q, hq, hfq, fun j r hj hr hf => ext hl (fun r hr' _ => by rw [hp] at hr'; cases hr') hj hr hf⟩
    | some p =>
      rw [hp] at h
      simp only at h
      cases hfp : f n p with
      | false =>
        rw [hfp] at h
        obtain ⟨q, hq, hfq, hl⟩ := lst_leastI ok (n := n) (by simpa using h)
        exact ⟨q, hq, hfq, fun j r hj hr hf => ext hl (fun r hr' hf' => by rw [hp] at hr'; cases hr'; rw [hfp] at hf'; cases hf') hj hr hf⟩
      | true =>
        rw [hfp] at h
        simp only [if_true] at h
        cases hl : lst f M n with
        | none =>
          rw [hl] at h
          cases h
          refine ⟨p, hp, hfp, fun j r hj hr hf => ?_⟩
          by_cases hjn : j = n
          · subst hjn; rw [hp] at hr; cases hr; exact Int.le_refl _
          · have := lst_noneI hl j r (by omega) hr
            rw [hf] at this; cases this
        | some c =>
          rw [hl] at h
          obtain ⟨q, hq, hfq, hll⟩ := lst_leastI ok (n := n) hl
          simp only [hq] at h
          cases hb : bel p q with
          | true =>
            rw [hb] at h
            cases h
            have hb' : p.had * q.sh < q.had * p.sh := of_decide_eq_true hb
            exact ⟨p, hp, hfp, fun j r hj hr hf => ext (fun j r hj hr hf => bel_trans (okm hp) (okm hq) (okm hr) (by omega) (hll j r hj hr hf)) (fun r hr' _ => by rw [hp] at hr'; cases hr'; exact Int.le_refl _) hj hr hf⟩
          | false =>
            rw [hb] at h
            cases h
            have hb' : ¬ p.had * q.sh < q.had * p.sh := of_decide_eq_false hb
            exact ⟨q, hq, hfq, fun j r hj hr hf => ext hll (fun r hr' _ => by rw [hp] at hr'; cases hr'; omega) hj hr hf⟩
theorem lift_up {q p : Pj} (hq : OkP q) (hp : OkP p) : p.had ≤ (lift q p).had ∧ (bel (lift q p) q = false ∨ (lift q p).had = 2147483647) ∧ (lift q p).sh = p.sh := by
  unfold lift
  cases hb : bel p q with
  | false =>
    rw [if_neg (by decide)]
    exact ⟨Int.le_refl _, .inl hb, rfl⟩
  | true =>
    rw [if_pos rfl]
    have hb' : p.had * q.sh < q.had * p.sh := of_decide_eq_true hb
    obtain ⟨s1, s2⟩ := scl_spec (had := q.had) (sh := p.sh) hq.s1
    have s3 : p.had < scl q.had q.sh p.sh := by
      have : p.had * q.sh < scl q.had q.sh p.sh * q.sh := by omega
      exact Int.lt_of_mul_lt_mul_right this (by have := hq.s1; omega)
    have hm := hp.h2
    refine ⟨by simp only; omega, ?_, rfl⟩
    by_cases hc : scl q.had q.sh p.sh ≤ 2147483647
    · left
      unfold bel
      rw [decide_eq_false]
      simp only
      rw [Int.min_eq_left hc]
      omega
    · right; simp only; omega
/-- What Next makes of the projects. -/
structure LG (ws : List ByteArray) (M : List Pj) (G : Pj → Pj) : Prop where
  eq : lifted ws M = M.map G
  n : ∀ p, (G p).n = p.n
  sh : ∀ p ∈ M, (G p).sh = p.sh
  up : ∀ p ∈ M, p.had ≤ (G p).had
  old : ∀ p, (isW ws p = false ∨ p.wt = true) → (G p).had = p.had
  none : lst (fun _ p => isW ws p && p.wt) M M.length = none → ∀ p, (G p).had = p.had
  some : ∀ m q, lst (fun _ p => isW ws p && p.wt) M M.length = some m → M[m]? = some q → ∀ p ∈ M, isW ws p = true → p.wt = false → bel (G p) q = false ∨ (G p).had = 2147483647
theorem lifted_G {M : List Pj} (ok : OkM M) (ws : List ByteArray) : ∃ G, LG ws M G := by
  cases hm : lst (fun _ p => isW ws p && p.wt) M M.length with
  | none =>
    exact ⟨id, ⟨by unfold lifted; rw [hm]; simp, fun _ => rfl, fun _ _ => rfl, fun _ _ => Int.le_refl _, fun _ _ => rfl, fun _ _ => rfl, fun m q h => by rw [hm] at h; cases h⟩⟩
  | some m =>
    obtain ⟨_, q, hq, _⟩ := lst_lt hm
    have okq := ok.at hq
    refine ⟨fun p => if isW ws p && !p.wt then lift q p else p, ⟨by unfold lifted; rw [hm]; simp only [hq], fun p => ?_, fun p hp => ?_, fun p hp => ?_, fun p h => ?_, fun h => (by rw [hm] at h; cases h), fun m' q' h1 h2 p hp hw hwt => ?_⟩⟩
    · split
      · exact lift_n _ _
      · rfl
    · split
      · exact (lift_up okq (ok.each p hp)).2.2
      · rfl
    · split
      · exact (lift_up okq (ok.each p hp)).1
      · exact Int.le_refl _
    · rw [if_neg]
      rcases h with h | h <;> simp [h]
    · rw [hm] at h1; cases h1
      rw [hq] at h2; cases h2
      rw [if_pos (by simp [hw, hwt])]
      exact (lift_up okq (ok.each p hp)).2.1
end Go.Proofs.Ythgeacnemojjgaa
