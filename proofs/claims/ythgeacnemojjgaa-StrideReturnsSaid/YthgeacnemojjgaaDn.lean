/- The document's Next, walked. -/
import Derived.Test.YthgeacnemojjgaaDp
import Derived.Test.YthgeacnemojjgaaNy
set_option linter.unusedVariables false
set_option linter.unusedSimpArgs false
set_option maxRecDepth 20000
namespace Go.Proofs.Ythgeacnemojjgaa
open Go Go.Proofs.YthgeacnemojjgaaV
def ov (fs : List Bool) : List Value := fs.map Value.bool
theorem ov_len (fs : List Bool) : (ov fs).length = fs.length := by simp [ov]
theorem ov_set (fs : List Bool) (i : Nat) (b : Bool) : (ov fs).set i (.bool b) = ov (fs.set i b) := by simp [ov]
theorem st97 : SlT prog 97 4 1 1 (.bool false) := ⟨by kernel_rfl, by kernel_rfl, rfl, by decide⟩
def lstI : Option Nat → Int
  | some i => (i : Int)
  | none => -1
theorem ov_at {w : World} {x : Sl} {fs : List Bool} (h : Has w x 1 (ov fs)) {i : Nat} {b : Bool} (hi : fs[i]? = some b) : ∃ q, x.a = some q ∧ i < x.l ∧ Ld w (q.add ((i : Int).toNat * 1)) (.bool b) := by
  have hl := h.len
  rw [ov_len] at hl
  have := (List.getElem?_eq_some_iff.1 hi).1
  obtain ⟨q, v, hq, hv, hld⟩ := h.at1 (i := (i : Int)) (by omega) (by omega)
  rw [Int.toNat_natCast] at hv
  simp only [ov, List.getElem?_map, hi, Option.map_some, Option.some.injEq] at hv
  subst hv
  exact ⟨q, hq, by omega, hld⟩
theorem dLeast_calls (w : World) (b : Nat) (s x : Sl) (M : List Pj) (fs : List Bool) (h : Dcr w b s M) (hok : ∀ p ∈ M, OkP p) (hn : M.length ≤ 100000) (hx : Has w x 1 (ov fs)) (hfl : fs.length = M.length) :
    Calls prog 59 #[.pointer (some ⟨b, 0, none⟩), .slice x.a x.l x.c] w fun e w' => e = .returned (.int .i64 (lstI (lst (fun i _ => fs.getD i false) M M.length))) ∧ Frm none_ w w' := by
  refine calls_ret (W59 (x0 := some ⟨b, 0, none⟩) (x1 := x) (Q := fun v w' => v = .int .i64 (lstI (lst (fun i _ => fs.getD i false) M M.length)) ∧ Frm none_ w w') ?_) (fun v w' ⟨h, h'⟩ => ⟨by rw [h], h'⟩)
  have hsl := h.sl
  unfold F59
  refine ⟨fun n y i W => ∃ j : Nat, i = (j : Int) ∧ j ≤ M.length ∧ n = M.length - j ∧ y = lstI (lst (fun i _ => fs.getD i false) M j) ∧ Frm none_ w W, M.length, ⟨0, rfl, by omega, rfl, rfl, Frm.refl _ _⟩, ?_⟩
  rintro n u y i w1 ⟨j, rfl, hj, rfl, rfl, f1⟩
  have h1 := h.n f1
  refine ⟨_, rfl, s, h1.ld0, IfB.dec (fun hlt => ?_) (fun hge => ?_)⟩
  · obtain ⟨p, hp⟩ : ∃ p, M[j]? = some p := ⟨_, List.getElem?_eq_getElem (by omega)⟩
    obtain ⟨c, hc⟩ : ∃ c, fs[j]? = some c := ⟨_, List.getElem?_eq_getElem (by omega)⟩
    obtain ⟨q0, hq0, hxl, hld0⟩ := ov_at (hx.mod f1 (fun _ _ h => h)).drew hc
    have hd : Dcr w1.drew b s M := h1.n (frm_drew _)
    have fd : Frm none_ w w1.drew := f1.drew
    have hgd : fs.getD j false = c := by rw [List.getD_eq_getElem?_getD, hc]; rfl
    have ew : IntKind.wrap .i64 ((j : Int) + (1 : Int)) = ((j + 1 : Nat) : Int) := by rw [wi _ (by omega)]; omega
    have nxt : ∀ y, y = lstI (lst (fun i _ => fs.getD i false) M (j + 1)) → ∃ n', n' < M.length - j ∧ ∃ j' : Nat, IntKind.wrap .i64 ((j : Int) + (1 : Int)) = (j' : Int) ∧ j' ≤ M.length ∧ n' = M.length - j' ∧ y = lstI (lst (fun i _ => fs.getD i false) M j') ∧ Frm none_ w w1.drew :=
      fun y hy => ⟨M.length - (j + 1), by omega, j + 1, ew, by omega, rfl, hy, fd⟩
    refine ⟨q0, hq0, by omega, by omega, c, hld0, IfB.intro (fun hct => ?_) (fun hcf => ?_)⟩
    · have estep : lst (fun i _ => fs.getD i false) M (j + 1) = match lst (fun i _ => fs.getD i false) M j with
          | none => some j
          | some b => match M[b]? with
            | some q => if bel p q then some j else some b
            | none => some b := by
        rw [lst, hp]; simp only [hgd, hct]; rfl
      cases hb : lst (fun i _ => fs.getD i false) M j with
      | none =>
        rw [hb] at estep
        refine IfB.t rfl (nxt _ ?_)
        rw [estep]; rfl
      | some k =>
        rw [hb] at estep
        obtain ⟨hkj, q, hq, _⟩ := lst_lt hb
        simp only [hq] at estep
        obtain ⟨a1, ha1, hal, _, hldp⟩ := hd.at hp
        obtain ⟨a2, ha2, hbl, _, hldq⟩ := hd.at hq
        rw [ha1] at ha2; cases ha2
        have okp := hok p (List.mem_of_getElem? hp)
        have okq := hok q (List.mem_of_getElem? hq)
        refine IfB.f (decide_eq_false (by simp only [lstI]; omega)) ⟨_, rfl, s, hd.ld0, a1, ha1, by omega, by omega, p.had, hldp 2 _ rfl, _, rfl, s, hd.ld0, a1, ha1, by simp only [lstI]; omega, by simp only [lstI]; omega, q.sh, hldq 1 _ rfl, _, rfl, s, hd.ld0, a1, ha1, by simp only [lstI]; omega, by simp only [lstI]; omega, q.had, hldq 2 _ rfl, _, rfl, s, hd.ld0, a1, ha1, by omega, by omega, p.sh, hldp 1 _ rfl, ?_⟩
        rw [mulb ⟨okp.h1, okp.h2⟩ ⟨okq.s1, okq.s2⟩, mulb ⟨okq.h1, okq.h2⟩ ⟨okp.s1, okp.s2⟩]
        refine IfB.intro (fun hlt2 => nxt _ ?_) (fun hge2 => nxt _ ?_)
        · rw [estep, if_pos (show bel p q = true from hlt2)]; rfl
        · rw [estep, if_neg (by rw [show bel p q = false from hge2]; decide)]
    · refine nxt _ ?_
      have : lst (fun i _ => fs.getD i false) M (j + 1) = lst (fun i _ => fs.getD i false) M j := by
        rw [lst, hp]; simp only [hgd, hcf]; rfl
      rw [this]
  · have : j = M.length := by omega
    subst this
    exact ⟨rfl, f1⟩
theorem lst_map {f g : Nat → Pj → Bool} {h : Pj → Pj} {M : List Pj} (hf : ∀ i p, M[i]? = some p → f i (h p) = g i p) (hb : ∀ p q, bel (h p) (h q) = bel p q) : ∀ n, lst f (M.map h) n = lst g M n
  | 0 => rfl
  | n + 1 => by
    have ih := lst_map hf hb n
    unfold lst
    rw [List.getElem?_map, ih]
    cases hp : M[n]? with
    | none => rfl
    | some p =>
      simp only [Option.map_some, hf n p hp]
      split
      · cases hl : lst g M n with
        | none => rfl
        | some b =>
          simp only [List.getElem?_map]
          cases hq : M[b]? with
          | none => rfl
          | some q => simp only [Option.map_some, hb]
      · rfl
theorem isW_snoc (ws : List ByteArray) (x : ByteArray) (p : Pj) : isW (ws ++ [x]) p = (isW ws p || decide (x = p.n)) := by simp [isW]
theorem mark_set {M : List Pj} (hs : Srt M) {ws : List ByteArray} {x : ByteArray} {i : Nat} (hi : ix x M = some i) (g : Pj → Bool) {p : Pj} (hp : M[i]? = some p) :
    (M.map fun p => isW ws p && g p).set i (g p) = M.map fun p => isW (ws ++ [x]) p && g p := by
  obtain ⟨_, p', hp', he⟩ := ix_some hi
  rw [hp] at hp'; cases hp'
  refine List.ext_getElem? fun j => ?_
  rw [List.getElem?_set, List.getElem?_map, List.length_map, List.getElem?_map]
  have hil := (List.getElem?_eq_some_iff.1 hp).1
  by_cases hij : i = j
  · subst hij
    rw [if_pos rfl, if_pos hil, hp, Option.map_some, isW_snoc]
    simp [he]
  · rw [if_neg hij]
    cases hq : M[j]? with
    | none => rfl
    | some q =>
      simp only [Option.map_some]
      rw [isW_snoc, decide_eq_false, Bool.or_false]
      intro hx
      exact hij (hs.uniq hp hq (by rw [he, hx]))
theorem mark_skip {M : List Pj} (hs : Srt M) {ws : List ByteArray} {x : ByteArray} (hi : ix x M = none) (g : Pj → Bool) : (M.map fun p => isW ws p && g p) = M.map fun p => isW (ws ++ [x]) p && g p := by
  refine List.map_congr_left fun p hp => ?_
  obtain ⟨j, hj⟩ := List.mem_iff_getElem?.1 hp
  rw [isW_snoc, decide_eq_false, Bool.or_false]
  intro hx
  exact ix_none hs hi hj hx.symm
theorem dNext_calls (w : World) (D : Nat → Prop) (b : Nat) (M : List Pj) (h : Dcw w D b M) (ok : OkM M) (x : Sl) (ws : List ByteArray) (hx : Has w x 1 (sv ws)) (hws : ws.length ≤ 1000000000000) :
    Calls prog 27 #[.pointer (some ⟨b, 0, none⟩), .slice x.a x.l x.c] w fun e w' => e = .returned (.tuple #[.string (nextP ws M).1, .int .i64 (nextP ws M).2.1]) ∧ WentD w D b (nextP ws M).2.2 w' := by
  refine calls_ret (W27 (x0 := some ⟨b, 0, none⟩) (x1 := x) (Q := fun v w' => v = .tuple #[.string (nextP ws M).1, .int .i64 (nextP ws M).2.1] ∧ WentD w D b (nextP ws M).2.2 w') ?_) (fun v w' ⟨h, h'⟩ => ⟨by rw [h], h'⟩)
  have h0 := h
  obtain ⟨s, hS, hDb, hDs, hDl⟩ := h
  have hn := ok.n
  have hsl := hS.sl
  have hxlen := has_sv hx
  unfold F27
  refine ⟨_, rfl, s, hS.ld0, runT_makeN st97 (by omega) (by omega) (by omega) ?_⟩
  intro tn w1 hrn hnl hnc hna f1 z1
  have hS1 := hS.n f1
  refine ⟨_, rfl, s, hS1.ld0, runT_makeN st97 (by omega) (by omega) (by omega) ?_⟩
  intro to w2 hro hol hoc hoa f2 z2
  have hS2 := hS1.n f2
  have zc : ∀ n : Nat, (madeCells (Value.bool false).cells (n * 1)).toList = ov (List.replicate n false) := by
    intro n
    have : ∀ k, (madeCells (Value.bool false).cells k).toList = List.replicate k (Value.bool false) := by
      intro k
      apply List.ext_getElem
      · simp [madeCells]
      · intro i h1 h2
        simp [madeCells, Value.cells, Nat.mod_one]
    rw [this, Nat.mul_one]
    simp [ov]
  rw [Int.toNat_natCast, zc] at hrn hro
  have hM0 : ∀ g : Pj → Bool, List.replicate s.l false = M.map fun p => isW [] p && g p := by
    intro g
    rw [hsl]
    apply List.ext_getElem
    · simp
    · intro i h1 h2
      simp [isW]
  have hnb : ∀ k, tn.blk = some k → k = w.heap.size := fun k hk => by simp [Sl.blk, hna] at hk; exact hk.symm
  have hob : ∀ k, to.blk = some k → k = w1.heap.size := fun k hk => by simp [Sl.blk, hoa] at hk; exact hk.symm
  refine ⟨fun n i W => ∃ j : Nat, i = (j : Int) ∧ j ≤ ws.length ∧ n = ws.length - j ∧ Row W tn 4 1 (ov (M.map fun p => isW (ws.take j) p && true)) ∧ Row W to 4 1 (ov (M.map fun p => isW (ws.take j) p && p.wt)) ∧ Frm none_ w W ∧ w2.heap.size ≤ W.heap.size, ws.length, ⟨0, rfl, by omega, rfl, ?_, ?_, f1.n f2, Nat.le_refl _⟩, ?_⟩
  · rw [List.take_zero, ← hM0 (fun _ => true)]; exact hrn.mod f2 (fun _ _ h => h)
  · rw [List.take_zero, ← hM0 (fun p => p.wt)]; exact hro
  rintro n u i w3 ⟨j, rfl, hj, rfl, hrn3, hro3, f3, z3⟩
  have hS3 := hS.n f3
  refine IfB.dec (fun hlt => ?_) (fun hge => ?_)
  · obtain ⟨q, nm, hq, hnm, hld⟩ := sv_at (hx.mod f3 (fun _ _ h => h)) (i := j) (by omega)
    refine ⟨q, hq, by omega, by omega, nm, hld, (dAt_calls w3 b s M hS3 ok.srt (by omega) nm).mono ?_⟩
    rintro _ w4 ⟨rfl, e⟩
    subst e
    have ew : IntKind.wrap .i64 ((j : Int) + (1 : Int)) = ((j + 1 : Nat) : Int) := by rw [wi _ (by omega)]; omega
    refine ⟨_, rfl, ?_⟩
    unfold ixI
    cases hi : ix nm M with
    | none =>
      refine IfB.f rfl ⟨ws.length - (j + 1), by omega, j + 1, ew, by omega, rfl, ?_, ?_, f3, z3⟩
      · rw [take_snoc hnm, ← mark_skip ok.srt hi]; exact hrn3
      · rw [take_snoc hnm, ← mark_skip ok.srt hi]; exact hro3
    | some k =>
      obtain ⟨_, p, hp, he⟩ := ix_some hi
      have hkl := (List.getElem?_eq_some_iff.1 hp).1
      obtain ⟨gn, hgn, hwn, hsn⟩ := hrn3.wr (j := k) (by simp [ov]; exact hkl)
      rw [hna] at hgn; cases hgn
      have e0 : ∀ g : Nat, (⟨g, 0, none⟩ : Addr).add ((k : Int).toNat * 1) = ⟨g, k, none⟩ := fun g => by rw [addr_add, Int.toNat_natCast, Nat.mul_one, Nat.zero_add]
      refine IfB.t (decide_eq_true (by simp only; omega)) ⟨_, hna, by simp only; omega, by simp only; omega, by rw [e0]; exact hwn, ?_⟩
      rintro w5 rfl
      rw [e0]
      have hm5 : Frm (fun g => g = w.heap.size) w4 (w4.setCell ⟨w.heap.size, k, none⟩ (.bool true)) := mod_setCell (a := ⟨w.heap.size, k, none⟩)
      have f5 := f3.b hm5 (Nat.le_refl _)
      have hrn5 := hsn (.bool true)
      rw [ov_set, mark_set ok.srt hi (fun _ => true) hp, ← take_snoc hnm] at hrn5
      have hro5 := hro3.mod hm5 (fun g hg e => by have := hob g hg; have e : g = w.heap.size := e; omega)
      have hz5 := hm5.size
      generalize w4.setCell ⟨w.heap.size, k, none⟩ (.bool true) = w5 at *
      have hS5 := hS.n f5
      obtain ⟨q5, hq5, hil5, _, hld5⟩ := hS5.at hp
      obtain ⟨go, hgo, hwo, hso⟩ := hro5.wr (j := k) (by simp [ov]; exact hkl)
      rw [hoa] at hgo; cases hgo
      refine ⟨_, rfl, s, hS5.ld0, q5, hq5, by simp only; omega, by simp only; omega, p.wt, hld5 3 _ rfl, _, hoa, by simp only; omega, by simp only; omega, by rw [e0]; exact hwo, ?_⟩
      rintro w6 rfl
      rw [e0]
      have hm6 : Frm (fun g => g = w1.heap.size) w5 (w5.setCell ⟨w1.heap.size, k, none⟩ (.bool p.wt)) := mod_setCell (a := ⟨w1.heap.size, k, none⟩)
      have hro6 := hso (.bool p.wt)
      rw [ov_set, mark_set ok.srt hi (fun p => p.wt) hp, ← take_snoc hnm] at hro6
      refine ⟨ws.length - (j + 1), by omega, j + 1, ew, by omega, rfl, hrn5.mod hm6 (fun g hg e => by have := hnb g hg; have e : g = w1.heap.size := e; omega), hro6, f5.b hm6 (by omega), by have := hm6.size; omega⟩
  have hjl : j = ws.length := by omega
  subst hjl
  rw [List.take_length] at hrn3 hro3
  obtain ⟨fs, hfs⟩ : ∃ fs, fs = M.map fun p => isW ws p && true := ⟨_, rfl⟩
  obtain ⟨gs, hgs⟩ : ∃ gs, gs = M.map fun p => isW ws p && p.wt := ⟨_, rfl⟩
  rw [← hfs] at hrn3
  rw [← hgs] at hro3
  have hfl : fs.length = M.length := by rw [hfs, List.length_map]
  have hgl : gs.length = M.length := by rw [hgs, List.length_map]
  have fsat : ∀ i p, M[i]? = some p → fs[i]? = some (isW ws p) := fun i p hp => by rw [hfs, List.getElem?_map, hp]; simp
  have gsat : ∀ i p, M[i]? = some p → gs[i]? = some (isW ws p && p.wt) := fun i p hp => by rw [hgs, List.getElem?_map, hp]; rfl
  have efs : ∀ (M' : List Pj), (∀ (j : Nat) (p : Pj), M'[j]? = some p → ∃ p0 : Pj, M[j]? = some p0 ∧ p0.n = p.n) → ∀ n, lst (fun i _ => fs.getD i false) M' n = lst (fun _ p => isW ws p) M' n := by
    intro M' hM' n
    refine lst_congr (fun i p hi hp => ?_)
    obtain ⟨p0, hp0, he⟩ := hM' i p hp
    rw [List.getD_eq_getElem?_getD, fsat i p0 hp0]
    show isW ws p0 = isW ws p
    unfold isW; rw [he]
  have self : ∀ (j : Nat) (p : Pj), M[j]? = some p → ∃ p0 : Pj, M[j]? = some p0 ∧ p0.n = p.n := fun j p hp => ⟨p, hp, rfl⟩
  refine (dLeast_calls w3 b s tn M fs hS3 ok.each (by omega) hrn3.has hfl).mono ?_
  rintro _ w4 ⟨rfl, f4⟩
  rw [efs M self]
  refine ⟨_, rfl, ?_⟩
  have f04 := f3.n f4
  have z4 := f4.size
  unfold nextP
  cases hb1 : lst (fun _ p => isW ws p) M M.length with
  | none => exact IfB.t rfl ⟨rfl, WentD.same h0 f04⟩
  | some j1 =>
  obtain ⟨hj1, p1, hp1, hp1w⟩ := lst_lt hb1
  refine IfB.f (decide_eq_false (by simp only [lstI]; omega)) ?_
  have hS4 := hS3.n f4
  have hrn4 := hrn3.mod f4 (fun _ _ h => h)
  have hro4 := hro3.mod f4 (fun _ _ h => h)
  refine (dLeast_calls w4 b s to M gs hS4 ok.each (by omega) hro4.has hgl).mono ?_
  rintro _ w5 ⟨rfl, f5⟩
  have egs : lst (fun i _ => gs.getD i false) M M.length = lst (fun _ p => isW ws p && p.wt) M M.length := by
    refine lst_congr (fun i p hi hp => ?_)
    rw [List.getD_eq_getElem?_getD, gsat i p hp]; rfl
  rw [egs]
  refine ⟨_, rfl, ?_⟩
  have f05 := f04.n f5
  have hS5 := hS4.n f5
  have hrn5 := hrn4.mod f5 (fun _ _ h => h)
  have hro5 := hro4.mod f5 (fun _ _ h => h)
  have z5 := f5.size
  have hlnm : ∀ (j : Nat) (p : Pj), (lifted ws M)[j]? = some p → ∃ p0 : Pj, M[j]? = some p0 ∧ p0.n = p.n := by
    intro j p hp
    unfold lifted at hp
    split at hp
    · exact ⟨p, hp, rfl⟩
    · split at hp
      · exact ⟨p, hp, rfl⟩
      · rw [List.getElem?_map, Option.map_eq_some_iff] at hp
        obtain ⟨p0, hp0, rfl⟩ := hp
        refine ⟨p0, hp0, ?_⟩
        split
        · exact (lift_n _ _).symm
        · rfl
  have hll : (lifted ws M).length = M.length := by
    unfold lifted
    split
    · rfl
    · split
      · rfl
      · rw [List.length_map]
  have okl := lifted_ok ok ws
  have hsbl := hS.row.lt
  have hbl := hS.blk.lt
  have hDn : ∀ k, s.blk = some k → ¬ (tn.blk = some k) ∧ ¬ (to.blk = some k) := fun k hk => ⟨fun e => by have := hnb k e; have := hsbl k hk; omega, fun e => by have := hob k e; have := hsbl k hk; omega⟩
  -- what holds all along
  obtain ⟨Inv, hInv⟩ : ∃ Inv : List Pj → World → Prop, Inv = fun L W => Dcr W b s L ∧ Row W tn 4 1 (ov fs) ∧ Row W to 4 1 (ov gs) ∧ Frm (fun k => s.blk = some k) w W := ⟨_, rfl⟩
  have inv0 : Inv M w5 := by rw [hInv]; exact ⟨hS5, hrn5, hro5, f05.none⟩
  have invN : ∀ {L W W'}, Inv L W → Frm none_ W W' → Inv L W' := by
    intro L W W' hI hf
    rw [hInv] at hI ⊢
    obtain ⟨i1, i2, i3, i4⟩ := hI
    exact ⟨i1.n hf, i2.mod hf (fun _ _ h => h), i3.mod hf (fun _ _ h => h), i4.trans hf (fun _ _ h => h) (fun _ _ h => h.elim)⟩
  have invW : ∀ {L W i c p p' v}, Inv L W → L[i]? = some p → c < 4 → (qc p).set c v = qc p' → ∃ q, s.a = some q ∧ i < s.l ∧ Wr W ((q.add ((i : Int).toNat * 4)).add c) ∧ Inv (L.set i p') (W.setCell ((q.add ((i : Int).toNat * 4)).add c) v) := by
    intro L W i c p p' v hI hp hc he
    rw [hInv] at hI ⊢
    obtain ⟨i1, i2, i3, i4⟩ := hI
    obtain ⟨q, hq, hil, hw, hD', hf⟩ := i1.wr hp hc he
    exact ⟨q, hq, hil, hw, hD', i2.mod hf (fun k hk e => (hDn k e).1 hk), i3.mod hf (fun k hk e => (hDn k e).2 hk), i4.trans hf (fun _ _ h => h) (fun _ _ h => h)⟩
  have invD : ∀ {L W}, Inv L W → Dcr W b s L := by intro L W hI; rw [hInv] at hI; exact hI.1
  have invR : ∀ {L W}, Inv L W → Row W tn 4 1 (ov fs) := by intro L W hI; rw [hInv] at hI; exact hI.2.1
  have invO : ∀ {L W}, Inv L W → Row W to 4 1 (ov gs) := by intro L W hI; rw [hInv] at hI; exact hI.2.2.1
  have invF : ∀ {L W}, Inv L W → Frm (fun k => s.blk = some k) w W := by intro L W hI; rw [hInv] at hI; exact hI.2.2.2
  clear hInv
  refine ⟨fun W => Inv (lifted ws M) W, ?_, ?_⟩
  · cases hm : lst (fun _ p => isW ws p && p.wt) M M.length with
    | none =>
      have hle : lifted ws M = M := by unfold lifted; rw [hm]
      rw [hle]
      refine ⟨fun n i W => i = 0 ∧ Inv M W, 0, ⟨rfl, inv0⟩, ?_⟩
      rintro n u i W ⟨rfl, hI⟩
      refine ⟨fun _ => False, ⟨_, rfl, s, (invD hI).ld0, IfB.intro (fun _ => IfB.f rfl hI) (fun _ => hI)⟩, fun _ _ h => h.elim⟩
    | some m =>
      obtain ⟨hml, q, hq, hqw⟩ := lst_lt hm
      have hqw2 : q.wt = true := by simp only [Bool.and_eq_true] at hqw; exact hqw.2
      obtain ⟨g, hg⟩ : ∃ g : Pj → Pj, g = fun p => if isW ws p && !p.wt then lift q p else p := ⟨_, rfl⟩
      have hle : lifted ws M = M.map g := by unfold lifted; rw [hm]; simp only [hq]; rw [hg]
      have okq := ok.at hq
      have hqm : ∀ j, (pref g j M)[m]? = some q := by
        intro j
        rw [pref_get]
        split
        · rw [hq, Option.map_some]
          congr 1
          rw [hg]
          simp only
          rw [if_neg]
          rw [hqw2]; simp
        · exact hq
      rw [hle]
      refine ⟨fun n i W => ∃ j : Nat, i = (j : Int) ∧ j ≤ M.length ∧ n = M.length - j ∧ Inv (pref g j M) W, M.length, ⟨0, rfl, by omega, rfl, by rw [pref_zero]; exact inv0⟩, ?_⟩
      rintro n u i W ⟨j, rfl, hj, rfl, hI⟩
      refine ⟨fun W' => W' = W ∧ j < M.length, ⟨_, rfl, s, (invD hI).ld0, IfB.dec (fun hlt => IfB.t (decide_eq_true (by simp only [lstI]; omega)) ⟨rfl, by omega⟩) (fun hge => ?_)⟩, ?_⟩
      · have : j = M.length := by omega
        subst this
        rw [pref_all] at hI
        exact hI
      rintro u2 W' ⟨rfl, hjl⟩
      obtain ⟨p, hp⟩ : ∃ p, M[j]? = some p := ⟨_, List.getElem?_eq_getElem hjl⟩
      have hpj : (pref g j M)[j]? = some p := by rw [pref_get, if_neg (by omega)]; exact hp
      have okp := ok.at hp
      have hId := invN hI (frm_drew (F := none_) W')
      obtain ⟨q1, hq1, hl1, hld1⟩ := ov_at (invR hId).has (fsat j p hp)
      obtain ⟨q2, hq2, hl2, hld2⟩ := ov_at (invO hId).has (gsat j p hp)
      have ew : IntKind.wrap .i64 ((j : Int) + (1 : Int)) = ((j + 1 : Nat) : Int) := by rw [wi _ (by omega)]; omega
      refine ⟨fun c W2 => Inv (pref g j M) W2 ∧ ((c = true ∧ isW ws p = true ∧ p.wt = false ∧ bel p q = true) ∨ (c = false ∧ g p = p)), ⟨q1, hq1, by omega, by omega, _, hld1, IfB.intro (fun hw => ⟨q2, hq2, by omega, by omega, _, hld2, IfB.intro (fun ho => ?_) (fun ho => ⟨hId, .inr ⟨rfl, ?_⟩⟩)⟩) (fun hw => ⟨hId, .inr ⟨rfl, ?_⟩⟩)⟩, ?_⟩
      · have hwt : p.wt = false := by rw [hw] at ho; simpa using ho
        obtain ⟨a1, ha1, hal, _, hldp⟩ := (invD hId).at hpj
        obtain ⟨a2, ha2, _, _, hldq⟩ := (invD hId).at (hqm j)
        rw [ha1] at ha2; cases ha2
        refine ⟨_, rfl, s, (invD hId).ld0, a1, ha1, by omega, by omega, p.had, hldp 2 _ rfl, _, rfl, s, (invD hId).ld0, a1, ha1, by simp only [lstI]; omega, by simp only [lstI]; omega, q.sh, hldq 1 _ rfl, _, rfl, s, (invD hId).ld0, a1, ha1, by simp only [lstI]; omega, by simp only [lstI]; omega, q.had, hldq 2 _ rfl, _, rfl, s, (invD hId).ld0, a1, ha1, by omega, by omega, p.sh, hldp 1 _ rfl, hId, ?_⟩
        rw [mulb ⟨okp.h1, okp.h2⟩ ⟨okq.s1, okq.s2⟩, mulb ⟨okq.h1, okq.h2⟩ ⟨okp.s1, okp.s2⟩]
        cases hbel : bel p q with
        | true => exact .inl ⟨hbel, hw, hwt, rfl⟩
        | false =>
          refine .inr ⟨hbel, ?_⟩
          rw [hg]
          simp only
          split
          · unfold lift; rw [if_neg (by rw [hbel]; decide)]
          · rfl
      · rw [hw] at ho
        rw [hg]
        simp only
        rw [if_neg]
        intro hh
        rw [hw] at hh
        simp at ho hh
        rw [ho] at hh; cases hh
      · rw [hg]
        simp only
        rw [if_neg]
        rw [hw]; simp
      rintro u3 c W2 ⟨hI2, ⟨rfl, hw, hwt, hbel⟩ | ⟨rfl, hgp⟩⟩
      · have hI2d := invN hI2 (frm_drew (F := none_) W2)
        have hgp : g p = { p with had := (g p).had } ∧ (g p).had = min (scl q.had q.sh p.sh) 2147483647 := by
          rw [hg]; simp only; rw [if_pos (by rw [hw, hwt]; rfl)]; unfold lift; rw [if_pos hbel]; exact ⟨rfl, rfl⟩
        obtain ⟨a1, ha1, hal, _, hldp⟩ := (invD hI2d).at hpj
        obtain ⟨a2, ha2, _, _, hldq⟩ := (invD hI2d).at (hqm j)
        rw [ha1] at ha2; cases ha2
        refine IfB.t rfl ⟨fun W => W = W2.drew, rfl, _, rfl, s, fun W e => by subst e; exact (invD hI2d).ld0, _, rfl, s, fun W e => by subst e; exact (invD hI2d).ld0, a1, ha1, by simp only [lstI]; omega, by simp only [lstI]; omega, q.had, fun W e => by subst e; exact hldq 2 _ rfl, _, rfl, s, fun W e => by subst e; exact (invD hI2d).ld0, a1, ha1, by simp only [lstI]; omega, by simp only [lstI]; omega, q.sh, fun W e => by subst e; exact hldq 1 _ rfl, _, rfl, s, fun W e => by subst e; exact (invD hI2d).ld0, a1, ha1, by omega, by omega, p.sh, fun W e => by subst e; exact hldp 1 _ rfl, (dScaled_calls W2.drew q.had q.sh p.sh ⟨okq.h1, okq.h2⟩ ⟨okq.s1, okq.s2⟩ ⟨okp.s1, okp.s2⟩).mono ?_⟩
        rintro _ W3 ⟨rfl, e⟩
        subst e
        have hmin : (if (2147483647 : Int) < scl q.had q.sh p.sh then (2147483647 : Int) else scl q.had q.sh p.sh) = (g p).had := by
          rw [hgp.2]; split <;> omega
        obtain ⟨a3, ha3, _, hwr, hI3⟩ := invW (c := 2) (v := .int .i64 (g p).had) (p' := g p) hI2d hpj (by omega) (by rw [hgp.1]; rfl)
        rw [ha1] at ha3; cases ha3
        refine ⟨_, rfl, rfl, a1, ha1, by omega, by omega, hwr, ?_⟩
        rw [hmin]
        rintro W4 rfl
        rw [pref_set hp] at hI3
        exact ⟨M.length - (j + 1), by omega, j + 1, ew, by omega, rfl, hI3⟩
      · refine IfB.f rfl ⟨M.length - (j + 1), by omega, j + 1, ew, by omega, rfl, ?_⟩
        rw [← pref_skip hp hgp]; exact hI2
  · intro u W hI0
    refine ⟨fun n i W => ∃ j : Nat, i = (j : Int) ∧ j ≤ M.length ∧ n = M.length - j ∧ Inv (pref (wtf ws) j (lifted ws M)) W, M.length, ⟨0, rfl, by omega, rfl, by rw [pref_zero]; exact hI0⟩, ?_⟩
    rintro n u i W2 ⟨j, rfl, hj, rfl, hI⟩
    refine ⟨_, rfl, s, (invD hI).ld0, IfB.dec (fun hlt => ?_) (fun hge => ?_)⟩
    · obtain ⟨p, hp⟩ : ∃ p, (lifted ws M)[j]? = some p := ⟨_, List.getElem?_eq_getElem (by omega)⟩
      have hpj : (pref (wtf ws) j (lifted ws M))[j]? = some p := by rw [pref_get, if_neg (by omega)]; exact hp
      obtain ⟨p0, hp0, he⟩ := hlnm j p hp
      have hId := invN hI (frm_drew (F := none_) W2)
      obtain ⟨q1, hq1, hl1, hld1⟩ := ov_at (invR hId).has (fsat j p0 hp0)
      have hnm : isW ws p0 = isW ws p := by unfold isW; rw [he]
      rw [hnm] at hld1
      obtain ⟨q2, hq2, hl2, hwr, hI3⟩ := invW (c := 3) (v := .bool (isW ws p)) (p' := wtf ws p) hId hpj (by omega) rfl
      refine ⟨fun W => W = W2.drew, rfl, _, rfl, s, fun W e => by subst e; exact (invD hId).ld0, q1, hq1, by omega, by omega, _, fun W e => by subst e; exact hld1, q2, hq2, by omega, by omega, hwr, ?_⟩
      rintro W4 rfl
      rw [pref_set hp] at hI3
      exact ⟨M.length - (j + 1), by omega, j + 1, by rw [wi _ (by omega)]; omega, by omega, rfl, hI3⟩
    · have hjl : j = (lifted ws M).length := by omega
      subst hjl
      rw [pref_all] at hI
      have hId := invN hI (frm_drew (F := none_) W2)
      have okm : OkM ((lifted ws M).map (wtf ws)) := okm_map okl (fun p => rfl) (fun p hp => ⟨hp.name, hp.s1, hp.s2, hp.h1, hp.h2⟩)
      refine ⟨fun W => Frm none_ W2.drew W, Frm.refl _ _, _, rfl, s, fun W e => (invD (invN hId e)).ld0, (dLeast_calls W2.drew b s tn _ fs (invD hId) okm.each (by rw [List.length_map]; omega) (invR hId).has (by rw [List.length_map]; omega)).mono ?_⟩
      rintro _ W3 ⟨rfl, f3'⟩
      rw [List.length_map, lst_map (h := wtf ws) (f := fun i _ => fs.getD i false) (g := fun i _ => fs.getD i false) (fun i p _ => rfl) (fun p q => rfl), efs _ hlnm]
      -- one of them is the least
      have hex : ∃ b2, lst (fun _ p => isW ws p) (lifted ws M) (lifted ws M).length = some b2 := by
        cases hb2 : lst (fun _ p => isW ws p) (lifted ws M) (lifted ws M).length with
        | some b2 => exact ⟨b2, rfl⟩
        | none =>
          exfalso
          have key : ∀ (L : List Pj) (n i : Nat) (p : Pj), lst (fun _ p => isW ws p) L n = none → i < n → L[i]? = some p → isW ws p = true → False := by
            intro L n
            induction n with
            | zero => intro i p _ hi; omega
            | succ n ih =>
              intro i p hl hi hp hw
              rw [lst] at hl
              by_cases hin : i = n
              · subst hin
                rw [hp] at hl
                simp only [hw, if_true] at hl
                split at hl
                · cases hl
                · split at hl
                  · split at hl <;> cases hl
                  · cases hl
              · refine ih i p ?_ (by omega) hp hw
                split at hl
                · exact hl
                · split at hl
                  · split at hl
                    · cases hl
                    · split at hl
                      · split at hl <;> cases hl
                      · cases hl
                  · exact hl
          obtain ⟨p', hp'⟩ : ∃ p', (lifted ws M)[j1]? = some p' := ⟨_, List.getElem?_eq_getElem (by omega)⟩
          obtain ⟨p0, hp0, hne⟩ := hlnm j1 p' hp'
          rw [hp1] at hp0; cases hp0
          refine key _ _ j1 p' hb2 (by omega) hp' ?_
          unfold isW at hp1w ⊢
          rw [← hne]; exact hp1w
      obtain ⟨b2, hb2⟩ := hex
      obtain ⟨hb2l, p2, hp2, _⟩ := lst_lt hb2
      simp only [hb2, hp2, Option.map_some, Option.getD_some]
      have hI3 := invN hId f3'
      have hp2' : ((lifted ws M).map (wtf ws))[b2]? = some (wtf ws p2) := by rw [List.getElem?_map, hp2]; rfl
      obtain ⟨q2, hq2, hil2, _, hld2⟩ := (invD hI3).at hp2'
      refine ⟨_, rfl, fun W => W = W3, fun W e => by subst e; exact f3', rfl, q2, hq2, by simp only [lstI]; omega, by simp only [lstI]; omega, p2.n, fun W e => by subst e; exact hld2 0 _ rfl, rfl, ?_⟩
      exact wentD ((invF hI3).mono fun k _ hk => hDs k hk) (invD hI3) (.inl hDb) (fun k hk => .inl (hDs k hk))
end Go.Proofs.Ythgeacnemojjgaa
