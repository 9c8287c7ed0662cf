/- The laws GraphRow and GraphNames walked. -/
import Derived.Test.YtjpcbggodhfabaaBo
set_option linter.unusedVariables false
set_option linter.unusedSimpArgs false
namespace Go.Proofs.Ytjpcbggodhfabaa
open Go Go.Proofs.YtjpcbggodhfabaaV
/-- Where each thing stands, counted from 1. -/
def Plc (row pl : List Int) (i : Nat) : Prop := (∀ k : Nat, (k : Int) ∉ row.take i → ge pl k = 0) ∧ (∀ j, j < i → ∀ k : Nat, row[j]? = some (k : Int) → ge pl k = (j : Int) + 1)
theorem mst_take {lv l : List Int} {j : Nat} {k : Int} (h : l[j]? = some k) : mst lv (l.take (j + 1)) = if ge lv k.toNat > mst lv (l.take j) then ge lv k.toNat else mst lv (l.take j) := by
  unfold mst
  rw [List.take_add_one, h]; simp
theorem mst_bnd {lv : List Int} {c : Nat} (hb : Bnd lv c) (l : List Int) : -1 ≤ mst lv l ∧ mst lv l ≤ (c : Int) := by
  unfold mst
  have : ∀ m : Int, -1 ≤ m → m ≤ (c : Int) → -1 ≤ l.foldl (fun m k => if ge lv k.toNat > m then ge lv k.toNat else m) m ∧ l.foldl (fun m k => if ge lv k.toNat > m then ge lv k.toNat else m) m ≤ (c : Int) := by
    induction l with
    | nil => intro m h1 h2; exact ⟨h1, h2⟩
    | cons a r ih =>
      intro m h1 h2
      rw [List.foldl_cons]
      have := hb a.toNat
      apply ih <;> split <;> omega
  exact this (-1) (by omega) (by omega)
theorem fold_bnd {x : Nat} : ∀ {l lv : List Int} {c : Nat}, Bnd lv c → Bnd (l.foldl (stp x) lv) (c + l.length) := by
  intro l
  induction l with
  | nil => intro lv c h; exact h
  | cons a r ih =>
    intro lv c h
    rw [List.foldl_cons]
    exact (ih h.stp).mono (by simp; omega)
theorem lvF_bnd {g : List (List Int)} (hg : ∀ x, (g.getD x []).length ≤ 65536) : ∀ (row : List Int) (c : Nat) (lv : List Int), Bnd lv c → Bnd (row.foldl (fun lv z => lvS g lv z.toNat) lv) (c + row.length * 65536) := by
  intro row
  induction row with
  | nil => intro c lv h; simpa using h
  | cons a r ih =>
    intro c lv h
    rw [List.foldl_cons]
    have h1 : Bnd (lvS g lv a.toNat) (c + (g.getD a.toNat []).length) := fold_bnd h
    refine (ih _ _ h1).mono ?_
    have := hg a.toNat
    simp only [List.length_cons]
    omega
theorem getD_in {g : List (List Int)} {x : Nat} (hx : x < g.length) : g[x]? = some (g.getD x []) := by
  rw [List.getD_eq_getElem?_getD, List.getElem?_eq_getElem hx]; rfl
set_option maxRecDepth 20000 in
theorem row_calls (w : World) (s : Sl) (ps : List (Sl × List Int)) (h : Gw w s ps) (hok : PsOk s ps) : Calls prog 6 #[.slice s.a s.l s.c] w fun e w' => e = .returned (.bool true) ∧ Frm none_ w w' := by
  refine callsRet (W6 (Q := fun v w' => v = .bool true ∧ Frm none_ w w') ?_) (fun v w' ⟨h, h'⟩ => ⟨by rw [h], h'⟩)
  unfold F6
  have hl := h.len
  refine ⟨fun b w' => Frm none_ w w' ∧ (b = false → Small ps ∧ tot (gOf ps) ≤ 1000000000), ?_, ?_⟩
  · refine (works_calls w).mono ?_
    rintro _ w1 ⟨rfl, f1⟩
    refine ⟨_, rfl, IfB.f rfl ((large_calls w1 s ps 300 (by decide) (h.mod f1) hok.1 hok.2).mono ?_)⟩
    rintro _ _ ⟨b, rfl, hb, rfl⟩
    exact ⟨_, rfl, f1, fun e => ⟨small_of (by decide) (hb e).1 (hb e).2, by have := (hb e).2; omega⟩⟩
  rintro u b w1 ⟨f1, hb⟩
  refine IfB.intro (fun _ => (works_calls w1).mono ?_) (fun hbf => ?_)
  · rintro _ w2 ⟨rfl, f2⟩
    exact ⟨_, rfl, rfl, f1.n f2⟩
  obtain ⟨hsm, htt⟩ := hb hbf
  have hsl := hsm.len
  have hgl := gOf_len ps
  refine (sort_calls w1 s ps (h.mod f1) hsm htt).mono ?_
  rintro _ w2 ⟨ta, rfl, hta, f2⟩
  have f12 := f1.n f2
  refine ⟨ta, _, rfl, (levels_calls w2 s ps (h.mod f12) hsm htt).mono ?_⟩
  rintro _ w3 ⟨tb, rfl, htb, f3⟩
  have f13 := f12.n f3
  have hta := hta.mod f3 (fun _ _ h => h)
  have hal := has_iv hta
  have hbl := has_iv htb
  refine ⟨tb, _, rfl, IfB.f (by simp) (IfB.intro (fun hc => ?_) (fun hc => ?_))⟩
  · have hc := iNe hc
    obtain ⟨h1, h2⟩ := sortL_bad hc
    rw [h1] at hal
    rw [h2] at hbl
    refine ⟨?_, f13⟩
    rw [hal, hbl]; rfl
  have hc := iEq hc
  obtain ⟨hmay, hsc, e1, e2⟩ := sortL_good hc
  have hfull : (srow (gOf ps)).length = ps.length := by
    have := srow_le (gOf ps)
    unfold scode at hsc
    split at hsc
    · exact absurd hsc (by decide)
    · omega
  rw [e1] at hta hal
  rw [e2] at htb hbl
  have hll := lvF_len (gOf ps) (srow (gOf ps))
  have hv := valid_of hmay
  have hmt := hmay.2.1
  have hml := hmay.1
  rw [hgl] at hml
  have hgr := rowF_gr (gOf ps) (gOf ps).length
  have esr : srow (gOf ps) = rowF (gOf ps) (gOf ps).length := rfl
  rw [← esr] at hgr
  have hlen : ∀ x, ((gOf ps).getD x []).length ≤ 65536 := by
    intro x
    cases hg : (gOf ps)[x]? with
    | none => rw [List.getD_eq_getElem?_getD, hg]; simp
    | some l0 => rw [getD_of hg]; have := tot_mem (List.mem_of_getElem? hg); omega
  have hbd : Bnd (lvF (gOf ps) (srow (gOf ps))) (0 + (srow (gOf ps)).length * 65536) := lvF_bnd hlen _ 0 _ (bnd0 _)
  refine runT_makeN st25 (by omega) (by omega) (by omega) ?_
  intro t w4 hr4 htl htc hta4 f4 z4
  rw [made_one (.int .i64 0) rfl] at hr4
  have htb4 : t.blk = some w3.heap.size := by simp [Sl.blk, hta4]
  have e3 : List.replicate (((s.l : Nat) : Int).toNat * 1) (Value.int .i64 0) = iv (List.replicate ps.length 0) := by simp [iv, hl]
  rw [e3] at hr4
  have ht3 : ∀ {F : Nat → Prop} {s' : Sl} {l : List Int} {w' : World}, Has w3 s' 1 (iv l) → Frm none_ w3 w' → Has w' s' 1 (iv l) := fun h f => h.mod f (fun _ _ h => h)
  refine ⟨fun c w' => c = false ∧ w' = w4, ?_, ?_⟩
  · exact IfB.f (by rw [bne_eq_false_iff_eq]; omega) ⟨by rw [bne_eq_false_iff_eq]; omega, rfl⟩
  rintro u1 c w4' ⟨rfl, rfl⟩
  refine IfB.f rfl ?_
  -- the places
  refine ⟨fun n x w' => ∃ (i : Nat) (pl : List Int), x = (i : Int) ∧ i ≤ ta.l ∧ n = ta.l - i ∧ pl.length = ps.length ∧ Plc (srow (gOf ps)) pl i ∧ Row w' t 3 1 (iv pl) ∧ Frm none_ w3 w', ta.l, ⟨0, _, rfl, Nat.zero_le _, by omega, by simp, ⟨fun k _ => ge0 _ _, fun j hj => by omega⟩, hr4, f4⟩, ?_⟩
  rintro n u2 x w5 ⟨i, pl, rfl, hi, rfl, hpl, hP, hr5, f5⟩
  have hta5 : Has w5 ta 1 (iv (srow (gOf ps))) := hta.mod f5 (fun _ _ h => h)
  refine IfB.intro (fun hd => ?_) (fun hd => ?_)
  · have hlt := of_decide_eq_true hd
    obtain ⟨q, z, hq, hz, hld⟩ := has_at hta5 (i := i) (by omega)
    obtain ⟨x, rfl, hx⟩ := hgr.mem z (List.mem_of_getElem? hz)
    rw [hgl] at hx
    have hrd := hgr.at i x hz
    have hld : Ld w5 (q.add ((i : Int).toNat * 1)) (.int .i64 (x : Int)) := by rw [Int.toNat_natCast]; exact hld
    obtain ⟨q2, hq2, htl2, hld2⟩ := row_at hr5.has (k := x) (by omega)
    obtain ⟨q3, g3, hq3, htl3, hg3, hwr3, hr6, f6⟩ := row_set hr5 (k := x) (by omega) ((i : Int) + 1)
    rw [htb4] at hg3
    have hg3 : w3.heap.size = g3 := by simpa using hg3
    refine ⟨q, hq, by omega, by omega, _, hld, IfB.f (decide_eq_false (by omega)) ⟨q, hq, by omega, by omega, _, hld, IfB.f (decide_eq_false (by omega)) ⟨q, hq, by omega, by omega, _, hld, q2, hq2, by omega, by omega, _, hld2, IfB.f ?_ ⟨q, hq, by omega, by omega, _, hld, q3, hq3, by omega, by omega, hwr3, ?_⟩⟩⟩⟩
    · rw [hP.1 x hrd.1]; rfl
    rw [wrap64 ((i : Int) + 1) (by omega)]
    rintro w6 rfl
    refine ⟨ta.l - (i + 1), by omega, i + 1, _, by omega, by omega, rfl, by rw [List.length_set]; exact hpl, ⟨?_, ?_⟩, hr6, f5.b f6 (by omega)⟩
    · intro k hk
      rw [List.take_add_one, hz] at hk
      rw [ge_set (by omega), if_neg (fun e => hk (by rw [e]; simp))]
      exact hP.1 k (fun h => hk (by simp [h]))
    · intro j hj k hk
      by_cases e : j = i
      · subst e
        rw [hz] at hk
        have : k = x := by simp at hk; omega
        subst this
        rw [ge_set (by omega), if_pos rfl]
      · have hne : k ≠ x := by
          intro e2
          subst e2
          refine hrd.1 (List.mem_of_getElem? (i := j) ?_)
          rw [List.getElem?_take, if_pos (by omega), hk]
        rw [ge_set (by omega), if_neg hne]
        exact hP.2 j (by omega) k hk
  have hge := of_decide_eq_false hd
  have hit : i = ta.l := by omega
  -- each thing
  refine ⟨fun n x w' => ∃ y : Nat, x = (y : Int) ∧ y ≤ s.l ∧ n = s.l - y ∧ Frm none_ w5 w', s.l, ⟨0, rfl, Nat.zero_le _, by omega, Frm.refl _ _⟩, ?_⟩
  rintro n u3 x w6 ⟨y, rfl, hy, rfl, f6⟩
  have f06 := f13.n (f5.n f6)
  refine IfB.intro (fun hd2 => ?_) (fun hd2 => ⟨rfl, f06⟩)
  have hylt := of_decide_eq_true hd2
  obtain ⟨py, r, hpy, hr, hrm, _, _⟩ := h.at (i := y) (by omega)
  have ldY : ∀ {w' : World}, Frm none_ w w' → Ld w' (py.add ((y : Int).toNat * 1)) (.slice r.1.a r.1.l r.1.c) := by
    intro w' f
    obtain ⟨p2, r2, hp2, hr2, _, hld2, _⟩ := (h.mod f).at (i := y) (by omega)
    rw [hpy] at hp2; cases hp2
    rw [hr] at hr2; cases hr2
    rw [Int.toNat_natCast]; exact hld2
  have hrl := has_iv (h.each r hrm)
  have hrb := hsm.each r hrm
  have hgy : (gOf ps).getD y [] = r.2 := getD_of (gOf_get hr)
  have hyin := srow_all (g := gOf ps) (by omega) (i := y) (by omega)
  obtain ⟨py1, hpy1⟩ := List.mem_iff_getElem?.1 hyin
  have hpl1 := (List.getElem?_eq_some_iff.1 hpy1).1
  have hrdy := hgr.at py1 y hpy1
  have hplace := hP.2 py1 (by omega) y hpy1
  have hlev := (hgr.levels hmay.2.2 y (by omega)).2 hyin
  rw [hgy] at hlev
  have hsrl : (srow (gOf ps)).length ≤ 4096 := by omega
  refine ⟨fun n x10 x11 w' => ∃ j : Nat, x11 = (j : Int) ∧ j ≤ r.1.l ∧ n = r.1.l - j ∧ x10 = mst (lvF (gOf ps) (srow (gOf ps))) (r.2.take j) ∧ Frm none_ w5 w', r.1.l, ⟨0, rfl, Nat.zero_le _, by omega, rfl, f6⟩, ?_⟩
  rintro n u4 x10 x11 w7 ⟨j, rfl, hj, rfl, rfl, f7⟩
  have f07 := f13.n (f5.n f7)
  refine ⟨py, hpy, by omega, by omega, r.1, ldY f07, IfB.intro (fun he => ?_) (fun he => ?_)⟩
  · have hjl := of_decide_eq_true he
    obtain ⟨q, z, hq, hz, hld⟩ := has_at ((h.mod f07).each r hrm) (i := j) (by omega)
    have hzm := List.mem_of_getElem? hz
    obtain ⟨hz0, hz1⟩ := hv r hrm z hzm
    obtain ⟨x, rfl⟩ := Int.eq_ofNat_of_zero_le hz0
    have hxin : (x : Int) ∈ (srow (gOf ps)).take py1 := hrdy.2 _ (by rw [hgy]; exact hzm)
    obtain ⟨px1, hpx1⟩ := List.mem_iff_getElem?.1 hxin
    have hpxl := (List.getElem?_eq_some_iff.1 hpx1).1
    rw [List.length_take] at hpxl
    rw [List.getElem?_take, if_pos (by omega)] at hpx1
    have hplx := hP.2 px1 (by omega) x hpx1
    have hr7 := (hr5.mod f7 (fun _ _ h => h)).drew
    obtain ⟨q2, hq2, htl2, hld2⟩ := row_at hr7.has (k := x) (by omega)
    obtain ⟨q3, hq3, htl3, hld3⟩ := row_at hr7.has (k := y) (by omega)
    have htb7 := (htb.mod (f5.n f7) (fun _ _ h => h)).drew
    obtain ⟨q4, hq4, htl4, hld4⟩ := row_at htb7 (k := x) (by omega)
    have hnx := mst_take (lv := lvF (gOf ps) (srow (gOf ps))) hz
    rw [Int.toNat_natCast] at hnx
    refine ⟨py, hpy, by omega, by omega, r.1, ldY f07, q, hq, by omega, by omega, (x : Int), by rw [Int.toNat_natCast]; exact hld, q2, hq2, by omega, by omega, _, hld2, q3, hq3, by omega, by omega, _, hld3, IfB.f (decide_eq_false (by omega)) ⟨q4, hq4, by omega, by omega, _, hld4, IfB.intro (fun hf => ?_) (fun hf => ?_)⟩⟩
    · have hf := of_decide_eq_true hf
      exact ⟨q4, hq4, by omega, by omega, _, hld4, r.1.l - (j + 1), by omega, j + 1, by rw [wrap64 _ (by omega)]; omega, by omega, rfl, by rw [hnx, if_pos hf], f7.drew⟩
    · have hf := of_decide_eq_false hf
      exact ⟨r.1.l - (j + 1), by omega, j + 1, by rw [wrap64 _ (by omega)]; omega, by omega, rfl, by rw [hnx, if_neg hf], f7.drew⟩
  · have hjg := of_decide_eq_false he
    have hj2 : r.2.take j = r.2 := List.take_of_length_le (by omega)
    rw [hj2]
    obtain ⟨q4, hq4, htl4, hld4⟩ := row_at (htb.mod (f5.n f7) (fun _ _ h => h)) (k := y) (by omega)
    have hmb := mst_bnd hbd r.2
    refine ⟨q4, hq4, by omega, by omega, _, hld4, IfB.f ?_ ⟨s.l - (y + 1), by omega, y + 1, by rw [wrap64 _ (by omega)]; omega, by omega, rfl, f7⟩⟩
    rw [wrap64 _ (by omega), bne_eq_false_iff_eq]
    exact hlev
theorem row_law (W : World) (s : Sl) (ps : List (Sl × List Int)) (h : Gw W s ps ∧ PsOk s ps) : Calls prog 6 #[.slice s.a s.l s.c] W fun e w' => e = .returned (.bool true) ∧ Frm none_ W w' := row_calls W s ps h.1 h.2
end Go.Proofs.Ytjpcbggodhfabaa
