/- The law CodeCuts walked: it returns true, and turns nothing that was there. -/
import Derived.Test.YtmkennapbebbmaaOnward
set_option linter.unusedVariables false
set_option linter.unusedSimpArgs false
namespace Go.Proofs.YtmkennapbebbmaaV
open Go
theorem slA_none (a : Option Addr) (c sz : Nat) : slA a 0 c sz = a := by
  unfold slA
  split
  · rfl
  · cases a with
    | none => rfl
    | some a => rw [Nat.zero_mul, Option.map_some, add_zero]
/-- A block written whole. -/
theorem Blk.whole {w : World} {b : Nat} {cs vs : Array Value} {T : TypeId} (h : Blk w b cs T) (hl : vs.size = cs.size) : WrA w ⟨b, 0, Option.none⟩ vs.size ∧ Blk (YtmkennapbebbmaaV.setAt w ⟨b, 0, Option.none⟩ vs.toList 0) b vs T ∧ Frm (fun k => k = b) w (YtmkennapbebbmaaV.setAt w ⟨b, 0, Option.none⟩ vs.toList 0) := by
  refine ⟨h.wrA (by omega), ?_, mod_setAt (a := ⟨b, 0, Option.none⟩)⟩
  have h1 := h.setAt (o := 0) (i := 0) (vs := vs.toList)
  have e : setList cs (0 + 0) vs.toList = vs := by rw [Nat.add_zero, setList_all _ _ (by rw [Array.length_toList, hl]), Array.toArray_toList]
  rwa [e] at h1
end Go.Proofs.YtmkennapbebbmaaV
namespace Go.Proofs.Ytmkennapbebbmaa
open Go Go.Proofs.YtmkennapbebbmaaV
theorem st23 : SlT prog 23 28 3 32 (.agg #[.int .u8 0, .int .i64 0, .string (⟨#[]⟩ : ByteArray)]) := ⟨by kernel_rfl, by kernel_rfl, rfl, by decide⟩
theorem st58 : SlT prog 58 3 1 8 (.int .i64 0) := ⟨by kernel_rfl, by kernel_rfl, rfl, by decide⟩

/-- A thing as it is laid there: a count within bounds. -/
def fixT (t : Th) : Th := if t.k = 1 then ⟨t.k, bitsI .and .i64 t.n 2147483647, t.s⟩ else t
/-- What is asked for it, and what is to be told. -/
def askT (t : Th) : Th := if t.k = 2 then ⟨t.k, (t.s.size : Int), t.s⟩ else t
def wantT (t : Th) : Told := if t.k = 2 then (0, t.s.data.toList) else if t.k > 2 then (one (t.n.tmod 2 != 0), []) else (t.n, [])
structure OwnT (t : Th) : Prop where
  n0 : -9223372036854775808 ≤ t.n
  n1 : t.n ≤ 9223372036854775807
  c : t.k = 1 → 0 ≤ t.n ∧ t.n ≤ 2147483647
  s0 : t.s.size ≤ 20000
  k0 : 0 ≤ t.k
theorem fixT_own {t : Th} (h : OkT t) (hs : t.s.size ≤ 20000) : OwnT (fixT t) := by
  unfold fixT
  split
  · rename_i hk
    have := andMax t.n
    exact ⟨by simp only; omega, by simp only; omega, fun _ => this, hs, h.k0⟩
  · rename_i hk
    exact ⟨h.n0, h.n1, fun e => (hk e).elim, hs, h.k0⟩
theorem OwnT.ok {t : Th} (h : OwnT t) : OkT t := ⟨h.n0, h.n1, by have := h.s0; omega, h.k0⟩
theorem tb0 {t : Th} (h : t.k = 0) : tb t = gb (zz t.n) := by unfold tb; rw [if_pos h]
theorem tb1 {t : Th} (h : OwnT t) (hk : t.k = 1) : tb t = gb t.n.toNat := by
  have := h.c hk
  unfold tb; rw [if_neg (by omega), if_pos hk, cb, if_neg (by omega)]
theorem tb2 {t : Th} (h : OwnT t) (hk : t.k = 2) : tb t = gb t.s.size ++ t.s.data.toList := by
  have := h.s0
  unfold tb; rw [if_neg (by omega), if_neg (by omega), if_pos hk, sb, if_neg (by omega)]
theorem tb3 {t : Th} (h0 : t.k ≠ 0) (h1 : t.k ≠ 1) (h2 : t.k ≠ 2) : tb t = fb (t.n.tmod 2 != 0) := by unfold tb; rw [if_neg h0, if_neg h1, if_neg h2]
theorem flag_own (v : Bool) (m : List UInt8) : flagR (some (fb v ++ m)) = (v, some m) := by
  cases v
  · have hn := num_gb (u := 0) (by omega) m
    rw [g0] at hn
    have hc := cnt_some (m := 1) hn (by omega) (by omega)
    unfold flagR countR
    have e : fb false = [0] := rfl
    rw [e]
    simp only [hc]
    rfl
  · have hn := num_gb (u := 1) (by omega) m
    rw [gb_small (by omega)] at hn
    have hc := cnt_some (m := 1) hn (by omega) (by omega)
    unfold flagR countR
    have e : fb true = [UInt8.ofNat 1] := rfl
    rw [e]
    simp only [hc]
    rfl
theorem ask_own {t : Th} (h : OwnT t) (m : List UInt8) : askR (askT t) (some (tb t ++ m)) = (wantT t, some m) := by
  have h0 := h.n0
  have h1 := h.n1
  have hs := h.s0
  have hk0 := h.k0
  have hsl : t.s.data.toList.length = t.s.size := Array.length_toList
  by_cases k2 : t.k = 2
  · have ea : askT t = ⟨t.k, (t.s.size : Int), t.s⟩ := by unfold askT; rw [if_pos k2]
    have ew : wantT t = (0, t.s.data.toList) := by unfold wantT; rw [if_pos k2]
    rw [ea, ew, tb2 h k2, List.append_assoc]
    have hn := num_gb (u := t.s.size) (by omega) (t.s.data.toList ++ m)
    have hc := cnt_some (m := (t.s.size : Int)) hn (by omega) (by omega)
    unfold askR
    simp only
    rw [if_neg (by omega), if_neg (by omega), if_pos k2]
    unfold strR
    simp only [hc]
    rw [if_pos (by rw [List.length_append, List.length_append]; omega)]
    have e1 : (gb t.s.size ++ (t.s.data.toList ++ m)).drop (gb t.s.size).length = t.s.data.toList ++ m := List.drop_left
    have e2 : (gb t.s.size ++ (t.s.data.toList ++ m)).drop ((gb t.s.size).length + t.s.size) = m := by
      rw [← List.drop_drop, e1, ← hsl, List.drop_left]
    rw [e1, e2, ← hsl, List.take_left]
  have ea : askT t = t := by unfold askT; rw [if_neg k2]
  rw [ea]
  by_cases k00 : t.k = 0
  · have ew : wantT t = (t.n, []) := by unfold wantT; rw [if_neg k2, if_neg (by omega)]
    rw [ew, tb0 k00]
    have hn := num_gb (u := zz t.n) (zz_lt h0 h1) m
    unfold askR
    rw [if_pos k00]
    unfold numR
    simp only [hn]
    rw [uz_zz, List.drop_left]
  by_cases k1 : t.k = 1
  · obtain ⟨c0, c1⟩ := h.c k1
    have ew : wantT t = (t.n, []) := by unfold wantT; rw [if_neg k2, if_neg (by omega)]
    rw [ew, tb1 h k1]
    have hn := num_gb (u := t.n.toNat) (by omega) m
    have hc := cnt_some (m := t.n) hn (by omega) (by omega)
    unfold askR
    rw [if_neg k00, if_pos k1]
    unfold countR
    simp only [hc]
    rw [List.drop_left, Int.toNat_of_nonneg c0]
  have ew : wantT t = (one (t.n.tmod 2 != 0), []) := by unfold wantT; rw [if_neg k2, if_pos (by omega)]
  rw [ew, tb3 k00 k1 k2]
  unfold askR
  rw [if_neg k00, if_neg k1, if_neg k2, flag_own]
theorem ask_cut {t : Th} (h : OwnT t) (m : List UInt8) {k : Nat} (hk : k < (tb t).length) : askR (askT t) (some ((tb t ++ m).take k)) = ((0, []), none) := by
  have h0 := h.n0
  have h1 := h.n1
  have hs := h.s0
  have hk0 := h.k0
  have hsl : t.s.data.toList.length = t.s.size := Array.length_toList
  by_cases k2 : t.k = 2
  · have ea : askT t = ⟨t.k, (t.s.size : Int), t.s⟩ := by unfold askT; rw [if_pos k2]
    rw [tb2 h k2] at hk ⊢
    rw [ea, List.append_assoc]
    unfold askR
    simp only
    rw [if_neg (by omega), if_neg (by omega), if_pos k2]
    by_cases hg : k < (gb t.s.size).length
    · have hn := num_cut (u := t.s.size) (k := k) (t.s.data.toList ++ m) (by omega) hg
      unfold strR
      simp only [cnt_none hn]
    · rw [List.length_append] at hk
      have e : (gb t.s.size ++ (t.s.data.toList ++ m)).take k = gb t.s.size ++ (t.s.data.toList ++ m).take (k - (gb t.s.size).length) := by
        rw [List.take_append, List.take_of_length_le (by omega)]
      rw [e]
      have hn := num_gb (u := t.s.size) (by omega) ((t.s.data.toList ++ m).take (k - (gb t.s.size).length))
      have hc := cnt_some (m := (t.s.size : Int)) hn (by omega) (by omega)
      unfold strR
      simp only [hc]
      rw [if_neg]
      rw [List.length_append, List.length_take, List.length_append]
      omega
  have ea : askT t = t := by unfold askT; rw [if_neg k2]
  rw [ea]
  by_cases k00 : t.k = 0
  · rw [tb0 k00] at hk ⊢
    unfold askR
    rw [if_pos k00]
    unfold numR
    simp only [num_cut (u := zz t.n) m (zz_lt h0 h1) hk]
  by_cases k1 : t.k = 1
  · obtain ⟨c0, c1⟩ := h.c k1
    rw [tb1 h k1] at hk ⊢
    unfold askR
    rw [if_neg k00, if_pos k1]
    unfold countR
    simp only [cnt_none (num_cut (u := t.n.toNat) m (by omega) hk)]
  rw [tb3 k00 k1 k2] at hk ⊢
  have hl : (fb (t.n.tmod 2 != 0)).length = 1 := by cases (t.n.tmod 2 != 0) <;> rfl
  have hk' : k = 0 := by omega
  subst hk'
  rw [List.take_zero]
  have hn : num [] = none := rfl
  unfold askR
  rw [if_neg k00, if_neg k1, if_neg k2]
  unfold flagR countR
  simp only [cnt_none hn]
  rfl

/-- The things as they are laid, and where each ends. -/
def ends (l : List Th) (i : Nat) : List Value := (List.range i).map fun j => .int .i64 (((l.take (j + 1)).flatMap tb).length : Int)
structure CutI (w : World) (l : List Th) (i : Nat) (x5 x6 x7 : Sl) (w1 : World) : Prop where
  r5 : Row w1 x5 5 1 (bv ((l.take i).flatMap tb))
  r6 : Row w1 x6 3 1 (ends l i)
  r7 : Row w1 x7 28 3 ((l.take i).flatMap tc)
  l6 : x6.l = i
  l7 : x7.l = i
  n5 : New w x5
  n6 : New w x6
  n7 : New w x7
  fr : Frm none_ w w1
theorem ends_succ (l : List Th) (i : Nat) : ends l (i + 1) = ends l i ++ [.int .i64 (((l.take (i + 1)).flatMap tb).length : Int)] := by
  unfold ends; rw [List.range_succ, List.map_append]; rfl
theorem tc_len (t : Th) : (tc t).length = 3 := rfl
theorem tc_one (t : Th) : ∀ u ∈ tc t, u.oneCell' = true := by
  intro u hu
  simp only [tc, List.mem_cons, List.not_mem_nil, or_false] at hu
  rcases hu with rfl | rfl | rfl <;> rfl
end Go.Proofs.Ytmkennapbebbmaa
