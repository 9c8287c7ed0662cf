/- The iterator over a log's lines, walked: each round is handed the next line. -/
import Derived.Test.YtmcdeldjgfapbaaLi
set_option linter.unusedVariables false
set_option linter.unusedSimpArgs false
set_option maxRecDepth 20000
namespace Go.Proofs.Ytmcdeldjgfapbaa
open Go Go.Proofs.YtmcdeldjgfapbaaV
theorem txt_cons {ps : List ByteArray} {j : Nat} {p : ByteArray} (h : ps[j]? = some p) : txt (ps.drop j) = p.data.toList ++ txt (ps.drop (j + 1)) := by
  obtain ⟨h1, h2⟩ := List.getElem?_eq_some_iff.1 h
  rw [List.drop_eq_getElem_cons h1, h2]
  rfl
theorem lines_iter (l : Nat) (w : World) (c : Nat) (x : Option Addr) (s : Sl) (ps : List ByteArray) (J Jx : List ByteArray → World → Prop) (hc : Ld w ⟨c, 0, none⟩ (.pointer x)) (hx : LpS w x s ps) (hz : szs ps ≤ 1000000000000) (hn : ps.length ≤ 1000000)
    (hJ : ∀ pre W W', J pre W → Frm (Ib w.heap.size W) W W' → J pre W') (hJx : ∀ pre W W', Jx pre W → Frm (Ib w.heap.size W) W W' → Jx pre W')
    (hL : ∀ pre W, J pre W → Has W s 1 (sv ps) ∨ ps = [])
    (hY : ∀ pre y W (R : Value → World → Prop), J pre W → pre ++ [y] <+: lns [] (txt ps) → (∀ v W', Frm (fun k => ¬ Ib w.heap.size W k) W W' → ((v = .bool true ∧ J (pre ++ [y]) W') ∨ (v = .bool false ∧ Jx (pre ++ [y]) W')) → R v W') → YieldI prog l #[.string y] W R)
    (h0 : J [] w) :
    Calls prog 60 #[.func (.yield l) #[] #[], .pointer (some ⟨c, 0, none⟩)] w fun e w' => e = .returned (.tuple #[]) ∧ (J (lns [] (txt ps)) w' ∨ ∃ pre, pre <+: lns [] (txt ps) ∧ Jx pre w') := by
  refine calls_ret (W60 (x0 := .func (.yield l) #[] #[]) (x1 := ⟨c, 0, none⟩) (Q := fun v w' => v = .tuple #[] ∧ (J (lns [] (txt ps)) w' ∨ ∃ pre, pre <+: lns [] (txt ps) ∧ Jx pre w')) ?_) (fun v w' ⟨h, h'⟩ => ⟨by rw [h], h'⟩)
  unfold F60
  intro b3 w1 hN
  have hb3 : b3 = w.heap.size := hN.2
  have f1 : ∀ F, Frm F w w1 := hN.mod
  have hx1 : LpS w1 x s ps := hx.mod (f1 none_) (fun _ _ h => h) (fun _ _ h => h)
  refine ⟨x, (f1 none_).cell hc (fun h => h), (rest0_calls w1 x s ps hx1).mono ?_⟩
  rintro _ w2 ⟨r, rfl, hr, rfl⟩
  have hJ2 : J [] w2 := hJ _ _ _ h0 (f1 _)
  have hB2 : Lib.IsBuilderF 90 5 w.heap.size b3 (bv []) w2 := builder_new (by omega) hN.blk
  have hrl : r.l = ps.length := has_sv (hr w2 (hL _ _ hJ2))
  have hlt : ∀ {W : World} {bs : List Value}, Lib.IsBuilderF 90 5 w.heap.size b3 bs W → w.heap.size ≤ W.heap.size := fun h => by
    obtain ⟨p, v, hK⟩ := builder_blk h
    have := hK.lt
    omega
  refine ⟨r, rfl, fun n i W => ∃ (j : Nat) (cur : List UInt8) (pre : List ByteArray), i = (j : Int) ∧ j ≤ ps.length ∧ n = ps.length - j ∧ J pre W ∧ Lib.IsBuilderF 90 5 w.heap.size b3 (bv cur) W ∧ cur.length ≤ szs (ps.take j) ∧ lns [] (txt ps) = pre ++ lns cur (txt (ps.drop j)), ps.length,
    ⟨0, [], [], rfl, by omega, rfl, hJ2, hB2, by simp, by simp⟩, ?_⟩
  rintro n u i w3 ⟨j, cur, pre, rfl, hj, rfl, hJ3, hB3, hcl, he⟩
  have hsz := szs_take (ps := ps) j
  refine IfB.intro (fun hlt3 => ?_) (fun hge => ?_)
  · have hlt3 := of_decide_eq_true hlt3
    obtain ⟨q, p, hq, hp, hld⟩ := sv_at (hr w3 (hL _ _ hJ3)) (i := j) (by omega)
    have hsz1 := szs_take (ps := ps) (j + 1)
    have hsp : szs (ps.take (j + 1)) = szs (ps.take j) + p.size := by rw [take_snoc hp, szs_snoc]
    refine ⟨q, hq, by omega, by omega, p, hld, fun n x5 W => ∃ (cur : List UInt8) (pre : List ByteArray), n = x5.size ∧ J pre W ∧ Lib.IsBuilderF 90 5 w.heap.size b3 (bv cur) W ∧ cur.length + x5.size ≤ szs (ps.take (j + 1)) ∧ lns [] (txt ps) = pre ++ lns cur (x5.data.toList ++ txt (ps.drop (j + 1))), p.size,
      ⟨cur, pre, rfl, hJ3, hB3, by omega, by rw [← txt_cons hp]; exact he⟩, ?_⟩
    rintro n1 u1 x5 w4 ⟨cur, pre, rfl, hJ4, hB4, hcl4, he4⟩
    have hx5 : x5.data.toList.length = x5.size := Array.length_toList
    have ew : IntKind.wrap .i64 ((j : Int) + 1) = ((j + 1 : Nat) : Int) := by rw [wi _ (by omega)]; omega
    refine IfB.intro (fun hne => ?_) (fun hem => ?_)
    · refine (index_calls w4 x5).mono ?_
      rintro _ _ ⟨rfl, rfl⟩
      rename_i w4
      refine ⟨_, rfl, ?_⟩
      rcases idx_cases x5.data.toList with ⟨hi, hall⟩ | ⟨a, c10, b, hab, hc10, hall, hi⟩
      · rw [hi]
        refine IfB.dt (by decide) ((write_calls _ b3 cur x5 w4 hB4 (by omega) (hlt hB4)).mono ?_)
        rintro _ w5 ⟨rfl, hB5, f5⟩
        refine ⟨_, _, rfl, rfl, ps.length - (j + 1), by omega, j + 1, cur ++ x5.data.toList, pre, ew, by omega, rfl, hJ _ _ _ hJ4 f5, hB5, by rw [List.length_append]; omega, ?_⟩
        rw [he4, lns_skip _ _ _ hall]
      · have hal : x5.size = a.length + 1 + b.length := by rw [← hx5, hab, List.length_append, List.length_cons]; omega
        rw [hi]
        have e1 : IntKind.wrap .i64 ((a.length : Int) + 1) = ((a.length + 1 : Nat) : Int) := by rw [wi _ (by omega)]; omega
        rw [e1, Int.toNat_natCast]
        have hx6 : (x5.extract 0 (a.length + 1)).data.toList = a ++ [c10] := by
          rw [ext_list, hab, List.drop_zero, Nat.sub_zero, show a ++ c10 :: b = (a ++ [c10]) ++ b by simp, List.take_left' (by simp)]
        have hx7 : (x5.extract (a.length + 1) x5.size).data.toList = b := by
          rw [ext_list, hab, show a ++ c10 :: b = (a ++ [c10]) ++ b by simp, List.drop_left' (by simp), List.take_of_length_le (by omega)]
        have hs6 : (x5.extract 0 (a.length + 1)).size = a.length + 1 := by rw [ByteArray.size_extract]; omega
        have hs7 : (x5.extract (a.length + 1) x5.size).size = b.length := by rw [ByteArray.size_extract]; omega
        have hbd : (0 : Int) ≤ ((a.length + 1 : Nat) : Int) ∧ ((a.length + 1 : Nat) : Int) ≤ ((x5.size : Nat) : Int) := by omega
        refine IfB.df (by omega) ⟨hbd, (write_calls _ b3 cur _ w4 hB4 (by omega) (hlt hB4)).mono ?_⟩
        rintro _ w5 ⟨rfl, hB5, f5⟩
        refine ⟨_, _, rfl, hbd, (string_calls _ b3 _ w5 hB5 (hlt hB5)).mono ?_⟩
        rintro _ w6 ⟨rfl, hB6, f6⟩
        rw [hx6] at hB6 ⊢
        have hJ6 := hJ _ _ _ (hJ _ _ _ hJ4 f5) f6
        have he6 : lns [] (txt ps) = (pre ++ [str (cur ++ (a ++ [c10]))]) ++ lns [] (b ++ txt (ps.drop (j + 1))) := by
          rw [he4, hab, List.append_assoc, List.cons_append, lns_cut _ _ _ _ hall hc10]; simp
        refine ⟨_, rfl, hY pre _ w6 _ hJ6 ⟨_, he6.symm⟩ ?_⟩
        rintro v w7 f7 (⟨rfl, hJ7⟩ | ⟨rfl, hJ7⟩)
        · have hB7 := builder_mod hB6 f7
          refine ⟨true, rfl, IfB.f rfl ((reset_calls _ b3 _ w7 hB7 (by omega)).mono ?_)⟩
          rintro _ w8 ⟨rfl, hB8, f8⟩
          refine ⟨rfl, rfl, b.length, by omega, [], _, by rw [hs7], hJ _ _ _ hJ7 f8, hB8, by rw [hs7, List.length_nil]; omega, by rw [hx7]; exact he6⟩
        · exact ⟨false, rfl, IfB.t rfl ⟨rfl, .inr ⟨_, ⟨_, he6.symm⟩, hJ7⟩⟩⟩
    · have hem' : (x5.toList == (⟨#[]⟩ : ByteArray).toList) = true := by simpa using hem
      have := (str_eqIff _ _).1 hem'
      subst this
      have h00 : (⟨#[]⟩ : ByteArray).size = 0 := rfl
      exact ⟨rfl, ps.length - (j + 1), by omega, j + 1, cur, pre, ew, by omega, rfl, hJ4, hB4, by omega, he4⟩
  · have hge := of_decide_eq_false hge
    have hjl : j = ps.length := by omega
    subst hjl
    rw [List.drop_of_length_le (Nat.le_refl _)] at he
    refine (blen_calls _ b3 cur w3 hB3).mono ?_
    rintro _ _ ⟨rfl, rfl⟩
    rename_i w3
    refine ⟨_, rfl, IfB.intro (fun hgt => ?_) (fun hle => ?_)⟩
    · have hgt := of_decide_eq_true hgt
      have hcn : cur ≠ [] := by rintro rfl; simp at hgt
      have he6 : lns [] (txt ps) = pre ++ [str cur] := by rw [he]; simp [txt, lns, hcn]
      refine (string_calls _ b3 _ w3 hB3 (hlt hB3)).mono ?_
      rintro _ w4 ⟨rfl, hB4, f4⟩
      refine ⟨_, rfl, hY pre _ w4 _ (hJ _ _ _ hJ3 f4) ⟨[], by rw [he6, List.append_nil]⟩ ?_⟩
      rintro v w7 f7 (⟨rfl, hJ7⟩ | ⟨rfl, hJ7⟩)
      · exact ⟨true, rfl, rfl, .inl (by rw [he6]; exact hJ7)⟩
      · exact ⟨false, rfl, rfl, .inr ⟨_, ⟨[], by rw [he6, List.append_nil]⟩, hJ7⟩⟩
    · have hle := of_decide_eq_false hle
      have hcn : cur = [] := List.eq_nil_of_length_eq_zero (by omega)
      refine ⟨rfl, .inl ?_⟩
      have : lns [] (txt ps) = pre := by rw [he, hcn]; simp [txt, lns]
      rw [this]
      exact hJ3
end Go.Proofs.Ytmcdeldjgfapbaa
