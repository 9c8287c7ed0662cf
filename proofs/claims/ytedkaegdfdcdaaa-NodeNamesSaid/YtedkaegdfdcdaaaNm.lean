/- The law NodeNames walked. -/
import Derived.Test.YtedkaegdfdcdaaaY
set_option linter.unusedVariables false
set_option linter.unusedSimpArgs false
namespace Go.Proofs.Ytedkaegdfdcdaaa
open Go Go.Proofs.YtedkaegdfdcdaaaV
theorem str_len (l : List UInt8) : (str l).size = l.length := rfl
theorem str_app (l m : List UInt8) : str l ++ str m = str (l ++ m) := by
  have e : (str l ++ str m).data.toList = l ++ m := by rw [ByteArray.data_append, Array.toList_append]; rfl
  have := congrArg str e
  rwa [str_list] at this
theorem ext_drop (h : List UInt8) (k : Nat) : (str h).extract k (str h).size = str (h.drop k) := by
  have e := ext_list (str h) k (str h).size
  have e0 : (str h).data.toList = h := rfl
  rw [e0, str_len] at e
  have e2 : ((str h).extract k h.length).data.toList = h.drop k := by rw [e]; exact List.take_of_length_le (by rw [List.length_drop]; omega)
  rw [str_len]
  have := congrArg str e2
  rwa [str_list] at this
def kS (n : Nat) : ByteArray := str (List.replicate n 107)
def vS (n : Nat) : ByteArray := str (List.replicate n 118)
theorem kS_len (n : Nat) : (kS n).size = n := by unfold kS; rw [str_len, List.length_replicate]
theorem vS_len (n : Nat) : (vS n).size = n := by unfold vS; rw [str_len, List.length_replicate]
theorem kS_next (n : Nat) : kS n ++ (⟨#[107]⟩ : ByteArray) = kS (n + 1) := by
  show str _ ++ str [107] = _
  rw [str_app]; unfold kS; rw [List.replicate_succ']
theorem vS_two (n : Nat) : vS n ++ (⟨#[118, 118]⟩ : ByteArray) = vS (n + 2) := by
  show str _ ++ str [118, 118] = _
  rw [str_app]; unfold vS
  congr 1
  rw [List.replicate_succ', List.replicate_succ', List.append_assoc]; rfl
theorem vS_next (n : Nat) : vS n ++ (⟨#[118]⟩ : ByteArray) = vS (n + 1) := by
  show str _ ++ str [118] = _
  rw [str_app]; unfold vS; rw [List.replicate_succ']
theorem kS_tail (n : Nat) : (kS (n + 1)).extract 1 (kS (n + 1)).size = kS n := by
  unfold kS
  rw [ext_drop, List.drop_replicate, Nat.add_sub_cancel]
def kX (c : UInt8) : ByteArray := str (List.replicate 31 107 ++ [c])
theorem kX_of (c : UInt8) : kS 31 ++ str [c] = kX c := by unfold kS; rw [str_app]; rfl
theorem kX_len (c : UInt8) : (kX c).size = 32 := by unfold kX; rw [str_len, List.length_append, List.length_replicate]; rfl
theorem bl_pre (l : List UInt8) (a b : UInt8) : Op.bytesLess (l ++ [a]) (l ++ [b]) = decide (a < b) := by
  induction l with
  | nil => simp [Op.bytesLess]
  | cons x r ih => simp [Op.bytesLess, ih]
theorem kX_lt (a b : UInt8) : blt (kX a) (kX b) = decide (a < b) := by unfold kX; rw [blt_str, bl_pre]
theorem bad1 {n : Nd} (h : ¬ MayN n) : encC n = 1 := by
  rcases encC_cases n with ⟨_, e, _⟩ | ⟨hm, _⟩ | ⟨hm, _⟩
  · exact e
  · exact absurd hm h
  · exact absurd hm h
def lf (ks vs : List ByteArray) : Nd := ⟨true, ks, vs, []⟩
def kd (ds : List Int) : Nd := ⟨false, [], [], ds⟩
theorem ba_bad : encC (lf [str [98], str [97]] [str [], str []]) = 1 := bad1 fun hm => by
  have := (hm.1 1 (by decide) (str [97]) rfl).2.2 (by decide) (str [98]) rfl
  rw [blt_str] at this
  exact absurd this (by decide)
theorem aa_bad : encC (lf [str [97], str [97]] [str [], str []]) = 1 := bad1 fun hm => by
  have := (hm.1 1 (by decide) (str [97]) rfl).2.2 (by decide) (str [97]) rfl
  rw [blt_str] at this
  exact absurd this (by decide)
theorem no_bad : encC (lf [str []] [str []]) = 1 := bad1 fun hm => by
  have := (hm.1 0 (by decide) (str []) rfl).1
  exact absurd this (by decide)
theorem long_bad : encC (lf [kS 33] [str []]) = 1 := bad1 fun hm => by
  have := (hm.1 0 (by decide) (kS 33) rfl).2.1
  rw [kS_len] at this
  exact absurd this (by decide)
theorem value_bad : encC (lf [kS 32] [vS 65]) = 1 := bad1 fun hm => by
  have := hm.2.1 0 (by decide) (vS 65) rfl
  rw [vS_len] at this
  exact absurd this (by decide)
theorem one_may {k v : ByteArray} (h1 : 1 ≤ k.size) (h2 : k.size ≤ 32) (h3 : v.size ≤ 64) : MayN (lf [k] [v]) := by
  refine ⟨fun i hi y hy => ?_, fun i hi y hy => ?_, fun i hi d hd => by simp [lf] at hd, by show if true = true then _ else _; exact ⟨rfl, rfl⟩⟩
  · match i with
    | 0 =>
      have e : y = k := by simpa [lf] using hy.symm
      subst e; exact ⟨h1, h2, fun h => by omega⟩
    | i + 1 => simp [lf] at hy
  · match i with
    | 0 =>
      have e : y = v := by simpa [lf] using hy.symm
      subst e; exact h3
    | i + 1 => simp [lf] at hy
theorem kv_ok : encC (lf [kS 32] [vS 64]) = 0 := by
  have hm : MayN (lf [kS 32] [vS 64]) := one_may (by rw [kS_len]; decide) (by rw [kS_len]; decide) (by rw [vS_len]; decide)
  exact (enc_ok hm (room_leaf hm rfl (by decide))).1
theorem three_may : MayN (lf [kX 97, kX 98, kX 99] [vS 64, vS 64, vS 64]) := by
  refine ⟨fun i hi y hy => ?_, fun i hi y hy => ?_, fun i hi d hd => by simp [lf] at hd, by show if true = true then _ else _; exact ⟨rfl, rfl⟩⟩
  · match i with
    | 0 =>
      have e : y = kX 97 := by simpa [lf] using hy.symm
      subst e; exact ⟨by rw [kX_len]; decide, by rw [kX_len]; decide, fun h => by omega⟩
    | 1 =>
      have e : y = kX 98 := by simpa [lf] using hy.symm
      subst e
      refine ⟨by rw [kX_len]; decide, by rw [kX_len]; decide, fun h p hp => ?_⟩
      have e : p = kX 97 := by simpa [lf] using hp.symm
      subst e; rw [kX_lt]; decide
    | 2 =>
      have e : y = kX 99 := by simpa [lf] using hy.symm
      subst e
      refine ⟨by rw [kX_len]; decide, by rw [kX_len]; decide, fun h p hp => ?_⟩
      have e : p = kX 98 := by simpa [lf] using hp.symm
      subst e; rw [kX_lt]; decide
    | i + 3 => simp [lf] at hy
  · have e : y = vS 64 := by
      match i with
      | 0 => simpa [lf] using hy.symm
      | 1 => simpa [lf] using hy.symm
      | 2 => simpa [lf] using hy.symm
      | i + 3 => simp [lf] at hy
    subst e; rw [vS_len]; decide
theorem three_full : encC (lf [kX 97, kX 98, kX 99] [vS 64, vS 64, vS 64]) = 3 := by
  have hl : ∀ i, i < 3 → (item (lf [kX 97, kX 98, kX 99] [vS 64, vS 64, vS 64]) i).length = 98 := by
    intro i hi
    have hv : ∀ c, (sb (kX c) ++ sb (vS 64)).length = 98 := fun c => by
      rw [List.length_append, sb_32 (by rw [kX_len]; decide), sb_32 (by rw [vS_len]; decide), kX_len, vS_len]
    match i with
    | 0 => exact hv 97
    | 1 => exact hv 98
    | 2 => exact hv 99
    | i + 3 => omega
  have hb : 256 < (nb (lf [kX 97, kX 98, kX 99] [vS 64, vS 64, vS 64])).length := by
    show 256 < (nbT _ 3).length
    rw [nbT_sum]
    have := hl 0 (by decide)
    have := hl 1 (by decide)
    have := hl 2 (by decide)
    simp only [sumN]
    omega
  rcases encC_cases (lf [kX 97, kX 98, kX 99] [vS 64, vS 64, vS 64]) with ⟨hn, _⟩ | ⟨_, _, e, _⟩ | ⟨_, h2, _⟩
  · exact absurd three_may hn
  · exact e
  · omega
theorem zero_bad : encC nd0 = 1 := bad1 fun hm => by
  have h := hm.2.2.2
  have h : ([] : List ByteArray).length = 0 ∧ ([] : List Int).length = ([] : List ByteArray).length + 1 := h
  exact absurd h.2 (by decide)
theorem kid_ok : encC (kd [32768]) = 0 := by
  have hm : MayN (kd [32768]) := by
    refine ⟨fun i hi k hk => by simp [kd] at hk, fun i hi v hv => by simp [kd] at hv, fun i hi d hd => ?_, by show if false = true then _ else _; exact ⟨rfl, rfl⟩⟩
    match i with
    | 0 =>
      have e : d = 32768 := by simpa [kd] using hd.symm
      subst e; decide
    | i + 1 => simp [kd] at hd
  exact (enc_ok hm (room_kids hm rfl (by decide))).1
theorem kid_bad : encC (kd [32769]) = 1 := bad1 fun hm => by
  have := (hm.2.2.1 0 (by decide) 32769 rfl).2
  exact absurd this (by decide)
theorem dec_bad {l : List UInt8} (h : (flagR (some l)).2 = none) : decC l = 4 := by
  have hb : (dBeg l).2 = none := by
    unfold dBeg
    rw [h]
    split <;> rfl
  have hn : (dEnd l).2 = none := by
    unfold dEnd
    exact dIter_none (i := 0) (Nat.zero_le _) hb
  rcases good_iff l with ⟨hg, _⟩ | ⟨_, _, e⟩
  · have := hg.1
    rw [hn] at this; cases this
  · exact e
theorem encK (w : World) (k v d : Sl) (n : Nd) (hk : Has w k 1 (sv n.keys)) (hv : Has w v 1 (sv n.vals)) (hd : Has w d 1 (iv n.kids)) (hsm : SmN n) {c : Int} (hc : encC n = c) : Calls prog 12 #[.agg (ndc n.leaf k v d)] w fun e w' => ∃ r : Sl, e = .returned (.tuple #[.slice r.a r.l r.c, .int .i64 c]) ∧ Frm none_ w w' := by
  subst hc
  refine (encode_calls w k v d n ⟨hk, hv, hd⟩ hsm).mono ?_
  rintro _ w' ⟨r, rfl, _, _, _, f⟩
  exact ⟨r, rfl, f⟩
set_option maxRecDepth 40000 in
set_option maxHeartbeats 1000000 in
theorem names_law (W : World) : Calls prog 5 #[] W fun e w' => e = .returned (.bool true) ∧ Frm none_ W w' := by
  refine callsRet (W5 (Q := fun v w' => v = .bool true ∧ Frm none_ W w') ?_) (fun v w' ⟨h, h'⟩ => ⟨by rw [h], h'⟩)
  unfold F5
  refine ⟨fun m x y z w' => ∃ i : Nat, x = kS i ∧ y = vS (2 * i) ∧ z = (i : Int) ∧ i ≤ 32 ∧ m = 32 - i ∧ w' = W, 32, ⟨0, rfl, rfl, rfl, by decide, rfl, rfl⟩, ?_⟩
  rintro m u x y z w1 ⟨i, rfl, rfl, rfl, hi, rfl, rfl⟩
  refine IfB.intro (fun hc => ?_) (fun hc => ?_)
  · have hc := of_decide_eq_true hc
    refine ⟨by rw [kS_len]; show i + 1 ≤ _; omega, by rw [vS_len]; show 2 * i + 2 ≤ _; omega, 32 - (i + 1), by omega, i + 1, kS_next i, vS_two (2 * i), by rw [wrap64 _ (by omega)]; omega, by omega, rfl, rfl⟩
  have hc := of_decide_eq_false hc
  have hi32 : i = 32 := by omega
  subst hi32
  have hv64 : vS (2 * 32) = vS 64 := rfl
  rw [hv64]
  have s1 : (kS 32).size = 32 := kS_len 32
  have s2 : (vS 64).size = 64 := vS_len 64
  have hx : (kS 32).extract 1 (kS 32).size = kS 31 := kS_tail 31
  have s3 : (kS 31).size = 31 := kS_len 31
  refine lit_sv (l := [str [98], str [97]]) (n := 2) (by decide) (by decide) (by kernel_rfl) rfl ?_
  intro t37 w2 k1 f
  have F := f
  refine lit_sv (l := [str [], str []]) (n := 2) (by decide) (by decide) (by kernel_rfl) rfl ?_
  intro t38 w3 k2 f
  replace F := F.n f
  replace k1 := k1.mod f (fun _ _ h => h)
  refine ⟨_, b28t _ _, (encK w3 _ _ _ (lf [str [98], str [97]] [str [], str []]) k1 k2 (nilI _) ⟨by decide, by decide, by decide⟩ ba_bad).mono ?_⟩
  rintro _ w4 ⟨t40, rfl, f⟩
  replace F := F.n f
  refine ⟨t40, _, rfl, ⟨by decide, by omega⟩, ?_⟩
  rw [hx]
  refine ⟨by rw [s3]; decide, ⟨by decide, by omega⟩, by rw [s3]; decide, ⟨by decide, by omega⟩, by rw [s3]; decide, ?_⟩
  have ea : kS 31 ++ (⟨#[97]⟩ : ByteArray) = kX 97 := kX_of 97
  have eb : kS 31 ++ (⟨#[98]⟩ : ByteArray) = kX 98 := kX_of 98
  have ec : kS 31 ++ (⟨#[99]⟩ : ByteArray) = kX 99 := kX_of 99
  rw [ea, eb, ec]
  have FD := F.drew
  clear F
  generalize w4.drew = w5 at FD
  refine ⟨?_, ?_⟩
  · refine lit_sv (l := [kX 97, kX 98, kX 99]) (n := 3) (by decide) (by decide) (by kernel_rfl) rfl ?_
    intro t53 w6 k1 f
    have F := FD.n f
    refine lit_sv (l := [vS 64, vS 64, vS 64]) (n := 3) (by decide) (by decide) (by kernel_rfl) rfl ?_
    intro t57 w7 k2 f
    replace F := F.n f
    replace k1 := k1.mod f (fun _ _ h => h)
    refine ⟨_, b28t _ _, (encK w7 _ _ _ (lf [kX 97, kX 98, kX 99] [vS 64, vS 64, vS 64]) k1 k2 (nilI _) ⟨by decide, by decide, by decide⟩ three_full).mono ?_⟩
    rintro _ w8 ⟨t59, rfl, f⟩
    replace F := F.n f
    refine ⟨t59, _, rfl, by rw [s1]; decide, ?_⟩
    rw [kS_next 32]
    refine lit_sv1 ?_
    intro t65 w9 k1 f
    replace F := F.n f
    refine lit_sv1 ?_
    intro t66 w10 k2 f
    replace F := F.n f
    replace k1 := k1.mod f (fun _ _ h => h)
    refine ⟨_, b28t _ _, (encK w10 _ _ _ (lf [kS 33] [str []]) k1 k2 (nilI _) ⟨by decide, by decide, by decide⟩ long_bad).mono ?_⟩
    rintro _ w11 ⟨t68, rfl, f⟩
    replace F := F.n f
    refine ⟨t68, _, rfl, lit_sv1 ?_⟩
    intro t73 w12 k1 f
    replace F := F.n f
    refine ⟨by rw [s2]; decide, ?_⟩
    rw [vS_next 64]
    refine lit_sv1 ?_
    intro t76 w13 k2 f
    replace F := F.n f
    replace k1 := k1.mod f (fun _ _ h => h)
    refine ⟨_, b28t _ _, (encK w13 _ _ _ (lf [kS 32] [vS 65]) k1 k2 (nilI _) ⟨by decide, by decide, by decide⟩ value_bad).mono ?_⟩
    rintro _ w14 ⟨t78, rfl, f⟩
    replace F := F.n f
    refine ⟨t78, _, rfl, lit_sv1 ?_⟩
    intro t83 w15 k1 f
    replace F := F.n f
    refine lit_sv1 ?_
    intro t85 w16 k2 f
    replace F := F.n f
    replace k1 := k1.mod f (fun _ _ h => h)
    refine ⟨_, b28t _ _, (encK w16 _ _ _ (lf [kS 32] [vS 64]) k1 k2 (nilI _) ⟨by decide, by decide, by decide⟩ kv_ok).mono ?_⟩
    rintro _ w17 ⟨t87, rfl, f⟩
    replace F := F.n f
    refine ⟨t87, _, rfl, runT_lit1 st22 (by decide) rfl ?_⟩
    intro w18 hr f z
    have z17 := F.size
    replace F := F.n f
    refine runT_appendZ hr ⟨_, rfl⟩ 255 (by show 1 + 255 ≤ 140737488355328; decide) ?_
    intro t92 w19 hr19 hl19 hn19 f
    replace F := F.trans f (fun _ _ h => h) (fun j hj e => by simp [Sl.blk] at e; omega)
    have e19 : (Value.int IntKind.u8 2).cells.toList ++ List.replicate 255 (Value.int .u8 0) = bv (2 :: List.replicate 255 0) := by
      show _ = bv ([2] ++ List.replicate 255 0)
      rw [bv_append, bv_zero]; rfl
    rw [e19] at hr19
    have d1 : decC (2 :: List.replicate 255 0) = 4 := dec_bad (by rw [flag_cons]; rfl)
    refine (decode_calls w19 t92 _ hr19.has (by rw [hl19]; show 1 + 255 ≤ 1000000; decide)).mono ?_
    rintro _ w20 ⟨ka, va, da, rfl, _, f⟩
    rw [d1]
    replace F := F.n f
    refine ⟨_, _, rfl, ?_⟩
    intro b14 w21 hN
    have hb14 := hN.b
    have z20 := F.size
    replace F := F.n (hN.mod _)
    refine hN.blk.setW rfl rfl (ndc_one _ _ _ _) ?_
    intro w22 _ f
    replace F := F.b f (by omega)
    have d0 : decC [] = 4 := dec_bad (by rw [flag_nil])
    refine (decode_calls w22 ⟨none, 0, 0⟩ [] (nilHas _) (by decide)).mono ?_
    rintro _ w23 ⟨kb, vb, db, rfl, _, f⟩
    rw [d0]
    replace F := F.n f
    refine ⟨_, _, rfl, ?_⟩
    intro b16 w24 hN
    have hb16 := hN.b
    have z23 := F.size
    replace F := F.n (hN.mod _)
    refine hN.blk.setW rfl rfl (ndc_one _ _ _ _) ?_
    intro w25 _ f
    replace F := F.b f (by omega)
    refine ⟨_, b28z, (encK w25 ⟨none, 0, 0⟩ ⟨none, 0, 0⟩ ⟨none, 0, 0⟩ nd0 (nilS _) (nilS _) (nilI _) ⟨by decide, by decide, by decide⟩ zero_bad).mono ?_⟩
    rintro _ w26 ⟨t102, rfl, f⟩
    replace F := F.n f
    refine ⟨t102, _, rfl, lit_iv1 ?_⟩
    intro t106 w27 k1 f
    replace F := F.n f
    refine ⟨_, b28k _, (encK w27 ⟨none, 0, 0⟩ ⟨none, 0, 0⟩ t106 (kd [32768]) (nilS _) (nilS _) k1 ⟨by decide, by decide, by decide⟩ kid_ok).mono ?_⟩
    rintro _ w28 ⟨t108, rfl, f⟩
    replace F := F.n f
    refine ⟨t108, _, rfl, lit_iv1 ?_⟩
    intro t112 w29 k1 f
    replace F := F.n f
    refine ⟨_, b28k _, (encK w29 ⟨none, 0, 0⟩ ⟨none, 0, 0⟩ t112 (kd [32769]) (nilS _) (nilS _) k1 ⟨by decide, by decide, by decide⟩ kid_bad).mono ?_⟩
    rintro _ w30 ⟨t114, rfl, f⟩
    replace F := F.n f
    refine ⟨t114, _, rfl, lit_sv (l := [str [97], str [97]]) (n := 2) (by decide) (by decide) (by kernel_rfl) rfl ?_⟩
    intro t118 w31 k1 f
    replace F := F.n f
    refine lit_sv (l := [str [], str []]) (n := 2) (by decide) (by decide) (by kernel_rfl) rfl ?_
    intro t119 w32 k2 f
    replace F := F.n f
    replace k1 := k1.mod f (fun _ _ h => h)
    refine ⟨_, b28t _ _, (encK w32 _ _ _ (lf [str [97], str [97]] [str [], str []]) k1 k2 (nilI _) ⟨by decide, by decide, by decide⟩ aa_bad).mono ?_⟩
    rintro _ w33 ⟨t121, rfl, f⟩
    replace F := F.n f
    refine ⟨t121, _, rfl, lit_sv1 ?_⟩
    intro t125 w34 k1 f
    replace F := F.n f
    refine lit_sv1 ?_
    intro t126 w35 k2 f
    replace F := F.n f
    replace k1 := k1.mod f (fun _ _ h => h)
    refine ⟨_, b28t _ _, (encK w35 _ _ _ (lf [str []] [str []]) k1 k2 (nilI _) ⟨by decide, by decide, by decide⟩ no_bad).mono ?_⟩
    rintro _ w36 ⟨t128, rfl, f⟩
    replace F := F.n f
    refine ⟨t128, _, rfl, IfB.t rfl (IfB.t rfl (IfB.t rfl (IfB.t rfl (IfB.t rfl (IfB.t rfl (IfB.t rfl (IfB.t rfl (IfB.t rfl (IfB.t rfl (IfB.t rfl (IfB.t rfl ((awake_calls w36).mono ?_))))))))))))⟩
    rintro _ w37 ⟨rfl, f⟩
    exact ⟨_, rfl, rfl, F.n f⟩
  · refine lit_sv (l := [vS 64, vS 64, vS 64]) (n := 3) (by decide) (by decide) (by kernel_rfl) rfl ?_
    intro t57 w6 k2 f
    have F := FD.n f
    refine lit_sv (l := [kX 97, kX 98, kX 99]) (n := 3) (by decide) (by decide) (by kernel_rfl) rfl ?_
    intro t53 w7 k1 f
    replace F := F.n f
    replace k2 := k2.mod f (fun _ _ h => h)
    refine ⟨_, b28t _ _, (encK w7 _ _ _ (lf [kX 97, kX 98, kX 99] [vS 64, vS 64, vS 64]) k1 k2 (nilI _) ⟨by decide, by decide, by decide⟩ three_full).mono ?_⟩
    rintro _ w8 ⟨t59, rfl, f⟩
    replace F := F.n f
    refine ⟨t59, _, rfl, by rw [s1]; decide, ?_⟩
    rw [kS_next 32]
    refine lit_sv1 ?_
    intro t65 w9 k1 f
    replace F := F.n f
    refine lit_sv1 ?_
    intro t66 w10 k2 f
    replace F := F.n f
    replace k1 := k1.mod f (fun _ _ h => h)
    refine ⟨_, b28t _ _, (encK w10 _ _ _ (lf [kS 33] [str []]) k1 k2 (nilI _) ⟨by decide, by decide, by decide⟩ long_bad).mono ?_⟩
    rintro _ w11 ⟨t68, rfl, f⟩
    replace F := F.n f
    refine ⟨t68, _, rfl, lit_sv1 ?_⟩
    intro t73 w12 k1 f
    replace F := F.n f
    refine ⟨by rw [s2]; decide, ?_⟩
    rw [vS_next 64]
    refine lit_sv1 ?_
    intro t76 w13 k2 f
    replace F := F.n f
    replace k1 := k1.mod f (fun _ _ h => h)
    refine ⟨_, b28t _ _, (encK w13 _ _ _ (lf [kS 32] [vS 65]) k1 k2 (nilI _) ⟨by decide, by decide, by decide⟩ value_bad).mono ?_⟩
    rintro _ w14 ⟨t78, rfl, f⟩
    replace F := F.n f
    refine ⟨t78, _, rfl, lit_sv1 ?_⟩
    intro t83 w15 k1 f
    replace F := F.n f
    refine lit_sv1 ?_
    intro t85 w16 k2 f
    replace F := F.n f
    replace k1 := k1.mod f (fun _ _ h => h)
    refine ⟨_, b28t _ _, (encK w16 _ _ _ (lf [kS 32] [vS 64]) k1 k2 (nilI _) ⟨by decide, by decide, by decide⟩ kv_ok).mono ?_⟩
    rintro _ w17 ⟨t87, rfl, f⟩
    replace F := F.n f
    refine ⟨t87, _, rfl, runT_lit1 st22 (by decide) rfl ?_⟩
    intro w18 hr f z
    have z17 := F.size
    replace F := F.n f
    refine runT_appendZ hr ⟨_, rfl⟩ 255 (by show 1 + 255 ≤ 140737488355328; decide) ?_
    intro t92 w19 hr19 hl19 hn19 f
    replace F := F.trans f (fun _ _ h => h) (fun j hj e => by simp [Sl.blk] at e; omega)
    have e19 : (Value.int IntKind.u8 2).cells.toList ++ List.replicate 255 (Value.int .u8 0) = bv (2 :: List.replicate 255 0) := by
      show _ = bv ([2] ++ List.replicate 255 0)
      rw [bv_append, bv_zero]; rfl
    rw [e19] at hr19
    have d1 : decC (2 :: List.replicate 255 0) = 4 := dec_bad (by rw [flag_cons]; rfl)
    refine (decode_calls w19 t92 _ hr19.has (by rw [hl19]; show 1 + 255 ≤ 1000000; decide)).mono ?_
    rintro _ w20 ⟨ka, va, da, rfl, _, f⟩
    rw [d1]
    replace F := F.n f
    refine ⟨_, _, rfl, ?_⟩
    intro b14 w21 hN
    have hb14 := hN.b
    have z20 := F.size
    replace F := F.n (hN.mod _)
    refine hN.blk.setW rfl rfl (ndc_one _ _ _ _) ?_
    intro w22 _ f
    replace F := F.b f (by omega)
    have d0 : decC [] = 4 := dec_bad (by rw [flag_nil])
    refine (decode_calls w22 ⟨none, 0, 0⟩ [] (nilHas _) (by decide)).mono ?_
    rintro _ w23 ⟨kb, vb, db, rfl, _, f⟩
    rw [d0]
    replace F := F.n f
    refine ⟨_, _, rfl, ?_⟩
    intro b16 w24 hN
    have hb16 := hN.b
    have z23 := F.size
    replace F := F.n (hN.mod _)
    refine hN.blk.setW rfl rfl (ndc_one _ _ _ _) ?_
    intro w25 _ f
    replace F := F.b f (by omega)
    refine ⟨_, b28z, (encK w25 ⟨none, 0, 0⟩ ⟨none, 0, 0⟩ ⟨none, 0, 0⟩ nd0 (nilS _) (nilS _) (nilI _) ⟨by decide, by decide, by decide⟩ zero_bad).mono ?_⟩
    rintro _ w26 ⟨t102, rfl, f⟩
    replace F := F.n f
    refine ⟨t102, _, rfl, lit_iv1 ?_⟩
    intro t106 w27 k1 f
    replace F := F.n f
    refine ⟨_, b28k _, (encK w27 ⟨none, 0, 0⟩ ⟨none, 0, 0⟩ t106 (kd [32768]) (nilS _) (nilS _) k1 ⟨by decide, by decide, by decide⟩ kid_ok).mono ?_⟩
    rintro _ w28 ⟨t108, rfl, f⟩
    replace F := F.n f
    refine ⟨t108, _, rfl, lit_iv1 ?_⟩
    intro t112 w29 k1 f
    replace F := F.n f
    refine ⟨_, b28k _, (encK w29 ⟨none, 0, 0⟩ ⟨none, 0, 0⟩ t112 (kd [32769]) (nilS _) (nilS _) k1 ⟨by decide, by decide, by decide⟩ kid_bad).mono ?_⟩
    rintro _ w30 ⟨t114, rfl, f⟩
    replace F := F.n f
    refine ⟨t114, _, rfl, lit_sv (l := [str [97], str [97]]) (n := 2) (by decide) (by decide) (by kernel_rfl) rfl ?_⟩
    intro t118 w31 k1 f
    replace F := F.n f
    refine lit_sv (l := [str [], str []]) (n := 2) (by decide) (by decide) (by kernel_rfl) rfl ?_
    intro t119 w32 k2 f
    replace F := F.n f
    replace k1 := k1.mod f (fun _ _ h => h)
    refine ⟨_, b28t _ _, (encK w32 _ _ _ (lf [str [97], str [97]] [str [], str []]) k1 k2 (nilI _) ⟨by decide, by decide, by decide⟩ aa_bad).mono ?_⟩
    rintro _ w33 ⟨t121, rfl, f⟩
    replace F := F.n f
    refine ⟨t121, _, rfl, lit_sv1 ?_⟩
    intro t125 w34 k1 f
    replace F := F.n f
    refine lit_sv1 ?_
    intro t126 w35 k2 f
    replace F := F.n f
    replace k1 := k1.mod f (fun _ _ h => h)
    refine ⟨_, b28t _ _, (encK w35 _ _ _ (lf [str []] [str []]) k1 k2 (nilI _) ⟨by decide, by decide, by decide⟩ no_bad).mono ?_⟩
    rintro _ w36 ⟨t128, rfl, f⟩
    replace F := F.n f
    refine ⟨t128, _, rfl, IfB.t rfl (IfB.t rfl (IfB.t rfl (IfB.t rfl (IfB.t rfl (IfB.t rfl (IfB.t rfl (IfB.t rfl (IfB.t rfl (IfB.t rfl (IfB.t rfl (IfB.t rfl ((awake_calls w36).mono ?_))))))))))))⟩
    rintro _ w37 ⟨rfl, f⟩
    exact ⟨_, rfl, rfl, F.n f⟩
end Go.Proofs.Ytedkaegdfdcdaaa
