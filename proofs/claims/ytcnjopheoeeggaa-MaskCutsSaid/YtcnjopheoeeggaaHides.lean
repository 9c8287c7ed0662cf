/- The laws MaskHides and MaskNames walked: they return true, and turn nothing that was there. -/
import Derived.Test.YtcnjopheoeeggaaW
set_option linter.unusedVariables false
set_option linter.unusedSimpArgs false
namespace Go.Proofs.Ytcnjopheoeeggaa
open Go Go.Proofs.YtcnjopheoeeggaaV
structure OkSb (w : World) (s : Sl) (sb : List ByteArray) : Prop where
  has : Has w s 1 (sv sb)
  cap : s.l * 16 ≤ 140737488351232
  each : ∀ x ∈ sb, x.size ≤ 140737488351232
theorem OkSb.len {w : World} {s : Sl} {sb : List ByteArray} (h : OkSb w s sb) : sb.length * 16 ≤ 140737488351232 := by have := has_sv h.has; have := h.cap; omega
theorem op9 (w : World) : Opens prog w 9 (fun s : ByteArray => [.string s]) (fun s => s.size ≤ 140737488351232) := opens_str (by kernel_rfl)
theorem op22 (w : World) : Opens prog w 22 (fun p : Sl × List ByteArray => [.slice p.1.a p.1.l p.1.c]) (fun p => OkSb w p.1 p.2) :=
  (opens_slice (sz := 1) (bytes := 16) (by kernel_rfl) (by kernel_rfl) (by kernel_rfl) (op9 w)).map (fun p => p) fun p ⟨h1, h4, h2, _, h3⟩ => ⟨rfl, h1.one, by omega, h4⟩
theorem no_star {l : List UInt8} (h : ¬ [42] <:+: l) : ∀ c ∈ l, c ≠ 42 := by
  rintro c hc rfl
  obtain ⟨s, t, e⟩ := List.append_of_mem hc
  exact h ⟨s, t, by simp [e]⟩
set_option maxRecDepth 20000 in
theorem hides_calls (w : World) (s : Sl) (sb : List ByteArray) (hs : OkSb w s sb) (x : ByteArray) (hx : x.size ≤ 140737488351232) : Calls prog 3 #[.slice s.a s.l s.c, .string x] w fun e w' => e = .returned (.bool true) ∧ Frm none_ w w' := by
  refine callsRet (W3 (Q := fun v w' => v = .bool true ∧ Frm none_ w w') ?_) (fun v w' ⟨h, h'⟩ => ⟨by rw [h], h'⟩)
  unfold F3
  have hl := has_sv hs.has
  have hcap := hs.cap
  refine ⟨fun b w' => Frm none_ w w' ∧ (b = false → tot sb ≤ 500 ∧ x.size ≤ 1000), ?_, ?_⟩
  · refine (works_calls w).mono ?_
    rintro _ w1 ⟨rfl, f1⟩
    refine ⟨_, rfl, IfB.f rfl ((large_calls w1 s sb 500 (by decide) (hs.has.mod f1 (fun _ _ h => h)) (by omega) hs.each).mono ?_)⟩
    rintro _ _ ⟨b, rfl, hb, rfl⟩
    refine ⟨_, rfl, IfB.intro (fun h => ⟨f1, by simp⟩) (fun h => ⟨f1, fun hd => ?_⟩)⟩
    have hd := of_decide_eq_false hd
    exact ⟨hb h, by omega⟩
  rintro u b w1 ⟨f1, hb⟩
  refine IfB.intro (fun _ => ?_) (fun hbf => ?_)
  · refine (works_calls w1).mono ?_
    rintro _ w2 ⟨rfl, f2⟩
    exact ⟨_, rfl, rfl, f1.n f2⟩
  obtain ⟨htot, hx1⟩ := hb hbf
  refine (whole_calls w1 s sb x (hs.has.mod f1 (fun _ _ h => h)) hs.len (by omega)).mono ?_
  rintro _ w2 ⟨t, rfl, ht1, ht0, f2⟩
  have f12 := f1.n f2
  refine ⟨t, _, rfl, IfB.intro (fun hc => ?_) (fun hc => ?_)⟩
  · have hc := iNe hc
    rw [ht1 hc]
    exact ⟨by rw [(str_eqIff _ _).2 rfl], f12⟩
  have hc := iEq hc
  have ht := ht0 hc
  obtain ⟨hl6, hsz⟩ := checkS_ok hc
  have hss : ∀ s ∈ ssOf sb, s ≠ [] := by
    intro l hl' e
    simp only [ssOf, List.mem_map] at hl'
    obtain ⟨y, hy, rfl⟩ := hl'
    have h1 := (hsz y hy).1
    have h2 : y.data.toList.length = y.size := Array.length_toList
    rw [e] at h2; simp at h2; omega
  have hsz1 := run_size (ssOf sb) true _ x.data.toList (Nat.le_refl _)
  have hxl : x.data.toList.length = x.size := Array.length_toList
  refine ⟨fun n b i w' => ∃ j : Nat, i = (j : Int) ∧ j ≤ s.l ∧ n = s.l - j ∧ (b = true ↔ ∃ k y, k < j ∧ sb[k]? = some y ∧ y.data.toList <:+: x.data.toList) ∧ w' = w2, s.l, ⟨0, rfl, Nat.zero_le _, by omega, by simp, rfl⟩, ?_⟩
  rintro n u1 b i w3 ⟨j, rfl, hj, rfl, hin, rfl⟩
  refine IfB.intro (fun hd => ?_) (fun hd => ?_)
  · have hlt := of_decide_eq_true hd
    refine IfB.intro (fun hbt => ?_) (fun hbf => ?_)
    · refine ⟨s.l - (j + 1), by omega, j + 1, by rw [wrap64 _ (by omega)]; omega, by omega, rfl, ?_, rfl⟩
      obtain ⟨k, y, hk, hy, hi⟩ := hin.1 hbt
      exact ⟨fun _ => ⟨k, y, by omega, hy, hi⟩, fun _ => rfl⟩
    · obtain ⟨q, y, hq, hy, hym, hld⟩ := sv_at (hs.has.mod f12 (fun _ _ h => h)) (i := j) (by omega)
      refine ⟨q, hq, by omega, by omega, y, by rw [Int.toNat_natCast]; exact hld, (has_calls w3 x y (by omega) (hs.each y hym)).mono ?_⟩
      rintro _ _ ⟨c, rfl, hcc, rfl⟩
      refine ⟨c, rfl, s.l - (j + 1), by omega, j + 1, by rw [wrap64 _ (by omega)]; omega, by omega, rfl, ?_, rfl⟩
      constructor
      · intro h; exact ⟨j, y, by omega, hy, hcc.1 h⟩
      · rintro ⟨k, z, hk, hz, hi⟩
        rcases Nat.lt_succ_iff_lt_or_eq.1 hk with hh | hh
        · rw [hin.2 ⟨k, z, hh, hz, hi⟩] at hbf; cases hbf
        · subst hh; rw [hy] at hz; cases hz; exact hcc.2 hi
  have hge := of_decide_eq_false hd
  have tail : IfB (((s.l : Nat) : Int) != (1 : Int)) ((fun v w' => v = Value.bool true ∧ Frm none_ w w') (.bool true) w3)
      (∃ p58, s.a = some p58 ∧ 0 ≤ (0 : Int) ∧ (0 : Int) < ((s.l : Nat) : Int) ∧
       ∃ t59 : ByteArray, Ld w3 (p58.add (0 * 1)) (.string t59) ∧
       Calls prog 10 #[.string t59, .string (⟨#[42]⟩ : ByteArray)] w3 fun en w1_3 =>
       ∃ t60 : Bool, en = .returned (.bool t60) ∧
       IfB t60
       ((fun v w' => v = Value.bool true ∧ Frm none_ w w') (.bool true) w1_3)
       (∃ p65, s.a = some p65 ∧ 0 ≤ (0 : Int) ∧ (0 : Int) < ((s.l : Nat) : Int) ∧
       ∃ t66 : ByteArray, Ld w1_3 (p65.add (0 * 1)) (.string t66) ∧
       Calls prog 10 #[.string t, .string t66] w1_3 fun en w1_4 =>
       ∃ t67 : Bool, en = .returned (.bool t67) ∧
       ((fun v w' => v = Value.bool true ∧ Frm none_ w w') (.bool (!t67)) w1_4))) := by
    refine IfB.intro (fun _ => ⟨rfl, f12⟩) (fun h1 => ?_)
    have h1 := iEq h1
    obtain ⟨q, y, hq, hy, hym, hld⟩ := sv_at (hs.has.mod f12 (fun _ _ h => h)) (i := 0) (by omega)
    have esb : sb = [y] := by
      have hl1 : sb.length = 1 := by omega
      match sb, hl1 with
      | [z], _ => simp at hy; rw [hy]
    refine ⟨q, hq, by decide, by omega, y, hld, (has_calls w3 y ⟨#[42]⟩ (by have := (hsz y hym).2; omega) (by decide)).mono ?_⟩
    rintro _ _ ⟨c, rfl, hcc, rfl⟩
    refine ⟨c, rfl, IfB.intro (fun _ => ⟨rfl, f12⟩) (fun hcf => ?_)⟩
    have hns : ∀ c ∈ y.data.toList, c ≠ 42 := no_star (fun h => by rw [hcc.2 h] at hcf; cases hcf)
    have htl : t.data.toList.length = t.size := Array.length_toList
    have htd : t.data.toList = (run (ssOf sb) true x.data.toList).1 := by rw [ht]; rfl
    refine ⟨q, hq, by decide, by omega, y, hld, (has_calls w3 t y (by rw [← htl, htd]; omega) (hs.each y hym)).mono ?_⟩
    rintro _ _ ⟨c2, rfl, hc2, rfl⟩
    refine ⟨c2, rfl, ?_, f12⟩
    cases c2 with
    | false => rfl
    | true =>
      exfalso
      have hi := hc2.1 rfl
      rw [htd, esb] at hi
      exact run_hides (hss y.data.toList (by rw [esb]; simp [ssOf])) hns _ x.data.toList (Nat.le_refl _) hi
  refine IfB.intro (fun hnb => ?_) (fun _ => tail)
  have hnb : b = false := by simpa using hnb
  have hno : ∀ s ∈ ssOf sb, ¬ s <:+: x.data.toList := by
    intro l hl' hi
    simp only [ssOf, List.mem_map] at hl'
    obtain ⟨y, hy, rfl⟩ := hl'
    obtain ⟨k, hk⟩ := List.mem_iff_getElem?.1 hy
    have := (List.getElem?_eq_some_iff.1 hk).1
    have := hin.2 ⟨k, y, by omega, hk, hi⟩
    rw [hnb] at this; cases this
  have htx : t = x := by rw [ht, run_none hss _ _ (Nat.le_refl _) hno, str_list]
  refine IfB.f ?_ tail
  rw [htx, (str_eqIff _ _).2 rfl]; rfl
theorem hides_law (W : World) (s : Sl) (sb : List ByteArray) (hs : OkSb W s sb) (x : ByteArray) (hx : x.size ≤ 140737488351232) : Calls prog 3 #[.slice s.a s.l s.c, .string x] W fun e w' => e = .returned (.bool true) ∧ Frm none_ W w' := hides_calls W s sb hs x hx
theorem runT_appendGrow {P : Program} {t ty E : TypeId} {sz bytes : Nat} {z : Value} (T : SlT P t E sz bytes z) {w : World} {s x : Sl} {cs news : List Value} (h : Has w s sz cs) (hx : Has w x sz news) (hsa : ∃ a, s.a = some a) (hxa : ∃ a, x.a = some a)
    (hb : (s.l + x.l) * bytes ≤ 140737488355328) (hm : s.l + x.l ≤ maxLen) (hg : s.c < s.l + x.l) {K : Sl → World → Prop}
    (hk : ∀ s' w', Row w' s' E sz (cs ++ news) → s'.l = s.l + x.l → Frm none_ w w' → K s' w') :
    RunT P .slice (Builtin.append_ #[t, t] ty #[.slice s.a s.l s.c, .slice x.a x.l x.c]) w K := by
  obtain ⟨i, hi, hz, hsz, hby⟩ := T.info
  obtain ⟨a, ha⟩ := hsa
  obtain ⟨a', ha'⟩ := hxa
  obtain ⟨v', w', hr, hown, hgr⟩ := run_append_arg_grows (P := P) w t ty E i z sz bytes T.und hi hz hsz hby T.zc T.pos a s.l s.c cs h.len (fun j u hu => by
    obtain ⟨q, hq, hc⟩ := h.get j u hu
    rw [ha] at hq; cases hq; exact hc) a' x.l x.c news hx.len (fun j u hu => by
    obtain ⟨q, hq, hc⟩ := hx.get j u hu
    rw [ha'] at hq; cases hq; exact hc) hg hm hb
  unfold RunT
  rw [ha, ha', hr]
  obtain ⟨hln, hcase⟩ := hown
  rcases hcase with ⟨rfl, h0⟩ | ⟨g2, cap, cur2, rfl, hge, hB2, h5, h6, h7, h8⟩
  · omega
  · have hB2' : Blk w' g2 cur2 E := hB2
    refine ⟨⟨some ⟨g2, 0, none⟩, s.l + x.l, cap⟩, rfl, hk _ _ ?_ rfl ((mod_grown hgr).mono fun b _ hb => by cases hb)⟩
    have := Row.mk (n := s.l + x.l) (c := cap) (sz := sz) hB2' h5 h6 h7
    rw [h8] at this
    exact this
def six : List ByteArray := [⟨#[97]⟩, ⟨#[98]⟩, ⟨#[99]⟩, ⟨#[100]⟩, ⟨#[101]⟩, ⟨#[102]⟩]
theorem fill6 : Instr.fill (fun i => some (i * 1, 1)) ((Array.range (6 * 1)).map fun j => (Value.string ⟨#[]⟩).cells[j % (Value.string ⟨#[]⟩).cells.size]!) (#[(0, .string (⟨#[97]⟩ : ByteArray)), (1, .string (⟨#[98]⟩ : ByteArray)), (2, .string (⟨#[99]⟩ : ByteArray)), (3, .string (⟨#[100]⟩ : ByteArray)), (4, .string (⟨#[101]⟩ : ByteArray)), (5, .string (⟨#[102]⟩ : ByteArray))] : Array (Nat × Value)).toList = some (sv six).toArray := by kernel_rfl
theorem one_has {w : World} {n : Nat} {x : ByteArray} (h : Row w ⟨some ⟨n, 0, none⟩, 1, 1⟩ 9 1 (Value.string x).cells.toList) : Has w ⟨some ⟨n, 0, none⟩, 1, 1⟩ 1 (sv [x]) := h.has
theorem made_zero (n : Nat) : (madeCells (Value.int IntKind.u8 0).cells n).toList = bv (List.replicate n 0) := by
  have : bv (List.replicate n 0) = List.replicate n (.int .u8 0) := by unfold bv; rw [List.map_replicate]; rfl
  rw [this]
  apply List.eq_replicate_iff.2
  refine ⟨by rw [Array.length_toList, size_madeCells], ?_⟩
  intro u hu
  simp only [madeCells, Array.toList_map, List.mem_map] at hu
  obtain ⟨i, _, rfl⟩ := hu
  have h1 : i % (Value.int IntKind.u8 0).cells.size = 0 := by show i % 1 = 0; omega
  rw [h1]; rfl
set_option maxRecDepth 20000 in
theorem names_law (w : World) : Calls prog 4 #[] w fun e w' => e = .returned (.bool true) ∧ Frm none_ w w' := by
  refine callsRet (W4 (Q := fun v w' => v = .bool true ∧ Frm none_ w w') ?_) (fun v w' ⟨h, h'⟩ => ⟨by rw [h], h'⟩)
  unfold F4
  refine (works_calls w).mono ?_
  rintro _ w1 ⟨rfl, f1⟩
  refine ⟨_, rfl, IfB.f rfl (runT_makeN st30 (by decide) (by decide) (by decide) ?_)⟩
  intro t w2 hr2 hl2 hc2 ha2 f2 z2
  rw [made_zero] at hr2
  have e65 : (65 : Int).toNat * 1 = 65 := rfl
  rw [e65] at hr2
  refine runT_str un30 un5 un9 hr2.has (runT_lit st22 (by decide) (by decide) fill6 rfl ?_)
  intro w3 hr3 f3 z3
  refine runT_lit1 st22 (by decide) rfl ?_
  intro w4 hr4 f4 z4
  have hr3' := hr3.mod f4 (fun _ _ h => h)
  refine runT_appendGrow st22 hr3'.has hr4.has ⟨_, rfl⟩ ⟨_, rfl⟩ (by show (6 + 1) * 16 ≤ 140737488355328; decide) (by show 6 + 1 ≤ maxLen; decide) (by show 6 < 6 + 1; decide) ?_
  intro t7 w5 hr5 hl5 f5
  have f15 := f1.n (f2.n (f3.n (f4.n f5)))
  have h7 : Has w5 t7 1 (sv (six ++ [⟨#[103]⟩])) := hr5.has
  refine (new_calls w5 t7 _ h7 (by decide)).mono ?_
  rintro _ w6 ⟨p6, rfl, _, _, f6⟩
  refine ⟨p6, _, rfl, (new_calls w6 _ six (hr3'.mod (f5.n f6) (fun _ _ h => h)).has (by decide)).mono ?_⟩
  rintro _ w7 ⟨p7, rfl, _, _, f7⟩
  refine ⟨p7, _, rfl, runT_lit1 st22 (by decide) rfl ?_⟩
  intro w8 hr8 f8 z8
  refine (new_calls w8 _ [str (List.replicate 65 0)] (one_has hr8) (by decide)).mono ?_
  rintro _ w9 ⟨p9, rfl, _, _, f9⟩
  refine ⟨p9, _, rfl, ⟨by decide, by rw [str_len, List.length_replicate]; decide⟩, runT_lit1 st22 (by decide) rfl ?_⟩
  intro w10 hr10 f10 z10
  refine (new_calls w10 _ [(str (List.replicate 65 0)).extract 1 (str (List.replicate 65 0)).size] (one_has hr10) (by decide)).mono ?_
  rintro _ w11 ⟨p11, rfl, _, _, f11⟩
  refine ⟨p11, _, rfl, runT_lit1 st22 (by decide) rfl ?_⟩
  intro w12 hr12 f12 z12
  refine (new_calls w12 _ [⟨#[]⟩] (one_has hr12) (by decide)).mono ?_
  rintro _ w13 ⟨p13, rfl, _, _, f13⟩
  refine ⟨p13, _, rfl, runT_lit1 st22 (by decide) rfl ?_⟩
  intro w14 hr14 f14 z14
  refine (whole_calls w14 _ [⟨#[]⟩] ⟨#[120]⟩ (one_has hr14) (by decide) (by decide)).mono ?_
  rintro _ w15 ⟨t15, rfl, _, _, f15'⟩
  refine ⟨t15, _, rfl, (whole_calls w15 ⟨none, 0, 0⟩ [] ⟨#[120]⟩ (Has.nil _ _ _ rfl) (by decide) (by decide)).mono ?_⟩
  rintro _ w16 ⟨t16, rfl, _, ht16, f16⟩
  have ht16 := ht16 (by decide)
  have e16 : run (ssOf []) true (⟨#[120]⟩ : ByteArray).data.toList = ([120], []) := by rfl
  rw [e16] at ht16
  subst ht16
  refine ⟨_, _, rfl, runT_lit st22 (by decide) (by decide) fill3 rfl ?_⟩
  intro w17 hr17 f17 z17
  refine (new_calls w17 _ sb3 hr17.has (by decide)).mono ?_
  rintro _ w18 ⟨x, rfl, _, h18, f18⟩
  obtain ⟨⟨b, rfl⟩, h18⟩ := h18 (by decide)
  have z18 := f18.size
  refine ⟨_, _, rfl, (write_calls w17 w18 _ _ ⟨#[97, 98, 99]⟩ h18 (by omega) rfl (sb3_sm _ _ (by decide)) (by decide)).mono ?_⟩
  rintro _ w19 ⟨rfl, h19, f19⟩
  have e19 : run (ssOf sb3) false ([] ++ (⟨#[97, 98, 99]⟩ : ByteArray).data.toList) = ([42, 42, 42], []) := by rfl
  rw [e19] at h19 ⊢
  have z19 := f19.size
  refine ⟨_, _, rfl, (write_calls w17 w19 _ _ ⟨#[98]⟩ h19 (by omega) rfl (sb3_sm _ _ (by decide)) (by decide)).mono ?_⟩
  rintro _ w20 ⟨rfl, h20, f20⟩
  have e20 : run (ssOf sb3) false ([] ++ (⟨#[98]⟩ : ByteArray).data.toList) = ([42, 42, 42], []) := by rfl
  rw [e20] at h20 ⊢
  refine ⟨_, _, rfl, (held_calls w17 w20 _ _ h20).mono ?_⟩
  rintro _ _ ⟨rfl, rfl⟩
  refine ⟨_, rfl, (write_nil w20 _).mono ?_⟩
  rintro _ _ ⟨rfl, rfl⟩
  refine ⟨_, _, rfl, (close_nil w20).mono ?_⟩
  rintro _ _ ⟨rfl, rfl⟩
  have f117 : Frm none_ w w18 := f15.n (f6.n (f7.n (f8.n (f9.n (f10.n (f11.n (f12.n (f13.n (f14.n (f15'.n (f16.n (f17.n f18))))))))))))
  have zz : w.heap.size ≤ w17.heap.size := by have := (f15.n (f6.n (f7.n (f8.n (f9.n (f10.n (f11.n (f12.n (f13.n (f14.n (f15'.n (f16.n f17)))))))))))).size; omega
  have fin : Frm none_ w w20 := upN (upN f117 f19 zz) f20 zz
  have c1 : checkS [str (List.replicate 65 0)] = 1 := by decide
  have c2 : checkS [(str (List.replicate 65 0)).extract 1 (str (List.replicate 65 0)).size] = 0 := by rw [ext_drop]; decide
  rw [c1, c2]
  refine ⟨_, _, rfl, IfB.t (by decide) (IfB.t (by decide) (IfB.t rfl (IfB.t rfl (IfB.t (by decide) (IfB.t (by decide) (IfB.t (seq _ [120] rfl) (IfB.t (by decide) (IfB.t (seq _ [42, 42, 42] rfl) (IfB.t (seq _ [42, 42, 42] rfl) (IfB.t rfl (IfB.t rfl (IfB.t rfl ((held_nil w20).mono ?_)))))))))))))⟩
  rintro _ _ ⟨rfl, rfl⟩
  exact ⟨_, rfl, rfl, fin⟩
end Go.Proofs.Ytcnjopheoeeggaa
