/- The laws NodeBack, NodeFinds, NodeRoom walked. -/
import Derived.Test.YtedkaegdfdcdaaaW
set_option linter.unusedVariables false
set_option linter.unusedSimpArgs false
namespace Go.Proofs.Ytedkaegdfdcdaaa
open Go Go.Proofs.YtedkaegdfdcdaaaV
theorem fiN_at {n : Nd} (h : MayN n) (key : ByteArray) {i : Nat} {x : ByteArray} (hx : n.keys[i]? = some x) : (blt x key != decide ((i : Int) < (fiN n key : Int))) = false := by
  have e : fiN n key = fi n.keys key := by unfold fiN; rw [if_pos h]
  rw [e]
  by_cases hlt : i < fi n.keys key
  · rw [fi_lt hlt hx, decide_eq_true (by omega)]; rfl
  · have hb : blt x key = false := by
      have hle := fi_le n.keys key
      have hi := (List.getElem?_eq_some_iff.1 hx).1
      obtain ⟨y, hy⟩ : ∃ y, n.keys[fi n.keys key]? = some y := ⟨n.keys[fi n.keys key], by simp [show fi n.keys key < n.keys.length by omega]⟩
      have h1 := fi_at hy
      cases hb : blt x key with
      | false => rfl
      | true =>
        rcases Nat.lt_or_eq_of_le (Nat.le_of_not_lt hlt) with hh | hh
        · have := blt_trans (sorted h.1 i (fi n.keys key) y x hh hy hx) hb
          rw [this] at h1; cases h1
        · rw [hh] at hy
          rw [hx] at hy; cases hy
          rw [hb] at h1; cases h1
    rw [hb, decide_eq_false (by omega)]; rfl
set_option maxRecDepth 20000 in
theorem finds_law (W : World) (x : Na) (hx : OkA W x) (key : ByteArray) (hkey : key.size ≤ 140737488351232) : Calls prog 8 #[.agg (na x).toArray, .string key] W fun e w' => e = .returned (.bool true) ∧ Frm none_ W w' := by
  refine callsRet (W8 (x0 := ndc (nd x).leaf x.k x.v x.d) (x1 := key) (Q := fun v w' => v = .bool true ∧ Frm none_ W w') ?_) (fun v w' ⟨h, h'⟩ => ⟨by rw [h], h'⟩)
  unfold F8
  intro b2 w1 hN
  have f1 : Frm none_ W w1 := hN.mod _
  have hA := Bk.new hN hx.s
  refine ⟨fun c w' => Frm none_ w1 w' ∧ (c = false → (nd x).keys.length + (nd x).vals.length + (nd x).kids.length ≤ 5000), ⟨_, hA.la, (large_calls w1 _ _ _ _ hA.nd ⟨hx.lk, hx.lv, hx.ld⟩ hx.ck hx.cv).mono ?_⟩, ?_⟩
  · rintro _ w2 ⟨b, rfl, hb, f2⟩
    refine ⟨_, rfl, IfB.intro (fun _ => ⟨f2, by simp⟩) (fun hbf => (awake_calls w2).mono ?_)⟩
    rintro _ w3 ⟨rfl, f3⟩
    exact ⟨_, rfl, f2.n f3, fun _ => hb hbf⟩
  rintro u c w2 ⟨f2, hc⟩
  have f12 := f1.n f2
  refine IfB.intro (fun _ => (awake_calls w2).mono ?_) (fun hcf => ?_)
  · rintro _ w3 ⟨rfl, f3⟩
    exact ⟨_, rfl, rfl, f12.n f3⟩
  have hlen := hc hcf
  have hsm := sm_of hlen
  have hbd : (nd x).keys.length ≤ 1000000000 ∧ (nd x).vals.length ≤ 1000000000 ∧ (nd x).kids.length ≤ 1000000000 := ⟨by omega, by omega, by omega⟩
  have hA2 := hA.mod f2
  refine ⟨_, hA2.la, (given_calls w2 _ _ _ _ hA2.nd hbd).mono ?_⟩
  rintro _ w3 ⟨k, v, d, rfl, hO, f3⟩
  refine ⟨_, rfl, (size_calls w3 _ _ _ _ hO.s hsm).mono ?_⟩
  rintro _ w4 ⟨rfl, f4⟩
  have f14 := f12.n (f3.n f4)
  refine ⟨_, rfl, IfB.intro (fun _ => ⟨rfl, f14⟩) (fun hz => ?_)⟩
  have hz := ne_of_beq_false hz
  have hm : MayN (nd x) := by
    refine Classical.byContradiction fun hn => hz ?_
    rw [sizN, if_neg hn]
  have hA4 := hA2.mod (f3.n f4)
  refine ⟨_, hA4.la, (given_calls w4 _ _ _ _ hA4.nd hbd).mono ?_⟩
  rintro _ w5 ⟨k', v', d', rfl, hO', f5⟩
  refine ⟨_, rfl, (find_calls w5 _ _ _ _ hO'.s hsm key).mono ?_⟩
  rintro _ w6 ⟨rfl, f6⟩
  have f16 := f14.n (f5.n f6)
  have hA6 := hA4.mod (f5.n f6)
  have hkl := has_sv hA6.nd.hk
  have efi : fiN (nd x) key = fi (nd x).keys key := by unfold fiN; rw [if_pos hm]
  have efd : fdN (nd x) key = fd (nd x).keys key := by unfold fdN; rw [if_pos hm]
  have hle := fi_le (nd x).keys key
  refine ⟨_, _, rfl, fun c w' => c = false ∧ w' = w6, IfB.f (decide_eq_false (by omega)) ⟨x.k, hA6.l1, IfB.f (decide_eq_false (by rw [efi]; omega)) ⟨x.k, hA6.l1, IfB.intro (fun hd => ?_) (fun hd => ?_)⟩⟩, ?_⟩
  · have hd := of_decide_eq_true hd
    rw [efi] at hd
    obtain ⟨q, y, hq, hy, hld⟩ := sv_at hA6.nd.hk (i := fi (nd x).keys key) (by omega)
    refine ⟨x.k, hA6.l1, q, hq, by omega, by rw [efi]; omega, y, by rw [efi]; exact hld, _, bool_neq _ _ _ _, ?_, rfl⟩
    rw [efd, fd, hy, eqB]; simp
  · have hd := of_decide_eq_false hd
    rw [efi] at hd
    refine ⟨_, bool_neq _ _ _ _, ?_, rfl⟩
    rw [efd, fd, List.getElem?_eq_none (by omega)]; rfl
  rintro u1 c w6' ⟨rfl, rfl⟩
  refine IfB.f rfl ⟨fun m y w' => ∃ i : Nat, y = (i : Int) ∧ i ≤ x.k.l ∧ m = x.k.l - i ∧ w' = w6', x.k.l, ⟨0, rfl, Nat.zero_le _, by omega, rfl⟩, ?_⟩
  rintro m u2 y w7 ⟨i, rfl, hi, rfl, rfl⟩
  refine ⟨x.k, hA6.l1, IfB.intro (fun hd => ?_) (fun hd => ⟨rfl, f16⟩)⟩
  have hlt := of_decide_eq_true hd
  obtain ⟨q, z, hq, hz', hld⟩ := sv_at hA6.nd.hk (i := i) (by omega)
  refine ⟨x.k, hA6.l1, q, hq, by omega, by omega, z, hld, _, bool_neq _ _ _ _, IfB.f (fiN_at hm key hz') ⟨x.k.l - (i + 1), by omega, i + 1, by rw [wrap64 _ (by omega)]; omega, by omega, rfl, rfl⟩⟩
theorem decN_sm (l : List UInt8) : SmN (decN l) := by
  rcases good_iff l with ⟨_, e, _⟩ | ⟨_, e, _⟩
  · rw [e]; exact dEnd_sm l
  · rw [e]; exact ⟨by decide, by decide, by decide⟩
/-- Bytes that are read are written as they were. -/
theorem rest_back (W : World) (b : Sl) (l : List UInt8) (w : World) (hb : Has w b 1 (bv l)) (hsz : b.l ≤ 2000) (f : Frm none_ W w) :
    Calls prog 21 #[.slice b.a b.l b.c] w fun en w1_4 =>
    ∃ t51a : Array Value, ∃ t51b : Int, en = .returned (.tuple #[.agg t51a, .int .i64 t51b]) ∧
    ∀ b9 w1_5, NewB w1_4 (.cells #[.bool false, .slice none 0 0, .slice none 0 0, .slice none 0 0] 28) b9 w1_5 →
    t51a.size = 4 ∧ (∀ u, u ∈ t51a.toList → u.oneCell' = true) ∧ WrA w1_5 (⟨b9, 0, none⟩ : Addr) 4 ∧ ∀ w1_6, w1_6 = setAt w1_5 (⟨b9, 0, none⟩ : Addr) t51a.toList 0 →
    IfB (t51b != (0 : Int))
    ((fun v w' => v = Value.bool true ∧ Frm none_ W w') (.bool true) w1_6)
    (∃ t57 : Array Value, LdA w1_6 (⟨b9, 0, none⟩ : Addr) 4 t57 ∧
    Calls prog 12 #[.agg t57] w1_6 fun en w1_7 =>
    ∃ t58a : Sl, ∃ t58b : Int, en = .returned (.tuple #[.slice t58a.a t58a.l t58a.c, .int .i64 t58b]) ∧
    IfB (t58b == (0 : Int))
    (RunT prog .str (convert 30 9 (.slice t58a.a t58a.l t58a.c)) w1_7 fun (t65 : ByteArray) w1_8 =>
    RunT prog .str (convert 30 9 (.slice b.a b.l b.c)) w1_8 fun (t67 : ByteArray) w1_9 =>
    (fun v w' => v = Value.bool true ∧ Frm none_ W w') (.bool (t65.toList == t67.toList)) w1_9)
    ((fun v w' => v = Value.bool true ∧ Frm none_ W w') (.bool false) w1_7)) := by
  refine (decode_calls w b l hb (by omega)).mono ?_
  rintro _ w2 ⟨k, v, d, rfl, hO, f2⟩
  refine ⟨_, _, rfl, ?_⟩
  intro b9 w3 hN
  have f3 : Frm none_ w2 w3 := hN.mod _
  refine hN.blk.setW rfl rfl (ndc_one _ _ _ _) ?_
  intro w4 hB4 f4
  have hb9 := hN.b
  have z2 := f2.size
  have z3 := f3.size
  have z0 := f.size
  have f24 : Frm none_ w2 w4 := f3.b f4 (by omega)
  have F4 := f.n (f2.n f24)
  have hM : Bk w4 b9 28 k v d (decN l) := ⟨hB4, hO.s.mod f24⟩
  refine IfB.intro (fun _ => ⟨rfl, F4⟩) (fun hc => ?_)
  have hc := iEq hc
  obtain ⟨e1, e2⟩ := forth_law hc
  refine ⟨_, hM.la, (encode_calls w4 _ _ _ _ hM.nd (decN_sm l)).mono ?_⟩
  rintro _ w5 ⟨r, rfl, hr, _, _, f5⟩
  rw [e1]
  rw [e2] at hr
  refine ⟨r, _, rfl, IfB.t rfl (runT_str un22 un5 un9 hr (runT_str un22 un5 un9 (hb.mod (f2.n (f24.n f5)) (fun _ _ h => h)) ⟨?_, F4.n f5⟩))⟩
  rw [(str_eqIff _ _).2 rfl]
set_option maxRecDepth 20000 in
theorem back_walk (W : World) (x : Na) (hx : OkA W x) (b : Sl) (lb : List UInt8) (hb : HasL W b 1 (fun b : UInt8 => [Value.int .u8 (b.toNat : Int)]) lb ∧ (∀ a ∈ lb, True) ∧ b.l ≤ b.c ∧ b.c ≤ maxLen ∧ b.c * 1 ≤ 140737488351232) : Calls prog 6 #[.agg (na x).toArray, .slice b.a b.l b.c] W fun e w' => e = .returned (.bool true) ∧ Frm none_ W w' := by
  refine callsRet (W6 (x0 := ndc (nd x).leaf x.k x.v x.d) (x1 := b) (Q := fun v w' => v = .bool true ∧ Frm none_ W w') ?_) (fun v w' ⟨h, h'⟩ => ⟨by rw [h], h'⟩)
  have hbh := hb.1.bytes
  unfold F6
  intro b2 w1 hN
  have f1 : Frm none_ W w1 := hN.mod _
  have hA := Bk.new hN hx.s
  refine ⟨fun c w' => Frm none_ w1 w' ∧ (c = false → (nd x).keys.length + (nd x).vals.length + (nd x).kids.length ≤ 5000 ∧ b.l ≤ 2000), ⟨_, hA.la, (large_calls w1 _ _ _ _ hA.nd ⟨hx.lk, hx.lv, hx.ld⟩ hx.ck hx.cv).mono ?_⟩, ?_⟩
  · rintro _ w2 ⟨c, rfl, hc, f2⟩
    refine ⟨_, rfl, IfB.intro (fun _ => ⟨f2, by simp⟩) (fun hbf => IfB.intro (fun hd => ⟨f2, by simp⟩) (fun hd => (awake_calls w2).mono ?_))⟩
    rintro _ w3 ⟨rfl, f3⟩
    have hd := of_decide_eq_false hd
    exact ⟨_, rfl, f2.n f3, fun _ => ⟨hc hbf, by omega⟩⟩
  rintro u c w2 ⟨f2, hc⟩
  have f12 := f1.n f2
  refine IfB.intro (fun _ => (awake_calls w2).mono ?_) (fun hcf => ?_)
  · rintro _ w3 ⟨rfl, f3⟩
    exact ⟨_, rfl, rfl, f12.n f3⟩
  obtain ⟨hlen, hbl⟩ := hc hcf
  have hsm := sm_of hlen
  have hbd : (nd x).keys.length ≤ 1000000000 ∧ (nd x).vals.length ≤ 1000000000 ∧ (nd x).kids.length ≤ 1000000000 := ⟨by omega, by omega, by omega⟩
  have hA2 := hA.mod f2
  refine ⟨_, hA2.la, (given_calls w2 _ _ _ _ hA2.nd hbd).mono ?_⟩
  rintro _ w3 ⟨k, v, d, rfl, hO, f3⟩
  refine ⟨_, rfl, (encode_calls w3 _ _ _ _ hO.s hsm).mono ?_⟩
  rintro _ w4 ⟨r, rfl, hr, _, _, f4⟩
  have f14 := f12.n (f3.n f4)
  refine ⟨r, _, rfl, IfB.intro (fun he => ?_) (fun he => rest_back W b lb w4 (hbh.mod f14 (fun _ _ h => h)) hbl f14)⟩
  have he := eq_of_beq he
  rcases encC_cases (nd x) with ⟨_, e, _⟩ | ⟨_, _, e, _⟩ | ⟨hm, hl, _, e2⟩
  · rw [e] at he; exact absurd he (by decide)
  · rw [e] at he; exact absurd he (by decide)
  rw [e2] at hr
  have hrl : r.l = 256 := by
    have := hr.len
    rw [bv_length, enc_len hl] at this; omega
  obtain ⟨ed, ec⟩ := back_law hm hl
  refine (decode_calls w4 r _ hr (by omega)).mono ?_
  rintro _ w5 ⟨k', v', d', rfl, hO', f5⟩
  rw [ed] at hO' ⊢
  rw [ec]
  refine ⟨_, _, rfl, ?_⟩
  intro b7 w6 hN7
  have f6 : Frm none_ w5 w6 := hN7.mod _
  refine hN7.blk.setW rfl rfl (ndc_one _ _ _ _) ?_
  intro w7 hB7 f7
  have hb7 := hN7.b
  have z6 := f6.size
  have f57 : Frm none_ w5 w7 := f6.b f7 (by omega)
  have F7 := f14.n (f5.n f57)
  have hA7 := (hA2.mod (f3.n (f4.n (f5.n f57)))).drew
  have hM7 : Bk w7.drew b7 28 k' v' d' (nd x) := (⟨hB7, hO'.s.mod f57⟩ : Bk w7 b7 28 k' v' d' (nd x)).drew
  have FD := F7.drew
  refine ⟨fun c w' => c = false ∧ Frm none_ w7.drew w', ⟨fun w' => Frm none_ w7.drew w', Frm.refl _ _, IfB.f rfl ⟨_, fun w' f => (hM7.mod f).la, _, fun w' f => (hA7.mod f).la, (back_calls w7.drew _ _ _ _ hM7.nd).mono ?_⟩⟩, ?_⟩
  · rintro _ w8 ⟨rfl, f8⟩
    refine ⟨_, rfl, f8, (same_calls w8 _ _ _ _ _ _ (nd x) (nd x) (hM7.nd.mod f8) (hA7.nd.mod f8) hbd).mono ?_⟩
    rintro _ w9 ⟨c, rfl, hc, f9⟩
    obtain rfl : c = true := hc.2 rfl
    exact ⟨_, rfl, IfB.f rfl ⟨by rw [hrl]; rfl, f8.n f9⟩⟩
  rintro u1 c w8 ⟨rfl, f8⟩
  have F8 := FD.n f8
  exact IfB.f rfl (rest_back W b lb w8 (hbh.mod F8 (fun _ _ h => h)) hbl F8)
end Go.Proofs.Ytedkaegdfdcdaaa
