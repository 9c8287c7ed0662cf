/- The law CodeLays walked: it returns true, and turns nothing that was there. -/
import Derived.Test.YtmkennapbebbmaaT
set_option linter.unusedVariables false
set_option linter.unusedSimpArgs false
namespace Go.Proofs.YtmkennapbebbmaaV
open Go
/-- Rows of two kinds of elements lie in two blocks. -/
theorem Row.ne {w : World} {s s' : Sl} {E E' : TypeId} {sz sz' : Nat} {cs cs' : List Value} (h : Row w s E sz cs) (h' : Row w s' E' sz' cs') (hE : E ≠ E') : ∀ b, s.blk = some b → ¬ s'.blk = some b := by
  intro b hb hb'
  rcases h.cases with ⟨rfl, _⟩ | ⟨g, cur, ha, hB, _⟩
  · simp [Sl.blk] at hb
  rcases h'.cases with ⟨rfl, _⟩ | ⟨g', cur', ha', hB', _⟩
  · simp [Sl.blk] at hb'
  simp only [Sl.blk, ha, ha', Option.map_some, Option.some.injEq] at hb hb'
  subst hb; subst hb'
  have := hB.symm.trans hB'
  simp only [Option.some.injEq, Obj.cells.injEq] at this
  exact hE this.2.1
end Go.Proofs.YtmkennapbebbmaaV
namespace Go.Proofs.Ytmkennapbebbmaa
open Go Go.Proofs.YtmkennapbebbmaaV
theorem st25 : SlT prog 25 22 1 24 (.slice none 0 0) := ⟨by kernel_rfl, by kernel_rfl, rfl, by decide⟩
theorem st26 : SlT prog 26 9 1 16 (.string (⟨#[]⟩ : ByteArray)) := ⟨by kernel_rfl, by kernel_rfl, rfl, by decide⟩

def pre (lb : List UInt8) (l : List Th) (j : Nat) : List UInt8 := lb ++ (l.take j).flatMap tb
theorem pre_succ {lb : List UInt8} {l : List Th} {j : Nat} {t : Th} (h : l[j]? = some t) : pre lb l (j + 1) = pre lb l j ++ tb t := by
  unfold pre
  rw [List.take_add_one, h, List.flatMap_append, ← List.append_assoc]; simp
theorem tb_len {t : Th} (h : OkT t) : (tb t).length ≤ 20 + t.s.size := by
  have h0 := h.n0
  have h1 := h.n1
  have hs := h.s0
  unfold tb
  split
  · have hz : zz t.n ≤ 18446744073709551615 := by unfold zz; split <;> omega
    have := gb_le (zz t.n) (by omega)
    omega
  split
  · unfold cb
    split
    · simp
    · have := gb_le t.n.toNat (by omega)
      omega
  split
  · unfold sb
    split
    · simp
    · have := gb_le t.s.size (by omega)
      have e : t.s.data.toList.length = t.s.size := Array.length_toList
      rw [List.length_append]
      omega
  · unfold fb; split <;> simp <;> omega
theorem flat_len {l : List Th} (h : ∀ t ∈ l, OkT t) : (l.flatMap tb).length ≤ wt l := by
  induction l with
  | nil => simp
  | cons t r ih =>
    rw [List.flatMap_cons, List.length_append]
    have := ih (fun x hx => h x (by simp [hx]))
    have := tb_len (h t (by simp))
    simp only [wt]
    omega
theorem pre_len {lb : List UInt8} {l : List Th} (h : ∀ t ∈ l, OkT t) (j : Nat) : (pre lb l j).length ≤ lb.length + wt l := by
  unfold pre
  rw [List.length_append]
  have := flat_len (l := l.take j) (fun t ht => h t (List.mem_of_mem_take ht))
  have := wt_take l j
  omega

structure LaysI (w : World) (lb : List UInt8) (l : List Th) (i : Nat) (x5 x6 x7 x8 : Sl) (ss : List Sl) (w1 : World) : Prop where
  sl : ss.length = i + 1
  last : ss[i]? = some x5
  r7 : Row w1 x7 22 1 (ss.map Sl.val)
  l7 : x7.l = i + 1
  r8 : Row w1 x8 9 1 ((List.range (i + 1)).map fun j => Value.string (str (pre lb l j)))
  l8 : x8.l = i + 1
  rs : ∀ j s, ss[j]? = some s → Row w1 s 5 1 (bv (pre lb l j)) ∧ (∃ k, s.blk = some k ∧ w.heap.size ≤ k) ∧ (j < i → s.blk ≠ x5.blk)
  r6 : Row w1 x6 5 1 (bv (pre lb l i))
  n6 : New w x6
  n7 : New w x7
  n8 : New w x8
  fr : Frm none_ w w1

/-- Reading the row of slices and the row of texts at one place. -/
theorem LaysI.at {w : World} {lb : List UInt8} {l : List Th} {i : Nat} {x5 x6 x7 x8 : Sl} {ss : List Sl} {w1 w2 : World} (h : LaysI w lb l i x5 x6 x7 x8 ss w1) (h7 : Row w2 x7 22 1 (ss.map Sl.val))
    (h8 : Row w2 x8 9 1 ((List.range (i + 1)).map fun j => Value.string (str (pre lb l j)))) {j : Nat} (hj : j < i + 1) :
    ∃ p q s, x7.a = some p ∧ x8.a = some q ∧ ss[j]? = some s ∧ Ld w2 (p.add (((j : Nat) : Int).toNat * 1)) (.slice s.a s.l s.c) ∧ Ld w2 (q.add (((j : Nat) : Int).toNat * 1)) (.string (str (pre lb l j))) := by
  have h7l := h.l7
  have h8l := h.l8
  obtain ⟨p, v, hp, hv, hld⟩ := h7.has.at1 (i := (j : Int)) (by omega) (by omega)
  obtain ⟨q, u, hq, hu, hld'⟩ := h8.has.at1 (i := (j : Int)) (by omega) (by omega)
  rw [Int.toNat_natCast] at hv hu
  rw [List.getElem?_map, Option.map_eq_some_iff] at hv hu
  obtain ⟨s, hs, rfl⟩ := hv
  obtain ⟨j', hj', rfl⟩ := hu
  rw [List.getElem?_range hj] at hj'
  cases hj'
  exact ⟨p, q, s, hp, hq, hs, hld, hld'⟩

set_option maxRecDepth 20000 in
theorem lays_calls (w : World) (b : Sl) (lb : List UInt8) (s : Sl) (l : List Th) (hb : Has w b 1 (bv lb)) (hl : HasL w s 3 tc l) (hok : ∀ t ∈ l, OkT t) (hs : s.l ≤ 140737488351232) :
    Calls prog 3 #[.slice b.a b.l b.c, .slice s.a s.l s.c] w fun e w' => e = .returned (.bool true) ∧ Frm none_ w w' := by
  refine calls_ret (W3 (Q := fun v w' => v = .bool true ∧ Frm none_ w w') ?_) (fun v w' ⟨h, h'⟩ => ⟨by rw [h], h'⟩)
  unfold F3
  have hbl : lb.length = b.l := by have := hb.len; rw [bv_length] at this; omega
  have hll := hl.len
  refine ⟨fun v w' => w = w' ∧ (v = false → b.l ≤ 5000 ∧ wt l < 20000), ?_, ?_⟩
  · refine IfB.intro (fun h => ⟨rfl, by simp⟩) (fun h => ?_)
    have h' := of_decide_eq_false h
    refine (long_calls w s l hl hok hs).mono ?_
    rintro _ _ ⟨v, rfl, rfl, hv⟩
    exact ⟨v, rfl, rfl, fun he => ⟨by omega, hv he⟩⟩
  rintro u x19 w0 ⟨rfl, hv⟩
  refine IfB.intro (fun h => ⟨rfl, Frm.refl _ _⟩) (fun h => ?_)
  obtain ⟨hb5, hwt⟩ := hv h
  have hpl : ∀ j, (pre lb l j).length ≤ 25000 := fun j => by have := pre_len (lb := lb) hok j; omega
  have hlen : s.l ≤ 1000 := by have := wt_len l; omega
  rw [wi _ (by omega)]
  refine runT_make0 st22 (by omega) (by omega) (by omega) ?_
  intro t23 w1 hr1 hl1 hk1 hm1 hs1
  refine runT_append st22 hr1 (hb.mod hm1 (fun _ _ h => h)) (bv_one lb) (by omega) (by simp only [maxLen]; omega) ?_
  intro t25 w2 hr2 hl2 hn2 hm2
  rw [List.nil_append] at hr2
  have hM2 : Frm none_ w w2 := hm1.trans hm2 (fun _ _ h => h) (fun x hx hf => by rw [hk1] at hf; simp at hf; omega)
  have hk2 : ∃ k, t25.blk = some k ∧ w.heap.size ≤ k := by
    rcases hn2 with h | h
    · exact ⟨_, h.trans hk1, Nat.le_refl _⟩
    · exact ⟨_, h, hm1.size⟩
  refine runT_lit0 st22 ?_
  intro w3 hr3 hm3 hs3
  refine runT_append st22 hr3 ((hb.mod hM2 (fun _ _ h => h)).mod hm3 (fun _ _ h => h)) (bv_one lb) (by simp; omega) (by simp [maxLen]; omega) ?_
  intro t28 w4 hr4 hl4 hn4 hm4
  rw [List.nil_append] at hr4
  have hm4' : Frm none_ w2 w4 := hm3.trans hm4 (fun _ _ h => h) (fun x hx hf => by simp [Sl.blk] at hf; omega)
  have hr2' := hr2.mod hm4' (fun _ _ h => h)
  have hn28 : New w t28 := by
    intro k hk
    rcases hn4.cases hk with h | h
    · simp [Sl.blk] at h; have := hM2.size; omega
    · have := hM2.size; have := hm3.size; omega
  refine runT_lit1 st25 (by decide) rfl ?_
  intro w5 hr5 hm5 hs5
  have hr4' := hr4.mod hm5 (fun _ _ h => h)
  have hr2'' := hr2'.mod hm5 (fun _ _ h => h)
  refine runT_str un22 un5 un9 hr4'.has ?_
  refine runT_lit1 st26 (by decide) rfl ?_
  intro w7 hr7 hm7 hs7
  have hM7 : Frm none_ w w7 := ((hM2.trans hm4' (fun _ _ h => h) (fun _ _ h => h) (H := none_)).trans hm5 (fun _ _ h => h) (fun _ _ h => h) (H := none_)).trans hm7 (fun _ _ h => h) (fun _ _ h => h)
  have hM4 : Frm none_ w w4 := hM2.trans hm4' (fun _ _ h => h) (fun _ _ h => h)
  have hM5 : Frm none_ w w5 := hM4.trans hm5 (fun _ _ h => h) (fun _ _ h => h)
  have pre0 : pre lb l 0 = lb := by simp [pre]
  refine ⟨fun n x5 x6 x7 x8 x9 w8 => ∃ (i : Nat) (ss : List Sl), x9 = (i : Int) ∧ i ≤ s.l ∧ n = s.l - i ∧ LaysI w lb l i x5 x6 x7 x8 ss w8, s.l, ⟨0, [t25], rfl, by omega, by omega, ?_⟩, ?_⟩
  · refine ⟨rfl, rfl, hr5.mod hm7 (fun _ _ h => h), rfl, ?_, rfl, ?_, ?_, hn28, ?_, ?_, hM7⟩
    · have e : (List.range (0 + 1)).map (fun j => Value.string (str (pre lb l j))) = [Value.string (str lb)] := by simp [pre]
      rw [e]; exact hr7
    · intro j s' hj
      cases j with
      | zero =>
        simp only [List.getElem?_cons_zero, Option.some.injEq] at hj
        subst hj
        rw [pre0]
        exact ⟨hr2''.mod hm7 (fun _ _ h => h), hk2, by omega⟩
      | succ j => simp at hj
    · rw [pre0]; exact hr4'.mod hm7 (fun _ _ h => h)
    · intro k hk; simp [Sl.blk] at hk; have := hM4.size; omega
    · intro k hk; simp [Sl.blk] at hk; have := hM5.size; omega
  rintro n u1 x5 x6 x7 x8 x9 w8 ⟨i, ss, rfl, hi, rfl, hI⟩
  have hI7 := hI.l7
  have hI8 := hI.l8
  have hr5 := (hI.rs i x5 hI.last).1
  obtain ⟨k5, hk5, hk5w⟩ := (hI.rs i x5 hI.last).2.1
  have hx5l : x5.l ≤ 25000 := by have := hr5.len; rw [bv_length] at this; have := hpl i; omega
  have hx6l : x6.l ≤ 25000 := by have := hI.r6.len; rw [bv_length] at this; have := hpl i; omega
  have hl8 := hl.mod hI.fr (fun _ _ h => h)
  refine IfB.intro (fun h => ?_) (fun h => ?_)
  · have hlt := of_decide_eq_true h
    obtain ⟨p, t, hp, ht, htm, _, hla⟩ := hl8.at (by omega) (i := (i : Int)) (by omega) hlt
    have htl : l[i]? = some t := by simpa using ht
    have hto := hok t htm
    have hts : t.s.size ≤ 2147483647 := by have := wt_mem htm; omega
    refine ⟨p, hp, by omega, hlt, _, hla, (thing_lay w8 t hto x5 _ hr5.has (by omega)).mono ?_⟩
    rintro _ w9 ⟨r, rfl, hr9, ⟨k9, hk9, hks9⟩, hm9⟩
    rw [← pre_succ htl] at hr9
    have hl9 := hl8.mod hm9 (fun _ _ h => h)
    obtain ⟨p', t', hp', ht', _, _, hla'⟩ := hl9.at (by omega) (i := (i : Int)) (by omega) hlt
    rw [hp] at hp'; cases hp'
    rw [ht] at ht'; cases ht'
    refine ⟨r, rfl, p, hp, by omega, hlt, _, hla', (thing_ref w9 t hto hts x6 _ (hI.r6.mod hm9 (fun _ _ h => h)).has (by omega)).mono ?_⟩
    rintro _ w10 ⟨q, rfl, hr10, hn10, hm10⟩
    rw [← pre_succ htl] at hr10
    refine ⟨q, rfl, ?_⟩
    refine runT_lit1 st25 (by decide) rfl ?_
    intro w11 hr11 hm11 hs11
    have hm8_11 : Frm none_ w8 w11 := (hm9.trans hm10 (fun _ _ h => h) (fun _ _ h => h) (H := none_)).trans hm11 (fun _ _ h => h) (fun _ _ h => h)
    have hr7' := hI.r7.mod hm8_11 (fun _ _ h => h)
    refine runT_append st25 hr7' hr11.has (by simp [Value.cells]; rfl) (by simp; omega) (by simp [maxLen]; omega) ?_
    intro t55 w12 hr12 hl12 hn12 hm12
    have hl12 : t55.l = x7.l + 1 := hl12
    have hq11 := hr10.mod hm11 (fun _ _ h => h)
    have hq12 := hq11.mod hm12 (hq11.ne hr7' (by decide))
    refine runT_str un22 un5 un9 hq12.has ?_
    refine runT_lit1 st26 (by decide) rfl ?_
    intro w14 hr14 hm14 hs14
    have hr8' := ((hI.r8.mod hm8_11 (fun _ _ h => h)).mod hm12 ((hI.r8.mod hm8_11 (fun _ _ h => h)).ne hr7' (by decide))).mod hm14 (fun _ _ h => h)
    refine runT_append st26 hr8' hr14.has (by simp [Value.cells]; rfl) (by simp; omega) (by simp [maxLen]; omega) ?_
    intro t60 w15 hr15 hl15 hn15 hm15
    have hl15 : t60.l = x8.l + 1 := hl15
    have keep : ∀ {s' : Sl} {cs : List Value}, Row w11 s' 5 1 cs → Row w15 s' 5 1 cs := fun h => by
      have h1 := (h.mod hm12 (h.ne hr7' (by decide))).mod hm14 (fun _ _ h => h)
      exact h1.mod hm15 (h1.ne hr8' (by decide))
    have hfr11 : Frm none_ w w11 := hI.fr.trans hm8_11 (fun _ _ h => h) (fun _ _ h => h)
    have hfr12 : Frm none_ w w12 := hI.n7.frm hfr11 hm12
    have hfr14 : Frm none_ w w14 := hfr12.trans hm14 (fun _ _ h => h) (fun _ _ h => h)
    refine ⟨s.l - (i + 1), by omega, i + 1, ss ++ [r], by rw [wi _ (by omega)]; omega, by omega, rfl, ?_⟩
    refine ⟨by simp [hI.sl], by rw [List.getElem?_append_right (by rw [hI.sl]; omega), hI.sl]; simp, ?_, by omega, ?_, by omega, ?_, keep hq11, ?_, ?_, ?_, hI.n8.frm hfr14 hm15⟩
    · rw [List.map_append]
      exact (hr12.mod hm14 (fun _ _ h => h)).mod hm15 ((hr12.mod hm14 (fun _ _ h => h)).ne hr8' (by decide))
    · rw [List.range_succ, List.map_append]; exact hr15
    · intro j s' hj
      by_cases hji : j < i + 1
      · rw [List.getElem?_append_left (by rw [hI.sl]; omega)] at hj
        obtain ⟨h1, ⟨k, hk, hkw⟩, _⟩ := hI.rs j s' hj
        refine ⟨keep (h1.mod hm8_11 (fun _ _ h => h)), ⟨k, hk, hkw⟩, fun _ => ?_⟩
        rw [hk, hk9]
        have := h1.lt k hk
        intro he
        cases he
        omega
      · rw [List.getElem?_append_right (by rw [hI.sl]; omega), hI.sl] at hj
        have hj0 : j - (i + 1) = 0 := by
          have := (List.getElem?_eq_some_iff.1 hj).1
          simp at this; omega
        have hji' : j = i + 1 := by omega
        rw [hj0] at hj
        simp only [List.getElem?_cons_zero, Option.some.injEq] at hj
        subst hj
        subst hji'
        exact ⟨keep ((hr9.mod hm10 (fun _ _ h => h)).mod hm11 (fun _ _ h => h)), ⟨k9, hk9, Nat.le_trans hI.fr.size hks9⟩, by omega⟩
    · exact fun k hk => Nat.le_trans (hI.fr.trans hm9 (fun _ _ h => h) (fun _ _ h => h) (H := none_)).size (hn10 k hk)
    · exact hI.n7.near (w2 := w12) hn12 hfr11.size
    · exact hI.n8.near (w2 := w15) hn15 hfr14.size
  · have hge := of_decide_eq_false h
    have hil : i = s.l := by omega
    subst hil
    refine ⟨fun n x10 w9 => ∃ j : Nat, x10 = (j : Int) ∧ n = s.l + 1 - j ∧ j ≤ s.l + 1 ∧ Frm none_ w8 w9, s.l + 1, ⟨0, rfl, by omega, by omega, Frm.refl _ _⟩, ?_⟩
    rintro n u2 x10 w9 ⟨j, rfl, rfl, hj, hm9⟩
    refine IfB.intro (fun h => ?_) (fun h => ?_)
    · have hlt := of_decide_eq_true h
      obtain ⟨p, q, s', hp, hq, hs', hl1, hl2⟩ := hI.at (hI.r7.mod hm9 (fun _ _ h => h)) (hI.r8.mod hm9 (fun _ _ h => h)) (j := j) (by omega)
      refine ⟨fun w' => w' = w9.drew, rfl, p, hp, by omega, hlt, s', (fun w' hw' => by subst hw'; exact hl1), q, hq, by omega, by omega, str (pre lb l j), (fun w' hw' => by subst hw'; exact hl2), ?_⟩
      refine runT_str un22 un5 un9 (((hI.rs j s' hs').1.mod hm9 (fun _ _ h => h)).drew.has) ?_
      refine ⟨rfl, IfB.f (by simp) ?_⟩
      exact ⟨s.l + 1 - (j + 1), by omega, j + 1, by rw [wi _ (by omega)]; omega, rfl, by omega, hm9.drew⟩
    · refine ⟨fun w' => Frm (fun b => x5.blk = some b) w9 w', ?_, ?_⟩
      · refine ⟨fun n x11 w10 => ∃ (j : Nat) (cs : List Value), x11 = (j : Int) ∧ n = x5.l - j ∧ j ≤ x5.l ∧ Frm (fun b => x5.blk = some b) w9 w10 ∧ Row w10 x5 5 1 cs ∧ ∀ v ∈ cs, ∃ n : Int, v = .int .u8 n, x5.l,
          ⟨0, _, rfl, by omega, by omega, Frm.refl _ _, hr5.mod hm9 (fun _ _ h => h), ?_⟩, ?_⟩
        · intro v hv
          obtain ⟨c, _, rfl⟩ := List.mem_map.1 hv
          exact ⟨_, rfl⟩
        rintro n u3 x11 w10 ⟨j, cs, rfl, rfl, hj, hm10, hr10, hcs⟩
        refine IfB.intro (fun h => ?_) (fun h => hm10)
        have hlt := of_decide_eq_true h
        refine IfB.intro (fun h => ?_) (fun h => hm10)
        obtain ⟨p, v, hp, hv, hld⟩ := hr10.has.at1 (i := (j : Int)) (by omega) hlt
        obtain ⟨c, rfl⟩ := hcs v (List.mem_of_getElem? hv)
        have hcl := hr10.len
        obtain ⟨g, hg, hwr, hset⟩ := hr10.wr (j := j) (by omega)
        rw [hp] at hg; cases hg
        have ead : (⟨g, 0, none⟩ : Addr).add ((j : Int).toNat * 1) = ⟨g, j, none⟩ := by rw [addr_add]; simp
        refine ⟨_, hp, by omega, hlt, c, hld, _, hp, by omega, hlt, by rw [ead]; exact hwr, ?_⟩
        rintro w11 rfl
        rw [ead]
        refine ⟨x5.l - (j + 1), by omega, j + 1, _, by rw [wi _ (by omega)]; omega, rfl, by omega, hm10.trans (mod_setCell (v := .int .u8 _)) (fun _ _ h => h) (fun x _ hx => ?_), hset _, ?_⟩
        · subst hx; simp [Sl.blk, hp]
        · intro v hv
          rcases List.mem_or_eq_of_mem_set hv with h | h
          · exact hcs v h
          · exact ⟨_, h⟩
      · intro u3 w10 hm10
        have h7 := (hI.r7.mod hm9 (fun _ _ h => h))
        have h8 := (hI.r8.mod hm9 (fun _ _ h => h))
        have h5 := (hr5.mod hm9 (fun _ _ h => h))
        have h7' := h7.mod hm10 (h7.ne h5 (by decide))
        have h8' := h8.mod hm10 (h8.ne h5 (by decide))
        have hfr : Frm none_ w w10 := (hI.fr.trans hm9 (fun _ _ h => h) (fun _ _ h => h) (H := none_)).trans hm10 (fun _ _ h => h) (fun x hx hf => by rw [hk5] at hf; simp at hf; omega)
        refine ⟨fun n x12 w11 => ∃ j : Nat, x12 = (j : Int) ∧ n = s.l - j ∧ j ≤ s.l ∧ Frm none_ w10 w11, s.l, ⟨0, rfl, by omega, by omega, Frm.refl _ _⟩, ?_⟩
        rintro n u4 x12 w11 ⟨j, rfl, rfl, hj, hm11⟩
        refine IfB.intro (fun h => ?_) (fun h => ⟨rfl, hfr.trans hm11 (fun _ _ h => h) (fun _ _ h => h)⟩)
        have hlt := of_decide_eq_true h
        obtain ⟨p, q, s', hp, hq, hs', hl1, hl2⟩ := hI.at (h7'.mod hm11 (fun _ _ h => h)) (h8'.mod hm11 (fun _ _ h => h)) (j := j) (by omega)
        refine ⟨fun w' => w' = w11.drew, rfl, p, hp, by omega, by omega, s', (fun w' hw' => by subst hw'; exact hl1), q, hq, by omega, by omega, str (pre lb l j), (fun w' hw' => by subst hw'; exact hl2), ?_⟩
        obtain ⟨hrj, ⟨kj, hkj, _⟩, hne⟩ := hI.rs j s' hs'
        refine runT_str un22 un5 un9 ((((hrj.mod hm9 (fun _ _ h => h)).mod hm10 (fun b hb hf => hne (by omega) (hb.trans hf.symm))).mod hm11 (fun _ _ h => h)).drew.has) ?_
        refine ⟨rfl, IfB.f (by simp) ?_⟩
        exact ⟨s.l - (j + 1), by omega, j + 1, by rw [wi _ (by omega)]; omega, rfl, by omega, hm11.drew⟩
end Go.Proofs.Ytmkennapbebbmaa
