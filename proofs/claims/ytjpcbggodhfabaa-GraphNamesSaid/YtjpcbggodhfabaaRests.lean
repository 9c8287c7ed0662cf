/- The law GraphRests walked: it returns true, and turns nothing that was there. -/
import Derived.Test.YtjpcbggodhfabaaU
set_option linter.unusedVariables false
set_option linter.unusedSimpArgs false
namespace Go.Proofs.Ytjpcbggodhfabaa
open Go Go.Proofs.YtjpcbggodhfabaaV
def bi (b : Bool) : Int := if b then 1 else 0
def ov (l : List Bool) : List Value := iv (l.map bi)
theorem ov_len (l : List Bool) : (ov l).length = l.length := by simp [ov, iv]
theorem ov_set (l : List Bool) (y : Nat) : (ov l).set y (.int .i64 1) = ov (l.set y true) := by simp [ov, iv, List.map_set, bi]
theorem ov_at {w : World} {t : Sl} {seen : List Bool} (h : Has w t 1 (ov seen)) {y : Nat} (hy : y < seen.length) : ∃ q b, t.a = some q ∧ seen[y]? = some b ∧ Ld w (q.add (y * 1)) (.int .i64 (bi b)) := by
  have hl := h.len
  rw [ov_len] at hl
  obtain ⟨q, n, hq, hn, hld⟩ := has_at (l := seen.map bi) h (i := y) (by omega)
  simp only [List.getElem?_map, Option.map_eq_some_iff] at hn
  obtain ⟨b, hb, rfl⟩ := hn
  exact ⟨q, b, hq, hb, hld⟩
set_option maxRecDepth 20000 in
theorem Below_calls (w : World) (s : Sl) (ps : List (Sl × List Int)) (h : Gw w s ps) (hsm : Small ps) (hv : Valid ps) (i : Nat) (hi : i < ps.length) : Calls prog 15 #[.slice s.a s.l s.c, .int .i64 (i : Int)] w fun e w' =>
    ∃ t, e = .returned (.slice t.a t.l t.c) ∧ Has w' t 1 (iv (below (gOf ps) i)) ∧ Frm none_ w w' := by
  refine callsRet (W15 (Q := fun v w' => ∃ t, v = .slice t.a t.l t.c ∧ Has w' t 1 (iv (below (gOf ps) i)) ∧ Frm none_ w w') ?_) (fun v w' ⟨t, h, h'⟩ => ⟨t, by rw [h], h'⟩)
  unfold F15
  have hl := h.len
  have hsl := hsm.len
  have hgl := gOf_len ps
  refine runT_makeN st25 (by omega) (by omega) (by omega) ?_
  intro t w1 hr1 htl htc hta f1 z1
  rw [made_one (.int .i64 0) rfl] at hr1
  have htb : t.blk = some w.heap.size := by simp [Sl.blk, hta]
  have htl : t.l = s.l := by omega
  have e0 : List.replicate (((s.l : Nat) : Int).toNat * 1) (Value.int .i64 0) = ov (List.replicate ps.length false) := by simp [ov, iv, bi, hl]
  rw [e0] at hr1
  -- one mark
  have mark : ∀ {w' : World} {seen : List Bool} {y : Nat} {K : World → Prop}, Row w' t 3 1 (ov seen) → y < seen.length → seen.length = ps.length → Frm none_ w w' → (∀ w2, Row w2 t 3 1 (ov (seen.set y true)) → Frm none_ w w2 → K w2) →
      ∃ p32, t.a = some p32 ∧ 0 ≤ ((y : Nat) : Int) ∧ ((y : Nat) : Int) < ((t.l : Nat) : Int) ∧ Wr w' (p32.add (((y : Nat) : Int).toNat * 1)) ∧ ∀ w2, w2 = w'.setCell (p32.add (((y : Nat) : Int).toNat * 1)) (.int .i64 1) → K w2 := by
    intro w' seen y K hr hy hsl' f K'
    obtain ⟨g, hg, hwr, hset⟩ := hr.wr (j := y) (by rw [ov_len]; exact hy)
    have ead : (⟨g, 0, none⟩ : Addr).add ((y : Int).toNat * 1) = ⟨g, y, none⟩ := by rw [addr_add]; simp
    have htg : t.blk = some g := by simp [Sl.blk, hg]
    have hgt : g = w.heap.size := by rw [htb] at htg; simpa using htg.symm
    refine ⟨_, hg, by omega, by omega, by rw [ead]; exact hwr, ?_⟩
    rintro w2 rfl
    rw [ead]
    have h5 := hset (.int .i64 1)
    rw [ov_set] at h5
    exact K' _ h5 (f.b (mod_setCell (a := ⟨g, y, none⟩)) (by show w.heap.size ≤ g; omega))
  obtain ⟨qi, pi, hqi, hpi, hpim, _, _⟩ := h.at (i := i) (by omega)
  have ldI : ∀ {w' : World}, Frm none_ w w' → Ld w' (qi.add ((i : Int).toNat * 1)) (.slice pi.1.a pi.1.l pi.1.c) := by
    intro w' f
    obtain ⟨q2, p2, hq2, hp2, _, hld, _⟩ := (h.mod f).at (i := i) (by omega)
    rw [hqi] at hq2; cases hq2
    rw [hpi] at hp2; cases hp2
    rw [Int.toNat_natCast]; exact hld
  have hpb := hsm.each pi hpim
  have hpl := has_iv (h.each pi hpim)
  have hgi := gOf_get hpi
  refine ⟨fun n x6 w' => ∃ (j : Nat) (seen : List Bool), x6 = (j : Int) ∧ j ≤ pi.1.l ∧ n = pi.1.l - j ∧ seen.length = ps.length ∧ (∀ k, seen[k]? = some true → TC (gOf ps) i k) ∧ (∀ z ∈ pi.2.take j, ∀ y : Nat, z = (y : Int) → seen[y]? = some true) ∧ Row w' t 3 1 (ov seen) ∧ Frm none_ w w', pi.1.l,
    ⟨0, List.replicate ps.length false, rfl, Nat.zero_le _, by omega, by simp, ?_, by simp, hr1, f1⟩, ?_⟩
  · intro k hk
    rw [List.getElem?_replicate] at hk
    split at hk <;> simp at hk
  rintro n u x6 w2 ⟨j, seen, rfl, hj, rfl, hsn, hsnd, hsee, hrt, f2⟩
  refine ⟨qi, hqi, by omega, by omega, pi.1, ldI f2, IfB.intro (fun hc => ?_) (fun hc => ?_)⟩
  · have hlt := of_decide_eq_true hc
    obtain ⟨q2, k, hq2, hk, hld2⟩ := has_at ((h.mod f2).each pi hpim) (i := j) (by omega)
    obtain ⟨hk0, hk1⟩ := hv pi hpim k (List.mem_of_getElem? hk)
    obtain ⟨y, rfl⟩ := Int.eq_ofNat_of_zero_le hk0
    have hys : y < seen.length := by omega
    refine ⟨qi, hqi, by omega, by omega, pi.1, ldI f2, q2, hq2, by omega, by omega, _, by rw [Int.toNat_natCast]; exact hld2, mark hrt hys hsn f2 ?_⟩
    intro w3 hr3 f3
    refine ⟨pi.1.l - (j + 1), by omega, j + 1, seen.set y true, by rw [wrap64 _ (by omega)]; omega, by omega, rfl, by rw [List.length_set]; exact hsn, ?_, ?_, hr3, f3⟩
    · intro k hk'
      rcases set_true_inv hk' with rfl | hk'
      · exact TC.one ⟨pi.2, hgi, List.mem_of_getElem? hk⟩
      · exact hsnd k hk'
    · intro z hz y' hy'
      rw [List.take_add_one, hk] at hz
      rcases List.mem_append.1 hz with hz | hz
      · exact set_true hys (hsee z hz y' hy')
      · simp at hz
        have : y' = y := by omega
        subst this; simp [hys]
  have hge := of_decide_eq_false hc
  have hdir : ∀ y, E (gOf ps) i y → seen[y]? = some true := by
    rintro y ⟨l, hl', hy⟩
    rw [hgi] at hl'; cases hl'
    exact hsee (y : Int) (by rw [List.take_of_length_le (by omega)]; exact hy) y rfl
  -- pass by pass
  refine ⟨fun n again w' => ∃ (seen : List Bool), n = 2 * seen.count false + (if again then 1 else 0) ∧ seen.length = ps.length ∧ (∀ k, seen[k]? = some true → TC (gOf ps) i k) ∧ (∀ y, E (gOf ps) i y → seen[y]? = some true) ∧ (again = false → ∀ x, seen[x]? = some true → ∀ y, E (gOf ps) x y → seen[y]? = some true) ∧ Row w' t 3 1 (ov seen) ∧ Frm none_ w w', _, ⟨seen, rfl, hsn, hsnd, hdir, by simp, hrt, f2⟩, ?_⟩
  rintro n u1 again w3 ⟨seen, rfl, hsn, hsnd, hdir, hclo, hrt, f3⟩
  clear hsee
  refine IfB.intro (fun ha => ?_) (fun ha => ?_)
  · subst ha
    refine ⟨fun n ag x8 w' => ∃ (x : Nat) (sn : List Bool), x8 = (x : Int) ∧ x ≤ s.l ∧ n = s.l - x ∧ sn.length = ps.length ∧ (∀ k, sn[k]? = some true → TC (gOf ps) i k) ∧ (∀ y, E (gOf ps) i y → sn[y]? = some true) ∧ sn.count false ≤ seen.count false ∧ (ag = true → sn.count false < seen.count false) ∧ (ag = false → ∀ x', x' < x → sn[x']? = some true → ∀ y, E (gOf ps) x' y → sn[y]? = some true) ∧ Row w' t 3 1 (ov sn) ∧ Frm none_ w w', s.l,
      ⟨0, seen, rfl, Nat.zero_le _, by omega, hsn, hsnd, hdir, Nat.le_refl _, by simp, by simp, hrt, f3⟩, ?_⟩
    rintro n u2 ag x8 w4 ⟨x, sn, rfl, hx, rfl, hln, hsd, hdr, hcn, hag, hcl, hr4, f4⟩
    refine IfB.intro (fun hc => ?_) (fun hc => ?_)
    · have hlt := of_decide_eq_true hc
      obtain ⟨qx, px, hqx, hpx, hpxm, _, _⟩ := h.at (i := x) (by omega)
      have ldX : ∀ {w' : World}, Frm none_ w w' → Ld w' (qx.add ((x : Int).toNat * 1)) (.slice px.1.a px.1.l px.1.c) := by
        intro w' f
        obtain ⟨q2, p2, hq2, hp2, _, hld, _⟩ := (h.mod f).at (i := x) (by omega)
        rw [hqx] at hq2; cases hq2
        rw [hpx] at hp2; cases hp2
        rw [Int.toNat_natCast]; exact hld
      have hxb := hsm.each px hpxm
      have hxl := has_iv (h.each px hpxm)
      have hgx := gOf_get hpx
      refine ⟨fun n ag x9 w' => ∃ (j : Nat) (sn : List Bool), x9 = (j : Int) ∧ j ≤ px.1.l ∧ n = px.1.l - j ∧ sn.length = ps.length ∧ (∀ k, sn[k]? = some true → TC (gOf ps) i k) ∧ (∀ y, E (gOf ps) i y → sn[y]? = some true) ∧ sn.count false ≤ seen.count false ∧ (ag = true → sn.count false < seen.count false) ∧ (ag = false → ∀ x', x' < x → sn[x']? = some true → ∀ y, E (gOf ps) x' y → sn[y]? = some true) ∧ (ag = false → sn[x]? = some true → ∀ z ∈ px.2.take j, ∀ y : Nat, z = (y : Int) → sn[y]? = some true) ∧ Row w' t 3 1 (ov sn) ∧ Frm none_ w w', px.1.l,
        ⟨0, sn, rfl, Nat.zero_le _, by omega, hln, hsd, hdr, hcn, hag, hcl, by simp, hr4, f4⟩, ?_⟩
      clear hln hsd hdr hcn hag hcl hr4 f4 sn
      rintro n u3 ag x9 w5 ⟨j, sn, rfl, hj, rfl, hln, hsd, hdr, hcn, hag, hcl, hin, hr5, f5⟩
      obtain ⟨q7, bx, hq7, hbx, hld7⟩ := ov_at hr5.has (y := x) (by omega)
      -- the step behind the last one
      have next : (ag = false → sn[x]? = some true → ∀ y, E (gOf ps) x y → sn[y]? = some true) → ∃ n', n' < s.l - x ∧ ∃ (x' : Nat) (sn' : List Bool), IntKind.wrap .i64 ((x : Int) + 1) = (x' : Int) ∧ x' ≤ s.l ∧ n' = s.l - x' ∧ sn'.length = ps.length ∧ (∀ k, sn'[k]? = some true → TC (gOf ps) i k) ∧ (∀ y, E (gOf ps) i y → sn'[y]? = some true) ∧ sn'.count false ≤ seen.count false ∧ (ag = true → sn'.count false < seen.count false) ∧ (ag = false → ∀ x'', x'' < x' → sn'[x'']? = some true → ∀ y, E (gOf ps) x'' y → sn'[y]? = some true) ∧ Row w5 t 3 1 (ov sn') ∧ Frm none_ w w5 := by
        intro hcx
        refine ⟨s.l - (x + 1), by omega, x + 1, sn, by rw [wrap64 _ (by omega)]; omega, by omega, rfl, hln, hsd, hdr, hcn, hag, ?_, hr5, f5⟩
        intro ha x' hx' hs' y hy
        rcases Nat.lt_succ_iff_lt_or_eq.1 hx' with hh | hh
        · exact hcl ha x' hh hs' y hy
        · subst hh; exact hcx ha hs' y hy
      refine ⟨fun w' => w' = w5 ∧ bx = true ∧ j < px.1.l, ⟨q7, hq7, by omega, by omega, _, by rw [Int.toNat_natCast]; exact hld7, IfB.intro (fun hd => ?_) (fun hd => ?_)⟩, ?_⟩
      · have hbt : bx = true := by
          have := of_decide_eq_true hd
          cases bx with
          | true => rfl
          | false => simp [bi] at this
        refine ⟨qx, hqx, by omega, by omega, px.1, ldX f5, IfB.intro (fun he => ?_) (fun he => ?_)⟩
        · have he := of_decide_eq_true he
          exact ⟨rfl, hbt, by omega⟩
        · have he := of_decide_eq_false he
          refine next (fun ha hs' => ?_)
          rintro y ⟨l, hl', hy⟩
          rw [hgx] at hl'; cases hl'
          exact hin ha hs' (y : Int) (by rw [List.take_of_length_le (by omega)]; exact hy) y rfl
      · have hbf : bx = false := by
          have := of_decide_eq_false hd
          cases bx with
          | false => rfl
          | true => simp [bi] at this
        subst hbf
        exact next (fun ha hs' => by rw [hbx] at hs'; simp at hs')
      rintro u4 w5' ⟨rfl, hbt, hjl⟩
      obtain ⟨q2, k, hq2, hk, hld2⟩ := has_at ((h.mod f5).each px hpxm) (i := j) (by omega)
      obtain ⟨hk0, hk1⟩ := hv px hpxm k (List.mem_of_getElem? hk)
      obtain ⟨y, rfl⟩ := Int.eq_ofNat_of_zero_le hk0
      have hys : y < sn.length := by omega
      obtain ⟨q8, by', hq8, hby, hld8⟩ := ov_at hr5.has (y := y) hys
      have hld2 : Ld w5' (q2.add ((j : Int).toNat * 1)) (.int .i64 (y : Int)) := by rw [Int.toNat_natCast]; exact hld2
      have hEx : E (gOf ps) x y := ⟨px.2, hgx, List.mem_of_getElem? hk⟩
      subst hbt
      refine ⟨qx, hqx, by omega, by omega, px.1, ldX f5, q2, hq2, by omega, by omega, _, hld2, q8, hq8, by omega, by omega, _, by rw [Int.toNat_natCast]; exact hld8, IfB.intro (fun hd => ?_) (fun hd => ?_)⟩
      · have hbf : by' = false := by
          have := eq_of_beq hd
          cases by' with
          | false => rfl
          | true => simp [bi] at this
        subst hbf
        refine ⟨qx, hqx, by omega, by omega, px.1, ldX f5, q2, hq2, by omega, by omega, _, hld2, mark hr5 hys hln f5 ?_⟩
        intro w6 hr6 f6
        have hcnt := count_set hby
        refine ⟨px.1.l - (j + 1), by omega, j + 1, sn.set y true, by rw [wrap64 _ (by omega)]; omega, by omega, rfl, by rw [List.length_set]; exact hln, ?_, fun z hz => set_true hys (hdr z hz), by omega, fun _ => by omega, by simp, by simp, hr6, f6⟩
        intro k hk'
        rcases set_true_inv hk' with rfl | hk'
        · exact (hsd x hbx).more hEx
        · exact hsd k hk'
      · have hbt : by' = true := by
          have := ne_of_beq_false hd
          cases by' with
          | true => rfl
          | false => simp [bi] at this
        subst hbt
        refine ⟨px.1.l - (j + 1), by omega, j + 1, sn, by rw [wrap64 _ (by omega)]; omega, by omega, rfl, hln, hsd, hdr, hcn, hag, hcl, ?_, hr5, f5⟩
        intro ha hs' z hz y' hy'
        rw [List.take_add_one, hk] at hz
        rcases List.mem_append.1 hz with hz | hz
        · exact hin ha hs' z hz y' hy'
        · simp at hz
          have : y' = y := by omega
          subst this; exact hby
    · have hge2 := of_decide_eq_false hc
      refine ⟨_, ?_, sn, rfl, hln, hsd, hdr, fun ha x' hs' y hy => hcl ha x' (by have := lt_of_some hs'; omega) hs' y hy, hr4, f4⟩
      cases ag with
      | true => have := hag rfl; simp; omega
      | false => simp; omega
  · -- what is marked is listed
    subst ha
    have hclo := hclo rfl
    have hiff : ∀ k, seen[k]? = some true ↔ TC (gOf ps) i k := fun k => ⟨hsnd k, fun ht => TC.all (M := fun k => seen[k]? = some true) hdir hclo ht⟩
    refine ⟨fun n x10 x11 w' => ∃ j : Nat, x11 = (j : Int) ∧ j ≤ s.l ∧ n = s.l - j ∧ Row w' x10 3 1 (iv (outF (fun k => seen[k]?.getD false) j)) ∧ Row w' t 3 1 (ov seen) ∧ (∀ k, x10.blk = some k → w.heap.size < k) ∧ Frm none_ w w', s.l, ⟨0, rfl, Nat.zero_le _, by omega, Row.nil _ _ _, hrt, by simp [Sl.blk], f3⟩, ?_⟩
    rintro n u1 x10 x11 w4 ⟨j, rfl, hj, rfl, hr10, hrt4, hx10, f4⟩
    refine IfB.intro (fun hc => ?_) (fun hc => ?_)
    · have hlt := of_decide_eq_true hc
      obtain ⟨q3, b3, hq3, hb3, hld3⟩ := ov_at hrt4.has (y := j) (by omega)
      have es : outF (fun k => seen[k]?.getD false) (j + 1) = outF (fun k => seen[k]?.getD false) j ++ (if b3 then [(j : Int)] else []) := by rw [outF_succ, hb3]; rfl
      refine ⟨q3, hq3, by omega, by omega, _, by rw [Int.toNat_natCast]; exact hld3, IfB.intro (fun hb => ?_) (fun hb => ?_)⟩
      · have hbt : b3 = true := by
          have := of_decide_eq_true hb
          cases b3 with
          | true => rfl
          | false => simp [bi] at this
        subst hbt
        have hol := outF_len (fun k => seen[k]?.getD false) j
        refine lit_push (j : Int) hr10 (by omega) ?_
        intro s' w5 hr5 hs5 f5
        have z4 := f4.size
        have htl4 := hrt4.lt w.heap.size htb
        refine ⟨s.l - (j + 1), by omega, j + 1, by rw [wrap64 _ (by omega)]; omega, by omega, rfl, by rw [es]; exact hr5, hrt4.mod f5 (fun k hk hs => by rw [htb] at hk; have := hx10 k hs; simp at hk; omega), ?_, f4.trans f5 (fun _ _ h => h) (fun k hk hs => by have := hx10 k hs; omega)⟩
        intro k hk
        rcases hs5 k hk with hk | hk
        · exact hx10 k hk
        · omega
      · have hbf : b3 = false := by
          have := of_decide_eq_false hb
          cases b3 with
          | false => rfl
          | true => simp [bi] at this
        subst hbf
        exact ⟨s.l - (j + 1), by omega, j + 1, by rw [wrap64 _ (by omega)]; omega, by omega, rfl, by rw [es]; simpa using hr10, hrt4, hx10, f4⟩
    · have hge3 := of_decide_eq_false hc
      refine ⟨x10, rfl, ?_, f4⟩
      have e : below (gOf ps) i = outF (fun k => seen[k]?.getD false) j := by
        unfold below
        rw [show (gOf ps).length = j by omega]
        apply outF_congr
        intro k hk
        by_cases ht : TC (gOf ps) i k
        · rw [(hiff k).2 ht]; simp [ht]
        · have : seen[k]? = some false := by
            cases hb : seen[k]? with
            | none => rw [List.getElem?_eq_none_iff] at hb; omega
            | some b =>
              cases b with
              | false => rfl
              | true => exact absurd ((hiff k).1 hb) ht
          rw [this]; simp [ht]
      rw [e]; exact hr10.has
theorem below_len (g : List (List Int)) (i : Nat) : (below g i).length ≤ g.length := outF_len _ _
theorem below_mem {g : List (List Int)} {i x : Nat} (hi : i < g.length) : ((i : Int) ∈ below g x) ↔ TC g x i := by
  unfold below
  rw [outF_mem]
  constructor
  · rintro ⟨k, hk, _, h⟩
    have : k = i := by omega
    subst this; simpa using h
  · intro h; exact ⟨i, rfl, hi, by simpa using h⟩
theorem Above_calls (w : World) (s : Sl) (ps : List (Sl × List Int)) (h : Gw w s ps) (hsm : Small ps) (hv : Valid ps) (i : Nat) (hi : i < ps.length) : Calls prog 16 #[.slice s.a s.l s.c, .int .i64 (i : Int)] w fun e w' =>
    ∃ t, e = .returned (.slice t.a t.l t.c) ∧ Has w' t 1 (iv (above (gOf ps) i)) ∧ Frm none_ w w' := by
  refine callsRet (W16 (Q := fun v w' => ∃ t, v = .slice t.a t.l t.c ∧ Has w' t 1 (iv (above (gOf ps) i)) ∧ Frm none_ w w') ?_) (fun v w' ⟨t, h, h'⟩ => ⟨t, by rw [h], h'⟩)
  unfold F16
  have hl := h.len
  have hsl := hsm.len
  have hgl := gOf_len ps
  refine ⟨fun n x5 x6 w' => ∃ j : Nat, x6 = (j : Int) ∧ j ≤ s.l ∧ n = s.l - j ∧ Row w' x5 3 1 (iv (open Classical in outF (fun k => decide (TC (gOf ps) k i)) j)) ∧ (∀ k, x5.blk = some k → w.heap.size ≤ k) ∧ Frm none_ w w', s.l, ⟨0, rfl, Nat.zero_le _, by omega, Row.nil _ _ _, by simp [Sl.blk], Frm.refl _ _⟩, ?_⟩
  rintro n u x5 x6 w1 ⟨j, rfl, hj, rfl, hr, hx5, f1⟩
  refine IfB.intro (fun hc => ?_) (fun hc => ?_)
  · have hlt := of_decide_eq_true hc
    refine (Below_calls w1 s ps (h.mod f1) hsm hv j (by omega)).mono ?_
    rintro _ w2 ⟨t, rfl, ht, f2⟩
    have htl := has_iv ht
    have hbl := below_len (gOf ps) j
    refine ⟨t, rfl, (in_calls w2 t _ (i : Int) ht (by omega)).mono ?_⟩
    rintro _ _ ⟨b, rfl, hb, rfl⟩
    have hbi : b = true ↔ TC (gOf ps) j i := by rw [hb]; exact below_mem (by omega)
    have f12 := f1.n f2
    have hr2 := hr.mod f2 (fun _ _ h => h)
    have z2 := f12.size
    refine ⟨_, rfl, IfB.intro (fun hbt => ?_) (fun hbf => ?_)⟩
    · have hol := outF_len (open Classical in fun k => decide (TC (gOf ps) k i)) j
      refine lit_push (j : Int) hr2 (by omega) ?_
      intro s' w5 hr5 hs5 f5
      refine ⟨s.l - (j + 1), by omega, j + 1, by rw [wrap64 _ (by omega)]; omega, by omega, rfl, ?_, ?_, f12.trans f5 (fun _ _ h => h) (fun k hk hs => by have := hx5 k hs; omega)⟩
      · rw [outF_succ]
        simp only [hbi.1 hbt, decide_true, if_true]
        exact hr5
      · intro k hk
        rcases hs5 k hk with hk | hk
        · exact hx5 k hk
        · omega
    · refine ⟨s.l - (j + 1), by omega, j + 1, by rw [wrap64 _ (by omega)]; omega, by omega, rfl, ?_, hx5, f12⟩
      have hnt : ¬ TC (gOf ps) j i := fun h => by rw [hbi.2 h] at hbf; cases hbf
      rw [outF_succ]
      simp only [hnt, decide_false, Bool.false_eq_true, if_false, List.append_nil]
      exact hr2
  · have hge := of_decide_eq_false hc
    refine ⟨x5, rfl, ?_, f1⟩
    unfold above
    rw [show (gOf ps).length = j by omega]
    exact hr.has
def PsOk (s : Sl) (ps : List (Sl × List Int)) : Prop := s.l ≤ 140737488351232 ∧ ∀ p ∈ ps, p.2.length ≤ 140737488351232
theorem small_of {ps : List (Sl × List Int)} {m : Nat} (hm : m ≤ 1000) (h1 : ps.length ≤ m) (h2 : ps.length + tot (gOf ps) ≤ 10 * m) : Small ps := ⟨by omega, fun p hp => by
  have := tot_mem (g := gOf ps) (l := p.2) (by simp only [gOf, List.mem_map]; exact ⟨p, hp, rfl⟩)
  omega⟩
theorem rests_calls (w : World) (s : Sl) (ps : List (Sl × List Int)) (h : Gw w s ps) (hok : PsOk s ps) (i : Int) : Calls prog 3 #[.slice s.a s.l s.c, .int .i64 i] w fun e w' => e = .returned (.bool true) ∧ Frm none_ w w' := by
  refine callsRet (W3 (Q := fun v w' => v = .bool true ∧ Frm none_ w w') ?_) (fun v w' ⟨h, h'⟩ => ⟨by rw [h], h'⟩)
  unfold F3
  have hl := h.len
  refine (large_calls w s ps 20 (by decide) h hok.1 hok.2).mono ?_
  rintro _ _ ⟨b, rfl, hb, rfl⟩
  refine ⟨_, rfl, IfB.intro (fun _ => ⟨rfl, Frm.refl _ _⟩) (fun hbf => ?_)⟩
  obtain ⟨h20, h200⟩ := hb hbf
  have hsm := small_of (by decide) h20 h200
  refine (copied_calls w s ps h hsm).mono ?_
  rintro _ w1 ⟨t, qs, rfl, hq, hgq, f1⟩
  have hql : qs.length = ps.length := by have := congrArg List.length hgq; rwa [gOf_len, gOf_len] at this
  have hsmq : Small qs := small_of (m := 20) (by decide) (by omega) (by rw [hgq]; omega)
  refine ⟨t, rfl, (below_calls w1 t qs hq hsmq (by rw [hgq]; omega) i).mono ?_⟩
  rintro _ w2 ⟨ta, ca, rfl, ha1, ha0, f2⟩
  refine ⟨ta, ca, rfl, (above_calls w2 t qs (hq.mod f2) hsmq (by rw [hgq]; omega) i).mono ?_⟩
  rintro _ w3 ⟨tb, cb, rfl, hb1, hb0, f3⟩
  have f13 := f1.n (f2.n f3)
  have hInR : InR qs i ↔ (May (gOf ps) ∧ 0 ≤ i ∧ i < (ps.length : Int)) := by unfold InR; rw [hgq, hql]
  refine ⟨tb, cb, rfl, fun b w' => Frm none_ w3 w' ∧ (b = true ↔ ¬ InR qs i), ?_, ?_⟩
  · refine (May_calls w3 s ps (h.mod f13) hsm (by omega)).mono ?_
    rintro _ _ ⟨c, rfl, hc, rfl⟩
    refine ⟨_, rfl, IfB.intro (fun hd => ⟨Frm.refl _ _, ?_⟩) (fun hd => IfB.intro (fun he => ⟨Frm.refl _ _, ?_⟩) (fun he => ⟨Frm.refl _ _, ?_⟩))⟩
    · have hd : c = false := by simpa using hd
      simp only [true_iff, hInR]
      rintro ⟨h1, _⟩
      rw [hc.2 h1] at hd; cases hd
    · have he := of_decide_eq_true he
      simp only [true_iff, hInR]
      rintro ⟨_, h1, _⟩; omega
    · have hd : c = true := by simpa using hd
      have he := of_decide_eq_false he
      rw [decide_eq_true_iff, hInR]
      constructor
      · rintro h1 ⟨_, _, h2⟩; omega
      · intro h1
        by_cases h2 : i ≥ (s.l : Int)
        · exact h2
        · exact absurd ⟨hc.1 hd, by omega, by omega⟩ h1
  rintro u b w4 ⟨f4, hbi⟩
  refine IfB.intro (fun hbt => ?_) (fun hbf => ?_)
  · have hn := hbi.1 hbt
    obtain ⟨rfl, rfl⟩ := ha0 hn
    obtain ⟨rfl, rfl⟩ := hb0 hn
    exact IfB.t rfl (IfB.t rfl ⟨rfl, f13.n f4⟩)
  · have hin : InR qs i := by
      by_cases hq : InR qs i
      · exact hq
      · rw [hbi.2 hq] at hbf; cases hbf
    obtain ⟨rfl, hta⟩ := ha1 hin
    obtain ⟨rfl, htb⟩ := hb1 hin
    obtain ⟨hmay, hi0, hi1⟩ := hInR.1 hin
    obtain ⟨j, rfl⟩ := Int.eq_ofNat_of_zero_le hi0
    rw [Int.toNat_natCast, hgq] at hta htb
    have hvp := valid_of hmay
    have hal : (above (gOf ps) j).length ≤ ps.length := by
      have h2 : (above (gOf ps) j).length ≤ (gOf ps).length := outF_len _ _
      rwa [gOf_len] at h2
    have hbl := below_len (gOf ps) j
    rw [gOf_len] at hbl
    have f14 := f13.n f4
    refine IfB.t rfl (IfB.t rfl ((Below_calls w4 s ps (h.mod f14) hsm hvp j (by omega)).mono ?_))
    rintro _ w5 ⟨t5, rfl, ht5, f5⟩
    refine ⟨t5, rfl, (ints_calls w5 ta t5 _ _ (hta.mod (f3.n (f4.n f5)) (fun _ _ h => h)) ht5 (by rw [has_iv hta]; omega)).mono ?_⟩
    rintro _ w6 ⟨c6, rfl, hc6, f6⟩
    obtain rfl : c6 = true := hc6.2 rfl
    refine ⟨_, rfl, IfB.t rfl ((Above_calls w6 s ps (h.mod (f14.n (f5.n f6))) hsm hvp j (by omega)).mono ?_)⟩
    rintro _ w7 ⟨t7, rfl, ht7, f7⟩
    have f47 := f4.n (f5.n (f6.n f7))
    refine ⟨t7, rfl, (ints_calls w7 tb t7 _ _ (htb.mod f47 (fun _ _ h => h)) ht7 (by rw [has_iv htb]; omega)).mono ?_⟩
    rintro _ w8 ⟨c8, rfl, hc8, f8⟩
    obtain rfl : c8 = true := hc8.2 rfl
    have f38 := f47.n f8
    refine ⟨_, rfl, IfB.t rfl ((same_calls w8 t s qs ps (hq.mod (f2.n (f3.n f38))) (h.mod (f13.n f38)) hgq (by have := hq.len; omega) (fun p hp => by have := hsmq.each p hp; omega)).mono ?_)⟩
    rintro _ w9 ⟨rfl, f9⟩
    exact ⟨_, rfl, rfl, f13.n (f38.n f9)⟩
theorem op3 (w : World) : Opens prog w 3 (fun n : Int => [.int .i64 n]) (fun n => -9223372036854775808 ≤ n ∧ n ≤ 9223372036854775807) :=
  (opens_int (by kernel_rfl)).map (fun n => n) fun n h => by
    have e1 : IntKind.min .i64 = -9223372036854775808 := by decide
    have e2 : IntKind.max .i64 = 9223372036854775807 := by decide
    rw [e1, e2] at h
    exact ⟨rfl, h⟩
theorem op25 (w : World) : Opens prog w 25 (fun p : Sl × List Int => [slv p.1]) (fun p => Has w p.1 1 (iv p.2) ∧ p.2.length ≤ 140737488351232) :=
  (opens_slice (sz := 1) (bytes := 8) (by kernel_rfl) (by kernel_rfl) (by kernel_rfl) (op3 w)).map (fun p => p) fun p ⟨h1, _, h2, _, h3⟩ => ⟨rfl, h1.one, by have := h1.len; omega⟩
theorem op22 (w : World) : Opens prog w 22 (fun p : Sl × List (Sl × List Int) => [.slice p.1.a p.1.l p.1.c]) (fun p => Gw w p.1 p.2 ∧ PsOk p.1 p.2) :=
  (opens_slice (sz := 1) (bytes := 24) (by kernel_rfl) (by kernel_rfl) (by kernel_rfl) (op25 w)).map (fun p => p) fun p ⟨h1, h4, h2, _, h3⟩ => ⟨rfl, ⟨h1.one, fun q hq => (h4 q hq).1⟩, by omega, fun q hq => (h4 q hq).2⟩
theorem rests_law (W : World) (s : Sl) (ps : List (Sl × List Int)) (h : Gw W s ps ∧ PsOk s ps) (i : Int) (hi : -9223372036854775808 ≤ i ∧ i ≤ 9223372036854775807) : Calls prog 3 #[.slice s.a s.l s.c, .int .i64 i] W fun e w' => e = .returned (.bool true) ∧ Frm none_ W w' := rests_calls W s ps h.1 h.2 i
end Go.Proofs.Ytjpcbggodhfabaa
