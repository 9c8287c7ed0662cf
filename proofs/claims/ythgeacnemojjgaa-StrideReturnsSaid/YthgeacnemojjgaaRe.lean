/- The law StrideReturns walked. -/
import Derived.Test.YthgeacnemojjgaaRr
set_option linter.unusedVariables false
set_option linter.unusedSimpArgs false
set_option maxRecDepth 20000
namespace Go.Proofs.Ythgeacnemojjgaa
open Go Go.Proofs.YthgeacnemojjgaaV
/-- Who is there, and who waited, is as it was. -/
structure Kp (M M' : List Pj) : Prop where
  b : ∀ p' ∈ M', (∃ p ∈ M, p.n = p'.n ∧ p.wt = p'.wt) ∨ (p'.wt = false ∧ ∀ p ∈ M, p.n ≠ p'.n)
  f : ∀ p ∈ M, ∃ p' ∈ M', p'.n = p.n
theorem Kp.refl (M : List Pj) : Kp M M := ⟨fun p hp => .inl ⟨p, hp, rfl, rfl⟩, fun p hp => ⟨p, hp, rfl⟩⟩
theorem kp_set {M : List Pj} {i : Nat} {p0 p1 : Pj} (h : M[i]? = some p0) (h1 : p1.n = p0.n) (h2 : p1.wt = p0.wt) : Kp M (M.set i p1) := by
  have hi := (List.getElem?_eq_some_iff.1 h).1
  refine ⟨fun p' hp' => .inl ?_, fun p hp => ?_⟩
  · rcases List.mem_or_eq_of_mem_set hp' with h' | rfl
    · exact ⟨p', h', rfl, rfl⟩
    · exact ⟨p0, List.mem_of_getElem? h, h1.symm, h2.symm⟩
  · obtain ⟨j, hj⟩ := List.mem_iff_getElem?.1 hp
    by_cases hij : i = j
    · subst hij
      rw [h] at hj; cases hj
      exact ⟨p1, List.mem_of_getElem? (i := i) (List.getElem?_set_self hi), h1⟩
    · exact ⟨p, List.mem_of_getElem? (i := j) (by rw [List.getElem?_set_ne hij]; exact hj), rfl⟩
theorem setP_kp {M : List Pj} (ok : OkM M) (nm : ByteArray) (k : Int) : Kp M (setP nm k M).2 := by
  unfold setP
  split
  · exact Kp.refl M
  split
  · exact Kp.refl M
  split
  · rename_i i hi
    split
    · rename_i p hp
      split
      · exact Kp.refl M
      · exact kp_set hp rfl rfl
    · exact Kp.refl M
  · rename_i hi
    split
    · exact Kp.refl M
    · refine ⟨fun p' hp' => ?_, fun p hp => ?_⟩
      · rcases List.mem_append.1 hp' with h | h
        · exact .inl ⟨p', List.mem_of_mem_take h, rfl, rfl⟩
        · rcases List.mem_cons.1 h with rfl | h
          · refine .inr ⟨rfl, fun p hp => ?_⟩
            obtain ⟨j, hj⟩ := List.mem_iff_getElem?.1 hp
            exact ix_none ok.srt hi hj
          · exact .inl ⟨p', List.mem_of_mem_drop h, rfl, rfl⟩
      · rw [← List.take_append_drop (lo nm M) M] at hp
        rcases List.mem_append.1 hp with h | h
        · exact ⟨p, List.mem_append.2 (.inl h), rfl⟩
        · exact ⟨p, List.mem_append.2 (.inr (List.mem_cons_of_mem _ h)), rfl⟩
theorem chgP_kp (nm : ByteArray) (k : Int) (M : List Pj) : Kp M (chgP nm k M).2 := by
  unfold chgP
  split
  · rename_i i hi
    split
    · exact Kp.refl M
    split
    · rename_i p hp
      split
      · exact Kp.refl M
      · exact kp_set hp rfl rfl
    · exact Kp.refl M
  · exact Kp.refl M
/-- The names that waited at the last Next, and were not dropped since. -/
structure LI (M : List Pj) (la : List ByteArray) : Prop where
  len : la.length ≤ 4
  i : ∀ p ∈ M, p.n ∈ la ↔ p.wt = true
  all : ∀ x ∈ la, ∃ p ∈ M, p.n = x
theorem LI.kp {M M' : List Pj} {la : List ByteArray} (h : LI M la) (k : Kp M M') : LI M' la := by
  refine ⟨h.len, fun p' hp' => ?_, fun x hx => ?_⟩
  · rcases k.b p' hp' with ⟨p, hp, e1, e2⟩ | ⟨e1, e2⟩
    · rw [← e1, ← e2]; exact h.i p hp
    · rw [e1]
      refine ⟨fun hm => ?_, fun h => by cases h⟩
      obtain ⟨p, hp, he⟩ := h.all _ hm
      exact (e2 p hp he).elim
  · obtain ⟨p, hp, rfl⟩ := h.all x hx
    obtain ⟨p', hp', he⟩ := k.f p hp
    exact ⟨p', hp', he⟩
theorem LI.map {M : List Pj} {la : List ByteArray} (h : LI M la) : M.map (wtf la) = M := by
  refine (List.map_congr_left fun p hp => ?_).trans (List.map_id _)
  have : isW la p = p.wt := by
    cases hw : p.wt with
    | true => exact isW_iff.2 ((h.i p hp).2 hw)
    | false =>
      cases hi : isW la p with
      | false => rfl
      | true => have := (h.i p hp).1 (isW_iff.1 hi); rw [hw] at this; cases this
  unfold wtf
  rw [this]; rfl
structure SR (W : World) (a : Nat) (M : List Pj) (D : Nat → Prop) (x : Sl) (la : List ByteArray) (V : World) : Prop where
  ok : OkM M
  frm : Frm none_ W V
  sh : Shw V D a M
  nd : ∀ k, D k → W.heap.size ≤ k
  row : Row V x 9 1 (sv la)
  xn : New W x
  sep : ∀ k, x.blk = some k → ¬ D k
  li : LI M la
theorem SR.hs {W V : World} {a : Nat} {M : List Pj} {D : Nat → Prop} {x : Sl} {la : List ByteArray} (h : SR W a M D x la V) : Hs W a M V := ⟨h.ok, h.frm, D, h.sh, h.nd⟩
theorem SR.n {W V V' : World} {a : Nat} {M : List Pj} {D : Nat → Prop} {x : Sl} {la : List ByteArray} (h : SR W a M D x la V) (hf : Frm none_ V V') : SR W a M D x la V' := ⟨h.ok, h.frm.n hf, h.sh.n hf, h.nd, h.row.mod hf (fun _ _ h => h), h.xn, h.sep, h.li⟩
theorem SR.went {W V V' : World} {a : Nat} {M M' : List Pj} {D : Nat → Prop} {x : Sl} {la : List ByteArray} (h : SR W a M D x la V) (hw : Went V D a M' V') (ok : OkM M') (li : LI M' la) : ∃ D', SR W a M' D' x la V' ∧ Frm D V V' ∧ ∀ k, D' k → D k ∨ V.heap.size ≤ k := by
  obtain ⟨hf, D', h1, h2⟩ := hw
  have hz := h.frm.size
  refine ⟨D', ⟨ok, h.frm.trans hf (fun _ _ h => h) (fun k hk hh => by have := h.nd k hh; omega), h1, fun k hk => ?_, h.row.mod hf h.sep, h.xn, fun k hk hh => ?_, li⟩, hf, h2⟩
  · rcases h2 k hk with h' | h'
    · exact h.nd k h'
    · omega
  · rcases h2 k hh with h' | h'
    · exact h.sep k hk h'
    · have := h.row.lt k hk; omega
theorem returns_law (W : World) (s : Sl) (l : List Stp) (ha : ArgS W s l) : Calls prog 8 #[.slice s.a s.l s.c] W fun e w' => e = .returned (.bool true) ∧ Frm none_ W w' := by
  refine callsRet (W8 (x0 := s) (Q := fun v w' => v = .bool true ∧ Frm none_ W w') ?_) (fun v w' ⟨h, h'⟩ => ⟨by rw [h], h'⟩)
  have hsl : s.l ≤ 100000000000000 := by have := ha.2.2.2.2; have := ha.2.2.1; omega
  have hl := ha.1.len
  unfold F8
  refine ⟨fun c V => Frm none_ W V ∧ (c = false → l.length ≤ 4000 ∧ ∀ p ∈ l, p.l.l ≤ 4000), ?_, ?_⟩
  · refine (works_calls W).mono ?_
    rintro _ w1 ⟨rfl, f1⟩
    refine ⟨_, rfl, IfB.f rfl ((large_calls w1 s l (ha.1.mod f1 (fun _ _ h => h)) hsl).mono ?_)⟩
    rintro _ w2 ⟨c, rfl, hc, e⟩
    subst e
    exact ⟨c, rfl, f1, hc⟩
  rintro u c w1 ⟨f1, hc⟩
  refine IfB.intro (fun _ => ?_) (fun hcf => ?_)
  · refine (works_calls w1).mono ?_
    rintro _ w2 ⟨rfl, f2⟩
    exact ⟨_, rfl, rfl, f1.n f2⟩
  obtain ⟨hlen, hns⟩ := hc hcf
  refine (new_calls w1).mono ?_
  rintro _ w2 ⟨a, rfl, f2, D0, hD0, hDn⟩
  have hz1 := f1.size
  have h0 : SR W a [] D0 ⟨none, 0, 0⟩ [] w2 := ⟨⟨by simp, List.Pairwise.nil, by simp⟩, f1.n f2, hD0, fun k hk => by have := hDn k hk; omega, Row.nil _ _ _, fun k hk => by simp [Sl.blk] at hk, fun k hk => by simp [Sl.blk] at hk, ⟨by simp, by simp, by simp⟩⟩
  refine ⟨_, rfl, fun n x4 i V => ∃ (j : Nat) (M : List Pj) (D : Nat → Prop) (la : List ByteArray), i = (j : Int) ∧ j ≤ l.length ∧ n = l.length - j ∧ SR W a M D x4 la V, l.length, ⟨0, [], D0, [], rfl, by omega, rfl, h0⟩, ?_⟩
  rintro n u1 x4 i V ⟨j, M, D, la, rfl, hj, rfl, h⟩
  refine IfB.dec (fun hlt => ?_) (fun hge => ⟨rfl, h.frm⟩)
  obtain ⟨qa, st, hqa, hst, hstm, hld, hldA⟩ := (ha.1.mod h.frm (fun _ _ h => h)).at (by decide) (i := (j : Int)) (by omega) (by omega)
  have oks := ha.2.1 st hstm
  have hns1 := hns st hstm
  have hnames : Has W st.l 1 (sv st.ns) := oks.has.one
  have hnl := has_sv hnames
  refine ⟨qa, hqa, by omega, by omega, (stc st).toArray, hldA, ?_⟩
  intro b6 V4 hN
  have hb6 : b6 = V.heap.size := hN.2
  refine Blk.setW hN.blk rfl rfl (by simp [stc, Value.oneCell']) ?_
  intro V5 hB5 g5
  have F5 : Frm none_ V V5 := (hN.mod none_).b g5 (by omega)
  have h5 := h.n F5
  have hDb : ¬ D b6 := fun hh => by have := h.sh.lt b6 hh; omega
  have ld : ∀ {V' : World}, Blk V' b6 (stc st).toArray 45 → ∀ c v, (stc st)[c]? = some v → Ld V' ((⟨b6, 0, none⟩ : Addr).add c) v := fun h c v hv => by rw [addr_add, Nat.zero_add]; exact h.ld (by simpa using hv)
  have nxt : ∀ {M' : List Pj} {D' : Nat → Prop} {x : Sl} {la' : List ByteArray} {V' : World}, SR W a M' D' x la' V' → ∃ n', n' < l.length - j ∧ ∃ (j' : Nat) (M : List Pj) (D : Nat → Prop) (la : List ByteArray), IntKind.wrap .i64 ((j : Int) + (1 : Int)) = (j' : Int) ∧ j' ≤ l.length ∧ n' = l.length - j' ∧ SR W a M D x la V' := fun {M' D' x la' V'} h' => ⟨l.length - (j + 1), by omega, j + 1, M', D', la', by rw [wi _ (by omega)]; omega, by omega, rfl, h'⟩
  clear hld hldA
  refine ⟨st.k, ld hB5 0 _ rfl, IfB.intro (fun _ => ?_) (fun _ => IfB.intro (fun _ => ?_) (fun _ => IfB.intro (fun _ => ?_) (fun _ => ?_)))⟩
  · refine ⟨st.s, ld hB5 2 _ rfl, st.n, ld hB5 1 _ rfl, (set_calls V5 D a M h5.sh h5.ok st.s st.n).mono ?_⟩
    rintro _ V6 ⟨rfl, hw⟩
    obtain ⟨D', h6, _, _⟩ := h5.went hw (setP_ok h5.ok _ _) (h5.li.kp (setP_kp h5.ok _ _))
    exact ⟨_, rfl, nxt h6⟩
  · refine ⟨st.s, ld hB5 2 _ rfl, (drop_calls V5 D a M h5.sh h5.ok st.s).mono ?_⟩
    rintro _ V6 ⟨rfl, hw⟩
    have hB6 : Blk V6 b6 _ 45 := hB5.mod hw.1 hDb
    have okd := dropP_ok h5.ok st.s
    refine ⟨_, rfl, ?_⟩
    cases hi : ix st.s M with
    | none =>
      have e : dropP st.s M = (5, M) := by unfold dropP; rw [hi]
      rw [e] at hw ⊢
      obtain ⟨D', h6, _, _⟩ := h5.went hw h5.ok h5.li
      exact IfB.f rfl (nxt h6)
    | some i0 =>
      have e : dropP st.s M = (0, M.eraseIdx i0) := by unfold dropP; rw [hi]
      rw [e] at hw okd ⊢
      obtain ⟨_, p0, hp0, hp0n⟩ := ix_some hi
      obtain ⟨hf, D', hs', hsub⟩ := hw
      have hz5 := h5.frm.size
      have hx6 : Row V6 x4 9 1 (sv la) := h5.row.mod hf h5.sep
      have hxl := has_sv hx6.has
      have hla4 := h5.li.len
      have f6 : Frm none_ W V6 := h5.frm.trans hf (fun _ _ h => h) (fun k hk hh => by have := h5.nd k hh; omega)
      refine IfB.t rfl ⟨fun n x i V' => ∃ k : Nat, i = (k : Int) ∧ k ≤ la.length ∧ n = la.length - k ∧ Row V' x 9 1 (sv ((la.take k).filter fun y => !decide (y = st.s))) ∧ New V6 x ∧ Frm none_ V6 V', la.length, ⟨0, rfl, by omega, rfl, by simpa [sv] using Row.nil _ _ _, fun k hk => by simp [Sl.blk] at hk, Frm.refl _ _⟩, ?_⟩
      rintro n u2 x i V7 ⟨k, rfl, hk, rfl, hx, hxn, f7⟩
      refine IfB.dec (fun hlt2 => ?_) (fun hge2 => ?_)
      · obtain ⟨q, y, hq, hy, hly⟩ := sv_at (hx6.has.mod f7.drew (fun _ _ h => h)) (i := k) (by omega)
        have hB7 : Blk V7.drew b6 _ 45 := (hB6.mod f7 (fun h => h)).drew
        have ew : IntKind.wrap .i64 ((k : Int) + (1 : Int)) = ((k + 1 : Nat) : Int) := by rw [wi _ (by omega)]; omega
        have hfl : ((la.take k).filter fun y => !decide (y = st.s)).length ≤ 100000 := by
          have := List.length_filter_le (fun y => !decide (y = st.s)) (la.take k)
          rw [List.length_take] at this
          omega
        refine ⟨q, hq, by omega, by omega, y, hly, st.s, ld hB7 2 _ rfl, IfB.intro (fun hne => ?_) (fun heq => ?_)⟩
        · have hne : ¬ y = st.s := fun e => by rw [e, (str_eqIff _ _).2 rfl] at hne; cases hne
          refine ⟨q, hq, by omega, by omega, y, hly, litT [y] (by decide) (by decide) (by kernel_rfl) rfl fun t1 V8 ht1 hn1 f8 => ?_⟩
          refine app2 hx hxn f7 ht1 f8.ofDrew hfl (by simp) ?_
          intro t2 V9 ht2 hn2 f9
          refine ⟨la.length - (k + 1), by omega, k + 1, ew, by omega, rfl, ?_, hn2, f9⟩
          rw [take_snoc hy, List.filter_append]
          have : [y].filter (fun y => !decide (y = st.s)) = [y] := by simp [hne]
          rw [this]; exact ht2
        · have heq : y = st.s := by
            have : (y.toList == st.s.toList) = true := by simpa using heq
            exact (str_eqIff _ _).1 this
          refine ⟨la.length - (k + 1), by omega, k + 1, ew, by omega, rfl, ?_, hxn, f7.drew⟩
          rw [take_snoc hy, List.filter_append]
          have : [y].filter (fun y => !decide (y = st.s)) = [] := by simp [heq]
          rw [this, List.append_nil]; exact hx
      · have hkl : k = la.length := by omega
        subst hkl
        rw [List.take_length] at hx
        have hsize := hf.size
        refine nxt (M' := M.eraseIdx i0) (D' := D') ⟨okd, f6.n f7, hs'.n f7, fun k hk => ?_, hx, fun k hk => by have := hxn k hk; omega, fun k hk hh => by have := hxn k hk; have := hs'.lt k hh; omega, ⟨?_, fun p hp => ?_, fun y hy => ?_⟩⟩
        · rcases hsub k hk with h' | h'
          · exact h5.nd k h'
          · omega
        · exact Nat.le_trans (List.length_filter_le _ _) hla4
        · have hpM := List.mem_of_mem_eraseIdx hp
          have hpn : ¬ p.n = st.s := by
            intro e
            obtain ⟨m, hm⟩ := List.mem_iff_getElem?.1 hp
            rw [List.getElem?_eraseIdx] at hm
            split at hm
            · rename_i hlt3
              have := h5.ok.srt.uniq hm hp0 (by rw [e, hp0n]); omega
            · have := h5.ok.srt.uniq hm hp0 (by rw [e, hp0n]); omega
          rw [List.mem_filter, ← h5.li.i p hpM]
          simp [hpn]
        · obtain ⟨hy1, hy2⟩ := List.mem_filter.1 hy
          obtain ⟨p, hp, rfl⟩ := h5.li.all y hy1
          have hpn : ¬ p.n = st.s := by simpa using hy2
          refine ⟨p, ?_, rfl⟩
          obtain ⟨m, hm⟩ := List.mem_iff_getElem?.1 hp
          have hmi : m ≠ i0 := by rintro rfl; rw [hp0] at hm; cases hm; exact hpn hp0n
          by_cases hlt3 : m < i0
          · exact List.mem_of_getElem? (i := m) (by rw [List.getElem?_eraseIdx, if_pos hlt3]; exact hm)
          · exact List.mem_of_getElem? (i := m - 1) (by rw [List.getElem?_eraseIdx, if_neg (by omega), show m - 1 + 1 = m by omega]; exact hm)
  · refine ⟨st.s, ld hB5 2 _ rfl, st.n, ld hB5 1 _ rfl, (chg_calls V5 D a M h5.sh h5.ok st.s st.n).mono ?_⟩
    rintro _ V6 ⟨rfl, hw⟩
    obtain ⟨D', h6, _, _⟩ := h5.went hw (chgP_ok h5.ok _ _) (h5.li.kp (chgP_kp _ _ _))
    exact ⟨_, rfl, nxt h6⟩
  · have hM4 := h5.ok.n
    have hla4 := h5.li.len
    refine (look_calls W a M V5 h5.hs x4 la h5.row.has (by omega)).mono ?_
    rintro _ V6 ⟨r, rfl, hr, hrn, f6⟩
    rw [h5.li.map] at hr
    have h6 := h5.n f6
    have hB6 := hB5.mod f6 (fun h => h)
    have hrD : ∀ k, r.blk = some k → ¬ D k := fun k hk hh => by have := hrn k hk; have := h5.sh.lt k hh; omega
    refine ⟨r, rfl, st.l, ld hB6 3 _ rfl, (next_calls V6 D a M h6.sh h6.ok st.l st.ns (hnames.mod h6.frm (fun _ _ h => h)) (fun hne k hk hh => by have := arg_lt hnames hne k hk; have := h6.nd k hh; omega) (by omega)).mono ?_⟩
    rintro _ V7 ⟨rfl, hw⟩
    have hr7 := hr.mod hw.1 hrD
    have hB7 := hB6.mod hw.1 hDb
    have okn := nextP_ok h6.ok st.ns
    refine ⟨_, _, rfl, st.l, ld hB7 3 _ rfl, ?_⟩
    have hcases : (nextP st.ns M).2.1 ≠ 0 ∧ (nextP st.ns M).2.2 = M ∨ ∃ q M', nextP st.ns M = (q, 0, M') := by
      by_cases h0 : (nextP st.ns M).2.1 = 0
      · right; exact ⟨(nextP st.ns M).1, (nextP st.ns M).2.2, by rw [← h0]⟩
      · left
        refine ⟨h0, ?_⟩
        unfold nextP at h0 ⊢
        split at h0
        · rfl
        · split at h0 <;> exact (h0 rfl).elim
    rcases hcases with ⟨hne, hMM⟩ | ⟨q, M', he⟩
    · -- nobody
      rw [hMM] at hw
      obtain ⟨D', h7, _, hs7⟩ := h6.went hw h6.ok h6.li
      refine (look_calls W a M V7 h7.hs st.l st.ns (hnames.mod h7.frm (fun _ _ h => h)) (by omega)).mono ?_
      rintro _ V8 ⟨r8, rfl, hr8, hrn8, f8⟩
      refine ⟨r8, rfl, IfB.t (by simpa using hne) ?_⟩
      have h8 := h7.n f8
      refine (look_calls W a M V8 h8.hs x4 la h8.row.has (by omega)).mono ?_
      rintro _ V9 ⟨r9, rfl, hr9, hrn9, f9⟩
      rw [h8.li.map] at hr9
      refine ⟨r9, rfl, (same_calls V9 r r9 M ((hr7.mod f8 (fun _ _ h => h)).mod f9 (fun _ _ h => h)).has hr9.has (by omega)).mono ?_⟩
      rintro _ V10 ⟨rfl, f10⟩
      exact ⟨_, rfl, IfB.f rfl (nxt ((h8.n f9).n f10))⟩
    · rw [he] at hw okn ⊢
      have okn : OkM M' := okn
      have hM'4 := okn.n
      obtain ⟨b, hRT, hq⟩ := rt_next h6.ok he
      obtain ⟨hf7, D', hs7, hsub⟩ := hw
      have hz6 := h6.frm.size
      have hD'n : ∀ k, D' k → W.heap.size ≤ k := fun k hk => by
        rcases hsub k hk with h' | h'
        · exact h6.nd k h'
        · omega
      have fW7 : Frm none_ W V7 := h6.frm.trans hf7 (fun _ _ h => h) (fun k hk hh => by have := h6.nd k hh; omega)
      have h7 : Hs W a M' V7 := ⟨okn, fW7, D', hs7, hD'n⟩
      have hD'b : ¬ D' b6 := fun hh => by
        rcases hsub b6 hh with h' | h'
        · exact hDb h'
        · have := hB6.lt; omega
      have hmap : M'.map (wtf st.ns) = M' := by
        obtain ⟨b1, hb1⟩ : ∃ b1, lst (fun _ p => isW st.ns p) M M.length = some b1 := by
          cases h : lst (fun _ p => isW st.ns p) M M.length with
          | some b => exact ⟨b, rfl⟩
          | none => unfold nextP at he; rw [h] at he; cases he
        unfold nextP at he
        rw [hb1] at he
        simp only at he
        split at he
        · rename_i hno
          obtain ⟨G, hG⟩ := lifted_G h6.ok st.ns
          obtain ⟨hb1l, p1, hp1, hw1⟩ := lst_lt hb1
          have := lst_noneI hno b1 (G p1) (by rw [hG.eq, List.length_map]; exact hb1l) (by rw [hG.eq, List.getElem?_map, hp1]; rfl)
          have e : isW st.ns (G p1) = isW st.ns p1 := by unfold isW; rw [hG.n]
          rw [e, hw1] at this; cases this
        · cases he
          rw [List.map_map]
          exact List.map_congr_left fun p hp => rfl
      refine (look_calls W a M' V7 h7 st.l st.ns (hnames.mod fW7 (fun _ _ h => h)) (by omega)).mono ?_
      rintro _ V8 ⟨r8, rfl, hr8, hrn8, f8⟩
      rw [hmap] at hr8
      have hr78 := hr7.mod f8 (fun _ _ h => h)
      refine ⟨r8, rfl, IfB.f (by simp) ((returned_calls V8 r r8 M M' b q hr78.has hr8.has hRT hq).mono ?_)⟩
      rintro _ V9 ⟨rfl, f9⟩
      have h9 := (h7.n f8).n f9
      have hB9 := (hB7.mod f8 (fun h => h)).mod f9 (fun h => h)
      have hr9 := hr8.mod f9 (fun _ _ h => h)
      have hr8l := seen_len hr9.has
      have hs9 := (hs7.n f8).n f9
      have hr9D : ∀ k, r8.blk = some k → ¬ D' k := fun k hk hh => by have := hrn8 k hk; have := hs7.lt k hh; omega
      have hr8lt := hr8.lt
      refine ⟨_, rfl, IfB.f rfl ⟨fun V' => ∃ (M'' : List Pj) (D'' : Nat → Prop), OkM M'' ∧ Kp M' M'' ∧ (∀ p'' ∈ M'', ∃ p ∈ M', p.n = p''.n ∧ p.wt = p''.wt) ∧ Frm none_ W V' ∧ Shw V' D'' a M'' ∧ (∀ k, D'' k → W.heap.size ≤ k) ∧ Row V' r8 67 4 (qv M'), ⟨st.n, ld hB9 1 _ rfl, IfB.intro (fun _ => ⟨st.n, ld hB9 1 _ rfl, (chg_calls V9 D' a M' hs9 okn q st.n).mono ?_⟩) (fun _ => ⟨M', D', okn, Kp.refl _, fun p hp => ⟨p, hp, rfl, rfl⟩, h9.frm, hs9, hD'n, hr9⟩)⟩, ?_⟩⟩
      · rintro _ V10 ⟨rfl, hw10⟩
        obtain ⟨hf10, D'', hs10, hsub10⟩ := hw10
        have hz9 := h9.frm.size
        refine ⟨_, rfl, (chgP q st.n M').2, D'', chgP_ok okn _ _, chgP_kp _ _ _, fun p'' hp'' => ?_, h9.frm.trans hf10 (fun _ _ h => h) (fun k hk hh => by have := hD'n k hh; omega), hs10, fun k hk => ?_, hr9.mod hf10 hr9D⟩
        · unfold chgP at hp''
          split at hp''
          · split at hp''
            · exact ⟨p'', hp'', rfl, rfl⟩
            split at hp''
            · rename_i p0 hp0
              split at hp''
              · exact ⟨p'', hp'', rfl, rfl⟩
              · rcases List.mem_or_eq_of_mem_set hp'' with h | rfl
                · exact ⟨p'', h, rfl, rfl⟩
                · exact ⟨p0, List.mem_of_getElem? hp0, rfl, rfl⟩
            · exact ⟨p'', hp'', rfl, rfl⟩
          · exact ⟨p'', hp'', rfl, rfl⟩
        · rcases hsub10 k hk with h' | h'
          · exact hD'n k h'
          · omega
      rintro u3 V11 ⟨M'', D'', ok'', kp, kb, f11, hs11, hD'', hr11⟩
      refine ⟨fun n x i V' => ∃ k : Nat, i = (k : Int) ∧ k ≤ M'.length ∧ n = M'.length - k ∧ Row V' x 9 1 (sv (((M'.take k).filter (·.wt)).map (·.n))) ∧ New V11 x ∧ Frm none_ V11 V', M'.length, ⟨0, rfl, by omega, rfl, by simpa [sv] using Row.nil _ _ _, fun k hk => by simp [Sl.blk] at hk, Frm.refl _ _⟩, ?_⟩
      rintro n u4 x i V12 ⟨k, rfl, hk, rfl, hx, hxn, f12⟩
      have hfl : ∀ k, (((M'.take k).filter (·.wt)).map (·.n)).length ≤ 4 := by
        intro k
        have := List.length_filter_le (fun p : Pj => p.wt) (M'.take k)
        rw [List.length_take] at this
        rw [List.length_map]; omega
      refine IfB.dec (fun hlt2 => ?_) (fun hge2 => ?_)
      · obtain ⟨p, hp⟩ : ∃ p, M'[k]? = some p := ⟨_, List.getElem?_eq_getElem (by omega)⟩
        obtain ⟨g, hg, _, _, hL⟩ := seen_at (hr11.has.mod f12 (fun _ _ h => h)) hp
        have ew : IntKind.wrap .i64 ((k : Int) + (1 : Int)) = ((k + 1 : Nat) : Int) := by rw [wi _ (by omega)]; omega
        refine ⟨g, hg, by omega, by omega, p.wt, hL 3 _ rfl, IfB.intro (fun hw => ?_) (fun hw => ?_)⟩
        · refine ⟨g, hg, by omega, by omega, p.n, hL 0 _ rfl, litT [p.n] (by decide) (by decide) (by kernel_rfl) rfl fun t1 V13 ht1 hn1 f13 => ?_⟩
          refine app2 hx hxn f12 ht1 f13 (by have := hfl k; omega) (by simp) ?_
          intro t2 V14 ht2 hn2 f14
          refine ⟨M'.length - (k + 1), by omega, k + 1, ew, by omega, rfl, ?_, hn2, f14⟩
          rw [take_snoc hp, List.filter_append, List.map_append]
          have : ([p].filter (·.wt)).map (·.n) = [p.n] := by simp [hw]
          rw [this]; exact ht2
        · refine ⟨M'.length - (k + 1), by omega, k + 1, ew, by omega, rfl, ?_, hxn, f12⟩
          rw [take_snoc hp, List.filter_append, List.map_append]
          have : ([p].filter (·.wt)).map (·.n) = [] := by simp [hw]
          rw [this, List.append_nil]; exact hx
      · have hkl : k = M'.length := by omega
        subst hkl
        have hl4 := hfl M'.length
        rw [List.take_length] at hx hl4
        have hz11 := f11.size
        refine nxt (M' := M'') (D' := D'') ⟨ok'', f11.n f12, hs11.n f12, hD'', hx, fun k hk => by have := hxn k hk; omega, fun k hk hh => by have := hxn k hk; have := hs11.lt k hh; omega, ⟨hl4, fun p'' hp'' => ?_, fun y hy => ?_⟩⟩
        · obtain ⟨p, hp, e1, e2⟩ := kb p'' hp''
          rw [← e1, ← e2, List.mem_map]
          constructor
          · rintro ⟨r', hr', hre⟩
            obtain ⟨hr1, hr2⟩ := List.mem_filter.1 hr'
            obtain ⟨m1, hm1⟩ := List.mem_iff_getElem?.1 hr1
            obtain ⟨m2, hm2⟩ := List.mem_iff_getElem?.1 hp
            have := okn.srt.uniq hm1 hm2 hre
            subst this
            rw [hm1] at hm2; cases hm2
            exact hr2
          · exact fun hw => ⟨p, List.mem_filter.2 ⟨hp, hw⟩, rfl⟩
        · obtain ⟨p, hp, rfl⟩ := List.mem_map.1 hy
          exact kp.f p (List.mem_filter.1 hp).1
end Go.Proofs.Ythgeacnemojjgaa
