/- JournalPlays: whatever is done, each call's answer is the document's. -/
import Derived.Test.YtlbipbepeeopaaaSx
set_option linter.unusedVariables false
set_option linter.unusedSimpArgs false
set_option maxRecDepth 20000
namespace Go.Proofs.Ytlbipbepeeopaaa
open Go Go.Proofs.YtlbipbepeeopaaaV
theorem guard31 (w : World) (b i j : Nat) {K : Bool → World → Prop} (hk : K false w) : RunT prog .bool (do eqGuard .neq 31 (.tmp i) (.tmp j) (.pointer (some ⟨b, 0, none⟩)) (.pointer (some ⟨b, 0, none⟩)); binOp .neq 31 (.pointer (some ⟨b, 0, none⟩)) (.pointer (some ⟨b, 0, none⟩))) w K := by
  obtain ⟨jj, hj⟩ := Option.isSome_iff_exists.1 (show (prog.info? 71).isSome = true by kernel_rfl)
  have hr := Lib.run_neq_ptr_same (P := prog) w (tp := 31) ⟨b, 0, none⟩ Try.underlying31 hj
  have hg : (eqGuard .neq 31 (.tmp i) (.tmp j) (.pointer (some ⟨b, 0, none⟩)) (.pointer (some ⟨b, 0, none⟩))).run prog w = .ok () w := by simp [eqGuard]
  unfold RunT
  rw [Sem.run_bind, hg, Result.andThen_ok, hr]
  exact ⟨false, rfl, hk⟩
theorem DkQ.xs {G : Nat → Prop} {w : World} {x : Option Addr} {d : Dk} (h : DkQ G w x d) : ∃ b, x = some ⟨b, 0, none⟩ := by obtain ⟨b, s, h, _⟩ := h; exact ⟨b, h⟩
set_option maxHeartbeats 8000000 in
theorem plays_calls (W : World) (n : Int) (s : Sl) (l : List Stp) (hl : HasL W s 5 stc l) (ho : ∀ a ∈ l, OkS W a) :
    Calls prog 5 #[.int .i64 n, .slice s.a s.l s.c] W fun e w' => e = .returned (.bool true) ∧ Frm none_ W w' := by
  refine calls_ret (W5 (Q := fun v w' => v = .bool true ∧ Frm none_ W w') ?_) (fun v w' ⟨h, h'⟩ => ⟨by rw [h], h'⟩)
  unfold F5
  have hls := hl.len
  by_cases hn : 512 ≤ n ∧ n ≤ 32768
  rotate_left
  · refine (newBad_calls W n (by omega)).mono ?_
    rintro _ _ ⟨rfl, rfl⟩
    refine ⟨none, 1, rfl, IfB.t rfl ((openNil_calls W).mono ?_)⟩
    rintro _ _ ⟨rfl, rfl⟩
    refine ⟨none, 2, rfl, IfB.t rfl ((awake_calls W).mono ?_)⟩
    rintro _ w1 ⟨rfl, hm⟩
    exact ⟨true, rfl, rfl, hm⟩
  obtain ⟨N, rfl⟩ := Int.eq_ofNat_of_zero_le (show 0 ≤ n by omega)
  refine (newR_calls W (N : Int) hn.1 hn.2).mono ?_
  rintro _ w1 ⟨x, rfl, hd1, hf1⟩
  rw [Int.toNat_natCast] at hd1
  have hz := zero_new N (by omega) 0 (-1) false
  have hz1 := hf1.size
  obtain ⟨xb, hxb⟩ := DkQ.xs hd1
  subst hxb
  refine ⟨_, 0, rfl, IfB.f rfl ?_⟩
  have at_ : ∀ w', Frm none_ W w' → ∀ j (hj : j < l.length), ∃ p, s.a = some p ∧ (∀ k v, (stc (l[j]'hj))[k]? = some v → Ld w' ((p.add (((j : Nat) : Int).toNat * 5)).add k) v) ∧ LdA w' (p.add (((j : Nat) : Int).toNat * 5)) 5 (stc (l[j]'hj)).toArray := by
    intro w' hw' j hj
    obtain ⟨p, a, h1, h2, _, h4, h5⟩ := (hl.mod hw' (fun _ _ h => h)).at (by decide) (i := (j : Int)) (by omega) (by omega)
    rw [Int.toNat_natCast, List.getElem?_eq_getElem hj] at h2
    have e := Option.some.inj h2
    subst e
    exact ⟨p, h1, h4, h5⟩
  -- how many blocks there are
  refine ⟨fun x9 w' => w1 = w' ∧ (l.length ≤ 60 → x9 = (lensN l : Int)), ?_, ?_⟩
  · refine ⟨fun m x9 x10 w' => ∃ j : Nat, x10 = (j : Int) ∧ j ≤ l.length ∧ j ≤ 100 ∧ m = l.length - j ∧ x9 = (lensN (l.take j) : Int) ∧ w1 = w', l.length, ⟨0, rfl, by omega, by omega, rfl, rfl, rfl⟩, ?_⟩
    rintro m u x9 x10 _ ⟨j, rfl, hj, hj2, rfl, rfl, rfl⟩
    refine IfB.intro (fun h => ?_) (fun h => ?_)
    · have h := of_decide_eq_true h
      have hj' : j < l.length := by omega
      refine IfB.intro (fun h2 => ?_) (fun h2 => ?_)
      · have h2 := of_decide_eq_true h2
        obtain ⟨p, hp, hc, _⟩ := at_ w1 hf1 j hj'
        refine ⟨p, hp, by omega, by omega, _, hc 1 _ rfl, l.length - (j + 1), by omega, j + 1, by rw [wi _ (by omega)]; omega, by omega, by omega, rfl, ?_, rfl⟩
        have hM : ∀ a ∈ l, a.s.l ≤ 17592186043904 := fun a ha => by have h1 := (ho a ha).lc; have h2 := (ho a ha).big; omega
        have hb := lensN_le (l := l.take j) (fun a ha => hM a (List.mem_of_mem_take ha))
        have hb2 := hM _ (List.getElem_mem hj')
        have hb3 : (l.take j).length * 17592186043904 ≤ 100 * 17592186043904 := Nat.mul_le_mul_right _ (by rw [List.length_take]; omega)
        rw [lensN_take hj', wi _ (by omega)]
        omega
      · have h2 := of_decide_eq_false h2
        exact ⟨rfl, fun h => by omega⟩
    · have h := of_decide_eq_false h
      have hj' : j = l.length := by omega
      subst hj'
      rw [List.take_length]
      exact ⟨rfl, fun _ => rfl⟩
  rintro u x9 _ ⟨rfl, hcount⟩
  refine ⟨fun v w' => w1 = w' ∧ (v = false → l.length ≤ 60 ∧ lensN l ≤ 400), ?_, ?_⟩
  · refine IfB.intro (fun h => ⟨rfl, fun h => by cases h⟩) (fun h => ⟨rfl, fun h2 => ?_⟩)
    have h := of_decide_eq_false h
    have h2 := of_decide_eq_false h2
    have := hcount (by omega)
    omega
  rintro u v _ ⟨rfl, hv⟩
  refine IfB.intro (fun h => ?_) (fun h => ?_)
  · refine (awake_calls w1).mono ?_
    rintro _ w2 ⟨rfl, hm⟩
    exact ⟨true, rfl, rfl, trN hf1 hm⟩
  obtain ⟨h60, h400⟩ := hv h
  clear hv h hcount
  -- the named blocks
  refine runT_lit st22 (n := 7) (cells := #[.int .i64 0, .int .i64 1, .int .i64 121, .int .i64 122, .int .i64 (IntKind.wrap .i64 ((N : Int) - 1)), .int .i64 (N : Int), .int .i64 (-1)]) (by decide) (by decide) (by kernel_rfl) rfl ?_
  intro w2 hrow2 hf2 hs2
  refine ⟨fun m nS i w' => ∃ (j : Nat) (nm : List Int), i = (j : Int) ∧ j ≤ l.length ∧ m = l.length - j ∧ Row w' nS 3 1 (iv nm) ∧ nm.length + lensN (l.drop j) = 7 + lensN l ∧ (∀ p ∈ l.take j, ∀ b ∈ p.bl, b ∈ nm) ∧ (∀ k, nS.blk = some k → w1.heap.size ≤ k) ∧ Frm none_ w1 w', l.length,
    ⟨0, [0, 1, 121, 122, IntKind.wrap .i64 ((N : Int) - 1), (N : Int), -1], rfl, by omega, by omega, hrow2, rfl, by simp, fun k hk => by simp [Sl.blk] at hk; omega, hf2⟩, ?_⟩
  rintro m u nS i w3 ⟨j, nm, rfl, hj, rfl, hrow3, hnl, hnm, hnb, hf3⟩
  have hrl := hrow3.len
  rw [iv_length, Nat.mul_one] at hrl
  have hF3 : Frm none_ W w3 := trN hf1 hf3
  refine IfB.intro (fun h => ?_) (fun h => ?_)
  · have h := of_decide_eq_true h
    have hj' : j < l.length := by omega
    obtain ⟨p, hp, hc, _⟩ := at_ w3 hF3 j hj'
    have hoj := ho _ (List.getElem_mem hj')
    have hdr := lensN_drop hj'
    refine ⟨p, hp, by omega, by omega, _, hc 1 _ rfl, ?_⟩
    refine runT_append st22 hrow3 (hoj.iv.mod hF3 (fun _ _ h => h)) (fun u hu => ?_) (by omega) (by simp only [maxLen]; omega) ?_
    · obtain ⟨a, _, rfl⟩ := List.mem_map.1 hu; rfl
    intro nS' w4 hrow4 hl4 hn4 hf4
    refine ⟨l.length - (j + 1), by omega, j + 1, nm ++ (l[j]'hj').bl, by rw [wi _ (by omega)]; omega, by omega, rfl, ?_, ?_, ?_, ?_, hf3.trans hf4 (fun _ _ h => h) (fun k hk he => by have := hnb k he; omega)⟩
    · have e : iv (nm ++ (l[j]'hj').bl) = iv nm ++ iv (l[j]'hj').bl := by simp [iv]
      rw [e]; exact hrow4
    · rw [List.length_append, hoj.len]; omega
    · intro q hq b hb
      rw [← List.take_append_getElem hj'] at hq
      rcases List.mem_append.1 hq with hq | hq
      · exact List.mem_append_left _ (hnm q hq b hb)
      · rw [List.mem_singleton] at hq
        subst hq
        exact List.mem_append_right _ hb
    · intro k hk
      rcases hn4.cases hk with h' | h'
      · exact hnb k h'
      · have := hf3.size; omega
  have h := of_decide_eq_false h
  have hj' : j = l.length := by omega
  subst hj'
  rw [List.take_length] at hnm
  have hnm400 : nm.length ≤ 1000 := by omega
  clear hnl hj h hrow2 hf2 hs2
  have hz3 := hf3.size
  refine (Ses.open0 (hd1.mod hf3 (fun _ _ h => h)) hz3 rfl hz.1 (List.length_replicate ..) hz.2).mono ?_
  rintro _ w4 ⟨y, rfl, hs4, hf4⟩
  have hF4 : Frm none_ W w4 := trN hF3 hf4
  refine ⟨y, 0, rfl, fun v w' => v = false ∧ w4 = w', ?_, ?_⟩
  · refine IfB.f rfl ((disk_calls hs4.jr).mono ?_)
    rintro _ _ ⟨rfl, rfl⟩
    exact ⟨_, rfl, guard31 w4 xb 104 105 ⟨rfl, rfl⟩⟩
  rintro u v _ ⟨rfl, rfl⟩
  refine IfB.f rfl ((docNew w4 N).mono ?_)
  rintro _ w5 ⟨zb, zm, rfl, hB5, hM5, hzb, hzm, hf5⟩
  have hF5 : Frm none_ W w5 := trN hF4 hf5
  have hz4 := hf4.size
  have hDoc : DocP N (Rg W.heap.size w1.heap.size) w5 (some ⟨zb, 0, none⟩) (fun _ => rep 0) := ⟨zb, zm, [], rfl, fun h => by have := h.2; omega, fun h => by have := h.2; omega, hB5, hM5, fun i => rfl⟩
  refine ⟨_, rfl, ?_⟩
  have h900 : 900 * 60 = 54000 := rfl
  refine ⟨fun m x5 x13 x14 x15 i w' => ∃ j : Nat, i = (j : Int) ∧ j ≤ l.length ∧ m = l.length - j ∧ St N nS nm W j w' x5 x13 x14 x15 ∧ Frm none_ W w', l.length,
    ⟨0, rfl, by omega, by omega, ⟨_, _, _, _, _, ⟨hDoc, hDoc, (hrow3.mod hf4 (fun _ _ h => h)).mod hf5 (fun _ _ h => h), fun k hk h => by have := hnb k hk; have := h.2; omega⟩, Nat.le_refl _, Nat.zero_le _, .inl ⟨hs4.modN hf5, rfl⟩⟩, hF5⟩, ?_⟩
  clear hDoc hB5 hM5 hzb hzm hF5 hf5 hs4 hF4 hf4 hz4 hrow3 hF3 hf3 hz3 hnb hrl hd1 hz
  rintro m u x5 x13 x14 x15 i w8 ⟨j, rfl, hj, rfl, hst, hF8⟩
  refine IfB.intro (fun h => ?_) (fun h => ?_)
  rotate_left
  · refine (awake_calls w8).mono ?_
    rintro _ w9 ⟨rfl, hm⟩
    exact ⟨true, rfl, rfl, trN hF8 hm⟩
  have h := of_decide_eq_true h
  have hj' : j < l.length := by omega
  obtain ⟨p, hp, _, hA⟩ := at_ w8 hF8 j hj'
  have hmem := List.getElem_mem hj'
  have hoj := ho _ hmem
  have hlj := lensN_mem hmem
  have hnmj := hnm _ hmem
  refine ⟨p, hp, by omega, by omega, _, hA, ?_⟩
  clear hA hp
  generalize l[j]'hj' = a at hmem hoj hlj hnmj
  have hal := hoj.len
  intro b17 w9 hnb17
  have hm9 := hnb17.mod none_
  have hb17 : b17 = w8.heap.size := hnb17.b
  refine Blk.setW hnb17.blk rfl rfl (fun v hv => ?_) ?_
  · simp only [stc, List.mem_cons, List.not_mem_nil, or_false] at hv
    rcases hv with rfl | rfl | rfl | rfl | rfl <;> rfl
  intro w10 hB10 hf10
  have hf810 : Frm none_ w8 w10 := hm9.b hf10 (by omega)
  have hF10 := trN hF8 hf810
  have hst10 := hst.modN hf810
  clear hst hnb17 hm9 hf10 hF8 hf810 hb17
  have again : ∀ (w' : World) (x5 x13 x14 x15 : Option Addr), St N nS nm W (j + 1) w' x5 x13 x14 x15 → Frm none_ W w' → ∃ n', n' < l.length - j ∧ ∃ j2 : Nat, IntKind.wrap .i64 ((j : Int) + (1 : Int)) = (j2 : Int) ∧ j2 ≤ l.length ∧ n' = l.length - j2 ∧ St N nS nm W j2 w' x5 x13 x14 x15 ∧ Frm none_ W w' := fun w' x5 x13 x14 x15 h h' => ⟨l.length - (j + 1), by omega, j + 1, by rw [wi _ (by omega)]; omega, by omega, rfl, h, h'⟩
  refine ⟨fun a b c e w' => St N nS nm W (j + 1) w' a b c e ∧ Frm none_ W w', ?_, ?_⟩
  rotate_left
  · -- behind a step: a disk that lives reads as the document
    rintro u y5 y13 y14 y15 w11 ⟨⟨f, f', lo, hi, d, hE, hlo, hwr, hc⟩, hF11⟩
    have hdk : DkQ (Rg lo hi) w11 y5 d := hc.elim (fun h => h.1.jr.dk) (fun h => h.dk)
    refine (dead_calls _ w11 y5 d hdk).mono ?_
    rintro _ _ ⟨rfl, rfl⟩
    refine ⟨_, rfl, ?_⟩
    rcases hc with ⟨hs, rfl⟩ | hg
    · rw [hs.live]
      refine IfB.t rfl ((reads_calls hs hE.d1 hE.row.has (by omega)).mono ?_)
      rintro _ w12 ⟨v, rfl, hv, hf12⟩
      have : v = true := hv.2 (fun _ _ _ => rfl)
      subst this
      exact ⟨true, rfl, IfB.f rfl (again _ _ _ _ _ ⟨_, _, lo, hi, d, hE.modN hf12, hlo, hwr, .inl ⟨hs.modN hf12, rfl⟩⟩ (trN hF11 hf12))⟩
    · rw [hg.dead]
      exact IfB.f rfl (again _ _ _ _ _ ⟨f, f', lo, hi, d, hE, hlo, hwr, .inr hg⟩ hF11)
  refine ⟨_, by rw [addr_add]; exact hB10.ld rfl, ?_⟩
  have hlr : a.bl.length ≤ 1000 := by omega
  obtain ⟨f, f', lo, hi, d, hE, hlo, hwr, hcase⟩ := hst10
  have hhi : hi ≤ w10.heap.size := hcase.elim (fun h => h.1.hi) (fun h => h.hi)
  have hdk : DkQ (Rg lo hi) w10 x5 d := hcase.elim (fun h => h.1.jr.dk) (fun h => h.dk)
  have hdl : d.bl.length = N := hcase.elim (fun h => h.1.len) (fun h => h.len)
  refine IfB.intro (fun hk0 => ?_) (fun hk0 => ?_)
  · -- Do
    refine ⟨_, hB10.ldA rfl, ?_⟩
    refine (group_calls w10 a.k a.fl a.n a.odd a.s a.bl (hoj.iv.mod hF10 (fun _ _ h => h)) hlr).mono ?_
    rintro _ w11 ⟨t1, t2, es1, es2, rfl, hT, hbl, hf11⟩
    refine ⟨t1, t2, rfl, ?_⟩
    have hz11 := hf11.size
    refine (writes_calls _ w11 x5 d (hdk.mod hf11 (fun _ _ h => h))).mono ?_
    rintro _ _ ⟨rfl, rfl⟩
    refine ⟨_, rfl, ?_⟩
    refine (dead_calls _ w11 x5 d (hdk.mod hf11 (fun _ _ h => h))).mono ?_
    rintro _ _ ⟨rfl, rfl⟩
    refine ⟨_, rfl, ?_⟩
    have hlen1 : es1.length = a.bl.length := by have := congrArg List.length hbl; simpa using this
    obtain ⟨ms, hms⟩ : ∃ ms, es1.map (·.1) = ms := ⟨_, rfl⟩
    have hms2 : es2.map (·.1) = ms := by rw [← hT.same, hms]
    have hml : ms.length = es1.length := by rw [← hms, List.length_map]
    have hbm : ∀ p ∈ ms, p.1 ∈ a.bl := by
      intro p hp
      rw [← hms] at hp
      obtain ⟨q, hq, rfl⟩ := List.mem_map.1 hp
      rw [← hbl]
      exact List.mem_map_of_mem (f := fun q : Wt × Sl => q.1.1) hq
    have hRlo : ∀ k, Rg lo hi k → k < w10.heap.size := rg_lt hhi
    have hcall : Calls prog 10 #[.pointer x13, .slice t1.a t1.l t1.c] w11 fun en w' => ∃ (d' : Dk) (r : Int), en = .returned (.int .i64 r) ∧ Frm (fun k => d.dead = false ∧ Rg lo hi k) w11 w' ∧
        ((d.dead = true ∧ r = 20) ∨ (d.dead = false ∧ f' = f ∧ DoLeaves N lo hi w' x13 x5 d d' f ms r ∧ d'.wr ≤ d.wr + 2 * ms.length + 2)) := by
      rcases hcase with ⟨hs, hff⟩ | hg
      · have hgr := hT.g1.grp
        rw [hms] at hgr
        refine ((hs.modN hf11).do hgr (fun k hk hr => by have := hRlo k hr; omega) (fun k hk => hk.2) (fun p hp => hoj.rng _ (hbm p hp)) (by omega)).mono ?_
        rintro _ w' ⟨d', r, rfl, h1, h2, h3, h4⟩
        exact ⟨d', r, rfl, h4.mono (fun k _ hk => ⟨hs.live, hk⟩), .inr ⟨hs.live, hff, h1, h2⟩⟩
      · obtain ⟨lo2, hi2, xo, dd, hj2, hh2, hd2⟩ := hg.dj
        refine (doDead_calls (hj2.mod hf11 (fun _ _ h => h)) hd2 t1).mono ?_
        rintro _ _ ⟨rfl, rfl⟩
        exact ⟨d, 20, rfl, Frm.refl _ _, .inl ⟨hg.dead, rfl⟩⟩
    refine hcall.mono ?_
    clear hcall
    rintro _ w14 ⟨d', r, rfl, hf14, hout⟩
    refine ⟨r, rfl, ?_⟩
    have hz14 := hf14.size
    have hT14 := hT.mod hf14 (fun k hk _ h => by have := hRlo k h.2; omega)
    have hap := hT14.apt
    have hl1 := hT14.g1.len
    have hl12 := hT14.len
    have hl2 := hT14.g2.len
    refine ⟨fun m i w' => ∃ k : Nat, i = (k : Int) ∧ k ≤ es1.length ∧ m = es1.length - k ∧ Ov w14 w10.heap.size t1 t2 es1 es2 k w', es1.length, ⟨0, rfl, by omega, by omega, hT14.ov⟩, ?_⟩
    rintro m u i w15 ⟨k, rfl, hk, rfl, hOv⟩
    refine IfB.intro (fun h1 => ?_) (fun h1 => ?_)
    · have h1 := of_decide_eq_true h1
      have hk' : k < es1.length := by omega
      have hk2 : k < es2.length := by omega
      have hsame : (es1[k]'hk').1 = (es2[k]'hk2).1 := by
        have := congrArg (fun z => z[k]?) hT14.same
        simpa [hk', hk2] using this
      have hOvd := hOv.modN (Frm.self (F := none_))
      have cell1 : ∀ w', Row w' t1 30 2 (es1.flatMap gdec) → ∃ p, t1.a = some p ∧ ∀ kk v, (gdec (es1[k]'hk'))[kk]? = some v → Ld w' ((p.add (((k : Nat) : Int).toNat * 2)).add kk) v := by
        intro w' hr
        have hL : HasL w' t1 2 gdec es1 := ⟨hr.has, hl1.symm, gdec_len⟩
        obtain ⟨p, q, e1, e2, _, e4, _⟩ := hL.at (by decide) (i := (k : Int)) (by omega) (by omega)
        rw [Int.toNat_natCast, List.getElem?_eq_getElem hk'] at e2
        have e := Option.some.inj e2
        subst e
        exact ⟨p, e1, e4⟩
      obtain ⟨p1, hp1, hc1⟩ := cell1 _ hOvd.row
      obtain ⟨p2, hp2, hc2, _⟩ := hOvd.g2.get hk2
      have hrow := hOvd.rest k hk' (Nat.le_refl _)
      have data1 := hrow.has
      have data2 := (hOvd.g2.dat _ (List.getElem_mem hk2)).1
      refine ⟨fun v w' => v = false ∧ w15.drew = w', ?_, ?_⟩
      · refine ⟨fun w' => w' = w15.drew, rfl, p1, hp1, by omega, by omega, (es1[k]'hk').1.1, fun w' hw' => by rw [hw']; exact hc1 0 _ rfl, p2, hp2, by omega, by omega, (es2[k]'hk2).1.1, fun w' hw' => by rw [hw', Int.toNat_natCast]; exact hc2 0 _ rfl, ?_⟩
        refine IfB.f (by rw [hsame]; exact bne_self_eq_false _) ⟨p1, hp1, by omega, by omega, (es1[k]'hk').2, fun w' hw' => by rw [hw']; exact hc1 1 _ rfl, p2, hp2, by omega, by omega, (es2[k]'hk2).2, fun w' hw' => by rw [hw', Int.toNat_natCast]; exact hc2 1 _ rfl, ?_, ?_⟩
        · refine runT_str un23 un5 un9 data1 ⟨rfl, runT_str un23 un5 un9 data2 ⟨rfl, ?_, rfl⟩⟩
          rw [str_toList, str_toList, hsame, beq_self_eq_true]; rfl
        · refine runT_str un23 un5 un9 data2 ⟨rfl, runT_str un23 un5 un9 data1 ⟨rfl, ?_, rfl⟩⟩
          rw [str_toList, str_toList, hsame, beq_self_eq_true]; rfl
      rintro u v _ ⟨rfl, rfl⟩
      refine IfB.f rfl ?_
      have hlm : (es1[k]'hk').2.l ≤ 9223372036854775807 := by
        rcases hrow.cases with ⟨e, _⟩ | ⟨_, _, _, _, e1, e2, _⟩
        · rw [e]; exact Nat.zero_le _
        · simp only [maxLen] at e2; omega
      refine ⟨fun m i w' => ∃ (c : Nat) (cs : List Value), i = (c : Int) ∧ c ≤ (es1[k]'hk').2.l ∧ m = (es1[k]'hk').2.l - c ∧ Ov w14 w10.heap.size t1 t2 es1 es2 (k + 1) w' ∧ Row w' (es1[k]'hk').2 5 1 cs, (es1[k]'hk').2.l, ⟨0, _, rfl, by omega, by omega, hOvd.next, hrow⟩, ?_⟩
      rintro m u i w16 ⟨c, cs, rfl, hc, rfl, hOv16, hrow16⟩
      obtain ⟨p3, hp3, hc3⟩ := cell1 _ hOv16.row
      have hcl := hrow16.len
      refine ⟨p3, hp3, by omega, by omega, (es1[k]'hk').2, hc3 1 _ rfl, IfB.intro (fun h2 => ?_) (fun h2 => ?_)⟩
      · have h2 := of_decide_eq_true h2
        obtain ⟨g, hg, hwr', hset⟩ := hrow16.wr (j := c) (by omega)
        have hgb : (es1[k]'hk').2.blk = some g := by simp [Sl.blk, hg]
        refine ⟨p3, hp3, by omega, by omega, (es1[k]'hk').2, hc3 1 _ rfl, ⟨g, 0, none⟩, hg, by omega, by omega, by rw [addr_add, Int.toNat_natCast, Nat.mul_one, Nat.zero_add]; exact hwr', ?_⟩
        rintro w17 rfl
        rw [addr_add, Int.toNat_natCast (n := c), Nat.mul_one, Nat.zero_add]
        exact ⟨(es1[k]'hk').2.l - (c + 1), by omega, c + 1, _, by rw [wi _ (by omega)]; omega, by omega, rfl, hOv16.turn hap hk' hgb (mod_setCell (a := ⟨g, c, none⟩)), hset _⟩
      · exact ⟨es1.length - (k + 1), by omega, k + 1, by rw [wi _ (by omega)]; omega, by omega, rfl, hOv16⟩
    · have hfD := hOv.fr
      have hz15 := hfD.size
      have hD1 : ∀ b, D1 es1 b → w10.heap.size ≤ b := by
        rintro b ⟨q, hq, hb⟩
        exact ((hT.g1.dat q hq).2 b hb).1
      have hF1015 : Frm (fun k => d.dead = false ∧ Rg lo hi k) w10 w15 := (hf11.trans hf14 (fun _ _ h => h.elim) (fun _ _ h => h)).trans hfD (fun _ _ h => h) (fun b hb h => by have := hD1 b h; omega)
      have hE15 := hE.mod hF1015 (fun _ _ h => h.2)
      have hF15 : Frm none_ W w15 := hF10.trans hF1015 (fun _ _ h => h) (fun b hb h => by have := h.2.1; omega)
      refine (doc_check hE15.d1 (by omega) hOv.g2 (by omega)).mono ?_
      rintro _ w16 ⟨rfl, hf16⟩
      rw [hms2]
      refine ⟨_, rfl, ?_⟩
      have hE16 := hE15.modN hf16
      have hF16 := trN hF15 hf16
      have hG16 := hOv.g2.mod hf16 (fun _ _ _ h => h)
      have hz16 := hf16.size
      have hz1015 := hF1015.size
      have behind : Calls prog 24 #[.pointer x14, .slice t2.a t2.l t2.c] w16 fun en w' => ∃ z', en = .returned (.pointer z') ∧ DocP N (Rg lo hi) w' z' (over ms f) ∧ Frm none_ w16 w' := by
        have := doc_behind hE16.d1 hG16 (by omega) (rg_lt (by omega))
        rw [hms2] at this; exact this
      rcases hout with ⟨hdd, rfl⟩ | ⟨hdd, hff, hdo, hw'⟩
      · rcases hcase with ⟨hs, _⟩ | hg
        · rw [hs.live] at hdd; cases hdd
        have hFn : Frm none_ w10 w16 := trN (hF1015.mono (fun k _ h => by have := h.1; rw [hdd] at this; cases this)) hf16
        have hg16 := hg.modN hFn
        refine IfB.t rfl ⟨fun v w' => v = false ∧ w16 = w', ?_, ?_⟩
        · refine (dead_calls _ w16 x5 d hg16.dk).mono ?_
          rintro _ _ ⟨rfl, rfl⟩
          refine ⟨_, rfl, ?_⟩
          rw [hdd]
          refine IfB.f rfl (IfB.f rfl (IfB.t rfl ((writes_calls _ w16 x5 d hg16.dk).mono ?_)))
          rintro _ _ ⟨rfl, rfl⟩
          exact ⟨_, rfl, bne_self_eq_false _, rfl⟩
        rintro u v _ ⟨rfl, rfl⟩
        refine IfB.f rfl ?_
        rw [hdd]
        exact IfB.f rfl ⟨⟨f, f', lo, hi, d, hE16, hlo, by omega, .inr hg16⟩, hF16⟩
      · obtain ⟨hs, _⟩ : Ses N lo hi w10 x13 x5 d f ∧ True := by
          rcases hcase with ⟨hs, _⟩ | hg
          · exact ⟨hs, trivial⟩
          · rw [hg.dead] at hdd; cases hdd
        have hff := hff.symm
        subst hff
        have hylt := hs.jr.ylt
        have no1 : ∀ b, Rg lo hi b → ¬ D1 es1 b := fun b hb h => by have := hD1 b h; have := hRlo b hb; omega
        have no2 : ∀ b, x13 = some ⟨b, 0, none⟩ → ¬ D1 es1 b := fun b hb h => by have := hD1 b h; have := hylt b hb; omega
        have stab : ∀ d2 g2, Ses N lo hi w14 x13 x5 d2 g2 → Ses N lo hi w16 x13 x5 d2 g2 := fun d2 g2 h => (h.modB hfD no1 no2).modN hf16
        rw [hdd]
        rcases hdo with ⟨hc, hr, hde, hs14⟩ | ⟨hc, rfl, hs14, h0, _⟩ | ⟨hc, rfl, hj14, hd14, hl14, _, _, _, hS⟩
        · have hs16 := stab _ _ hs14
          have hv := chk_vals N ms
          rw [hr]
          refine IfB.f (by rw [beq_eq_false_iff_ne]; omega) ⟨fun v w' => v = false ∧ w16 = w', ?_, ?_⟩
          · refine IfB.f rfl (IfB.f (bne_self_eq_false _) ((dead_calls _ w16 x5 d hs16.jr.dk).mono ?_))
            rintro _ _ ⟨rfl, rfl⟩
            exact ⟨_, rfl, hs16.live, rfl⟩
          rintro u v _ ⟨rfl, rfl⟩
          exact IfB.f rfl (IfB.f (by rw [beq_eq_false_iff_ne]; exact hc) ⟨⟨f, f, lo, hi, d, hE16, hlo, by omega, .inl ⟨hs16, rfl⟩⟩, hF16⟩)
        · have hs16 := stab _ _ hs14
          rw [hc]
          refine IfB.f rfl ⟨fun v w' => v = false ∧ w16 = w', ?_, ?_⟩
          · refine IfB.f rfl (IfB.f rfl ((dead_calls _ w16 x5 d' hs16.jr.dk).mono ?_))
            rintro _ _ ⟨rfl, rfl⟩
            exact ⟨_, rfl, hs16.live, rfl⟩
          rintro u v _ ⟨rfl, rfl⟩
          refine IfB.f rfl (IfB.t rfl ⟨fun v w' => v = false ∧ w16 = w', ?_, ?_⟩)
          · refine (writes_calls _ w16 x5 d' hs16.jr.dk).mono ?_
            rintro _ _ ⟨rfl, rfl⟩
            refine ⟨_, rfl, ?_⟩
            rw [wi ((d'.wr : Int) - (d.wr : Int)) (by omega), wi (2 * ((t2.l : Nat) : Int)) (by omega), wi (2 * ((t2.l : Nat) : Int) + 2) (by omega)]
            refine IfB.f (decide_eq_false (by omega)) (IfB.intro (fun h3 => ?_) (fun h3 => ⟨rfl, rfl⟩))
            have h3 := eq_of_beq h3
            refine (writes_calls _ w16 x5 d' hs16.jr.dk).mono ?_
            rintro _ _ ⟨rfl, rfl⟩
            have := h0 (by omega)
            exact ⟨_, rfl, by rw [this]; exact bne_self_eq_false _, rfl⟩
          rintro u v _ ⟨rfl, rfl⟩
          refine IfB.f rfl (behind.mono ?_)
          rintro _ w17 ⟨z', rfl, hD17, hf17⟩
          have hE17 := hE16.modN hf17
          exact ⟨z', rfl, ⟨over ms f, over ms f, lo, hi, d', ⟨hD17, hD17, hE17.row, hE17.rb⟩, hlo, by omega, .inl ⟨hs16.modN hf17, rfl⟩⟩, trN hF16 hf17⟩
        · have hj16 := (hj14.modB hfD no1 no2).mod hf16 (fun _ _ h => h)
          rw [hc]
          refine IfB.t rfl ⟨fun v w' => v = false ∧ w16 = w', ?_, ?_⟩
          · refine (dead_calls _ w16 x5 d' hj16.dk).mono ?_
            rintro _ _ ⟨rfl, rfl⟩
            refine ⟨_, rfl, ?_⟩
            rw [hd14]
            exact IfB.f rfl (IfB.t rfl (IfB.f rfl (IfB.f rfl ⟨rfl, rfl⟩)))
          rintro u v _ ⟨rfl, rfl⟩
          refine IfB.f rfl (IfB.t rfl (behind.mono ?_))
          rintro _ w17 ⟨z', rfl, hD17, hf17⟩
          have hE17 := hE16.modN hf17
          have hz17 := hf17.size
          have hj17 := hj16.mod hf17 (fun _ _ h => h)
          refine ⟨z', rfl, ⟨f, over ms f, lo, hi, d', ⟨hE17.d1, hD17, hE17.row, hE17.rb⟩, hlo, by omega, .inr ⟨hj17.dk, by omega, hd14, hl14, ?_, fun i hi' => over_not (fun p hp e => hi' (by rw [← e]; exact hnmj _ (hbm p hp))), lo, hi, x5, d', hj17, by omega, hd14⟩⟩, trN hF16 hf17⟩
          rcases hS with ⟨_, hS⟩ | ⟨_, hS⟩
          · exact ⟨f, .inl rfl, hS⟩
          · exact ⟨_, .inr rfl, hS⟩
  refine IfB.intro (fun hk1 => ?_) (fun hk1 => ?_)
  · -- Raw
    refine ⟨a.s, by rw [addr_add]; exact hB10.ld rfl, IfB.intro (fun h0 => ?_) (fun h0 => ?_)⟩
    · exact again _ _ _ _ _ ⟨f, f', lo, hi, d, hE, hlo, by omega, hcase⟩ hF10
    have h0 := ne_of_beq_false h0
    have hlc := hoj.lc
    refine ⟨fun w' => Blk w' b17 (stc a).toArray 51, hB10.drew, a.s, fun w' hw' => by rw [addr_add]; exact hw'.ld rfl, ⟨by decide, by omega⟩, a.fl, fun w' hw' => by rw [addr_add]; exact hw'.ld rfl, a.odd, fun w' hw' => by rw [addr_add]; exact hw'.ld rfl, _, b51 ⟨slA a.s.a 0 a.s.c 1, 1 - 0, a.s.c - 0⟩ a.fl a.odd, ?_⟩
    have hh := ((hoj.iv.mod hF10 (fun _ _ h => h)).drew).head 1 (a.s.c - 0) (by omega)
    have eiv : (iv a.bl).take (1 * 1) = iv (a.bl.take 1) := by simp [iv, List.map_take]
    rw [eiv] at hh
    rw [slA_zero]
    refine (group_calls w10.drew 0 a.fl 0 a.odd ⟨a.s.a, 1 - 0, a.s.c - 0⟩ (a.bl.take 1) hh (by rw [List.length_take]; omega)).mono ?_
    rintro _ w11 ⟨t1, t2, es1, es2, rfl, hT, hbl, hf11d⟩
    have hf11 : Frm none_ w10 w11 := hf11d.ofDrew
    have hT : Two w10.heap.size w11 t1 t2 es1 es2 := hT
    refine ⟨t1, t2, rfl, ?_⟩
    have hz11 := hf11.size
    refine (dead_calls _ w11 x5 d (hdk.mod hf11 (fun _ _ h => h))).mono ?_
    rintro _ _ ⟨rfl, rfl⟩
    refine ⟨_, rfl, ?_⟩
    have hl1 : es1.length = 1 := by
      have := congrArg List.length hbl
      rw [List.length_map, List.length_take] at this
      omega
    have hl12 := hT.len
    obtain ⟨q, rfl⟩ := List.length_eq_one_iff.1 hl1
    have hms2 : es2.map (·.1) = [q.1] := hT.same.symm
    have hqb : q.1.1 ∈ a.bl := by
      have h1 : q.1.1 ∈ a.bl.take 1 := by rw [← hbl]; simp
      exact List.mem_of_mem_take h1
    have hRlo : ∀ k, Rg lo hi k → k < w10.heap.size := rg_lt hhi
    have hg1d := hT.g1.mod (w' := w11.drew) (Frm.self (F := none_)) (fun _ _ _ h => h)
    obtain ⟨p1, hp1, hc1, _⟩ := hg1d.get (j := 0) (by simp)
    have hl1' := hg1d.len
    have hqd := hg1d.dat q (by simp)
    simp only [List.length_singleton] at hl1'
    refine ⟨fun w' => w' = w11.drew, rfl, p1, hp1, by decide, by omega, q.1.1, fun w' hw' => by rw [hw']; exact hc1 0 _ rfl, p1, hp1, by decide, by omega, q.2, fun w' hw' => by rw [hw']; exact hc1 1 _ rfl, ?_⟩
    have hcall : Calls prog 25 #[.pointer x13, .int .i64 q.1.1, .slice q.2.a q.2.l q.2.c] w11.drew fun en w' => ∃ (d' : Dk) (r : Int), en = .returned (.int .i64 r) ∧ Frm (fun k => d.dead = false ∧ Rg lo hi k) w11 w' ∧
        ((d.dead = true ∧ r = 20) ∨ (d.dead = false ∧ f' = f ∧ RawLeaves N lo hi w' x13 x5 d d' f q.1.1 q.1.2 r ∧ d'.wr ≤ d.wr + 1)) := by
      rcases hcase with ⟨hs, hff⟩ | hg
      · refine (((hs.modN hf11).modN (w' := w11.drew) Frm.self).raw (hoj.rng _ hqb) hqd.1 (fun k hk hr => by have := (hqd.2 k hk).1; have := hRlo k hr; omega) (by omega)).mono ?_
        rintro _ w' ⟨d', r, rfl, h1, h2, h3, h4⟩
        exact ⟨d', r, rfl, (h4.mono (fun k _ hk => ⟨hs.live, hk⟩)).ofDrew, .inr ⟨hs.live, hff, h1, h2⟩⟩
      · obtain ⟨lo2, hi2, xo, dd, hj2, hh2, hd2⟩ := hg.dj
        refine (rawDead_calls ((hj2.mod hf11 (fun _ _ h => h)).mod (w' := w11.drew) (Frm.self (F := none_)) (fun _ _ h => h)) hd2 q.1.1 q.2).mono ?_
        rintro _ _ ⟨rfl, rfl⟩
        exact ⟨d, 20, rfl, Frm.self, .inl ⟨hg.dead, rfl⟩⟩
    refine hcall.mono ?_
    clear hcall
    rintro _ w15 ⟨d', r, rfl, hf15, hout⟩
    refine ⟨r, rfl, ?_⟩
    have hz15 := hf15.size
    have hF1015 : Frm (fun k => d.dead = false ∧ Rg lo hi k) w10 w15 := hf11.trans hf15 (fun _ _ h => h.elim) (fun _ _ h => h)
    have hE15 := hE.mod hF1015 (fun _ _ h => h.2)
    have hF15 : Frm none_ W w15 := hF10.trans hF1015 (fun _ _ h => h) (fun b hb h => by have := h.2.1; omega)
    have hG15 := hT.g2.mod hf15 (fun k hk _ h => by have := hRlo k h.2; omega)
    refine (doc_check hE15.d1 (by omega) hG15 (by omega)).mono ?_
    rintro _ w16 ⟨rfl, hf16⟩
    rw [hms2]
    refine ⟨_, rfl, ?_⟩
    have hE16 := hE15.modN hf16
    have hF16 := trN hF15 hf16
    have hG16 := hG15.mod hf16 (fun _ _ _ h => h)
    have hz16 := hf16.size
    have behind : Calls prog 24 #[.pointer x14, .slice t2.a t2.l t2.c] w16 fun en w' => ∃ z', en = .returned (.pointer z') ∧ DocP N (Rg lo hi) w' z' (over [q.1] f) ∧ Frm none_ w16 w' := by
      have := doc_behind hE16.d1 hG16 (by omega) (rg_lt (by omega))
      rw [hms2] at this; exact this
    rcases hout with ⟨hdd, rfl⟩ | ⟨hdd, hff, hdo, hw'⟩
    · rcases hcase with ⟨hs, _⟩ | hg
      · rw [hs.live] at hdd; cases hdd
      have hFn : Frm none_ w10 w16 := trN (hF1015.mono (fun k _ h => by have := h.1; rw [hdd] at this; cases this)) hf16
      have hg16 := hg.modN hFn
      refine IfB.t rfl ((dead_calls _ w16 x5 d hg16.dk).mono ?_)
      rintro _ _ ⟨rfl, rfl⟩
      refine ⟨_, rfl, ?_⟩
      rw [hdd]
      exact IfB.f rfl ⟨⟨f, f', lo, hi, d, hE16, hlo, by omega, .inr hg16⟩, hF16⟩
    · have hff := hff.symm
      subst hff
      rw [hdd]
      rcases hdo with ⟨hc, hr, hde, hs15⟩ | ⟨hc, rfl, hs15, _⟩ | ⟨hc, rfl, hj15, hd15, hl15, hS, _⟩
      · have hs16 := hs15.modN hf16
        have hv := chk_vals N [q.1]
        have hc : chkD N [q.1] ≠ 0 := hc
        have hr : r = chkD N [q.1] := hr
        rw [hr]
        refine IfB.f (by rw [beq_eq_false_iff_ne]; omega) ⟨fun v w' => v = false ∧ w16 = w', ?_, ?_⟩
        · refine IfB.f rfl (IfB.f (bne_self_eq_false _) ((dead_calls _ w16 x5 d hs16.jr.dk).mono ?_))
          rintro _ _ ⟨rfl, rfl⟩
          exact ⟨_, rfl, hs16.live, rfl⟩
        rintro u v _ ⟨rfl, rfl⟩
        exact IfB.f rfl (IfB.f (by rw [beq_eq_false_iff_ne]; exact hc) ⟨⟨f, f, lo, hi, d, hE16, hlo, by omega, .inl ⟨hs16, rfl⟩⟩, hF16⟩)
      · have hs16 := hs15.modN hf16
        have hc : chkD N [q.1] = 0 := hc
        rw [hc]
        refine IfB.f rfl ⟨fun v w' => v = false ∧ w16 = w', ?_, ?_⟩
        · refine IfB.f rfl (IfB.f rfl ((dead_calls _ w16 x5 d' hs16.jr.dk).mono ?_))
          rintro _ _ ⟨rfl, rfl⟩
          exact ⟨_, rfl, hs16.live, rfl⟩
        rintro u v _ ⟨rfl, rfl⟩
        refine IfB.f rfl (IfB.t rfl (behind.mono ?_))
        rintro _ w17 ⟨z', rfl, hD17, hf17⟩
        have hE17 := hE16.modN hf17
        exact ⟨z', rfl, ⟨over [q.1] f, over [q.1] f, lo, hi, d', ⟨hD17, hD17, hE17.row, hE17.rb⟩, hlo, by omega, .inl ⟨hs16.modN hf17, rfl⟩⟩, trN hF16 hf17⟩
      · have hj16 := hj15.mod hf16 (fun _ _ h => h)
        refine IfB.t rfl ((dead_calls _ w16 x5 d' hj16.dk).mono ?_)
        rintro _ _ ⟨rfl, rfl⟩
        refine ⟨_, rfl, ?_⟩
        rw [hd15]
        exact IfB.f rfl ⟨⟨f, f, lo, hi, d', hE16, hlo, by omega, .inr ⟨hj16.dk, by omega, hd15, hl15, ⟨f, .inl rfl, hS⟩, fun _ _ => rfl, lo, hi, x5, d', hj16, by omega, hd15⟩⟩, hF16⟩
  refine IfB.intro (fun hk2 => ?_) (fun hk2 => ?_)
  · -- Cut
    refine ⟨_, by rw [addr_add]; exact hB10.ld rfl, IfB.intro (fun h1 => ?_) (fun h1 => ⟨⟨f, f', lo, hi, d, hE, hlo, by omega, hcase⟩, hF10⟩)⟩
    have h1 := of_decide_eq_true h1
    refine ⟨_, by rw [addr_add]; exact hB10.ld rfl, IfB.intro (fun h2 => ?_) (fun h2 => ⟨⟨f, f', lo, hi, d, hE, hlo, by omega, hcase⟩, hF10⟩)⟩
    have h2 := of_decide_eq_true h2
    refine ⟨_, by rw [addr_add]; exact hB10.ld rfl, ?_⟩
    rcases hcase with ⟨hs, rfl⟩ | hg
    · refine (hs.cut a.n h1 (by omega)).mono ?_
      rintro _ w11 ⟨rfl, hs11, hf11⟩
      exact ⟨0, rfl, ⟨_, _, lo, hi, _, hE.mod hf11 (fun _ _ h => h), hlo, by simp only; omega, .inl ⟨hs11, rfl⟩⟩, Frm.rg hF10 hf11 hlo⟩
    · refine (cutDead_calls hg.dk hg.dead a.n).mono ?_
      rintro _ _ ⟨rfl, rfl⟩
      exact ⟨20, rfl, ⟨f, f', lo, hi, d, hE, hlo, by omega, .inr hg⟩, hF10⟩
  · -- reopened, opened
    refine ⟨fun x' w' => ∃ lo' hi' d', DkQ (Rg lo' hi') w' x' d' ∧ hi' ≤ w'.heap.size ∧ W.heap.size ≤ lo' ∧ d'.dead = false ∧ d'.bl.length = N ∧ (∃ g, (g = f ∨ g = f') ∧ Stand d' g) ∧ d'.wr ≤ 900 * j ∧ Env N nS nm lo' hi' w' x14 x15 f f' ∧ (∀ i, i ∉ nm → f' i = f i) ∧ (Zero d' ∨ ∃ w9, DeadJ w9 x13 ∧ Frm (Rg lo' hi') w9 w' ∧ w9.heap.size ≤ lo') ∧ Frm none_ W w', ?_, ?_⟩
    · refine (dead_calls _ w10 x5 d hdk).mono ?_
      rintro _ _ ⟨rfl, rfl⟩
      refine ⟨_, rfl, ?_⟩
      rcases hcase with ⟨hs, hff⟩ | hg
      · rw [hs.live]
        exact IfB.f rfl ⟨lo, hi, d, hdk, hhi, hlo, hs.live, hdl, ⟨f, .inl rfl, hs.stand⟩, hwr, hE, fun i _ => by rw [hff], .inl hs.zero, hF10⟩
      rw [hg.dead]
      obtain ⟨lo2, hi2, xo, dd, hj2, hh2, hd2⟩ := hg.dj
      refine IfB.t rfl ((readDead_calls hj2 hd2 0).mono ?_)
      rintro _ _ ⟨rfl, rfl⟩
      refine ⟨⟨none, 0, 0⟩, 20, rfl, fun v w' => v = false ∧ Frm none_ w10 w', ?_, ?_⟩
      · refine IfB.f rfl ((full_i w10 1 (by decide) (by decide)).mono ?_)
        rintro _ w11 ⟨s1, rfl, _, _, _, hf11⟩
        refine ⟨s1, rfl, (rawDead_calls (hj2.mod hf11 (fun _ _ h => h)) hd2 0 s1).mono ?_⟩
        rintro _ _ ⟨rfl, rfl⟩
        refine ⟨20, rfl, IfB.f rfl ((doDead_calls (hj2.mod hf11 (fun _ _ h => h)) hd2 ⟨none, 0, 0⟩).mono ?_)⟩
        rintro _ _ ⟨rfl, rfl⟩
        exact ⟨20, rfl, rfl, hf11⟩
      rintro u v w11 ⟨rfl, hf11⟩
      have hg11 := hg.modN hf11
      refine IfB.f rfl ((reopenR_calls _ w11 x5 d hg11.dk hg.dead).mono ?_)
      rintro _ w12 ⟨x', rfl, hd12, hf12⟩
      refine ⟨x', 0, rfl, IfB.f rfl ?_⟩
      have hB12 := (hB10.mod hf11 (fun h => h)).mod hf12 (fun h => h)
      have hz11 := hf11.size
      have hz12 := hf12.size
      have hE12 := ((hE.modN hf11).region (lo' := w11.heap.size) (hi' := w12.heap.size) (fun k hk h => by have := h.1; omega)).modN hf12
      have hF12 := trN hF10 (trN hf11 hf12)
      have hzW := hF10.size
      have hst : ∃ g, (g = f ∨ g = f') ∧ Stand d g := hg.st
      obtain ⟨g, hgf, hS⟩ := hst
      refine ⟨fun v w' => w12 = w' ∧ (v = true → 0 < a.n ∧ a.n < 1000), ?_, ?_⟩
      · refine ⟨_, by rw [addr_add]; exact hB12.ld rfl, IfB.intro (fun h1 => ?_) (fun h1 => ⟨rfl, fun h => by cases h⟩)⟩
        have h1 := of_decide_eq_true h1
        exact ⟨_, by rw [addr_add]; exact hB12.ld rfl, rfl, fun h => ⟨h1, of_decide_eq_true h⟩⟩
      rintro u v _ ⟨rfl, hv⟩
      refine IfB.intro (fun h1 => ?_) (fun h1 => ?_)
      · have h1 := hv h1
        refine ⟨_, by rw [addr_add]; exact hB12.ld rfl, ?_⟩
        rw [wi (a.n - 1) (by omega)]
        refine (cut_calls _ w12 x' _ (a.n - 1) (by omega) hd12).mono ?_
        have e : cutD (a.n - 1) ⟨d.bl, 0, -1, false⟩ = (0, ⟨d.bl, 0, a.n - 1, false⟩) := by unfold cutD; simp only [Bool.false_eq_true, if_false]; rw [if_neg (by omega)]
        rw [e]
        rintro _ w13 ⟨rfl, hd13, hf13⟩
        have hz13 := hf13.size
        exact ⟨0, rfl, _, _, _, hd13, by omega, by omega, rfl, hdl, ⟨g, hgf, hS.bl rfl⟩, Nat.zero_le _, hE12.mod hf13 (fun _ _ h => h), hg.out, .inr ⟨w11, hg11.dj, hf12.trans hf13 (fun _ _ h => h.elim) (fun _ _ h => h), Nat.le_refl _⟩, Frm.rg hF12 hf13 (by omega)⟩
      · exact ⟨_, _, _, hd12, Nat.le_refl _, by omega, rfl, hdl, ⟨g, hgf, hS.bl rfl⟩, Nat.zero_le _, hE12, hg.out, .inr ⟨w11, hg11.dj, hf12.mono (fun _ _ h => h.elim), Nat.le_refl _⟩, hF12⟩
    clear hcase hdk hE hlo hwr hdl hhi
    rintro u x' w11 ⟨lo', hi', d', hd', hh', hlo', hl', hn', ⟨g, hgf, hS⟩, hw', hE', hout, hzd, hF11⟩
    refine (openR_calls hd' hh' hl' hn' hS (by omega)).mono ?_
    rintro _ w12 ⟨d2, hf12, hh12, hw12, hopen⟩
    have hE12 := hE'.mod hf12 (fun _ _ h => h)
    have hF12 := Frm.rg hF11 hf12 hlo'
    rcases hopen with ⟨y', rfl, hs12, _⟩ | ⟨rfl, hdk2, hd2, hl2, hS2, _, hnz⟩
    · refine ⟨y', 0, rfl, IfB.f rfl (IfB.f rfl ((dead_calls _ w12 x' d2 hs12.jr.dk).mono ?_))⟩
      rintro _ _ ⟨rfl, rfl⟩
      refine ⟨_, rfl, ?_⟩
      rw [hs12.live]
      refine IfB.f rfl ((reads_calls hs12 hE12.d1 hE12.row.has (by omega)).mono ?_)
      rintro _ w13 ⟨v, rfl, hv, hf13⟩
      have hE13 := hE12.modN hf13
      have hs13 := hs12.modN hf13
      refine ⟨v, rfl, IfB.intro (fun h1 => ?_) (fun h1 => ?_)⟩
      · have hag := hv.1 h1
        have heq : EqP N g f := by
          intro i hi'
          by_cases hin : i ∈ nm
          · exact hag i hin hi'
          · rcases hgf with e | e
            · rw [e]
            · rw [e]; exact hout i hin
        exact again _ _ _ _ _ ⟨f, f, lo', hi', d2, ⟨hE13.d1, hE13.d1, hE13.row, hE13.rb⟩, hlo', by omega, .inl ⟨hs13.congr heq, rfl⟩⟩ (trN hF12 hf13)
      · have hgf' : g = f' := by
          rcases hgf with e | e
          · exfalso
            have := hv.2 (fun i _ _ => by rw [e])
            rw [h1] at this
            cases this
          · exact e
        rw [hgf'] at hs13
        refine (reads_calls hs13 hE13.d2 hE13.row.has (by omega)).mono ?_
        rintro _ w14 ⟨v2, rfl, hv2, hf14⟩
        have h2 : v2 = true := hv2.2 (fun _ _ _ => rfl)
        have hE14 := hE13.modN hf14
        rw [h2]
        exact ⟨true, rfl, IfB.t rfl (again _ _ _ _ _ ⟨f', f', lo', hi', d2, ⟨hE14.d2, hE14.d2, hE14.row, hE14.rb⟩, hlo', by omega, .inl ⟨hs13.modN hf14, rfl⟩⟩ (trN (trN hF12 hf13) hf14))⟩
    · refine ⟨none, 20, rfl, IfB.t rfl ((dead_calls _ w12 x' d2 hdk2).mono ?_)⟩
      rintro _ _ ⟨rfl, rfl⟩
      refine ⟨_, rfl, ?_⟩
      rw [hd2]
      refine IfB.f rfl (again _ _ _ _ _ ⟨f, f', lo', hi', d2, hE12, hlo', by omega, .inr ⟨hdk2, hh12, hd2, hl2, ⟨g, hgf, hS2⟩, hout, ?_⟩⟩ hF12)
      rcases hzd with h1 | ⟨w9, h1, h2, h3⟩
      · exact absurd h1 hnz
      · exact h1.mod (frmTr h2 hf12) (fun k hk h => by have := h.1; omega)
theorem plays_law (W : World) (n : Int) (hn : -9223372036854775808 ≤ n ∧ n ≤ 9223372036854775807) (s : Sl) (l : List Stp) (hl : HasL W s 5 stc l ∧ (∀ a ∈ l, OkS W a)) :
    Calls prog 5 #[.int .i64 n, .slice s.a s.l s.c] W fun e w' => e = .returned (.bool true) ∧ Frm none_ W w' := plays_calls W n s l hl.1 hl.2
end Go.Proofs.Ytlbipbepeeopaaa
