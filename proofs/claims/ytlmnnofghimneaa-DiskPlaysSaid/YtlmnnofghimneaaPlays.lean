/- The law DiskPlays walked: it returns true, and turns nothing that was there. -/
import Derived.Test.YtlmnnofghimneaaP
set_option linter.unusedVariables false
set_option linter.unusedSimpArgs false
namespace Go.Proofs.Ytlmnnofghimneaa
open Go Go.Proofs.YtlmnnofghimneaaV
/-- The two disks, plainly. -/
structure Sim2 (d : Dk) (r : Rf) : Prop where
  n : r.n = d.bl.length
  bl : ∀ i : Nat, i < d.bl.length → d.bl[i]? = some (lastW r.L (i : Int))
  wr : r.L.length = d.wr + r.old
  cut : r.cut = d.cut
  dead : r.dead = d.dead
  each : ∀ a ∈ r.L, a.2.length = 256
theorem Sim2.write {d : Dk} {r : Rf} (h : Sim2 d r) (i : Int) (l : List UInt8) : (writeR i l r).1 = (writeD i l d).1 ∧ Sim2 (writeD i l d).2 (writeR i l r).2 := by
  obtain ⟨rn, ro, rcu, rL, rde⟩ := r
  have h0 := h
  obtain ⟨h1n, hbl, hwr, hcu, hde, hea⟩ := h
  simp only at h1n hwr hcu hde hea hbl
  subst h1n hcu hde
  unfold writeR writeD
  simp only
  by_cases h1 : d.dead = true
  · rw [if_pos h1, if_pos h1]; exact ⟨rfl, h0⟩
  rw [if_neg h1, if_neg h1]
  by_cases h2 : i < 0 ∨ i ≥ d.bl.length ∨ l.length ≠ 256
  · rw [if_pos h2, if_pos h2]; exact ⟨rfl, h0⟩
  rw [if_neg h2, if_neg h2]
  by_cases h3 : d.cut = 0
  · rw [if_pos h3, if_pos h3]; exact ⟨rfl, ⟨rfl, hbl, hwr, rfl, rfl, hea⟩⟩
  rw [if_neg h3, if_neg h3]
  obtain ⟨j, rfl⟩ := Int.eq_ofNat_of_zero_le (show 0 ≤ i by omega)
  refine ⟨rfl, ⟨by simp only [List.length_set], ?_, by simp only [List.length_append, List.length_singleton]; omega, rfl, rfl, ?_⟩⟩
  · intro k hk
    simp only [List.length_set] at hk
    simp only [Int.toNat_natCast, lastW_push]
    by_cases e : j = k
    · subst e; simp [hk]
    · rw [if_neg (by omega), List.getElem?_set_ne e]; exact hbl k hk
  · intro a ha
    simp only [List.mem_append, List.mem_singleton] at ha
    rcases ha with ha | rfl
    · exact hea a ha
    · simp only; omega
theorem Sim2.set {d : Dk} {r : Rf} (h : Sim2 d r) (n : Int) : (setR n r).1 = (cutD n d).1 ∧ Sim2 (cutD n d).2 (setR n r).2 := by
  obtain ⟨rn, ro, rcu, rL, rde⟩ := r
  have h0 := h
  obtain ⟨h1n, hbl, hwr, hcu, hde, hea⟩ := h
  simp only at h1n hwr hcu hde hea hbl
  subst h1n hcu hde
  unfold setR cutD
  simp only
  by_cases h1 : d.dead = true
  · rw [if_pos h1, if_pos h1]; exact ⟨rfl, h0⟩
  rw [if_neg h1, if_neg h1]
  by_cases h2 : n < 0
  · rw [if_pos h2, if_pos h2]; exact ⟨rfl, h0⟩
  rw [if_neg h2, if_neg h2]
  exact ⟨rfl, ⟨rfl, hbl, hwr, rfl, rfl, hea⟩⟩
def readD (d : Dk) (i : Int) : Int × List UInt8 := if d.dead then (20, []) else if i < 0 ∨ i ≥ d.bl.length then (1, []) else (0, d.bl[i.toNat]?.getD [])
theorem Sim2.read {d : Dk} {r : Rf} (h : Sim2 d r) (i : Int) : readR r i = readD d i := by
  unfold readR readD
  rw [h.dead, h.n]
  by_cases h1 : d.dead = true
  · rw [if_pos h1, if_pos h1]
  rw [if_neg h1, if_neg h1]
  by_cases h2 : i < 0 ∨ i ≥ d.bl.length
  · rw [if_pos h2, if_pos h2]
  rw [if_neg h2, if_neg h2]
  obtain ⟨j, rfl⟩ := Int.eq_ofNat_of_zero_le (show 0 ≤ i by omega)
  rw [Int.toNat_natCast, h.bl j (by omega)]; rfl
theorem read_all (G : Nat → Prop) (w : World) (x : Option Addr) (d : Dk) (i : Int) (h : DkQ G w x d) : Calls prog 14 #[.pointer x, .int .i64 i] w fun e w' =>
    ∃ t : Sl, e = .returned (.tuple #[.slice t.a t.l t.c, .int .i64 (readD d i).1]) ∧ Row w' t 60 1 (bv (readD d i).2) ∧ (∀ k, t.blk = some k → w.heap.size ≤ k) ∧ Frm none_ w w' := by
  by_cases h1 : d.dead = true
  · have e : readD d i = (20, []) := by unfold readD; rw [if_pos h1]
    rw [e]
    refine (read_dead G w x d i h h1).mono ?_
    rintro _ _ ⟨rfl, rfl⟩
    exact ⟨⟨none, 0, 0⟩, rfl, Row.nil _ _ _, by simp [Sl.blk], Frm.refl _ _⟩
  have h1' : d.dead = false := by simpa using h1
  by_cases h2 : i < 0 ∨ i ≥ d.bl.length
  · have e : readD d i = (1, []) := by unfold readD; rw [if_neg h1, if_pos h2]
    rw [e]
    refine (read_arg G w x d i h h1' h2).mono ?_
    rintro _ _ ⟨rfl, rfl⟩
    exact ⟨⟨none, 0, 0⟩, rfl, Row.nil _ _ _, by simp [Sl.blk], Frm.refl _ _⟩
  obtain ⟨j, rfl⟩ := Int.eq_ofNat_of_zero_le (show 0 ≤ i by omega)
  have hl256 : ∀ l ∈ d.bl, l.length = 256 := by obtain ⟨_, _, _, h⟩ := h; exact h.ok.len
  refine (read_calls G w x d j h h1' (by omega)).mono ?_
  rintro _ w' ⟨b, l, hl, rfl, hB, hb, f⟩
  have e : readD d (j : Int) = (0, l) := by unfold readD; rw [if_neg h1, if_neg h2, Int.toNat_natCast, hl]; rfl
  rw [e]
  have hll := hl256 l (List.mem_of_getElem? hl)
  refine ⟨⟨some ⟨b, 0, none⟩, 256, 256⟩, rfl, ?_, fun k hk => by simp [Sl.blk] at hk; omega, f⟩
  have hr := Row.mk (n := 256) (c := 256) (sz := 1) hB (Nat.le_refl _) (by decide) (by rw [List.size_toArray, bv_length, hll])
  have e2 : (bv l).toArray.toList.take (256 * 1) = bv l := by
    rw [List.toList_toArray]; exact List.take_of_length_le (by rw [bv_length, hll]; decide)
  rw [e2] at hr
  exact hr
/-- A step of a play. -/
structure Sp where
  k : Int
  n : Int
  s : ByteArray
  f : Bool
def spc (p : Sp) : List Value := [.int .i64 p.k, .int .i64 p.n, .string p.s, .bool p.f]
def OkSp (p : Sp) : Prop := (-9223372036854775808 ≤ p.n ∧ p.n ≤ 9223372036854775807) ∧ p.s.size ≤ 140737488351232
theorem stc_one (k n : Int) (s : ByteArray) (f : Bool) : ∀ u, u ∈ (stc k n s f).toList → u.oneCell' = true := by
  intro u hu
  simp only [List.mem_cons, List.not_mem_nil, or_false] at hu
  rcases hu with rfl | rfl | rfl | rfl <;> rfl
/-- The program's disk and the document's, apart. -/
structure Pl (w0 w : World) (x y : Option Addr) (d : Dk) (r : Rf) (G1 G2 : Nat → Prop) : Prop where
  d : DkQ G1 w x d
  r : RfQ G2 w y r
  ap : ∀ k, G1 k → ¬ G2 k
  l1 : ∀ k, G1 k → w0.heap.size ≤ k ∧ k < w.heap.size
  l2 : ∀ k, G2 k → w0.heap.size ≤ k
  f : Frm none_ w0 w
theorem Pl.fr {w0 w w' : World} {x y : Option Addr} {d : Dk} {r : Rf} {G1 G2 F : Nat → Prop} (h : Pl w0 w x y d r G1 G2) (f : Frm F w w') (hF : ∀ k, F k → ¬ G1 k ∧ ¬ G2 k ∧ w0.heap.size ≤ k) : Pl w0 w' x y d r G1 G2 := by
  have z := f.size; have z0 := h.f.size
  exact ⟨h.d.mod f (fun k hk hF' => (hF k hF').1 hk), h.r.mod f (fun k hk hF' => (hF k hF').2.1 hk), h.ap, fun k hk => by have := h.l1 k hk; omega, h.l2, h.f.trans f (fun _ _ h => h) (fun k hk hF' => by have := (hF k hF').2.2; omega)⟩
theorem Pl.fn {w0 w w' : World} {x y : Option Addr} {d : Dk} {r : Rf} {G1 G2 : Nat → Prop} (h : Pl w0 w x y d r G1 G2) (f : Frm none_ w w') : Pl w0 w' x y d r G1 G2 := h.fr f (fun _ h => h.elim)
theorem Pl.step1 {w0 w w' : World} {x y : Option Addr} {d d' : Dk} {r : Rf} {G1 G2 : Nat → Prop} (h : Pl w0 w x y d r G1 G2) (h' : DkQ G1 w' x d') (f : Frm G1 w w') : Pl w0 w' x y d' r G1 G2 := by
  have z := f.size; have z0 := h.f.size
  exact ⟨h', h.r.mod f (fun k hk hk1 => h.ap k hk1 hk), h.ap, fun k hk => by have := h.l1 k hk; omega, h.l2, h.f.trans f (fun _ _ h => h) (fun k hk hk1 => by have := h.l1 k hk1; omega)⟩
theorem Pl.step2 {w0 w w' : World} {x y : Option Addr} {d : Dk} {r r' : Rf} {G1 G2 G2' : Nat → Prop} (h : Pl w0 w x y d r G1 G2) (h' : RfQ G2' w' y r') (hg : ∀ k, G2' k → G2 k ∨ w.heap.size ≤ k) (f : Frm G2 w w') : Pl w0 w' x y d r' G1 G2' := by
  have z := f.size; have z0 := h.f.size
  refine ⟨h.d.mod f (fun k hk hk1 => h.ap k hk hk1), h', ?_, fun k hk => by have := h.l1 k hk; omega, ?_, h.f.trans f (fun _ _ h => h) (fun k hk hk1 => by have := h.l2 k hk1; omega)⟩
  · intro k hk hk2
    rcases hg k hk2 with h1 | h1
    · exact h.ap k hk h1
    · have := (h.l1 k hk).2; omega
  · intro k hk
    rcases hg k hk with h1 | h1
    · exact h.l2 k h1
    · omega
theorem zero_row {t : Sl} {w : World} (hr : Row w t 5 1 (madeCells (Value.int IntKind.u8 0).cells ((256 : Int).toNat * 1)).toList) : Row w t 5 1 (bv zeroB) := by
  have hz : (madeCells (Value.int IntKind.u8 0).cells ((256 : Int).toNat * 1)).toList = bv zeroB := by
    rw [made_const (v := .int .u8 0) (by intro i hi; simp [Value.cells] at hi; subst hi; rfl) (by simp [Value.cells])]
    rw [zeroB, bv_rep]; rfl
  rwa [hz] at hr
theorem writeD_wr (i : Int) (l : List UInt8) (d : Dk) : (writeD i l d).2.wr ≤ d.wr + 1 := by
  unfold writeD; split
  · simp
  · split
    · simp
    · split <;> simp
theorem writeR_L (i : Int) (l : List UInt8) (r : Rf) : (writeR i l r).2.L.length ≤ r.L.length + 1 := by
  unfold writeR; split
  · simp
  · split
    · simp
    · split <;> simp
theorem cutD_wr (n : Int) (d : Dk) : (cutD n d).2.wr = d.wr := by unfold cutD; split; rfl; split <;> rfl
theorem setR_L (n : Int) (r : Rf) : (setR n r).2.L = r.L := by unfold setR; split; rfl; split <;> rfl
set_option maxRecDepth 20000 in
theorem plays_calls (w : World) (n : Int) (s : Sl) (l : List Sp) (hl : HasL w s 4 spc l) (hok : ∀ a ∈ l, OkSp a) : Calls prog 6 #[.int .i64 n, .slice s.a s.l s.c] w fun e w' => e = .returned (.bool true) ∧ Frm none_ w w' := by
  refine calls_ret (W6 (Q := fun v w' => v = .bool true ∧ Frm none_ w w') ?_) (fun v w' ⟨h, h'⟩ => ⟨by rw [h], h'⟩)
  unfold F6
  refine IfB.intro (fun _ => ⟨rfl, Frm.refl _ _⟩) (fun hc => ?_)
  have hsm := of_decide_eq_false hc
  by_cases hn : n < 512 ∨ n > 32768
  · refine (new_no w n hn).mono ?_
    rintro _ _ ⟨rfl, rfl⟩
    refine ⟨_, _, rfl, (rnew_no w n hn).mono ?_⟩
    rintro _ _ ⟨rfl, rfl⟩
    refine ⟨_, _, rfl, fun b w' => b = true ∧ w' = w, IfB.f rfl ⟨rfl, rfl⟩, ?_⟩
    rintro u b w1 ⟨rfl, rfl⟩
    exact IfB.t rfl (IfB.t rfl ⟨_, nil_eql _, rfl, Frm.refl _ _⟩)
  obtain ⟨m, rfl⟩ := Int.eq_ofNat_of_zero_le (show 0 ≤ n by omega)
  refine (new_calls w (m : Int) (by omega) (by omega)).mono ?_
  rintro _ w1 ⟨bx, G1, rfl, hd0, hg1, f1⟩
  refine ⟨_, _, rfl, (rnew_calls w1 m (by omega) (by omega)).mono ?_⟩
  rintro _ w2 ⟨by_, G2, rfl, hr0, hg2, f2⟩
  have z1 := f1.size
  have hP0 : Pl w w2 (some ⟨bx, 0, none⟩) (some ⟨by_, 0, none⟩) ⟨List.replicate (m : Int).toNat zeroB, 0, -1, false⟩ ⟨m, 0, -1, [], false⟩ G1 G2 :=
    ⟨hd0.mod f2 (fun _ _ h => h), hr0, fun k hk hk2 => by have := (hg1 k hk).2; have := hg2 k hk2; omega, fun k hk => by have := hg1 k hk; have := f2.size; omega, fun k hk => by have := hg2 k hk; omega, trN f1 f2⟩
  have hS0 : Sim2 ⟨List.replicate (m : Int).toNat zeroB, 0, -1, false⟩ ⟨m, 0, -1, [], false⟩ := by
    refine ⟨by simp only [List.length_replicate, Int.toNat_natCast], ?_, rfl, rfl, rfl, by simp⟩
    intro i hi
    simp only [List.length_replicate] at hi
    simp only [List.getElem?_replicate, if_pos hi]; rfl
  refine ⟨_, _, rfl, fun b w' => b = false ∧ w' = w2, IfB.f rfl ⟨rfl, rfl⟩, ?_⟩
  rintro u b w2' ⟨rfl, rfl⟩
  refine IfB.f rfl ⟨fun N x y i w' => ∃ (j : Nat) (d : Dk) (r : Rf) (G1 G2 : Nat → Prop), i = (j : Int) ∧ j ≤ s.l ∧ N = s.l - j ∧ Pl w w' x y d r G1 G2 ∧ Sim2 d r ∧ d.wr ≤ j ∧ r.L.length ≤ j, s.l, ⟨0, _, _, G1, G2, rfl, Nat.zero_le _, by omega, hP0, hS0, by simp, by simp⟩, ?_⟩
  clear hP0 hS0 hg1 hg2 hd0 hr0 f1 f2 z1 G1 G2
  rintro N u x y i w3 ⟨j, d, r, G1, G2, rfl, hj, rfl, hP, hS, hwr, hrl⟩
  refine IfB.intro (fun hc => ?_) (fun hc => ⟨rfl, hP.f⟩)
  have hlt := of_decide_eq_true hc
  obtain ⟨p, a, hp, ha, ham, _, hla⟩ := (hl.mod hP.f (fun _ _ h => h)).at (by omega) (i := (j : Int)) (by omega) (by omega)
  obtain ⟨hrng, hsz⟩ := hok a ham
  refine ⟨p, hp, by omega, by omega, stc a.k a.n a.s a.f, hla, ?_⟩
  intro b10 w4 hn4
  have e4 := hn4.b; have z4 := hn4.size
  refine Blk.setW hn4.blk rfl rfl (stc_one _ _ _ _) ?_
  intro w5 B5 f5
  have f35 : Frm none_ w3 w5 := (hn4.mod none_).b f5 (by omega)
  have hP5 := hP.fn f35
  have z5 := f5.size
  have hb1 : ¬ G1 b10 := fun h => by have := (hP.l1 _ h).2; omega
  have hb2 : ¬ G2 b10 := fun h => by have := hP.r.lt _ h; omega
  have hbl := B5.lt
  have hk0 : ∀ {w' : World}, Blk w' b10 (stc a.k a.n a.s a.f) 46 → Ld w' ((⟨b10, 0, none⟩ : Addr).add 0) (.int .i64 a.k) := fun h => by rw [addr_add]; exact h.ld rfl
  have hk1 : ∀ {w' : World}, Blk w' b10 (stc a.k a.n a.s a.f) 46 → Ld w' ((⟨b10, 0, none⟩ : Addr).add 1) (.int .i64 a.n) := fun h => by rw [addr_add]; exact h.ld rfl
  refine ⟨fun x' y' w' => ∃ (d : Dk) (r : Rf) (G1 G2 : Nat → Prop), Pl w w' x' y' d r G1 G2 ∧ Sim2 d r ∧ d.wr ≤ j + 1 ∧ r.L.length ≤ j + 1 ∧ Blk w' b10 (stc a.k a.n a.s a.f) 46, ?_, ?_⟩
  · refine ⟨a.k, hk0 B5, IfB.intro (fun _ => ?_) (fun _ => IfB.intro (fun _ => ?_) (fun _ => IfB.intro (fun _ => ?_) (fun _ => IfB.intro (fun _ => ?_) (fun _ => ?_))))⟩
    · -- a write
      refine ⟨_, B5.ldA rfl, (bytes_calls w5 a.k a.n a.s a.f hsz).mono ?_⟩
      rintro _ w6 ⟨t, rfl, hrt, hbt, f6⟩
      have hP6 := hP5.fn f6
      have B6 := B5.mod f6 (fun h => h)
      have z6 := f6.size
      have ht1 : ∀ k, t.blk = some k → ¬ G1 k := fun k hk h => by have := (hP5.l1 _ h).2; have := hbt k hk; omega
      have ht2 : ∀ k, t.blk = some k → ¬ G2 k := fun k hk h => by have := hP5.r.lt _ h; have := hbt k hk; omega
      refine ⟨t, rfl, _, hk1 B6, (rwrite_calls G2 w6 y r a.n t _ hP6.r hrt.has ht2 (by omega)).mono ?_⟩
      rintro _ w7 ⟨rfl, G2', hr7, hg7, f7⟩
      have hP7 := hP6.step2 hr7 hg7 f7
      have B7 := B6.mod f7 hb2
      have hrt7 := hrt.mod f7 ht2
      have hSw := hS.write a.n (fillB a.f a.s.data.toList)
      have ht2' : ∀ k, t.blk = some k → ¬ G2' k := fun k hk h => by
        rcases hg7 k h with h1 | h1
        · exact ht2 k hk h1
        · have := hrt.lt k hk; omega
      refine ⟨_, rfl, _, hk1 B7, (write_calls G1 w7 x d a.n t _ hrng hrt7.has ht1 hP7.d (by omega)).mono ?_⟩
      rintro _ w8 ⟨rfl, hd8, f8⟩
      have hP8 := hP7.step1 hd8 f8
      have B8 := B7.mod f8 hb1
      have hrt8 := hrt7.mod f8 ht1
      have z7 := f7.size; have z8 := f8.size
      have htl : t.l ≤ 140737488351232 + 256 := by
        have := hrt.len
        rw [bv_length] at this
        have h1 : (fillB a.f a.s.data.toList).length ≤ a.s.size + 256 := by
          have e : a.s.data.toList.length = a.s.size := Array.length_toList
          unfold fillB; split
          · rw [List.length_append, List.length_replicate]; omega
          · omega
        omega
      refine ⟨_, rfl, IfB.f (by rw [hSw.1]; simp) ?_⟩
      refine ⟨fun N i w' => ∃ (k : Nat), i = (k : Int) ∧ k ≤ t.l ∧ N = t.l - k ∧ (∃ cs, RowG w' t 5 1 cs ∧ ∀ v ∈ cs, ∃ n, v = Value.int .u8 n) ∧ Blk w' b10 (stc a.k a.n a.s a.f) 46 ∧ Pl w w' x y (writeD a.n (fillB a.f a.s.data.toList) d).2 (writeR a.n (fillB a.f a.s.data.toList) r).2 G1 G2', t.l, ⟨0, rfl, Nat.zero_le _, by omega, ⟨_, hrt8, ?_⟩, B8, hP8⟩, ?_⟩
      · intro v hv
        simp only [bv, List.mem_map] at hv
        obtain ⟨c, _, rfl⟩ := hv
        exact ⟨_, rfl⟩
      rintro N u x13 w9 ⟨k, rfl, hk, rfl, ⟨cs, hrc, hcs⟩, B9, hP9⟩
      refine IfB.intro (fun hc => ?_) (fun hc => ?_)
      · have hlt := of_decide_eq_true hc
        have hcl := hrc.len
        obtain ⟨q, v, hq, hv, hld⟩ := hrc.has.at1 (i := (k : Int)) (by omega) (by omega)
        obtain ⟨c, rfl⟩ := hcs v (List.mem_of_getElem? hv)
        obtain ⟨g, hg, hwr', hset⟩ := hrc.wr (j := k) (by omega)
        have ead : (⟨g, 0, none⟩ : Addr).add ((k : Int).toNat * 1) = ⟨g, k, none⟩ := by rw [addr_add]; simp
        have htg : t.blk = some g := by simp [Sl.blk, hg]
        refine ⟨q, hq, by omega, by omega, c, hld, _, hg, by omega, by omega, by rw [ead]; exact hwr', ?_⟩
        rintro w10 rfl
        rw [ead]
        have f10 : Frm (fun k => k = g) w9 (w9.setCell ⟨g, k, none⟩ (.int .u8 (IntKind.wrap .u8 (c + 1)))) := mod_setCell (a := ⟨g, k, none⟩)
        refine ⟨t.l - (k + 1), by omega, k + 1, by rw [wi _ (by omega)]; omega, by omega, rfl, ⟨_, hset _, ?_⟩, B9.mod f10 (fun e => ?_), hP9.fr f10 (fun k' hk' => ?_)⟩
        · intro v hv
          rcases List.mem_or_eq_of_mem_set hv with h | h
          · exact hcs v h
          · exact ⟨_, h⟩
        · have := hbt g htg; omega
        · have hk' : k' = g := hk'
          subst hk'
          exact ⟨ht1 _ htg, ht2' _ htg, by have := hbt _ htg; have := hP5.f.size; omega⟩
      · exact ⟨_, _, G1, G2', hP9, hSw.2, by have := writeD_wr a.n (fillB a.f a.s.data.toList) d; omega, by have := writeR_L a.n (fillB a.f a.s.data.toList) r; omega, B9⟩
    · -- a cut
      have fd : Frm none_ w5 w5.drew := (Frm.refl _ _).drew
      have hPd := hP5.fn fd
      refine ⟨fun w' => Blk w' b10 (stc a.k a.n a.s a.f) 46, B5.mod fd (fun h => h), _, fun w' h => hk1 h, _, fun w' h => hk1 h, (cut_calls G1 w5.drew x d a.n hrng.2 hPd.d).mono ?_⟩
      rintro _ w6 ⟨rfl, hd6, f6⟩
      have hP6 := hPd.step1 hd6 f6
      have B6 := (B5.mod fd (fun h => h)).mod f6 hb1
      refine ⟨_, rfl, B6, (rset_calls G2 w6 y r a.n hrng.2 hP6.r).mono ?_⟩
      rintro _ w7 ⟨rfl, hr7, f7⟩
      have hP7 := hP6.step2 hr7 (fun k hk => .inl hk) f7
      have hSw := hS.set a.n
      exact ⟨_, rfl, IfB.f (by rw [hSw.1]; simp) ⟨_, _, G1, G2, hP7, hSw.2, by rw [cutD_wr]; omega, by rw [setR_L]; omega, B6.mod f7 hb2⟩⟩
    · -- opened again
      by_cases hdd : d.dead = true
      · have hrd : r.dead = true := by rw [hS.dead]; exact hdd
        refine (reopen_calls G1 w5 x d hP5.d hdd).mono ?_
        rintro _ w6 ⟨b6, Gn, rfl, hd6, hg6, f6⟩
        have hP6 := hP5.fn f6
        refine ⟨_, _, rfl, (rreopen_calls G2 w6 y r hP6.r hrd).mono ?_⟩
        rintro _ w7 ⟨b7, Gm, rfl, hr7, hg7, f7⟩
        have hP7 := hP6.fn f7
        have z6 := f6.size; have z7 := f7.size
        refine ⟨_, _, rfl, fun c w' => c = false ∧ w' = w7, ?_, ?_⟩
        · exact IfB.f rfl ⟨_, some_eql _ _, _, bool_neq _ _ _ _, rfl, rfl⟩
        rintro u2 c w7' ⟨rfl, rfl⟩
        refine IfB.f rfl (IfB.t rfl ((read_dead G1 w7' x d 0 hP7.d hdd).mono ?_))
        rintro _ _ ⟨rfl, rfl⟩
        refine ⟨⟨none, 0, 0⟩, _, rfl, IfB.f rfl ⟨_, _, Gn, Gm, ⟨hd6.mod f7 (fun _ _ h => h), hr7, fun k hk hk2 => by have := (hg6 k hk).2; have := hg7 k hk2; omega, fun k hk => by have := hg6 k hk; have := hP5.f.size; omega, fun k hk => by have := hg7 k hk; have := hP6.f.size; omega, hP7.f⟩, ⟨hS.n, hS.bl, by simp, rfl, rfl, hS.each⟩, by simp, by simp only; omega, (B5.mod f6 (fun h => h)).mod f7 (fun h => h)⟩⟩
      · have hdf : d.dead = false := by simpa using hdd
        have hrd : r.dead = false := by rw [hS.dead]; exact hdf
        refine (reopen_no G1 w5 x d hP5.d hdf).mono ?_
        rintro _ _ ⟨rfl, rfl⟩
        refine ⟨_, _, rfl, (rreopen_no G2 w5 y r hP5.r hrd).mono ?_⟩
        rintro _ _ ⟨rfl, rfl⟩
        refine ⟨_, _, rfl, fun c w' => c = false ∧ w' = w5, ?_, ?_⟩
        · exact IfB.f rfl ⟨_, nil_eql _, _, bool_neq _ _ _ _, rfl, rfl⟩
        rintro u2 c w5' ⟨rfl, rfl⟩
        exact IfB.f rfl (IfB.f rfl ⟨d, r, G1, G2, hP5, hS, by omega, by omega, B5⟩)
    · -- it goes on as its copy
      refine (copy_calls G1 w5 x d hP5.d).mono ?_
      rintro _ w6 ⟨b6, Gn, rfl, hd6, hg6, f6⟩
      have hP6 := hP5.fn f6
      have z6 := f6.size
      have hn1 : ∀ k, Gn k → ¬ G1 k := fun k hk h => by have := (hP5.l1 _ h).2; have := hg6 k hk; omega
      have hn2 : ∀ k, Gn k → ¬ G2 k := fun k hk h => by have := hP5.r.lt _ h; have := hg6 k hk; omega
      refine ⟨_, rfl, runT_makeN st31 (by omega) (by omega) (by omega) ?_⟩
      intro t w7 hr7 hl7 hc7 ha7 f7 z7
      have hr7 := zero_row hr7
      have htb7 : ∀ k, t.blk = some k → k = w6.heap.size := fun k hk => by simp [Sl.blk, ha7] at hk; exact hk.symm
      refine (write_calls G1 w7 x d 0 t _ (by decide) hr7.has (fun k hk h => by have := (hP6.l1 _ h).2; have := htb7 k hk; omega) (hP6.fn f7).d (by omega)).mono ?_
      rintro _ w8 ⟨rfl, hd8, f8⟩
      have hP8 := (hP6.fn f7).step1 hd8 f8
      refine ⟨_, rfl, (cut_calls G1 w8 x _ 0 (by decide) hd8).mono ?_⟩
      rintro _ w9 ⟨rfl, hd9, f9⟩
      have hP9 := hP8.step1 hd9 f9
      refine ⟨_, rfl, runT_makeN st31 (by omega) (by omega) (by omega) ?_⟩
      intro t' w10 hr10 hl10 hc10 ha10 f10 z10
      have hr10 := zero_row hr10
      have htb10 : ∀ k, t'.blk = some k → k = w9.heap.size := fun k hk => by simp [Sl.blk, ha10] at hk; exact hk.symm
      have hP10 := hP9.fn f10
      refine (write_calls G1 w10 x _ 1 t' _ (by decide) hr10.has (fun k hk h => by have := (hP9.l1 _ h).2; have := htb10 k hk; omega) hP10.d (by rw [cutD_wr]; have := writeD_wr 0 zeroB d; omega)).mono ?_
      rintro _ w11 ⟨rfl, hd11, f11⟩
      have hP11 := hP10.step1 hd11 f11
      have keep : ∀ {P : World → Prop}, P w6 → (∀ a b, P a → Frm none_ a b → P b) → (∀ a b, P a → Frm G1 a b → P b) → P w11 := fun h0 hn hG => hG _ _ (hn _ _ (hG _ _ (hG _ _ (hn _ _ h0 f7) f8) f9) f10) f11
      have hd6' : DkQ Gn w11 (some ⟨b6, 0, none⟩) d := keep (P := fun w' => DkQ Gn w' (some ⟨b6, 0, none⟩) d) hd6 (fun a b h f => h.mod f (fun _ _ h => h)) (fun a b h f => h.mod f hn1)
      have B11 : Blk w11 b10 (stc a.k a.n a.s a.f) 46 := keep (P := fun w' => Blk w' b10 (stc a.k a.n a.s a.f) 46) (B5.mod f6 (fun h => h)) (fun a b h f => h.mod f (fun h => h)) (fun a b h f => h.mod f hb1)
      have z611 : w6.heap.size ≤ w11.heap.size := keep (P := fun w' => w6.heap.size ≤ w'.heap.size) (Nat.le_refl _) (fun a b h f => Nat.le_trans h f.size) (fun a b h f => Nat.le_trans h f.size)
      refine ⟨_, rfl, (rcopy_calls G2 w11 y r hP11.r).mono ?_⟩
      rintro _ w12 ⟨b12, Gm, rfl, hr12, hg12, f12⟩
      have z12 := f12.size
      refine ⟨_, rfl, d, r, Gn, Gm, ⟨hd6'.mod f12 (fun _ _ h => h), hr12, fun k hk hk2 => by have := (hg6 k hk).2; have := hg12 k hk2; omega, fun k hk => by have := hg6 k hk; have := hP5.f.size; omega, fun k hk => by have := hg12 k hk; have := hP11.f.size; omega, trN hP11.f f12⟩, hS, by omega, by omega, B11.mod f12 (fun h => h)⟩
    · exact ⟨d, r, G1, G2, hP5, hS, by omega, by omega, B5⟩
  clear hb1 hb2 hP5 hP hS hwr hrl hbl B5
  rintro u2 x' y' w6 ⟨d, r, G1, G2, hP, hS, hwr, hrl, B6⟩
  refine ⟨_, hk1 B6, (read_all G1 w6 x' d a.n hP.d).mono ?_⟩
  rintro _ w7 ⟨t, rfl, ht, hbt, f7⟩
  have hP7 := hP.fn f7
  have B7 := B6.mod f7 (fun h => h)
  refine ⟨t, _, rfl, _, hk1 B7, (rread_calls G2 w7 y' r a.n hP7.r hS.each).mono ?_⟩
  rintro _ w8 ⟨q, rfl, hq, hbq, f8⟩
  have hP8 := hP7.fn f8
  have B8 := B7.mod f8 (fun h => h)
  have ht8 := ht.mod f8 (fun _ _ h => h)
  rw [hS.read] at hq ⊢
  have z7 := f7.size; have z8 := f8.size
  refine ⟨q, _, rfl, fun c w' => c = false ∧ Frm none_ w8 w', ?_, ?_⟩
  · have fd : Frm none_ w8 w8.drew := (Frm.refl _ _).drew
    refine ⟨fun w' => Frm none_ w8 w', fd, IfB.f (by simp) ((alike_calls w8.drew t q _ _ (ht8.mod fd (fun _ _ h => h)).has (hq.mod fd (fun _ _ h => h))).mono ?_)⟩
    rintro _ _ ⟨c, rfl, hc, rfl⟩
    obtain rfl := hc rfl
    have hPd := hP8.fn fd
    obtain ⟨by_, sy, ey, hy⟩ := hP8.r
    have hys := hy.len
    have hsw := hS.wr
    refine ⟨_, rfl, fun w' => Frm none_ w8 w', fun _ h => h, fd, IfB.f rfl ⟨_, ey, (r.n : Int), fun w' f => by rw [addr_add]; exact (hy.blk.mod f (fun h => h)).ld rfl, (len_calls G1 w8.drew x' d hPd.d).mono ?_⟩⟩
    rintro _ _ ⟨rfl, rfl⟩
    refine ⟨_, rfl, fun w' => Frm none_ w8 w', fun _ h => h, fd, IfB.f (by rw [hS.n]; simp) ⟨_, ey, sy, fun w' f => by rw [addr_add]; exact (hy.blk.mod f (fun h => h)).ld rfl, _, ey, (r.old : Int), fun w' f => by rw [addr_add]; exact (hy.blk.mod f (fun h => h)).ld rfl, (writes_calls G1 w8.drew x' d hPd.d).mono ?_⟩⟩
    rintro _ _ ⟨rfl, rfl⟩
    refine ⟨_, rfl, fun w' => Frm none_ w8 w', fun _ h => h, fd, IfB.f (by rw [wi _ (by have := hy.sm; omega), bne_eq_false_iff_eq]; omega) ⟨_, ey, r.dead, fun w' f => by rw [addr_add]; exact (hy.blk.mod f (fun h => h)).ld rfl, (dead_calls G1 w8.drew x' d hPd.d).mono ?_⟩⟩
    rintro _ _ ⟨rfl, rfl⟩
    exact ⟨_, rfl, fd, _, bool_neq _ _ _ _, by rw [hS.dead]; simp, fd⟩
  rintro u3 c w9 ⟨rfl, f9⟩
  have hP9 := hP8.fn f9
  have B9 := B8.mod f9 (fun h => h)
  have htl : t.l ≤ 256 := by
    have h1 := ht.len
    rw [bv_length] at h1
    have h2 : (readD d a.n).2.length ≤ 256 := by
      obtain ⟨_, _, _, hd⟩ := hP.d
      unfold readD; split
      · simp
      · split
        · simp
        · rename_i h3 h4
          cases hg : d.bl[a.n.toNat]? with
          | none => simp
          | some l => simp [hd.ok.len l (List.mem_of_getElem? hg)]
    omega
  have ht1 : ∀ k, t.blk = some k → ¬ G1 k ∧ ¬ G2 k ∧ w.heap.size ≤ k ∧ w6.heap.size ≤ k ∧ k < w7.heap.size := fun k hk => by
    have h1 := hbt k hk
    have h2 := ht.lt k hk
    exact ⟨fun h => by have := (hP.l1 _ h).2; omega, fun h => by have := hP.r.lt _ h; omega, by have := hP.f.size; omega, h1, h2⟩
  refine IfB.f rfl ⟨fun N i w' => ∃ (k : Nat), i = (k : Int) ∧ k ≤ t.l ∧ N = t.l - k ∧ (∃ cs, Row w' t 60 1 cs) ∧ Blk w' b10 (stc a.k a.n a.s a.f) 46 ∧ Pl w w' x' y' d r G1 G2 ∧ Has w' q 1 (bv (readD d a.n).2), t.l, ⟨0, rfl, Nat.zero_le _, by omega, ⟨_, ht8.mod f9 (fun _ _ h => h)⟩, B9, hP9, hq.mod f9 (fun _ _ h => h)⟩, ?_⟩
  rintro N' u4 x25 w10 ⟨k, rfl, hk, rfl, ⟨cs, hrc⟩, B10, hP10, hq10⟩
  refine IfB.intro (fun hc => ?_) (fun hc => ?_)
  · have hlt := of_decide_eq_true hc
    have hcl := hrc.len
    obtain ⟨g, hg, hwr', hset⟩ := hrc.wr (j := k) (by omega)
    have ead : (⟨g, 0, none⟩ : Addr).add ((k : Int).toNat * 1) = ⟨g, k, none⟩ := by rw [addr_add]; simp
    have htg : t.blk = some g := by simp [Sl.blk, hg]
    have hgg := ht1 g htg
    refine ⟨_, hg, by omega, by omega, by rw [ead]; exact hwr', ?_⟩
    rintro w11 rfl
    rw [ead]
    have f11 : Frm (fun k => k = g) w10 (w10.setCell ⟨g, k, none⟩ (.int .u8 77)) := mod_setCell (a := ⟨g, k, none⟩)
    refine ⟨t.l - (k + 1), by omega, k + 1, by rw [wi _ (by omega)]; omega, by omega, rfl, ⟨_, hset _⟩, B10.mod f11 (fun e => ?_), hP10.fr f11 (fun k' hk' => ?_), hq10.mod f11 (fun k' hk' e => ?_)⟩
    · have := B6.lt; omega
    · have hk' : k' = g := hk'
      subst hk'
      exact ⟨hgg.1, hgg.2.1, hgg.2.2.1⟩
    · have := hbq k' hk'; have e : k' = g := e; omega
  · refine ⟨_, hk1 B10, (read_all G1 w10 x' d a.n hP10.d).mono ?_⟩
    rintro _ w11 ⟨t11, rfl, ht11, hbt11, f11⟩
    have hP11 := hP10.fn f11
    refine ⟨t11, _, rfl, (alike_calls w11 t11 q _ _ ht11.has (hq10.mod f11 (fun _ _ h => h))).mono ?_⟩
    rintro _ _ ⟨c, rfl, hc, rfl⟩
    obtain rfl := hc rfl
    exact ⟨_, rfl, IfB.f rfl ⟨s.l - (j + 1), by omega, j + 1, d, r, G1, G2, by rw [wi _ (by omega)]; omega, by omega, rfl, hP11, hS, hwr, hrl⟩⟩
theorem op46 (w : World) : Opens prog w 46 spc OkSp :=
  (opens_struct Try.underlying46 (by kernel_rfl) (opensF_cons (o := 0) (sz := 1) rfl (by kernel_rfl) (op3 w) (opensF_cons (o := 1) (sz := 1) rfl (by kernel_rfl) (op3 w) (opensF_cons (o := 2) (sz := 1) rfl (by kernel_rfl) (opens_str (by kernel_rfl)) (opensF_cons (o := 3) (sz := 1) rfl (by kernel_rfl) (opens_bool (by kernel_rfl)) opensF_nil))))).map
    (fun p => Sp.mk p.1 p.2.1 p.2.2.1 p.2.2.2.1) fun p hp => ⟨rfl, hp.2.1, hp.2.2.1⟩
theorem op41 (w : World) : Opens prog w 41 (fun p : Sl × List Sp => [.slice p.1.a p.1.l p.1.c]) (fun p => HasL w p.1 4 spc p.2 ∧ (∀ a ∈ p.2, OkSp a)) :=
  (opens_slice (sz := 4) (bytes := 40) Try.underlying41 (by kernel_rfl) (by kernel_rfl) (op46 w)).map (fun p => p) fun p hp => ⟨rfl, hp.1, hp.2.1⟩
theorem plays_law (W : World) (n : Int) (hn : -9223372036854775808 ≤ n ∧ n ≤ 9223372036854775807) (s : Sl) (l : List Sp) (hl : HasL W s 4 spc l ∧ (∀ a ∈ l, OkSp a)) :
    Calls prog 6 #[.int .i64 n, .slice s.a s.l s.c] W fun e w' => e = .returned (.bool true) ∧ Frm none_ W w' := plays_calls W n s l hl.1 hl.2
end Go.Proofs.Ytlmnnofghimneaa
