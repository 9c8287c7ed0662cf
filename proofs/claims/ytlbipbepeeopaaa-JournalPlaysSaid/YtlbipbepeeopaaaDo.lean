/- Do: a group written, whole or not at all. -/
import Derived.Test.YtlbipbepeeopaaaLf
set_option linter.unusedVariables false
set_option linter.unusedSimpArgs false
set_option maxRecDepth 20000
namespace Go.Proofs.Ytlbipbepeeopaaa
open Go Go.Proofs.YtlbipbepeeopaaaV
/-- A map of ints to ints: the keys ks have 1, all others nothing. -/
structure Seen (w : World) (b : Nat) (ks : List Int) : Prop where
  ex : ∃ (es : Array MapEntry) (clock : Nat), w.heap[b]? = some (.map es clock) ∧ IntKeys es.toList ∧ ∀ k, findI k es.toList 0 = none ↔ k ∉ ks
  one : ∀ (es : Array MapEntry) (clock : Nat), w.heap[b]? = some (.map es clock) → ∀ k p, findI k es.toList 0 = some p → p.2 = .int .i64 1
theorem Seen.lt {w : World} {b : Nat} {ks : List Int} (h : Seen w b ks) : b < w.heap.size := by
  obtain ⟨es, c, hb, _⟩ := h.ex
  exact (Array.getElem?_eq_some_iff.1 hb).1
theorem Seen.mod {F : Nat → Prop} {w w' : World} {b : Nat} {ks : List Int} (h : Seen w b ks) (hm : Frm F w w') (hn : ¬ F b) : Seen w' b ks := by
  have hl := h.lt
  have e := hm.same b hl hn
  exact ⟨by rw [e]; exact h.ex, by rw [e]; exact h.one⟩
theorem Seen.look {w : World} {b : Nat} {ks : List Int} (h : Seen w b ks) (k : Int) {K : Value → World → Prop} (hk : K (.int .i64 (if k ∈ ks then 1 else 0)) w) :
    RunT prog .val (Instr.lookup 26 (.map (some b)) (.int .i64 k) false) w K := by
  obtain ⟨es, c, hb, hi, hf⟩ := h.ex
  unfold RunT
  rw [run_look26 hb hi k]
  refine ⟨_, rfl, ?_⟩
  by_cases hm : k ∈ ks
  · rw [if_pos hm] at hk
    cases hf' : findI k es.toList 0 with
    | none => exact absurd hm ((hf k).1 hf')
    | some p =>
      have := h.one es c hb k p hf'
      simp only [Option.map_some, Option.getD_some]
      rw [this]; exact hk
  · rw [if_neg hm] at hk
    rw [(hf k).2 hm]
    exact hk
theorem setBlock_mod (w : World) (b : Nat) (o : Obj) : Frm (fun k => k = b) w (ChangeMaps.setBlock w b o) := by
  refine ⟨rfl, rfl, rfl, by simp [ChangeMaps.setBlock], fun k hk hn => ?_⟩
  have hn : ¬ k = b := hn
  unfold ChangeMaps.setBlock
  simp [Array.getElem?_setIfInBounds, Ne.symm hn]
theorem Seen.add {w : World} {b : Nat} {ks : List Int} (h : Seen w b ks) (k : Int) (hn : k ∉ ks) {K : World → Prop} (hk : ∀ w', Seen w' b (k :: ks) → Frm (fun j => j = b) w w' → K w') :
    RunU prog (Instr.mapUpdate 26 (.map (some b)) (.int .i64 k) (.int .i64 1)) w K := by
  obtain ⟨es, c, hb, hi, hf⟩ := h.ex
  have hlt := h.lt
  unfold RunU
  rw [run_updNew un26 hb hi k (.int .i64 1) ((hf k).2 hn)]
  have hb2 : (ChangeMaps.setBlock w b (.map (es.push ⟨.int .i64 k, .int .i64 1, c⟩) (c + 1))).heap[b]? = some (.map (es.push ⟨.int .i64 k, .int .i64 1, c⟩) (c + 1)) := by
    unfold ChangeMaps.setBlock
    simp [hlt]
  refine hk _ ⟨⟨_, _, hb2, ?_, ?_⟩, ?_⟩ (setBlock_mod w b _)
  · intro e he
    rw [Array.toList_push] at he
    rcases List.mem_append.1 he with he | he
    · exact hi e he
    · rw [List.mem_singleton] at he; subst he; exact ⟨k, rfl⟩
  · intro j
    rw [Array.toList_push, findI_push k j (.int .i64 1) c _ _ hi]
    cases hj : findI j es.toList 0 with
    | some p =>
      have : j ∈ ks := by
        apply Decidable.byContradiction
        intro hc
        rw [(hf j).2 hc] at hj
        cases hj
      simp [this]
    | none =>
      have hjn := (hf j).1 hj
      by_cases hkj : k = j
      · subst hkj; simp
      · simp [hkj, hjn, Ne.symm hkj]
  · intro es2 c2 h2 j p hp
    rw [hb2] at h2
    simp only [Option.some.injEq, Obj.map.injEq] at h2
    obtain ⟨rfl, rfl⟩ := h2
    rw [Array.toList_push, findI_push k j (.int .i64 1) c _ _ hi] at hp
    cases hj : findI j es.toList 0 with
    | some q =>
      rw [hj] at hp
      cases hp
      exact h.one es c hb j _ hj
    | none =>
      rw [hj] at hp
      simp only at hp
      split at hp
      · cases hp; rfl
      · cases hp
theorem runT_makeMap {t : TypeId} {w : World} {K : Value → World → Prop} (hk : ∀ w', w'.heap[w.heap.size]? = some (.map #[] 0) → Frm none_ w w' → w'.heap.size = w.heap.size + 1 → K (.map (some w.heap.size)) w') :
    RunT prog .val (Instr.makeMap t none) w K := by
  unfold RunT
  have hr : (Instr.makeMap t none).run prog w = .ok (.map (some w.heap.size)) (w.alloc (.map #[] 0)) := rfl
  rw [hr]
  refine ⟨_, rfl, hk _ (heap_alloc_new w _) (NewB.mod ⟨rfl, rfl⟩ none_) (by simp)⟩
theorem Seen.new {w : World} {b : Nat} (h : w.heap[b]? = some (.map #[] 0)) : Seen w b [] := by
  refine ⟨⟨#[], 0, h, fun e he => by simp at he, fun k => by simp [findI]⟩, ?_⟩
  intro es c h2 k p hp
  rw [h] at h2
  simp only [Option.some.injEq, Obj.map.injEq] at h2
  obtain ⟨rfl, rfl⟩ := h2
  simp [findI] at hp
theorem chk_bad {n : Nat} {l : List Wt} (hl : l.length ≤ 120) (h : ¬ ChkP n l) : chkD n l = 1 := by
  unfold chkD; rw [if_neg (by omega), if_neg h]
theorem chk_ok {n : Nat} {l : List Wt} (hl : l.length ≤ 120) (h : ChkP n l) : chkD n l = 0 := by
  unfold chkD; rw [if_neg (by omega), if_pos h]
theorem chk_full {n : Nat} {l : List Wt} (hl : ¬ l.length ≤ 120) : chkD n l = 3 := by
  unfold chkD; rw [if_pos (by omega)]
set_option maxHeartbeats 1000000 in
theorem do_calls (G H : Nat → Prop) (w : World) (y x : Option Addr) (d : Dk) (s : Sl) (l : List Wt) (hg : Grp H w s l) (hGH : ∀ k, H k → ¬ G k) (hHw : ∀ k, H k → k < w.heap.size) (hi : ∀ p ∈ l, -9223372036854775808 ≤ p.1 ∧ p.1 ≤ 9223372036854775807)
    (h : JrQ G w y x d) (hGw : ∀ k, G k → k < w.heap.size) (hwr : d.wr < 900000) :
    Calls prog 10 #[.pointer y, .slice s.a s.l s.c] w fun e w' => e = .returned (.int .i64 (doD l d).1) ∧ JrQ G w' y x (doD l d).2 ∧ Frm G w w' := by
  refine calls_ret (W10 (Q := fun v w' => v = .int .i64 (doD l d).1 ∧ JrQ G w' y x (doD l d).2 ∧ Frm G w w') ?_) (fun v w' ⟨h, h'⟩ => ⟨by rw [h], h'⟩)
  unfold F10
  have hsl := hg.len
  refine (alive_calls G w y x d h).mono ?_
  rintro _ _ ⟨rfl, rfl⟩
  refine ⟨_, rfl, ?_⟩
  cases hd : d.dead with
  | true =>
    have e2 : livesD d = 20 := by unfold livesD; rw [hd]; rfl
    rw [e2, doD_dead hd]
    exact IfB.t rfl ⟨rfl, h, Frm.refl _ _⟩
  | false =>
  have e2 : livesD d = 0 := by unfold livesD; rw [hd]; rfl
  rw [e2]
  have hok : OkD d := by obtain ⟨_, _, _, _, _, _, _, hh⟩ := h; exact hh.ok
  have hn0 := hok.n0
  have hn1 := hok.n1
  refine IfB.f rfl (IfB.intro (fun hc => ?_) (fun hc => ?_))
  · have hc := of_decide_eq_true hc
    have e := chk_full (n := d.bl.length) (l := l) (by omega)
    rw [doD_bad hd (by rw [e]; simp), e]
    exact ⟨rfl, h, Frm.refl _ _⟩
  have hc := of_decide_eq_false hc
  have hlen : l.length ≤ 120 := by omega
  refine runT_makeMap ?_
  intro w1 hm0 hf1 hs1
  have bad : ¬ ChkP d.bl.length l → ∀ w', Frm none_ w w' → (Value.int .i64 1 = .int .i64 (doD l d).1 ∧ JrQ G w' y x (doD l d).2 ∧ Frm G w w') := by
    intro hb w' hf
    have e := chk_bad hlen hb
    rw [doD_bad hd (by rw [e]; simp), e]
    exact ⟨rfl, h.mod hf (fun _ _ h => h), hf.mono (fun _ _ h => h.elim)⟩
  refine ⟨fun n i w2 => ∃ (j : Nat) (ks : List Int), i = (j : Int) ∧ j ≤ l.length ∧ n = l.length - j ∧ Seen w2 w.heap.size ks ∧ (∀ k, k ∈ ks ↔ k ∈ (l.take j).map (·.1)) ∧ ChkP d.bl.length (l.take j) ∧ Frm none_ w w2, l.length, ⟨0, [], rfl, by omega, by omega, Seen.new hm0, fun k => by simp, ⟨by simp, by simp⟩, hf1⟩, ?_⟩
  rintro n u i w2 ⟨j, ks, rfl, hj, rfl, hS, hks, hck, hF⟩
  refine IfB.intro (fun h1 => ?_) (fun h1 => ?_)
  · have h1 := of_decide_eq_true h1
    have hj' : j < l.length := by omega
    obtain ⟨p, t, hp, hld, hhas, htb⟩ := (hg.mod hF (fun _ _ h => h)).get j hj'
    have htl : (l[j]'hj').2.length = t.l := by have := hhas.len; rw [bv_length] at this; omega
    have hw2 := hF.size
    refine ⟨p, hp, by omega, by omega, _, by rw [Int.toNat_natCast]; exact hld, ?_⟩
    intro b8 w3 hnb
    have hm3 := hnb.mod none_
    have hb8 : b8 = w2.heap.size := hnb.b
    refine Blk.setW hnb.blk rfl rfl (fun v hv => ?_) ?_
    · simp only [List.mem_cons, List.not_mem_nil, or_false] at hv
      rcases hv with rfl | rfl <;> rfl
    intro w4 hB4 hf4
    have hf24 : Frm none_ w2 w4 := hm3.b hf4 (by omega)
    have hF4 : Frm none_ w w4 := trN hF hf24
    have hS4 := hS.mod hf24 (fun h => h)
    refine ⟨_, by rw [addr_add]; exact hB4.ld rfl, ?_⟩
    refine (plain_calls G w4 y x d _ (h.mod hF4 (fun _ _ h => h))).mono ?_
    rintro _ _ ⟨rfl, rfl⟩
    refine ⟨_, rfl, ?_⟩
    have hmem := List.getElem_mem hj'
    by_cases hpl : PlainI d (l[j]'hj').1
    · rw [decide_eq_true hpl]
      refine IfB.f rfl ⟨t, by rw [addr_add]; exact hB4.ld rfl, IfB.intro (fun h2 => ?_) (fun h2 => ?_)⟩
      · have h2 := bne_iff_ne.1 h2
        refine bad (fun hb => ?_) _ hF4
        have := (hb.1 _ hmem).2
        omega
      have h2 := bne_eq_false_iff_eq.1 h2
      refine ⟨_, by rw [addr_add]; exact hB4.ld rfl, hS4.look _ ⟨_, rfl, ?_⟩⟩
      have hsplit : (l.take (j + 1)).map (·.1) = (l.take j).map (·.1) ++ [(l[j]'hj').1] := by
        rw [← List.take_append_getElem hj', List.map_append]; rfl
      by_cases hin : (l[j]'hj').1 ∈ ks
      · rw [if_pos hin]
        refine IfB.t rfl (bad (fun hb => ?_) _ hF4)
        have h3 := hb.2
        have h4 : ((l.take (j + 1)).map (·.1)).Nodup := by
          rw [List.map_take]
          exact List.Sublist.nodup (List.take_sublist _ _) h3
        rw [hsplit, List.nodup_append] at h4
        exact h4.2.2 _ ((hks _).1 hin) _ (by simp) rfl
      · rw [if_neg hin]
        refine IfB.f rfl ⟨_, by rw [addr_add]; exact hB4.ld rfl, hS4.look _ ⟨_, rfl, ?_⟩⟩
        rw [if_neg hin, wi (0 + 1) (by omega)]
        refine hS4.add _ hin ?_
        intro w5 hS5 hf5
        have hF5 : Frm none_ w w5 := hF4.b hf5 (Nat.le_refl _)
        refine ⟨l.length - (j + 1), by omega, j + 1, _, by rw [wi _ (by omega)]; omega, by omega, rfl, hS5, ?_, ⟨?_, ?_⟩, hF5⟩
        · intro k
          rw [hsplit, List.mem_cons, List.mem_append, List.mem_singleton, hks k]
          exact ⟨fun h => h.elim .inr .inl, fun h => h.elim .inr .inl⟩
        · intro q hq
          rw [← List.take_append_getElem hj'] at hq
          rcases List.mem_append.1 hq with hq | hq
          · exact hck.1 q hq
          · rw [List.mem_singleton] at hq
            subst hq
            exact ⟨hpl, by omega⟩
        · rw [hsplit, List.nodup_append]
          refine ⟨hck.2, by simp, fun a ha b hb hab => ?_⟩
          rw [List.mem_singleton] at hb
          subst hab hb
          exact hin ((hks _).2 ha)
    · rw [decide_eq_false hpl]
      refine IfB.t rfl (bad (fun hb => hpl (hb.1 _ hmem).1) _ hF4)
  · have h1 := of_decide_eq_false h1
    have hj' : j = l.length := by omega
    subst hj'
    rw [List.take_length] at hck
    have hchk := chk_ok hlen hck
    clear hks hS
    refine IfB.intro (fun h0 => ?_) (fun h0 => ?_)
    · have h0 := eq_of_beq h0
      have e : doD l d = (0, d) := by
        unfold doD; rw [hd]; simp only [Bool.false_eq_true, if_false]
        rw [if_neg (by rw [hchk]; simp), if_pos (by omega)]
      rw [e]
      exact ⟨rfl, h.mod hF (fun _ _ h => h), hF.mono (fun _ _ h => h.elim)⟩
    · have h0 := ne_of_beq_false h0
      have hdo : doD l d = if (writesD (areaL 2 l) d).1 ≠ 0 then writesD (areaL 2 l) d else
          if (writeD 1 (entryB l) (writesD (areaL 2 l) d).2).1 ≠ 0 then writeD 1 (entryB l) (writesD (areaL 2 l) d).2 else applyD l (writeD 1 (entryB l) (writesD (areaL 2 l) d).2).2 := by
        unfold doD; rw [hd]; simp only [Bool.false_eq_true, if_false]
        rw [if_neg (by rw [hchk]; simp), if_neg (by omega)]
      have hal := areaL_len 2 l
      have hFG : Frm G w w2 := hF.mono (fun _ _ h => h.elim)
      refine ⟨fun n i w3 => ∃ j : Nat, i = (j : Int) ∧ j ≤ l.length ∧ n = l.length - j ∧ (writesD ((areaL 2 l).take j) d).1 = 0 ∧ JrQ G w3 y x (writesD ((areaL 2 l).take j) d).2 ∧ Frm G w w3, l.length, ⟨0, rfl, by omega, by omega, rfl, h.mod hF (fun _ _ h => h), hFG⟩, ?_⟩
      rintro n u i w3 ⟨j, rfl, hj, rfl, hz, hJ, hF3⟩
      have hw := writesD_wr ((areaL 2 l).take j) d
      rw [List.length_take, hal] at hw
      refine IfB.intro (fun h1 => ?_) (fun h1 => ?_)
      · have h1 := of_decide_eq_true h1
        have hj' : j < l.length := by omega
        have hja : j < (areaL 2 l).length := by omega
        have hae : (areaL 2 l)[j]'hja = (((2 + j : Nat) : Int), (l[j]'hj').2) := by
          have := areaL_get (k := 2) (l := l) hj'
          rw [List.getElem?_eq_getElem hja] at this
          exact Option.some.inj this
        obtain ⟨p, t, hp, hld, hhas, htb⟩ := (hg.mod hF3 hGH).get j hj'
        have hw3 := hF3.size
        refine ⟨p, hp, by omega, by omega, _, by rw [Int.toNat_natCast]; exact hld, ?_⟩
        intro b10 w4 hnb
        have hm4 := hnb.mod none_
        have hb10 : b10 = w3.heap.size := hnb.b
        refine Blk.setW hnb.blk rfl rfl (fun v hv => ?_) ?_
        · simp only [List.mem_cons, List.not_mem_nil, or_false] at hv
          rcases hv with rfl | rfl <;> rfl
        intro w5 hB5 hf5
        have hf35 : Frm none_ w3 w5 := hm4.b hf5 (by omega)
        have hf35d : Frm none_ w3 w5.drew := hf35.drew
        have hJ5 := hJ.mod hf35d (fun _ _ h => h)
        have hJ5' := hJ5
        obtain ⟨b, hy, hBj, hGb, hdk⟩ := hJ5
        subst hy
        refine ⟨fun w' => w' = w5.drew, rfl, _, rfl, x, ?_, t, ?_, ?_⟩
        · rintro _ rfl; rw [addr_add]; exact hBj.ld rfl
        · rintro _ rfl; rw [addr_add]; exact hB5.drew.ld rfl
        have e3 : IntKind.wrap .i64 ((2 : Int) + (j : Int)) = ((2 + j : Nat) : Int) := by rw [wi _ (by omega)]; omega
        rw [e3]
        refine (write_calls G w5.drew x _ ((2 + j : Nat) : Int) t (l[j]'hj').2 (by omega) (hhas.mod hf35d (fun _ _ h => h)) (fun k hk => hGH k (htb k hk)) hdk (by omega)).mono ?_
        rintro _ w6 ⟨rfl, hd6, hf6⟩
        have est := writesD_step (areaL 2 l) j hja d hz
        rw [hae] at est
        simp only at est
        rw [← est] at hd6 ⊢
        have hJ6 := hJ5'.turn hf6 hd6
        have hF6 : Frm G w w6 := (hF3.trans hf35d (fun _ _ h => h) (fun _ _ h => h.elim)).trans hf6 (fun _ _ h => h) (fun _ _ h => h)
        refine ⟨_, rfl, IfB.intro (fun h2 => ?_) (fun h2 => ?_)⟩
        · have h2 := bne_iff_ne.1 h2
          have e := writesD_stop (areaL 2 l) (j + 1) d h2
          have e2 : doD l d = writesD ((areaL 2 l).take (j + 1)) d := by rw [hdo, e, if_pos h2]
          rw [e2]
          exact ⟨rfl, hJ6, hF6⟩
        · have h2 := bne_eq_false_iff_eq.1 h2
          exact ⟨l.length - (j + 1), by omega, j + 1, by rw [wi _ (by omega)]; omega, by omega, rfl, h2, hJ6, hF6⟩
      · have h1 := of_decide_eq_false h1
        have hj' : j = l.length := by omega
        subst hj'
        rw [← hal, List.take_length] at hz hJ
        rw [if_neg (by rw [hz]; simp)] at hdo
        have hJd : JrQ G w3.drew y x (writesD (areaL 2 l) d).2 := hJ.mod (F := none_) ⟨rfl, rfl, rfl, Nat.le_refl _, fun _ _ _ => rfl⟩ (fun _ _ h => h)
        have hFd : Frm G w w3.drew := hF3.drew
        have hw3 := hFd.size
        have hgd := hg.mod hFd hGH
        have hJd' := hJd
        obtain ⟨b, hy, hBj, hGb, hdk⟩ := hJd
        subst hy
        refine ⟨fun w' => Ld w' ⟨b, 0, none⟩ (.pointer x), hBj.ld rfl, _, rfl, x, fun w' hw' => by rw [addr_add]; exact hw', ?_⟩
        refine (entry_calls H w3.drew s l hgd hlen (fun p hp => (hck.1 p hp).2) (fun k hk => Nat.lt_of_lt_of_le (hHw k hk) hw3)).mono ?_
        rintro _ w4 ⟨t, rfl, hrow, htlo, hf4⟩
        have hJ4 := hJd'.mod hf4 (fun _ _ h => h)
        refine ⟨t, rfl, (hBj.mod hf4 (fun h => h)).ld rfl, ?_⟩
        have hww := writesD_wr (areaL 2 l) d
        rw [hal] at hww
        refine (write_calls G w4 x _ 1 t (entryB l) (by omega) hrow.has (fun k hk hGk => ?_) hJ4.dk (by omega)).mono ?_
        · have := htlo k hk
          have := hGw k hGk
          omega
        rintro _ w5 ⟨rfl, hd5, hf5⟩
        have hJ5 := hJ4.turn hf5 hd5
        have hF5 : Frm G w w5 := (hFd.trans hf4 (fun _ _ h => h) (fun _ _ h => h.elim)).trans hf5 (fun _ _ h => h) (fun _ _ h => h)
        refine ⟨_, rfl, IfB.intro (fun h2 => ?_) (fun h2 => ?_)⟩
        · have h2 := bne_iff_ne.1 h2
          rw [if_pos h2] at hdo
          rw [hdo]
          exact ⟨rfl, hJ5, hF5⟩
        · have h2 := bne_eq_false_iff_eq.1 h2
          rw [if_neg (by rw [h2]; simp)] at hdo
          rw [hdo]
          have hw5 := hF5.size
          have hwd := writeD_wr 1 (entryB l) (writesD (areaL 2 l) d).2
          refine (apply_calls G H w5 _ x _ s l (hg.mod hF5 hGH) hGH hi hlen hJ5 (fun k hk => Nat.lt_of_lt_of_le (hGw k hk) hw5) (by omega)).mono ?_
          rintro _ w6 ⟨rfl, hJ6, hf6⟩
          exact ⟨_, rfl, rfl, hJ6, hF5.trans hf6 (fun _ _ h => h) (fun _ _ h => h)⟩
end Go.Proofs.Ytlbipbepeeopaaa
