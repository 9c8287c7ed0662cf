/- The program's Sort walked. -/
import Derived.Test.YtjpcbggodhfabaaSp
set_option linter.unusedVariables false
set_option linter.unusedSimpArgs false
namespace Go.Proofs.Ytjpcbggodhfabaa
open Go Go.Proofs.YtjpcbggodhfabaaV
theorem mis_congr {l m : List Int} (h : ∀ z, z ∈ l ↔ z ∈ m) (n : Nat) : mis l n = mis m n := by
  unfold mis
  congr 1
  funext i
  simp [h]
theorem nodup_len {n : Nat} : ∀ {l : List Int}, l.Nodup → (∀ z ∈ l, ∃ k : Nat, z = (k : Int) ∧ k < n) → mis l n + l.length = n := by
  intro l
  induction l with
  | nil =>
    intro _ _
    simp only [mis, List.length_nil, Nat.add_zero]
    rw [List.countP_eq_length.2 (by simp)]; simp
  | cons a r ih =>
    intro hn hm
    obtain ⟨h1, h2⟩ := List.nodup_cons.1 hn
    obtain ⟨k, rfl, hk⟩ := hm a (by simp)
    have hi := ih h2 (fun z hz => hm z (by simp [hz]))
    have ha := mis_add h1 n
    rw [if_pos hk] at ha
    have hc := mis_congr (l := (k : Int) :: r) (m := r ++ [(k : Int)]) (by intro z; simp [or_comm]) n
    simp only [List.length_cons]
    omega
/-- What Sort holds: what is left to be, who may, the row. -/
structure Sm (w2 w : World) (b : Nat) (t s o : Sl) (lf l out : List Int) : Prop where
  left : Row w t 3 1 (iv lf)
  hw : Hw w b s l
  hp : HP l l.length
  ou : Row w o 3 1 (iv out)
  fr : Frm none_ w2 w
  bz : w2.heap.size ≤ b
  tz : ∀ k, t.blk = some k → w2.heap.size ≤ k
  sz : ∀ k, s.blk = some k → w2.heap.size ≤ k
  oz : ∀ k, o.blk = some k → w2.heap.size ≤ k
  ts : ∀ k, t.blk = some k → s.blk ≠ some k
  to : ∀ k, t.blk = some k → o.blk ≠ some k
  so : ∀ k, s.blk = some k → o.blk ≠ some k
variable {w2 w : World} {b : Nat} {t s o : Sl} {lf l out : List Int}
theorem Sm.tb (h : Sm w2 w b t s o lf l out) : t.blk ≠ some b := h.left.g.blkNeB h.hw.blk.g (by decide)
theorem Sm.ob (h : Sm w2 w b t s o lf l out) : o.blk ≠ some b := h.ou.g.blkNeB h.hw.blk.g (by decide)
theorem Sm.hstep (h : Sm w2 w b t s o lf l out) {w' : World} {s' : Sl} {l' : List Int} (h1 : Hw w' b s' l') (h2 : HP l' l'.length) (h3 : ∀ k, s'.blk = some k → s.blk = some k ∨ w.heap.size ≤ k) (f : Frm (fun k => k = b ∨ s.blk = some k) w w') : Sm w2 w' b t s' o lf l' out := by
  have hz := h.fr.size
  have h3' : ∀ k, s'.blk = some k → (∀ j, t.blk = some j → k ≠ j) ∧ (∀ j, o.blk = some j → k ≠ j) := by
    intro k hk
    rcases h3 k hk with e | e
    · exact ⟨fun j hj e' => h.ts j hj (by rw [e, e']), fun j hj e' => h.so k e (by rw [hj, e'])⟩
    · exact ⟨fun j hj e' => by have := h.left.lt j hj; omega, fun j hj e' => by have := h.ou.lt j hj; omega⟩
  refine ⟨h.left.mod f ?_, h1, h2, h.ou.mod f ?_, h.fr.trans f (fun _ _ h => h) ?_, h.bz, h.tz, ?_, h.oz, ?_, h.to, ?_⟩
  · rintro k hk (e | e)
    · exact h.tb (by rw [hk, e])
    · exact h.ts k hk e
  · rintro k hk (e | e)
    · exact h.ob (by rw [hk, e])
    · exact h.so k e hk
  · rintro k hk (e | e)
    · have := h.bz; omega
    · have := h.sz k e; omega
  · intro k hk
    rcases h3 k hk with e | e
    · exact h.sz k e
    · omega
  · intro k hk hk'
    exact (h3' k hk').1 k hk rfl
  · intro k hk hk'
    exact (h3' k hk).2 k hk' rfl
theorem Sm.push (h : Sm w2 w b t s o lf l out) (x : Int) (hb : l.length ≤ 1000000) : Calls prog 27 #[hv b, .iface 3 (.int .i64 x)] w fun en w' =>
    en = .returned (.tuple #[]) ∧ ∃ s' l', l'.Perm (x :: l) ∧ Sm w2 w' b t s' o lf l' out := by
  refine (push_calls w b s l h.hw h.hp x hb).mono ?_
  rintro _ w' ⟨rfl, s', l', hpm, hh, h1, h3, f⟩
  exact ⟨rfl, s', l', hpm, h.hstep h1 hh h3 f⟩
theorem Sm.pop (h : Sm w2 w b t s o lf l out) (h0 : 0 < l.length) (hb : l.length ≤ 1000000) : Calls prog 29 #[hv b] w fun en w' =>
    ∃ m, en = .returned (.iface 3 (.int .i64 m)) ∧ ∃ s' l', l.Perm (m :: l') ∧ (∀ y ∈ l, m ≤ y) ∧ Sm w2 w' b t s' o lf l' out := by
  refine (pop_calls w b s l h.hw h.hp h0 hb).mono ?_
  rintro _ w' ⟨m, rfl, s', l', hpm, hle, hh, h1, h3, f⟩
  exact ⟨m, rfl, s', l', hpm, hle, h.hstep h1 hh (fun k hk => .inl (by rw [← h3]; exact hk)) f⟩
theorem Sm.outp (h : Sm w2 w b t s o lf l out) (n : Int) (hb : out.length ≤ 1000000) {K : Sl → World → Prop} (hk : ∀ o' w', Sm w2 w' b t s o' lf l (out ++ [n]) → K o' w') :
    RunT prog .slice (Instr.buildSlice 25 1 #[(0, .int .i64 n)]) w fun (t : Sl) w1 => RunT prog .slice (Builtin.append_ #[25, 25] 25 #[.slice o.a o.l o.c, .slice t.a t.l t.c]) w1 fun (t' : Sl) w2 => K t' w2 := by
  refine lit_push n h.ou hb ?_
  intro o' w' hr h3 f
  have hz := h.fr.size
  refine hk o' w' ⟨h.left.mod f (fun k hk e => h.to k hk e), h.hw.mod f h.ob (fun k hk e => h.so k hk e), h.hp, hr, h.fr.trans f (fun _ _ h => h) (fun k _ e => by have := h.oz k e; omega), h.bz, h.tz, h.sz, ?_, h.ts, ?_, ?_⟩
  · intro k hk
    rcases h3 k hk with e | e
    · exact h.oz k e
    · omega
  · intro k hk hk'
    rcases h3 k hk' with e | e
    · exact h.to k hk e
    · have := h.left.lt k hk; omega
  · intro k hk hk'
    rcases h3 k hk' with e | e
    · exact h.so k hk e
    · have := h.hw.row.lt k hk; omega
theorem Sm.at (h : Sm w2 w b t s o lf l out) {k : Nat} (hk : k < lf.length) : ∃ q, t.a = some q ∧ t.l = lf.length ∧ Ld w (q.add ((k : Int).toNat * 1)) (.int .i64 (ge lf k)) := by
  have hl := has_iv h.left.has
  obtain ⟨q, n, hq, hn, hld⟩ := has_at h.left.has (i := k) (by omega)
  rw [ge_get hk] at hn; cases hn
  exact ⟨q, hq, hl, by rw [Int.toNat_natCast]; exact hld⟩
theorem Sm.set (h : Sm w2 w b t s o lf l out) {k : Nat} (hk : k < lf.length) (v : Int) : ∃ q, t.a = some q ∧ t.l = lf.length ∧ Wr w (q.add ((k : Int).toNat * 1)) ∧ Sm w2 (w.setCell (q.add ((k : Int).toNat * 1)) (.int .i64 v)) b t s o (lf.set k v) l out := by
  have hl := has_iv h.left.has
  obtain ⟨g, hg, hwr, hset⟩ := h.left.wr (j := k) (by rw [iv_len]; exact hk)
  have e1 : (⟨g, 0, none⟩ : Addr).add ((k : Int).toNat * 1) = ⟨g, k, none⟩ := by rw [addr_add]; simp
  have htb : t.blk = some g := by simp [Sl.blk, hg]
  have hr := hset (.int .i64 v)
  rw [iv_set] at hr
  refine ⟨_, hg, hl, by rw [e1]; exact hwr, ?_⟩
  rw [e1]
  have f : Frm (fun j => j = g) w (w.setCell ⟨g, k, none⟩ (.int .i64 v)) := mod_setCell (a := ⟨g, k, none⟩)
  exact ⟨hr, h.hw.mod f (fun e => h.tb (by rw [htb, e])) (fun j hj e => h.ts g htb (by rw [hj]; exact congrArg some e)), h.hp, h.ou.mod f (fun j hj e => h.to g htb (by rw [hj]; exact congrArg some e)), h.fr.b f (h.tz g htb), h.bz, h.tz, h.sz, h.oz, h.ts, h.to, h.so⟩
theorem build39 : BuildIs prog 39 #[] #[.slice none 0 0] := fun w => by kernel_rfl
theorem len28 (w : World) (s : Sl) : Calls prog 28 #[.slice s.a s.l s.c] w fun en w' => en = .returned (.int .i64 (s.l : Int)) ∧ w' = w :=
  callsRet (W28 (x0 := s) (Q := fun v w' => v = .int .i64 (s.l : Int) ∧ w' = w) ⟨rfl, rfl⟩) (fun v w' ⟨h, h'⟩ => ⟨by rw [h], h'⟩)
set_option maxRecDepth 20000 in
theorem sort_calls (w : World) (s : Sl) (ps : List (Sl × List Int)) (h : Gw w s ps) (hsm : Small ps) (ht : tot (gOf ps) ≤ 1000000000) : Calls prog 18 #[.slice s.a s.l s.c] w fun e w' =>
    ∃ t, e = .returned (.tuple #[.slice t.a t.l t.c, .int .i64 (sortC (gOf ps))]) ∧ Has w' t 1 (iv (sortL (gOf ps))) ∧ Frm none_ w w' := by
  refine callsRet (W18 (Q := fun v w' => ∃ t, v = .tuple #[.slice t.a t.l t.c, .int .i64 (sortC (gOf ps))] ∧ Has w' t 1 (iv (sortL (gOf ps))) ∧ Frm none_ w w') ?_) (fun v w' ⟨t, h, h'⟩ => ⟨t, by rw [h], h'⟩)
  unfold F18
  have hl := h.len
  have hgl := gOf_len ps
  refine (may_calls w s ps h hsm ht).mono ?_
  rintro _ w1 ⟨b0, rfl, hb, f1⟩
  refine ⟨_, rfl, IfB.intro (fun hc => ?_) (fun hc => ?_)⟩
  · have hc : b0 = false := by simpa using hc
    have hn : ¬ May (gOf ps) := fun hm => by have := hb.2 hm; rw [hc] at this; cases this
    refine ⟨⟨none, 0, 0⟩, by rw [sortC, if_neg hn], ?_, f1⟩
    rw [sortL, if_neg (fun h => hn h.1)]
    exact Has.nil _ _ _ rfl
  have hc : b0 = true := by simpa using hc
  have hmay := hb.1 hc
  have hv := valid_of hmay
  have hmt := hmay.2.1
  have hml := hmay.1
  rw [hgl] at hml
  refine (users2_calls w1 s ps (h.mod f1) hsm hv (by omega)).mono ?_
  rintro _ w2 ⟨tu, us, rfl, hU, hul, hus, hum, f2⟩
  have f02 := f1.n f2
  refine ⟨tu, rfl, runT_makeN st25 (by omega) (by omega) (by omega) ?_⟩
  intro t w3 hr3 htl htc hta f3 z3
  rw [made_one (.int .i64 0) rfl] at hr3
  have htb : t.blk = some w2.heap.size := by simp [Sl.blk, hta]
  have e0 : List.replicate (((s.l : Nat) : Int).toNat * 1) (Value.int .i64 0) = iv (List.replicate ps.length 0) := by simp [iv, hl]
  rw [e0] at hr3
  refine ⟨_, build39, ?_⟩
  intro b w4 hnb
  have hB := hnb.blk
  have f4 : Frm none_ w3 w4 := hnb.mod _
  have z4 := hnb.size
  have z34 := f3.size
  have hbz : w2.heap.size ≤ b := by have e : b = w3.heap.size := hnb.b; omega
  have hSm : Sm w2 w4 b t ⟨none, 0, 0⟩ ⟨none, 0, 0⟩ (List.replicate ps.length 0) [] [] :=
    ⟨hr3.mod f4 (fun _ _ h => h), ⟨hB, RowG.nil _ _ _⟩, fun i _ hi => by simp at hi, Row.nil _ _ _, f3.n f4, hbz, fun k hk => by rw [htb] at hk; simp at hk; omega, by simp [Sl.blk], by simp [Sl.blk], by simp [Sl.blk], by simp [Sl.blk], by simp [Sl.blk]⟩
  have hlg : ∀ {i : Nat} {p : Sl × List Int}, ps[i]? = some p → (gOf ps).getD i [] = p.2 := fun hp => getD_of (gOf_get hp)
  refine ⟨fun n x w' => ∃ (i : Nat) (q : Sl) (lf l : List Int), x = (i : Int) ∧ i ≤ s.l ∧ n = s.l - i ∧ Sm w2 w' b t q ⟨none, 0, 0⟩ lf l [] ∧ lf.length = ps.length ∧ (∀ k, k < i → ge lf k = (((gOf ps).getD k []).length : Int)) ∧ l.Nodup ∧ (∀ z, z ∈ l ↔ ∃ k : Nat, z = (k : Int) ∧ k < i ∧ ((gOf ps).getD k []).length = 0), s.l, ⟨0, _, _, _, rfl, Nat.zero_le _, by omega, hSm, by simp, by simp, List.nodup_nil, by simp⟩, ?_⟩
  clear hSm
  rintro n u x w5 ⟨i, q, lf, l, rfl, hi, rfl, hS, hlf, hlv, hnd, hlm⟩
  have f5 := f02.n hS.fr
  have hll : l.length ≤ ps.length := by
    have := nodup_len (n := ps.length) hnd (fun z hz => by obtain ⟨k, e, hk, _⟩ := (hlm z).1 hz; exact ⟨k, e, by omega⟩)
    omega
  refine IfB.intro (fun hd => ?_) (fun hd => ?_)
  · have hlt := of_decide_eq_true hd
    obtain ⟨p, r, hp, hr, hrm, hld, hh⟩ := (h.mod f5).at (i := i) (by omega)
    have hrl := has_iv hh
    have hgi := hlg hr
    obtain ⟨p2, hp2, htl2, hwr, hS2⟩ := hS.set (k := i) (by omega) ((r.1.l : Nat) : Int)
    refine ⟨p, hp, by omega, by omega, r.1, by rw [Int.toNat_natCast]; exact hld, p2, hp2, by omega, by omega, hwr, ?_⟩
    rintro w6 rfl
    have hlf2 : (lf.set i ((r.1.l : Nat) : Int)).length = ps.length := by rw [List.length_set]; exact hlf
    have hlv2 : ∀ k, k < i + 1 → ge (lf.set i ((r.1.l : Nat) : Int)) k = (((gOf ps).getD k []).length : Int) := by
      intro k hk
      rw [ge_set (by omega)]
      by_cases e : k = i
      · subst e; rw [if_pos rfl, hgi]; omega
      · rw [if_neg e]; exact hlv k (by omega)
    refine IfB.intro (fun he => ?_) (fun he => ?_)
    · have he := eq_of_beq he
      refine runT_mk36 (runT_mk3 ?_)
      refine (hS2.push (i : Int) (by omega)).mono ?_
      rintro _ w7 ⟨rfl, q', l', hpm, hS3⟩
      have hni : (i : Int) ∉ l := fun hm => by obtain ⟨k, e, hk, _⟩ := (hlm _).1 hm; omega
      refine ⟨rfl, s.l - (i + 1), by omega, i + 1, q', _, l', by rw [wrap64 _ (by omega)]; omega, by omega, rfl, hS3, hlf2, hlv2, hpm.nodup_iff.2 (List.nodup_cons.2 ⟨hni, hnd⟩), ?_⟩
      intro z
      rw [hpm.mem_iff, List.mem_cons, hlm]
      constructor
      · rintro (rfl | ⟨k, e, hk, h0⟩)
        · exact ⟨i, rfl, by omega, by rw [hgi]; omega⟩
        · exact ⟨k, e, by omega, h0⟩
      · rintro ⟨k, e, hk, h0⟩
        by_cases ek : k = i
        · subst ek; exact .inl e
        · exact .inr ⟨k, e, by omega, h0⟩
    · have he := ne_of_beq_false he
      refine ⟨s.l - (i + 1), by omega, i + 1, q, _, l, by rw [wrap64 _ (by omega)]; omega, by omega, rfl, hS2, hlf2, hlv2, hnd, ?_⟩
      intro z
      rw [hlm]
      constructor
      · rintro ⟨k, e, hk, h0⟩
        exact ⟨k, e, by omega, h0⟩
      · rintro ⟨k, e, hk, h0⟩
        by_cases ek : k = i
        · subst ek; rw [hgi] at h0; omega
        · exact ⟨k, e, by omega, h0⟩
  -- the row
  have hge := of_decide_eq_false hd
  have hil : i = s.l := by omega
  subst hil
  refine ⟨fun n x9 w' => ∃ (q : Sl) (lf l out : List Int) (c : Nat), Sm w2 w' b t q x9 lf l out ∧ n = ps.length - c ∧ IsRow (gOf ps) out c ∧ Clos (gOf ps) out ∧ lf.length = ps.length ∧ (∀ k, k < ps.length → ge lf k = (unr (gOf ps) out k : Int)) ∧ l.Nodup ∧ (∀ z, z ∈ l ↔ ∃ k : Nat, z = (k : Int) ∧ k < (gOf ps).length ∧ Rdy (gOf ps) out k), ps.length, ⟨q, lf, l, [], 0, hS, by omega, IsRow.nil _, fun k hk => by simp at hk, hlf, fun k hk => by rw [unr_nil]; exact hlv k (by omega), hnd, fun z => ?_⟩, ?_⟩
  · rw [hlm]
    constructor
    · rintro ⟨k, e, hk, h0⟩
      exact ⟨k, e, by omega, rdy_iff.2 ⟨by simp, by rw [unr_nil]; exact h0⟩⟩
    · rintro ⟨k, e, hk, h0⟩
      have := (rdy_iff.1 h0).2
      rw [unr_nil] at this
      exact ⟨k, e, by omega, this⟩
  clear hS hnd hlm hll hlv hlf f5
  rintro n u1 x9 w6 ⟨q, lf, l, out, c, hS, rfl, hrow, hcl, hlf, hlv, hnd, hlm⟩
  have hll : l.length ≤ ps.length := by
    have := nodup_len (n := ps.length) hnd (fun z hz => by obtain ⟨k, e, hk, _⟩ := (hlm z).1 hz; exact ⟨k, e, by omega⟩)
    omega
  have hrl := hrow.le
  have hol := hrow.2
  have hxl := has_iv hS.ou.has
  refine ⟨_, rfl, q, by rw [add_zero]; exact hS.hw.ld, (len28 w6 q).mono ?_⟩
  rintro _ _ ⟨rfl, rfl⟩
  have hql := hS.hw.len
  refine ⟨_, rfl, IfB.intro (fun hd => ?_) (fun hd => ?_)⟩
  · have hpos := of_decide_eq_true hd
    refine runT_mk36 ((hS.pop (by omega) (by omega)).mono ?_)
    rintro _ w7 ⟨m, rfl, q', l', hpm, hle, hS7⟩
    obtain ⟨k, rfl, hk, hrd, hnx⟩ := nxt_of hlm (m := m) (hpm.mem_iff.2 (by simp)) hle
    have hrow' := hrow.next hnx
    have hrl' := hrow'.le
    rw [hgl] at hk hrl'
    have hcl' := hcl.next hrd
    have hnd' := hpm.nodup_iff.1 hnd
    obtain ⟨hkl, hnd''⟩ := List.nodup_cons.1 hnd'
    refine ⟨_, rfl, runT_ta3 ⟨(k : Int), rfl, hS7.outp (k : Int) (by omega) ?_⟩⟩
    intro o' w8 hS8
    have f8 := hS8.fr
    obtain ⟨p3, r, hp3, hr3', hrm, hld3, hh3⟩ := (hU.mod f8).at (i := k) (by have := hU.len; omega)
    have hrl3 := has_iv hh3
    have hr2 := hum k r hr3'
    have hrt := hus r hrm
    have hUl := hU.len
    refine ⟨p3, hp3, by omega, by omega, r.1, by rw [Int.toNat_natCast]; exact hld3, ?_⟩
    refine ⟨fun n x63 w' => ∃ (j : Nat) (q : Sl) (lf l : List Int), x63 = (j : Int) ∧ j ≤ r.1.l ∧ n = r.1.l - j ∧ Sm w2 w' b t q o' lf l (out ++ [(k : Int)]) ∧ lf.length = ps.length ∧ (∀ y : Nat, y < ps.length → ge lf y + ((r.2.take j).count (y : Int) : Int) = (unr (gOf ps) out y : Int)) ∧ l.Nodup ∧ (∀ z, z ∈ l ↔ ∃ y : Nat, z = (y : Int) ∧ y < ps.length ∧ (y : Int) ∉ out ++ [(k : Int)] ∧ ge lf y = 0), r.1.l, ⟨0, q', lf, l', rfl, Nat.zero_le _, by omega, hS8, hlf, fun y hy => by rw [hlv y hy]; simp, hnd'', fun z => ?_⟩, ?_⟩
    · constructor
      · intro hz
        obtain ⟨y, e, hy, hrd'⟩ := (hlm z).1 (hpm.mem_iff.2 (by simp [hz]))
        obtain ⟨h1, h2⟩ := rdy_iff.1 hrd'
        refine ⟨y, e, by omega, ?_, by rw [hlv y (by omega), h2]; rfl⟩
        intro hm
        rcases List.mem_append.1 hm with hm | hm
        · exact h1 hm
        · simp at hm
          have : y = k := by omega
          subst this; exact hkl (e ▸ hz)
      · rintro ⟨y, e, hy, h1, h2⟩
        have h3 : z ∈ l := (hlm z).2 ⟨y, e, by omega, rdy_iff.2 ⟨fun hm => h1 (by simp [hm]), by rw [hlv y hy] at h2; omega⟩⟩
        rcases List.mem_cons.1 (hpm.mem_iff.1 h3) with h4 | h4
        · exact absurd (by rw [← e, h4]; simp) h1
        · exact h4
    clear hd hpos hS hS7 hS8 hlm hlv hlf hnd hnd' hnd'' hkl hpm hle hql hll q lf l q' l' hld3 hh3 f8
    rintro n u2 x63 w9 ⟨j, q, lf, l, rfl, hj, rfl, hS, hlf, hlv, hnd, hlm⟩
    have hll : l.length ≤ ps.length := by
      have := nodup_len (n := ps.length) hnd (fun z hz => by obtain ⟨y, e, hy, _⟩ := (hlm z).1 hz; exact ⟨y, e, by omega⟩)
      omega
    have hcnt : ∀ y : Nat, y < ps.length → ((r.2).count (y : Int)) = ((gOf ps).getD y []).count (k : Int) := by
      intro y hy
      rw [hr2, us0_count, if_pos hy]
    refine IfB.intro (fun he => ?_) (fun he => ?_)
    · have hjl := of_decide_eq_true he
      obtain ⟨p4, z, hp4, hz, hld4⟩ := has_at ((hU.mod hS.fr).each r hrm) (i := j) (by omega)
      obtain ⟨y, rfl, hy⟩ := us0_mem (g := gOf ps) (i := ps.length) (k := k) (by rw [← hr2]; exact List.mem_of_getElem? hz)
      obtain ⟨p5, hp5, htl5, hld5⟩ := hS.at (k := y) (by omega)
      have hcy := hlv y hy
      have htake : (r.2.take (j + 1)) = r.2.take j ++ [(y : Int)] := by rw [List.take_add_one, hz]; rfl
      have hsub : (r.2.take (j + 1)).count (y : Int) ≤ r.2.count (y : Int) := (List.take_sublist _ _).count_le _
      rw [htake, List.count_append, hcnt y hy] at hsub
      have hone : List.count (y : Int) [(y : Int)] = 1 := by simp
      rw [hone] at hsub
      have hua := unr_add (g := gOf ps) hrd.1 y
      have hub : unr (gOf ps) out y ≤ 1000000 := by
        unfold unr
        have := List.countP_le_length (p := fun z => decide (z ∉ out)) (l := (gOf ps).getD y [])
        have h6 : ((gOf ps).getD y []).length ≤ tot (gOf ps) := by
          cases hg : (gOf ps)[y]? with
          | none => rw [List.getD_eq_getElem?_getD, hg]; simp
          | some l0 => rw [getD_of hg]; exact tot_mem (List.mem_of_getElem? hg)
        omega
      obtain ⟨p6, hp6, htl6, hwr6, hS6⟩ := hS.set (k := y) (by omega) (ge lf y - 1)
      refine ⟨p4, hp4, by omega, by omega, _, by rw [Int.toNat_natCast]; exact hld4, p5, hp5, by omega, by omega, _, hld5, p6, hp6, by omega, by omega, hwr6, ?_⟩
      rw [wrap64 (ge lf y - 1) (by omega)]
      rintro w10 rfl
      have hlf2 : (lf.set y (ge lf y - 1)).length = ps.length := by rw [List.length_set]; exact hlf
      obtain ⟨p7, hp7, htl7, hld7⟩ := hS6.at (k := y) (by omega)
      refine ⟨p7, hp7, by omega, by omega, _, hld7, ?_⟩
      have hgy : ge (lf.set y (ge lf y - 1)) y = ge lf y - 1 := by rw [ge_set (by omega), if_pos rfl]
      have hlv2 : ∀ y' : Nat, y' < ps.length → ge (lf.set y (ge lf y - 1)) y' + ((r.2.take (j + 1)).count (y' : Int) : Int) = (unr (gOf ps) out y' : Int) := by
        intro y' hy'
        have := hlv y' hy'
        rw [htake, List.count_append, ge_set (by omega)]
        by_cases e : y' = y
        · subst e; rw [if_pos rfl, hone]; omega
        · rw [if_neg e]
          have h0 : List.count (y' : Int) [(y : Int)] = 0 := by rw [List.count_eq_zero]; simp; omega
          rw [h0]; omega
      have hyo : (y : Int) ∉ out ++ [(k : Int)] := fun hm => by
        rcases List.mem_append.1 hm with hm | hm
        · have := hcl y hm; omega
        · have e : y = k := by simp at hm; omega
          have := (rdy_iff.1 hrd).2
          rw [e] at hsub hua; omega
      have hyl : (y : Int) ∉ l := fun hm => by
        obtain ⟨y', e, _, _, h0⟩ := (hlm _).1 hm
        have : y' = y := by omega
        subst this; omega
      rw [hgy]
      refine IfB.intro (fun hf => ?_) (fun hf => ?_)
      · have hf := eq_of_beq hf
        refine runT_mk36 (runT_mk3 ?_)
        refine (hS6.push (y : Int) (by omega)).mono ?_
        rintro _ w11 ⟨rfl, q', l', hpm, hS7⟩
        refine ⟨rfl, r.1.l - (j + 1), by omega, j + 1, q', _, l', by rw [wrap64 _ (by omega)]; omega, by omega, rfl, hS7, hlf2, hlv2, hpm.nodup_iff.2 (List.nodup_cons.2 ⟨hyl, hnd⟩), ?_⟩
        intro z'
        rw [hpm.mem_iff, List.mem_cons, hlm]
        constructor
        · rintro (rfl | ⟨y', e, hy', h1, h2⟩)
          · exact ⟨y, rfl, hy, hyo, by rw [hgy]; exact hf⟩
          · refine ⟨y', e, hy', h1, ?_⟩
            rw [ge_set (by omega)]
            split
            · exact hf
            · exact h2
        · rintro ⟨y', e, hy', h1, h2⟩
          by_cases ey : y' = y
          · subst ey; exact .inl e
          · rw [ge_set (by omega), if_neg ey] at h2
            exact .inr ⟨y', e, hy', h1, h2⟩
      · have hf := ne_of_beq_false hf
        refine ⟨r.1.l - (j + 1), by omega, j + 1, q, _, l, by rw [wrap64 _ (by omega)]; omega, by omega, rfl, hS6, hlf2, hlv2, hnd, ?_⟩
        intro z'
        rw [hlm]
        constructor
        · rintro ⟨y', e, hy', h1, h2⟩
          refine ⟨y', e, hy', h1, ?_⟩
          rw [ge_set (by omega)]
          split
          · rename_i ey
            subst ey; omega
          · exact h2
        · rintro ⟨y', e, hy', h1, h2⟩
          rw [ge_set (by omega)] at h2
          split at h2
          · exact absurd h2 hf
          · exact ⟨y', e, hy', h1, h2⟩
    · have hjg := of_decide_eq_false he
      have hj2 : r.2.take j = r.2 := List.take_of_length_le (by omega)
      have hfin : ∀ y : Nat, y < ps.length → ge lf y = (unr (gOf ps) (out ++ [(k : Int)]) y : Int) := by
        intro y hy
        have h1 := hlv y hy
        rw [hj2, hcnt y hy] at h1
        have := unr_add (g := gOf ps) hrd.1 y
        omega
      refine ⟨ps.length - (c + 1), by omega, q, lf, l, _, c + 1, hS, rfl, hrow', hcl', hlf, hfin, hnd, ?_⟩
      intro z
      rw [hlm]
      constructor
      · rintro ⟨y, e, hy, h1, h2⟩
        exact ⟨y, e, by omega, rdy_iff.2 ⟨h1, by rw [hfin y hy] at h2; omega⟩⟩
      · rintro ⟨y, e, hy, h1⟩
        obtain ⟨h2, h3⟩ := rdy_iff.1 h1
        exact ⟨y, e, by omega, h2, by rw [hfin y (by omega), h3]; rfl⟩
  · have hz := of_decide_eq_false hd
    have hl0 : l = [] := List.eq_nil_of_length_eq_zero (by omega)
    subst hl0
    have hst := hrow.stop (nxt_empty hlm)
    have f6 := f02.n hS.fr
    refine IfB.intro (fun he => ?_) (fun he => ?_)
    · have he := of_decide_eq_true he
      have hsc : scode (gOf ps) = 64 := by rw [scode, if_pos (by rw [hst]; omega)]
      refine ⟨⟨none, 0, 0⟩, by rw [sortC, if_pos hmay, hsc], ?_, f6⟩
      rw [sortL, if_neg (fun h => by rw [hsc] at h; exact absurd h.2 (by decide))]
      exact Has.nil _ _ _ rfl
    · have he := of_decide_eq_false he
      have hsc : scode (gOf ps) = 0 := by rw [scode, if_neg (by rw [hst]; omega)]
      refine ⟨x9, by rw [sortC, if_pos hmay, hsc], ?_, f6⟩
      rw [sortL, if_pos ⟨hmay, hsc⟩, hst]
      exact hS.ou.has
end Go.Proofs.Ytjpcbggodhfabaa
