/- What the calls of package disk do, over a plain disk. -/
import Derived.Test.YtlbipbepeeopaaaE
import Derived.Test.YtlbipbepeeopaaaF
set_option linter.unusedVariables false
set_option linter.unusedSimpArgs false
namespace Go.Proofs.YtlbipbepeeopaaaV
open Go
theorem flatMap_take {α β : Type} {f : α → List β} {sz : Nat} : ∀ {l : List α}, (∀ a ∈ l, (f a).length = sz) → ∀ i, (l.flatMap f).take (i * sz) = (l.take i).flatMap f
  | [], _, i => by simp
  | a :: r, hl, 0 => by simp
  | a :: r, hl, i + 1 => by
    have ha := hl a (by simp)
    rw [List.flatMap_cons, List.take_succ_cons, List.flatMap_cons, Nat.add_mul, Nat.one_mul, Nat.add_comm, List.take_append, List.take_of_length_le (by omega), ha, Nat.add_sub_cancel_left, flatMap_take (fun x hx => hl x (by simp [hx]))]
theorem flatMap_drop {α β : Type} {f : α → List β} {sz : Nat} : ∀ {l : List α}, (∀ a ∈ l, (f a).length = sz) → ∀ i, (l.flatMap f).drop (i * sz) = (l.drop i).flatMap f
  | [], _, i => by simp
  | a :: r, hl, 0 => by simp
  | a :: r, hl, i + 1 => by
    have ha := hl a (by simp)
    rw [List.flatMap_cons, List.drop_succ_cons, Nat.add_mul, Nat.one_mul, Nat.add_comm, ← List.drop_drop, ← ha, List.drop_left, ha, flatMap_drop (fun x hx => hl x (by simp [hx]))]
theorem flatMap_set {α β : Type} {f : α → List β} {sz : Nat} {l : List α} (hl : ∀ a ∈ l, (f a).length = sz) {i : Nat} (hi : i < l.length) (b : α) :
    (l.set i b).flatMap f = (l.flatMap f).take (i * sz) ++ f b ++ (l.flatMap f).drop (i * sz + sz) := by
  rw [flatMap_take hl, show i * sz + sz = (i + 1) * sz by rw [Nat.add_mul, Nat.one_mul], flatMap_drop hl, List.set_eq_take_append_cons_drop, if_pos hi, List.flatMap_append, List.flatMap_cons, List.append_assoc]
/-- A row of which a stretch was written over. -/
theorem Row.spliced {w' : World} {s : Sl} {E : TypeId} {sz : Nat} {cs : List Value} {g : Nat} {cur : Array Value} (hg : s.a = some ⟨g, 0, Option.none⟩) (h1 : s.l ≤ s.c) (h2 : s.c ≤ maxLen) (h3 : cur.size = s.c * sz) (h4 : cur.toList.take (s.l * sz) = cs)
    {o : Nat} {vs : List Value} (ho : o + vs.length ≤ s.l * sz) (hB : Blk w' g (cur.toList.take o ++ vs ++ cur.toList.drop (o + vs.length)).toArray E) : Row w' s E sz (cs.take o ++ vs ++ cs.drop (o + vs.length)) := by
  have hm := Nat.mul_le_mul_right sz h1
  have hcl : cur.toList.length = s.c * sz := by rw [Array.length_toList, h3]
  have hl : (cur.toList.take o ++ vs ++ cur.toList.drop (o + vs.length)).length = s.c * sz := by
    simp only [List.length_append, List.length_take, List.length_drop, hcl]; omega
  have hr := Row.mk (n := s.l) (c := s.c) (sz := sz) hB h1 h2 (by rw [List.size_toArray, hl])
  have e : (⟨some ⟨g, 0, Option.none⟩, s.l, s.c⟩ : Sl) = s := by obtain ⟨a, l, c⟩ := s; simp at hg; subst hg; rfl
  rw [e] at hr
  have e2 : (cur.toList.take o ++ vs ++ cur.toList.drop (o + vs.length)).toArray.toList.take (s.l * sz) = cs.take o ++ vs ++ cs.drop (o + vs.length) := by
    rw [List.toList_toArray, ← h4, List.take_append, List.take_of_length_le (by simp only [List.length_append, List.length_take, hcl]; omega)]
    have hl2 : (cur.toList.take o ++ vs).length = o + vs.length := by simp only [List.length_append, List.length_take, hcl]; omega
    rw [hl2, List.take_take, Nat.min_eq_left (by omega), List.drop_take]
  rw [e2] at hr
  exact hr
/-- A block written whole. -/
theorem Blk.whole {w : World} {b : Nat} {cs vs : Array Value} {T : TypeId} (h : Blk w b cs T) (hl : vs.size = cs.size) : WrA w ⟨b, 0, Option.none⟩ vs.size ∧ Blk (YtlbipbepeeopaaaV.setAt w ⟨b, 0, Option.none⟩ vs.toList 0) b vs T ∧ Frm (fun k => k = b) w (YtlbipbepeeopaaaV.setAt w ⟨b, 0, Option.none⟩ vs.toList 0) := by
  refine ⟨h.wrA (by omega), ?_, mod_setAt (a := ⟨b, 0, Option.none⟩)⟩
  have h1 := h.setAt (o := 0) (i := 0) (vs := vs.toList)
  have e : setList cs (0 + 0) vs.toList = vs := by rw [Nat.add_zero, setList_all _ _ (by rw [Array.length_toList, hl]), Array.toArray_toList]
  rwa [e] at h1
theorem Blk.has {w : World} {b : Nat} {cs : Array Value} {T : TypeId} (h : Blk w b cs T) (c : Nat) : Has w ⟨some ⟨b, 0, Option.none⟩, cs.size, c⟩ 1 cs.toList :=
  ⟨by rw [Array.length_toList, Nat.mul_one], fun j u hu => ⟨_, rfl, by rw [addr_add, Nat.zero_add]; exact h.ld (by simpa using hu)⟩⟩
end Go.Proofs.YtlbipbepeeopaaaV
namespace Go.Proofs.Ytlbipbepeeopaaa
open Go Go.Proofs.YtlbipbepeeopaaaV
theorem calls_ret {P : Program} {f : FuncId} {args : Array Value} {w : World} {R : Value → World → Prop} {R' : Ending → World → Prop} (h : Calls P f args w fun en w' => ∃ v, en = .returned v ∧ R v w')
    (hr : ∀ v w', R v w' → R' (.returned v) w') : Calls P f args w R' := h.mono fun en w' ⟨v, he, hR⟩ => by subst he; exact hr v w' hR
theorem trN {a b c : World} (h : Frm none_ a b) (k : Frm none_ b c) : Frm none_ a c := h.trans k (fun _ _ h => h) (fun _ _ h => h)
theorem wi (e : Int) (h : -9223372036854775808 ≤ e ∧ e ≤ 9223372036854775807) : IntKind.wrap .i64 e = e := by rw [IntKind.wrap_i64]; omega
theorem st31 : SlT prog 23 5 1 1 (.int .u8 0) := ⟨by kernel_rfl, by kernel_rfl, rfl, by decide⟩
theorem st55 : SlT prog 69 74 256 256 (.agg (Array.replicate 256 (.int .u8 0))) := ⟨by kernel_rfl, by kernel_rfl, by kernel_rfl, by decide⟩
theorem un9 : prog.underlying 9 = some .string := by kernel_rfl
theorem un5 : prog.underlying 5 = some (.int .u8) := by kernel_rfl
theorem un31 : prog.underlying 23 = some (.slice 5) := by kernel_rfl
theorem nil_neq (i : Nat) : BinIs prog .neq 31 (.tmp i) (.const (.pointer none)) (.pointer none) (.pointer none) false := fun w => by kernel_rfl
theorem some_neq (i b : Nat) : BinIs prog .neq 31 (.tmp i) (.const (.pointer none)) (.pointer (some ⟨b, 0, none⟩)) (.pointer none) true := fun w => by kernel_rfl
theorem nil_eql (i : Nat) : BinIs prog .eql 31 (.tmp i) (.const (.pointer none)) (.pointer none) (.pointer none) true := fun w => by kernel_rfl
theorem some_eql (i b : Nat) : BinIs prog .eql 31 (.tmp i) (.const (.pointer none)) (.pointer (some ⟨b, 0, none⟩)) (.pointer none) false := fun w => by kernel_rfl

/-- A disk, plainly. -/
structure Dk where
  bl : List (List UInt8)
  wr : Nat
  cut : Int
  dead : Bool
structure OkD (d : Dk) : Prop where
  len : ∀ l ∈ d.bl, l.length = 256
  n0 : 512 ≤ d.bl.length
  n1 : d.bl.length ≤ 32768
  wr : d.wr ≤ 1000000
  cut : -1 ≤ d.cut ∧ d.cut ≤ 9223372036854775807
/-- A disk in memory; all that it has lies in G. -/
structure DkP (G : Nat → Prop) (w : World) (b : Nat) (s : Sl) (d : Dk) : Prop where
  blk : Blk w b #[.slice s.a s.l s.c, .int .i64 (d.wr : Int), .int .i64 d.cut, .bool d.dead] 71
  row : Row w s 74 256 (d.bl.flatMap bv)
  len : d.bl.length = s.l
  gb : G b
  gs : ∀ k, s.blk = some k → G k
  ok : OkD d
def DkQ (G : Nat → Prop) (w : World) (x : Option Addr) (d : Dk) : Prop := ∃ b s, x = some ⟨b, 0, none⟩ ∧ DkP G w b s d
theorem DkQ.mod {G F : Nat → Prop} {w w' : World} {x : Option Addr} {d : Dk} (h : DkQ G w x d) (hm : Frm F w w') (hg : ∀ k, G k → ¬ F k) : DkQ G w' x d := by
  obtain ⟨b, s, rfl, h⟩ := h
  exact ⟨b, s, rfl, h.blk.mod hm (hg b h.gb), h.row.mod hm (fun k hk => hg k (h.gs k hk)), h.len, h.gb, h.gs, h.ok⟩
def livesD (d : Dk) : Int := if d.dead then 20 else 0
def cutD (n : Int) (d : Dk) : Int × Dk := if d.dead then (20, d) else if n < 0 then (1, d) else (0, { d with cut := n })
def writeD (i : Int) (b : List UInt8) (d : Dk) : Int × Dk :=
  if d.dead then (20, d) else if i < 0 ∨ i ≥ d.bl.length ∨ b.length ≠ 256 then (1, d) else if d.cut = 0 then (20, { d with dead := true })
  else (0, { d with bl := d.bl.set i.toNat b, wr := d.wr + 1, cut := if d.cut > 0 then d.cut - 1 else d.cut })
theorem lives_calls (G : Nat → Prop) (w : World) (x : Option Addr) (d : Dk) (h : DkQ G w x d) : Calls prog 32 #[.pointer x] w fun e w' => e = .returned (.int .i64 (livesD d)) ∧ w = w' := by
  refine calls_ret (W32 (Q := fun v w' => v = .int .i64 (livesD d) ∧ w = w') ?_) (fun v w' ⟨h, h'⟩ => ⟨by rw [h], h'⟩)
  unfold F32
  obtain ⟨b, s, rfl, h⟩ := h
  refine ⟨_, some_eql _ b, IfB.f rfl ⟨_, rfl, d.dead, by rw [addr_add]; exact h.blk.ld rfl, IfB.intro (fun h => ?_) (fun h => ?_)⟩⟩
  · exact ⟨by unfold livesD; rw [h]; rfl, rfl⟩
  · exact ⟨by unfold livesD; rw [h]; rfl, rfl⟩
theorem cut_calls (G : Nat → Prop) (w : World) (x : Option Addr) (d : Dk) (n : Int) (hn : n ≤ 9223372036854775807) (h : DkQ G w x d) : Calls prog 11 #[.pointer x, .int .i64 n] w fun e w' => e = .returned (.int .i64 (cutD n d).1) ∧ DkQ G w' x (cutD n d).2 ∧ Frm G w w' := by
  refine calls_ret (W11 (Q := fun v w' => v = .int .i64 (cutD n d).1 ∧ DkQ G w' x (cutD n d).2 ∧ Frm G w w') ?_) (fun v w' ⟨h, h'⟩ => ⟨by rw [h], h'⟩)
  unfold F11
  refine (lives_calls G w x d h).mono ?_
  rintro _ _ ⟨rfl, rfl⟩
  refine ⟨_, rfl, ?_⟩
  cases hd : d.dead with
  | true =>
    have e : cutD n d = (20, d) := by unfold cutD; rw [hd]; rfl
    have e2 : livesD d = 20 := by unfold livesD; rw [hd]; rfl
    rw [e, e2]
    exact IfB.t rfl ⟨rfl, h, Frm.refl _ _⟩
  | false =>
    have e2 : livesD d = 0 := by unfold livesD; rw [hd]; rfl
    rw [e2]
    refine IfB.f rfl (IfB.intro (fun h0 => ?_) (fun h0 => ?_))
    · have e : cutD n d = (1, d) := by unfold cutD; rw [hd]; simp [of_decide_eq_true h0]
      rw [e]
      exact ⟨rfl, h, Frm.refl _ _⟩
    · have h0' := of_decide_eq_false h0
      have e : cutD n d = (0, { d with cut := n }) := by unfold cutD; rw [hd]; simp only [Bool.false_eq_true, if_false]; rw [if_neg h0']
      rw [e]
      obtain ⟨b, s, rfl, h⟩ := h
      refine ⟨_, rfl, by rw [addr_add]; exact h.blk.wr (show 2 < 4 by decide), ?_⟩
      rintro w1 rfl
      rw [addr_add]
      have hm : Frm (fun k => k = b) w (w.setCell ⟨b, 0 + 2, none⟩ (.int .i64 n)) := mod_setCell (a := ⟨b, 0 + 2, none⟩)
      have hne : ∀ k, s.blk = some k → ¬ k = b := by
        rintro k hk rfl
        rcases h.row.cases with ⟨rfl, _⟩ | ⟨g, cur, ha, hB, _⟩
        · simp [Sl.blk] at hk
        · simp [Sl.blk, ha] at hk; subst hk
          have := hB.symm.trans h.blk
          simp only [Option.some.injEq, Obj.cells.injEq] at this
          exact absurd this.2.1 (by decide)
      exact ⟨rfl, ⟨b, s, rfl, h.blk.set 2 _, h.row.mod hm hne, h.len, h.gb, h.gs, ⟨h.ok.len, h.ok.n0, h.ok.n1, h.ok.wr, by simp only; omega⟩⟩, hm.mono (fun k _ hk => hk ▸ h.gb)⟩
theorem DkP.ne {G : Nat → Prop} {w : World} {b : Nat} {s : Sl} {d : Dk} (h : DkP G w b s d) : ∀ k, s.blk = some k → ¬ k = b := by
  rintro k hk rfl
  rcases h.row.cases with ⟨rfl, _⟩ | ⟨g, cur, ha, hB, _⟩
  · simp [Sl.blk] at hk
  · simp [Sl.blk, ha] at hk; subst hk
    have := hB.symm.trans h.blk
    simp only [Option.some.injEq, Obj.cells.injEq] at this
    exact absurd this.2.1 (by decide)
theorem bl_len {d : Dk} (h : OkD d) : ∀ l ∈ d.bl, (bv l).length = 256 := fun l hl => by rw [bv_length]; exact h.len l hl
set_option maxRecDepth 20000 in
theorem write_calls (G : Nat → Prop) (w : World) (x : Option Addr) (d : Dk) (i : Int) (t : Sl) (lb : List UInt8) (hi : -9223372036854775808 ≤ i ∧ i ≤ 9223372036854775807) (ht : Has w t 1 (bv lb)) (htg : ∀ k, t.blk = some k → ¬ G k) (h : DkQ G w x d) (hwr : d.wr < 1000000) :
    Calls prog 29 #[.pointer x, .int .i64 i, .slice t.a t.l t.c] w fun e w' => e = .returned (.int .i64 (writeD i lb d).1) ∧ DkQ G w' x (writeD i lb d).2 ∧ Frm G w w' := by
  refine calls_ret (W29 (Q := fun v w' => v = .int .i64 (writeD i lb d).1 ∧ DkQ G w' x (writeD i lb d).2 ∧ Frm G w w') ?_) (fun v w' ⟨h, h'⟩ => ⟨by rw [h], h'⟩)
  unfold F29
  have hlt : lb.length = t.l := by have := ht.len; rw [bv_length] at this; omega
  refine (lives_calls G w x d h).mono ?_
  rintro _ _ ⟨rfl, rfl⟩
  refine ⟨_, rfl, ?_⟩
  cases hd : d.dead with
  | true =>
    have e : writeD i lb d = (20, d) := by unfold writeD; rw [hd]; rfl
    have e2 : livesD d = 20 := by unfold livesD; rw [hd]; rfl
    rw [e, e2]
    exact IfB.t rfl ⟨rfl, h, Frm.refl _ _⟩
  | false =>
    have e2 : livesD d = 0 := by unfold livesD; rw [hd]; rfl
    rw [e2]
    refine IfB.f rfl ?_
    obtain ⟨b, s, rfl, h⟩ := h
    have hsl := h.len
    have hok := h.ok
    -- behind the arm that goes on: the bytes are laid, the counter goes up
    refine ⟨fun w' => 0 ≤ i ∧ i < d.bl.length ∧ lb.length = 256 ∧ d.cut ≠ 0 ∧ Blk w' b #[.slice s.a s.l s.c, .int .i64 (d.wr : Int), .int .i64 (if d.cut > 0 then d.cut - 1 else d.cut), .bool d.dead] 71 ∧ Frm (fun k => k = b) w w', ?_, ?_⟩
    · refine ⟨fun v w' => w' = w ∧ v = decide (i < 0 ∨ i ≥ d.bl.length ∨ lb.length ≠ 256), ?_, ?_⟩
      · refine IfB.intro (fun h0 => ?_) (fun h0 => ?_)
        · have h0 := of_decide_eq_true h0
          exact ⟨rfl, (decide_eq_true (.inl h0)).symm⟩
        · have h0 := of_decide_eq_false h0
          refine ⟨_, rfl, s, by rw [addr_add]; exact h.blk.ld rfl, IfB.intro (fun h1 => ?_) (fun h1 => ?_)⟩
          · have h1 := of_decide_eq_true h1
            exact ⟨rfl, (decide_eq_true (.inr (.inl (by omega)))).symm⟩
          · have h1 := of_decide_eq_false h1
            refine ⟨rfl, ?_⟩
            by_cases h2 : lb.length = 256
            · rw [decide_eq_false (by omega), bne_eq_false_iff_eq]; omega
            · rw [decide_eq_true (by omega), bne_iff_ne]; omega
      rintro u v w1 ⟨rfl, rfl⟩
      refine IfB.intro (fun h0 => ?_) (fun h0 => ?_)
      · have h0 := of_decide_eq_true h0
        have e : writeD i lb d = (1, d) := by unfold writeD; rw [hd]; simp only [Bool.false_eq_true, if_false]; rw [if_pos h0]
        rw [e]
        exact ⟨rfl, ⟨b, s, rfl, h⟩, Frm.refl _ _⟩
      · have h0 := of_decide_eq_false h0
        refine ⟨_, rfl, d.cut, by rw [addr_add]; exact h.blk.ld rfl, IfB.intro (fun h1 => ?_) (fun h1 => ?_)⟩
        · have h1 := eq_of_beq h1
          have e : writeD i lb d = (20, { d with dead := true }) := by unfold writeD; rw [hd]; simp only [Bool.false_eq_true, if_false]; rw [if_neg h0, if_pos h1]
          rw [e]
          refine ⟨_, rfl, by rw [addr_add]; exact h.blk.wr (show 3 < 4 by decide), ?_⟩
          rintro w2 rfl
          rw [addr_add]
          have hm : Frm (fun k => k = b) w1 (w1.setCell ⟨b, 0 + 3, none⟩ (.bool true)) := mod_setCell (a := ⟨b, 0 + 3, none⟩)
          exact ⟨rfl, ⟨b, s, rfl, h.blk.set 3 _, h.row.mod hm h.ne, h.len, h.gb, h.gs, ⟨hok.len, hok.n0, hok.n1, hok.wr, hok.cut⟩⟩, hm.mono (fun k _ hk => hk ▸ h.gb)⟩
        · have h1 := ne_of_beq_false h1
          refine ⟨_, rfl, d.cut, by rw [addr_add]; exact h.blk.ld rfl, IfB.intro (fun h2 => ?_) (fun h2 => ?_)⟩
          · have h2 := of_decide_eq_true h2
            refine ⟨_, rfl, d.cut, by rw [addr_add]; exact h.blk.ld rfl, _, rfl, by rw [addr_add]; exact h.blk.wr (show 2 < 4 by decide), ?_⟩
            rintro w2 rfl
            rw [addr_add]
            have hm : Frm (fun k => k = b) w1 (w1.setCell ⟨b, 0 + 2, none⟩ (.int .i64 (IntKind.wrap .i64 (d.cut - 1)))) := mod_setCell (a := ⟨b, 0 + 2, none⟩)
            have hc := hok.cut
            refine ⟨by omega, by omega, by omega, h1, ?_, hm⟩
            rw [if_pos h2, wi (d.cut - 1) (by omega)]
            exact h.blk.set 2 _
          · have h2 := of_decide_eq_false h2
            refine ⟨by omega, by omega, by omega, h1, ?_, Frm.refl _ _⟩
            rw [if_neg h2]; exact h.blk
    rintro u w1 ⟨hi0, hi1, hlb, hcut, hB1, hm1⟩
    obtain ⟨j, rfl⟩ := Int.eq_ofNat_of_zero_le hi0
    have hj : j < d.bl.length := by omega
    have e : writeD (j : Int) lb d = (0, { d with bl := d.bl.set j lb, wr := d.wr + 1, cut := if d.cut > 0 then d.cut - 1 else d.cut }) := by
      unfold writeD; rw [hd]; simp only [Bool.false_eq_true, if_false]
      rw [if_neg (show ¬ ((j : Int) < 0 ∨ (j : Int) ≥ (d.bl.length : Int) ∨ lb.length ≠ 256) by omega), if_neg hcut, Int.toNat_natCast]
    rw [e]
    have hr1 := h.row.mod hm1 h.ne
    have ht1 := ht.mod hm1 (fun k hk hkb => htg k hk (hkb ▸ h.gb))
    have hn0 := hok.n0
    rcases hr1.cases with ⟨rfl, _⟩ | ⟨g, cur, hg, hBg, hlc, hcm, hcs, htake⟩
    · have h0 : d.bl.length = 0 := hsl
      omega
    refine ⟨_, rfl, s, by rw [addr_add]; exact hB1.ld rfl, _, hg, by omega, by omega, ?_⟩
    have hta : ∃ a, t.a = some a := by
      have h0 : 0 < (bv lb).length := by rw [bv_length]; omega
      obtain ⟨p, hp, _⟩ := ht1.ex h0
      exact ⟨p, hp⟩
    obtain ⟨ta, hta⟩ := hta
    obtain ⟨t_a, t_l, t_c⟩ := t
    simp only at hta hlt
    subst hta
    have ea : (if 256 = 0 then (⟨g, 0, none⟩ : Addr).add ((j : Int).toNat * 256) else ((⟨g, 0, none⟩ : Addr).add ((j : Int).toNat * 256)).add (0 * 1)) = ⟨g, j * 256, none⟩ := by
      rw [if_neg (by decide), addr_add, addr_add, Int.toNat_natCast]; simp
    rw [ea]
    have hmin : Nat.min t_l (256 - 0) = 256 := by rw [← hlt, hlb]; rfl
    have hmul := Nat.mul_le_mul_right 256 hlc
    refine runT_copy st31 hBg ht1 (by rw [hmin]; omega) (bv_one lb) ?_
    rw [hmin]
    intro w2 hB2 hm2 hs2
    have htk : (bv lb).take (256 * 1) = bv lb := List.take_of_length_le (by rw [bv_length]; omega)
    rw [htk] at hB2
    have hgb : s.blk = some g := by simp [Sl.blk, hg]
    have hgne : ¬ g = b := h.ne g hgb
    have hB12 := hB1.mod hm2 (fun e => hgne e.symm)
    have hsp := Row.spliced hg hlc hcm hcs htake (o := j * 256) (vs := bv lb) (by rw [bv_length]; omega) (by rw [bv_length, hlb]; exact hB2)
    rw [bv_length, hlb, ← flatMap_set (f := bv) (sz := 256) (bl_len hok) hj lb] at hsp
    refine ⟨_, rfl, (d.wr : Int), by rw [addr_add]; exact hB12.ld rfl, _, rfl, by rw [addr_add]; exact hB12.wr (show 1 < 4 by decide), ?_⟩
    rintro w3 rfl
    rw [addr_add, wi _ (by omega)]
    have hm3 : Frm (fun k => k = b) w2 (w2.setCell ⟨b, 0 + 1, none⟩ (.int .i64 ((d.wr : Int) + 1))) := mod_setCell (a := ⟨b, 0 + 1, none⟩)
    refine ⟨rfl, ⟨b, s, rfl, hB12.set 1 _, hsp.mod hm3 (fun k hk => by rw [hgb] at hk; cases hk; exact hgne), by simp only [List.length_set]; exact hsl, h.gb, h.gs, ⟨?_, by simp only [List.length_set]; exact hok.n0, by simp only [List.length_set]; exact hok.n1, by simp only; omega, ?_⟩⟩, ?_⟩
    · intro l hl
      rcases List.mem_or_eq_of_mem_set hl with h | h
      · exact hok.len l h
      · rw [h]; exact hlb
    · have hc := hok.cut
      simp only; split <;> omega
    · exact ((hm1.trans hm2 (fun k _ hk => hk ▸ h.gb) (fun k _ hk => hk ▸ h.gs g hgb) (H := G))).trans hm3 (fun _ _ h => h) (fun k _ hk => hk ▸ h.gb)
theorem writes_calls (G : Nat → Prop) (w : World) (x : Option Addr) (d : Dk) (h : DkQ G w x d) : Calls prog 22 #[.pointer x] w fun e w' => e = .returned (.int .i64 (d.wr : Int)) ∧ w = w' := by
  refine calls_ret (W22 (Q := fun v w' => v = .int .i64 (d.wr : Int) ∧ w = w') ?_) (fun v w' ⟨h, h'⟩ => ⟨by rw [h], h'⟩)
  unfold F22
  obtain ⟨b, s, rfl, h⟩ := h
  exact ⟨_, some_eql _ b, IfB.f rfl ⟨_, rfl, _, by rw [addr_add]; exact h.blk.ld rfl, rfl, rfl⟩⟩
theorem dead_calls (G : Nat → Prop) (w : World) (x : Option Addr) (d : Dk) (h : DkQ G w x d) : Calls prog 12 #[.pointer x] w fun e w' => e = .returned (.bool d.dead) ∧ w = w' := by
  refine calls_ret (W12 (Q := fun v w' => v = .bool d.dead ∧ w = w') ?_) (fun v w' ⟨h, h'⟩ => ⟨by rw [h], h'⟩)
  unfold F12
  obtain ⟨b, s, rfl, h⟩ := h
  exact ⟨_, some_neq _ b, IfB.t rfl ⟨_, rfl, _, by rw [addr_add]; exact h.blk.ld rfl, rfl, rfl⟩⟩
theorem made_const {cells : Array Value} {v : Value} (h : ∀ i, i < cells.size → cells[i]! = v) (h0 : 0 < cells.size) (n : Nat) : (madeCells cells n).toList = List.replicate n v := by
  apply List.eq_replicate_iff.2
  refine ⟨by rw [Array.length_toList, size_madeCells], ?_⟩
  intro u hu
  simp only [madeCells, Array.toList_map, List.mem_map] at hu
  obtain ⟨i, _, rfl⟩ := hu
  exact h _ (Nat.mod_lt _ h0)
theorem full_calls (w : World) (c : UInt8) : Calls prog 8 #[.int .u8 (c.toNat : Int)] w fun e w' => ∃ t : Sl, e = .returned (.slice t.a t.l t.c) ∧ Row w' t 5 1 (bv (List.replicate 256 c)) ∧ (∀ k, t.blk = some k → k = w.heap.size) ∧ Frm none_ w w' := by
  refine calls_ret (W8 (Q := fun v w' => ∃ t : Sl, v = .slice t.a t.l t.c ∧ Row w' t 5 1 (bv (List.replicate 256 c)) ∧ (∀ k, t.blk = some k → k = w.heap.size) ∧ Frm none_ w w') ?_) (fun v w' ⟨t, h, h'⟩ => ⟨t, by rw [h], h'⟩)
  unfold F8
  refine runT_makeN st31 (by omega) (by omega) (by omega) ?_
  intro t w1 hr hl hc ha hm hs
  have hz : (madeCells (Value.int IntKind.u8 0).cells ((256 : Int).toNat * 1)).toList = bv (List.replicate 256 0) := by
    rw [made_const (v := .int .u8 0) (by intro i hi; simp [Value.cells] at hi; subst hi; rfl) (by simp [Value.cells])]
    unfold bv; rw [List.map_replicate]; rfl
  rw [hz] at hr
  have hbk : t.blk = some w.heap.size := by simp [Sl.blk, ha]
  have hl : t.l = 256 := hl
  refine ⟨fun n x4 w2 => ∃ j : Nat, x4 = (j : Int) ∧ j ≤ 256 ∧ n = 256 - j ∧ Row w2 t 5 1 (bv (List.replicate j c ++ List.replicate (256 - j) 0)) ∧ Frm none_ w w2, 256, ⟨0, rfl, by omega, by omega, by rw [List.replicate_zero, List.nil_append, Nat.sub_zero]; exact hr, hm⟩, ?_⟩
  rintro n u x4 w2 ⟨j, rfl, hj, rfl, hr2, hm2⟩
  refine IfB.intro (fun h => ?_) (fun h => ?_)
  · have hlt := of_decide_eq_true h
    obtain ⟨g, hg, hwr, hset⟩ := hr2.wr (j := j) (by rw [bv_length]; simp; omega)
    rw [ha] at hg; cases hg
    have ead : (⟨w.heap.size, 0, none⟩ : Addr).add ((j : Int).toNat * 1) = ⟨w.heap.size, j, none⟩ := by rw [addr_add]; simp
    refine ⟨_, ha, by omega, by omega, by rw [ead]; exact hwr, ?_⟩
    rintro w3 rfl
    rw [ead]
    refine ⟨256 - (j + 1), by omega, j + 1, by rw [wi _ (by omega)]; omega, by omega, rfl, ?_, hm2.trans (mod_setCell (a := ⟨w.heap.size, j, none⟩)) (fun _ _ h => h) (fun x hx he => by have he : x = w.heap.size := he; omega)⟩
    have e : (bv (List.replicate j c ++ List.replicate (256 - j) 0)).set j (.int .u8 (c.toNat : Int)) = bv (List.replicate (j + 1) c ++ List.replicate (256 - (j + 1)) 0) := by
      rw [bv_append, List.set_append_right _ _ (by rw [bv_length]; simp), bv_length, List.length_replicate, Nat.sub_self]
      obtain ⟨m, hm⟩ : ∃ m, 256 - j = m + 1 := ⟨255 - j, by omega⟩
      rw [hm, show 256 - (j + 1) = m by omega, List.replicate_succ (n := m), bv_append, List.replicate_succ' (n := j), bv_append, List.append_assoc]
      rfl
    rw [← e]
    exact hset _
  · have hge := of_decide_eq_false h
    have hj' : j = 256 := by omega
    subst hj'
    rw [Nat.sub_self, List.replicate_zero, List.append_nil] at hr2
    exact ⟨t, rfl, hr2, fun k hk => by rw [hbk] at hk; exact (Option.some.inj hk).symm, hm2⟩
theorem bv_rep (n : Nat) (c : UInt8) : bv (List.replicate n c) = List.replicate n (.int .u8 (c.toNat : Int)) := by unfold bv; rw [List.map_replicate]
def zeroB : List UInt8 := List.replicate 256 0
theorem bv_zeroB : bv zeroB = List.replicate 256 (.int .u8 0) := by
  rw [zeroB, bv_rep, show (((0 : UInt8).toNat : Nat) : Int) = 0 from rfl]
theorem flat_zero (n : Nat) : (List.replicate n zeroB).flatMap bv = List.replicate (n * 256) (.int .u8 0) := by
  induction n with
  | zero => rfl
  | succ n ih => rw [List.replicate_succ, List.flatMap_cons, ih, bv_zeroB, List.replicate_append_replicate, Nat.add_mul, Nat.one_mul, Nat.add_comm]
theorem b57 (s : Sl) : BuildIs prog 71 #[(0, .slice s.a s.l s.c), (2, .int .i64 (-1))] #[.slice s.a s.l s.c, .int .i64 0, .int .i64 (-1), .bool false] := fun w => by kernel_rfl
theorem new_calls (w : World) (n : Int) (h0 : 512 ≤ n) (h1 : n ≤ 32768) : Calls prog 18 #[.int .i64 n] w fun e w' => ∃ b G, e = .returned (.tuple #[.pointer (some ⟨b, 0, none⟩), .int .i64 0]) ∧ DkQ G w' (some ⟨b, 0, none⟩) ⟨List.replicate n.toNat zeroB, 0, -1, false⟩ ∧ (∀ k, G k → w.heap.size ≤ k ∧ k < w'.heap.size) ∧ Frm none_ w w' := by
  refine calls_ret (W18 (Q := fun v w' => ∃ b G, v = .tuple #[.pointer (some ⟨b, 0, none⟩), .int .i64 0] ∧ DkQ G w' (some ⟨b, 0, none⟩) ⟨List.replicate n.toNat zeroB, 0, -1, false⟩ ∧ (∀ k, G k → w.heap.size ≤ k ∧ k < w'.heap.size) ∧ Frm none_ w w') ?_) (fun v w' ⟨b, G, h, h'⟩ => ⟨b, G, by rw [h], h'⟩)
  unfold F18
  refine IfB.f (decide_eq_false (by omega)) (IfB.f (decide_eq_false (by omega)) ?_)
  refine runT_makeN st55 (by omega) (by omega) (by omega) ?_
  intro t w1 hr hl hc ha hm hs
  have hz : (madeCells (Value.agg (Array.replicate 256 (.int .u8 0))).cells (n.toNat * 256)).toList = (List.replicate n.toNat zeroB).flatMap bv := by
    rw [flat_zero, made_const (v := .int .u8 0) (by intro i hi; simp [Value.cells] at hi; simp [Value.cells, hi]) (by simp [Value.cells])]
  rw [hz] at hr
  refine ⟨_, b57 t, ?_⟩
  intro b w2 hnb
  have hm2 := hnb.mod none_
  have hbs : w1.heap.size = b := by obtain ⟨h, _⟩ := hnb; omega
  have hs2 := hnb.size
  have htb : t.blk = some w.heap.size := by simp [Sl.blk, ha]
  refine ⟨b, fun k => k = b ∨ k = w.heap.size, rfl, ⟨b, t, rfl, hnb.blk, hr.mod hm2 (fun _ _ h => h), by rw [List.length_replicate]; exact hl.symm, .inl rfl, fun k hk => by rw [htb] at hk; exact .inr (Option.some.inj hk).symm, ⟨?_, ?_, ?_, ?_, ?_⟩⟩, ?_, trN hm hm2⟩
  · intro l hl; rw [(List.mem_replicate.1 hl).2, zeroB, List.length_replicate]
  · rw [List.length_replicate]; omega
  · rw [List.length_replicate]; omega
  · simp
  · simp
  · rintro k (rfl | rfl) <;> omega
theorem some_sl (i g l c : Nat) : BinIs prog .eql 69 (.tmp i) (.const (.slice none 0 0)) (.slice (some ⟨g, 0, none⟩) l c) (.slice none 0 0) false := fun w => by kernel_rfl
theorem clone_calls (w : World) (s : Sl) (bl : List (List UInt8)) (hr : Row w s 74 256 (bl.flatMap bv)) (hl : bl.length = s.l) (h0 : 512 ≤ bl.length) (h1 : bl.length ≤ 32768) : Calls prog 33 #[.slice s.a s.l s.c] w fun e w' =>
    ∃ t : Sl, e = .returned (.slice t.a t.l t.c) ∧ Row w' t 74 256 (bl.flatMap bv) ∧ t.l = s.l ∧ (∀ k, t.blk = some k → w.heap.size ≤ k) ∧ Frm none_ w w' := by
  refine calls_ret (W33 (Q := fun v w' => ∃ t : Sl, v = .slice t.a t.l t.c ∧ Row w' t 74 256 (bl.flatMap bv) ∧ t.l = s.l ∧ (∀ k, t.blk = some k → w.heap.size ≤ k) ∧ Frm none_ w w') ?_) (fun v w' ⟨t, h, h'⟩ => ⟨t, by rw [h], h'⟩)
  unfold F33
  rcases hr.cases with ⟨rfl, _⟩ | ⟨g, cur, hg, hBg, hlc, hcm, hcs, htake⟩
  · have e0 : bl.length = 0 := hl
    omega
  obtain ⟨sa, sl, sc⟩ := s
  simp only at hg hl
  subst hg
  refine ⟨_, some_sl _ _ _ _, IfB.f rfl (runT_lit0 st55 ?_)⟩
  intro w1 hr1 hm1 hs1
  refine runT_append st55 hr1 (hr.mod hm1 (fun _ _ h => h)).has ?_ (by simp only; omega) (by simp only [maxLen]; omega) ?_
  · intro u hu
    obtain ⟨l, _, hu⟩ := List.mem_flatMap.1 hu
    exact bv_one l u hu
  intro t w2 hr2 hl2 hn2 hm2
  rw [List.nil_append] at hr2
  have hl2 : t.l = 0 + sl := hl2
  refine ⟨t, rfl, hr2, by simp only; omega, ?_, hm1.trans hm2 (fun _ _ h => h) (fun x hx hf => by simp [Sl.blk] at hf; omega)⟩
  intro k hk
  rcases hn2.cases hk with h | h
  · simp [Sl.blk] at h; omega
  · omega
theorem len_calls (G : Nat → Prop) (w : World) (x : Option Addr) (d : Dk) (h : DkQ G w x d) : Calls prog 38 #[.pointer x] w fun e w' => e = .returned (.int .i64 (d.bl.length : Int)) ∧ w = w' := by
  refine calls_ret (W38 (Q := fun v w' => v = .int .i64 (d.bl.length : Int) ∧ w = w') ?_) (fun v w' ⟨h, h'⟩ => ⟨by rw [h], h'⟩)
  unfold F38
  obtain ⟨b, s, rfl, h⟩ := h
  exact ⟨_, some_eql _ b, IfB.f rfl ⟨_, rfl, s, by rw [addr_add]; exact h.blk.ld rfl, by rw [h.len], rfl⟩⟩
/-- What Reopen tells of a dead disk: a new one with its blocks. -/
theorem reopen_calls (G : Nat → Prop) (w : World) (x : Option Addr) (d : Dk) (h : DkQ G w x d) (hd : d.dead = true) : Calls prog 13 #[.pointer x] w fun e w' =>
    ∃ b G', e = .returned (.tuple #[.pointer (some ⟨b, 0, none⟩), .int .i64 0]) ∧ DkQ G' w' (some ⟨b, 0, none⟩) ⟨d.bl, 0, -1, false⟩ ∧ (∀ k, G' k → w.heap.size ≤ k ∧ k < w'.heap.size) ∧ Frm none_ w w' := by
  refine calls_ret (W13 (Q := fun v w' => ∃ b G', v = .tuple #[.pointer (some ⟨b, 0, none⟩), .int .i64 0] ∧ DkQ G' w' (some ⟨b, 0, none⟩) ⟨d.bl, 0, -1, false⟩ ∧ (∀ k, G' k → w.heap.size ≤ k ∧ k < w'.heap.size) ∧ Frm none_ w w') ?_) (fun v w' ⟨b, G, h, h'⟩ => ⟨b, G, by rw [h], h'⟩)
  unfold F13
  obtain ⟨b, s, rfl, h⟩ := h
  refine ⟨_, some_eql _ b, IfB.f rfl ⟨_, rfl, d.dead, by rw [addr_add]; exact h.blk.ld rfl, IfB.f (by rw [hd]; rfl) ⟨_, rfl, s, by rw [addr_add]; exact h.blk.ld rfl, ?_⟩⟩⟩
  have hok := h.ok
  refine (clone_calls w s d.bl h.row h.len hok.n0 hok.n1).mono ?_
  rintro _ w1 ⟨t, rfl, hr1, hl1, hn1, hm1⟩
  refine ⟨t, rfl, _, b57 t, ?_⟩
  intro b2 w2 hnb
  have hm2 := hnb.mod none_
  have hbs : w1.heap.size = b2 := by obtain ⟨h, _⟩ := hnb; omega
  have hs2 := hnb.size
  have hsz := hm1.size
  refine ⟨b2, fun k => k = b2 ∨ t.blk = some k, rfl, ⟨b2, t, rfl, hnb.blk, hr1.mod hm2 (fun _ _ h => h), by rw [hl1]; exact h.len, .inl rfl, fun k hk => .inr hk, ⟨hok.len, hok.n0, hok.n1, by simp, by simp⟩⟩, ?_, trN hm1 hm2⟩
  rintro k (rfl | hk)
  · omega
  · have h1 := hn1 k hk
    have h2 := hr1.lt k hk
    omega
theorem DkQ.setD {G : Nat → Prop} {w : World} {x : Option Addr} {d : Dk} (h : DkQ G w x d) : ∀ k, G k → True := fun _ _ => trivial
set_option maxRecDepth 20000 in
theorem read_calls (G : Nat → Prop) (w : World) (x : Option Addr) (d : Dk) (i : Nat) (h : DkQ G w x d) (hd : d.dead = false) (hi : i < d.bl.length) : Calls prog 35 #[.pointer x, .int .i64 (i : Int)] w fun e w' =>
    ∃ (b : Nat) (l : List UInt8), d.bl[i]? = some l ∧ e = .returned (.tuple #[.slice (some ⟨b, 0, none⟩) 256 256, .int .i64 0]) ∧ Blk w' b (bv l).toArray 74 ∧ b = w.heap.size ∧ Frm none_ w w' := by
  refine calls_ret (W35 (Q := fun v w' => ∃ (b : Nat) (l : List UInt8), d.bl[i]? = some l ∧ v = .tuple #[.slice (some ⟨b, 0, none⟩) 256 256, .int .i64 0] ∧ Blk w' b (bv l).toArray 74 ∧ b = w.heap.size ∧ Frm none_ w w') ?_) (fun v w' ⟨b, l, h0, h, h'⟩ => ⟨b, l, h0, by rw [h], h'⟩)
  unfold F35
  refine (lives_calls G w x d h).mono ?_
  rintro _ _ ⟨rfl, rfl⟩
  obtain ⟨b, s, rfl, h⟩ := h
  have hok := h.ok
  have hsl := h.len
  have e2 : livesD d = 0 := by unfold livesD; rw [hd]; rfl
  rw [e2]
  refine ⟨_, rfl, IfB.f rfl (IfB.f (decide_eq_false (by omega)) ⟨_, rfl, s, by rw [addr_add]; exact h.blk.ld rfl, IfB.f (decide_eq_false (by omega)) ⟨_, rfl, s, by rw [addr_add]; exact h.blk.ld rfl, ?_⟩⟩)⟩
  have hL : HasL w s 256 bv d.bl := ⟨h.row.has, h.len, bl_len hok⟩
  obtain ⟨p, l, hp, hl, hlm, _, hla⟩ := hL.at (by omega) (i := (i : Int)) (by omega) (by omega)
  have hll := hok.len l hlm
  refine ⟨p, hp, by omega, by omega, _, hla, ?_⟩
  intro b7 w1 hnb
  have hm := hnb.mod none_
  have hb7 : w.heap.size = b7 := by obtain ⟨h, _⟩ := hnb; omega
  obtain ⟨hwr, hB, hm2⟩ := hnb.blk.whole (vs := (bv l).toArray) (by rw [List.size_toArray, bv_length, hll]; rfl)
  have hsz : (bv l).toArray.size = 256 := by rw [List.size_toArray, bv_length, hll]
  rw [hsz] at hwr
  refine ⟨hsz, fun u hu => bv_one l u (by simpa using hu), hwr, ?_⟩
  rintro w2 rfl
  have ea : (if 256 = 0 then (⟨b7, 0, none⟩ : Addr) else (⟨b7, 0, none⟩ : Addr).add (0 * 1)) = ⟨b7, 0, none⟩ := by rw [if_neg (by decide), addr_add]
  rw [ea]
  exact ⟨b7, l, by simpa using hl, rfl, hB, hb7.symm, hm.trans hm2 (fun _ _ h => h) (fun x hx he => by omega)⟩
theorem copy_calls (G : Nat → Prop) (w : World) (x : Option Addr) (d : Dk) (h : DkQ G w x d) : Calls prog 16 #[.pointer x] w fun e w' =>
    ∃ b G', e = .returned (.pointer (some ⟨b, 0, none⟩)) ∧ DkQ G' w' (some ⟨b, 0, none⟩) d ∧ (∀ k, G' k → w.heap.size ≤ k ∧ k < w'.heap.size) ∧ Frm none_ w w' := by
  refine calls_ret (W16 (Q := fun v w' => ∃ b G', v = .pointer (some ⟨b, 0, none⟩) ∧ DkQ G' w' (some ⟨b, 0, none⟩) d ∧ (∀ k, G' k → w.heap.size ≤ k ∧ k < w'.heap.size) ∧ Frm none_ w w') ?_) (fun v w' ⟨b, G, h, h'⟩ => ⟨b, G, by rw [h], h'⟩)
  unfold F16
  obtain ⟨b, s, rfl, h⟩ := h
  have hok := h.ok
  refine ⟨_, some_eql _ b, IfB.f rfl ⟨_, rfl, #[.slice s.a s.l s.c, .int .i64 (d.wr : Int), .int .i64 d.cut, .bool d.dead], h.blk.ldA rfl, ?_⟩⟩
  intro b3 w1 hnb
  have hm1 := hnb.mod none_
  have hb3 : w.heap.size = b3 := by obtain ⟨h, _⟩ := hnb; omega
  have hs1 := hnb.size
  obtain ⟨hwr, hB, hm2⟩ := hnb.blk.whole (vs := #[.slice s.a s.l s.c, .int .i64 (d.wr : Int), .int .i64 d.cut, .bool d.dead]) rfl
  refine ⟨rfl, ?_, hwr, ?_⟩
  · intro u hu
    simp only [List.mem_cons, List.not_mem_nil, or_false] at hu
    rcases hu with rfl | rfl | rfl | rfl <;> rfl
  rintro w2 rfl
  generalize setAt w1 (⟨b3, 0, none⟩ : Addr) (#[.slice s.a s.l s.c, .int .i64 (d.wr : Int), .int .i64 d.cut, .bool d.dead] : Array Value).toList 0 = w2 at hB hm2
  have f2 : Frm none_ w w2 := hm1.trans hm2 (fun _ _ h => h) (fun x hx he => by omega)
  refine ⟨_, rfl, s, by rw [addr_add]; exact (h.blk.mod f2 (fun h => h)).ld rfl, ?_⟩
  refine (clone_calls w2 s d.bl (h.row.mod f2 (fun _ _ h => h)) h.len hok.n0 hok.n1).mono ?_
  rintro _ w3 ⟨t, rfl, hr3, hl3, hn3, hm3⟩
  have hB3 := hB.mod hm3 (fun h => h)
  refine ⟨t, rfl, by rw [addr_add]; exact hB3.wr (show 0 < 4 by decide), ?_⟩
  rintro w4 rfl
  rw [addr_add]
  have hm4 : Frm (fun k => k = b3) w3 (w3.setCell ⟨b3, 0 + 0, none⟩ (.slice t.a t.l t.c)) := mod_setCell (a := ⟨b3, 0 + 0, none⟩)
  have hb32 : b3 < w2.heap.size := hB.lt
  have htn : ∀ k, t.blk = some k → ¬ k = b3 := fun k hk he => by have := hn3 k hk; omega
  have hsz2 := f2.size
  have hsz3 := hm3.size
  have hsz4 := hm4.size
  refine ⟨b3, fun k => k = b3 ∨ t.blk = some k, rfl, ⟨b3, t, rfl, hB3.set 0 _, hr3.mod hm4 htn, by rw [hl3]; exact h.len, .inl rfl, fun k hk => .inr hk, hok⟩, ?_, (trN f2 hm3).trans hm4 (fun _ _ h => h) (fun x hx he => by omega)⟩
  rintro k (rfl | hk)
  · omega
  · have h1 := hn3 k hk
    have h2 := hr3.lt k hk
    omega
end Go.Proofs.Ytlbipbepeeopaaa
