/- Datagrams: what the small calls of package net and of the document do, over plain datagrams. -/
import Derived.Test.YtffcojmpaccppaaG
import Derived.Test.YtffcojmpaccppaaF
set_option linter.unusedVariables false
set_option linter.unusedSimpArgs false
namespace Go.Proofs.Ytffcojmpaccppaa
open Go Go.Proofs.YtffcojmpaccppaaV
theorem calls_ret {P : Program} {f : FuncId} {args : Array Value} {w : World} {R : Value → World → Prop} {R' : Ending → World → Prop} (h : Calls P f args w fun en w' => ∃ v, en = .returned v ∧ R v w')
    (hr : ∀ v w', R v w' → R' (.returned v) w') : Calls P f args w R' := h.mono fun en w' ⟨v, he, hR⟩ => by subst he; exact hr v w' hR
theorem trN {a b c : World} (h : Frm none_ a b) (k : Frm none_ b c) : Frm none_ a c := h.trans k (fun _ _ h => h) (fun _ _ h => h)
theorem trB {a b c : World} {g : Nat} (h : Frm none_ a b) (k : Frm (fun k => k = g) b c) (hg : a.heap.size ≤ g) : Frm none_ a c := h.trans k (fun _ _ h => h) (fun x hx he => by have he : x = g := he; omega)
theorem wi (e : Int) (h : -9223372036854775808 ≤ e ∧ e ≤ 9223372036854775807) : IntKind.wrap .i64 e = e := by rw [IntKind.wrap_i64]; omega
/-- A block written whole. -/
theorem setWhole {w1 : World} {b : Nat} {z vs : Array Value} {T : TypeId} {n : Nat} {Φ : World → Prop} (hB : Blk w1 b z T) (hz : z.size = n) (hv : vs.size = n) (h1 : ∀ u, u ∈ vs.toList → u.oneCell' = true)
    (K : ∀ w2, Blk w2 b vs T → Frm (fun k => k = b) w1 w2 → Φ w2) : vs.size = n ∧ (∀ u, u ∈ vs.toList → u.oneCell' = true) ∧ WrA w1 (⟨b, 0, none⟩ : Addr) n ∧ ∀ w2, w2 = setAt w1 (⟨b, 0, none⟩ : Addr) vs.toList 0 → Φ w2 := by
  refine ⟨hv, h1, hB.wrA (by omega), ?_⟩
  rintro w2 rfl
  have h2 := hB.setAt (o := 0) (i := 0) (vs := vs.toList)
  have e : setList z (0 + 0) vs.toList = vs := by rw [Nat.add_zero, setList_all _ _ (by rw [Array.length_toList]; omega), Array.toArray_toList]
  rw [e] at h2
  exact K _ h2 (mod_setAt (a := ⟨b, 0, none⟩))
theorem st29 : SlT prog 29 9 1 16 (.string ⟨#[]⟩) := ⟨by kernel_rfl, by kernel_rfl, rfl, by decide⟩
def zm : Array Value := #[.int .i64 0, .int .i64 0, .int .u8 0, .int .i64 0, .int .i64 0, .int .i64 0, .int .i64 0, .int .i64 0, .int .i64 0, .int .i64 0, .slice none 0 0, .string (⟨#[]⟩ : ByteArray)]
theorem st40 : SlT prog 40 33 12 120 (.agg zm) := ⟨by kernel_rfl, by kernel_rfl, rfl, by decide⟩
theorem nil_eql (i : Nat) : BinIs prog .eql 24 (.tmp i) (.const (.pointer none)) (.pointer none) (.pointer none) true := fun w => by kernel_rfl
theorem some_eql (i b : Nat) : BinIs prog .eql 24 (.tmp i) (.const (.pointer none)) (.pointer (some ⟨b, 0, none⟩)) (.pointer none) false := fun w => by kernel_rfl
theorem some_sl (i : Nat) (a : Addr) (l c : Nat) : BinIs prog .eql 29 (.tmp i) (.const (.slice none 0 0)) (.slice (some a) l c) (.slice none 0 0) false := fun w => by kernel_rfl
theorem none_sl (i : Nat) (l c : Nat) : BinIs prog .eql 29 (.tmp i) (.const (.slice none 0 0)) (.slice none l c) (.slice none 0 0) true := fun w => by kernel_rfl
theorem bool_neq (i j : Nat) (a b : Bool) : BinIs prog .neq 4 (.tmp i) (.tmp j) (.bool a) (.bool b) (a != b) := fun w => by cases a <;> cases b <;> kernel_rfl

/-- A datagram, plainly. -/
structure Ml where
  fr : Int
  to : Int
  ki : Int
  ru : Int
  li : Int
  ba : Int
  pi : Int
  jo : Int
  no : Int
  co : Int
  tags : List ByteArray
  data : ByteArray
def sv (l : List ByteArray) : List Value := l.map Value.string
theorem sv_len (l : List ByteArray) : (sv l).length = l.length := by simp [sv]
theorem sv_one (l : List ByteArray) : ∀ u ∈ sv l, u.oneCell' = true := by
  intro u hu
  obtain ⟨b, _, rfl⟩ := List.mem_map.1 hu
  rfl
@[reducible] def mc (m : Ml) (s : Sl) : Array Value := #[.int .i64 m.fr, .int .i64 m.to, .int .u8 m.ki, .int .i64 m.ru, .int .i64 m.li, .int .i64 m.ba, .int .i64 m.pi, .int .i64 m.jo, .int .i64 m.no, .int .i64 m.co, .slice s.a s.l s.c, .string m.data]
theorem mc_one (m : Ml) (s : Sl) : ∀ u, u ∈ (mc m s).toList → u.oneCell' = true := by
  intro u hu
  simp only [List.mem_cons, List.not_mem_nil, or_false] at hu
  rcases hu with rfl | rfl | rfl | rfl | rfl | rfl | rfl | rfl | rfl | rfl | rfl | rfl <;> rfl
def OkM (m : Ml) : Prop := m.tags.length * 16 ≤ 140737488351232
theorem clone_calls (w : World) (s : Sl) (l : List ByteArray) (hs : Has w s 1 (sv l)) (hb : l.length * 16 ≤ 140737488351232) : Calls prog 25 #[.slice s.a s.l s.c] w fun e w' =>
    ∃ t : Sl, e = .returned (.slice t.a t.l t.c) ∧ RowG w' t 9 1 (sv l) ∧ (∀ k, t.blk = some k → w.heap.size ≤ k) ∧ Frm none_ w w' := by
  refine calls_ret (W25 (Q := fun v w' => ∃ t : Sl, v = .slice t.a t.l t.c ∧ RowG w' t 9 1 (sv l) ∧ (∀ k, t.blk = some k → w.heap.size ≤ k) ∧ Frm none_ w w') ?_) (fun v w' ⟨t, h, h'⟩ => ⟨t, by rw [h], h'⟩)
  unfold F25
  have hl : l.length = s.l := by have := hs.len; rw [sv_len] at this; omega
  cases ha : s.a with
  | none =>
    have hn : l = [] := by
      cases l with
      | nil => rfl
      | cons b r =>
        obtain ⟨a, ha', _⟩ := hs.get 0 _ rfl
        rw [ha] at ha'; cases ha'
    subst hn
    exact ⟨_, none_sl _ _ _, IfB.t rfl ⟨⟨none, 0, 0⟩, rfl, RowG.nil _ _ _, by simp [Sl.blk], Frm.refl _ _⟩⟩
  | some a =>
    refine ⟨_, some_sl _ _ _ _, IfB.f rfl (runT_lit0 st29 ?_)⟩
    intro w1 hr1 hm1 hs1
    have h2 := hs.mod hm1 (fun _ _ h => h)
    rw [← ha]
    refine runT_append st29 hr1 h2 (sv_one l) (by simp only; omega) (by simp only [maxLen]; omega) ?_
    intro t w2 hr2 hl2 hn2 hm2
    rw [List.nil_append] at hr2
    refine ⟨t, rfl, hr2.g, ?_, hm1.trans hm2 (fun _ _ h => h) (fun x hx hf => by simp [Sl.blk] at hf; omega)⟩
    intro k hk
    rcases hn2.cases hk with h | h
    · simp [Sl.blk] at h; omega
    · omega
def OwnC (f : FuncId) : Prop := ∀ (w : World) (m : Ml) (s : Sl), Has w s 1 (sv m.tags) → OkM m → Calls prog f #[.agg (mc m s)] w fun e w' =>
    ∃ t : Sl, e = .returned (.agg (mc m t)) ∧ RowG w' t 9 1 (sv m.tags) ∧ (∀ k, t.blk = some k → w.heap.size ≤ k) ∧ Frm none_ w w'
theorem own_calls : OwnC 23 := by
  intro w m s hs hok
  refine calls_ret (W23 (Q := fun v w' => ∃ t : Sl, v = .agg (mc m t) ∧ RowG w' t 9 1 (sv m.tags) ∧ (∀ k, t.blk = some k → w.heap.size ≤ k) ∧ Frm none_ w w') ?_) (fun v w' ⟨t, h, h'⟩ => ⟨t, by rw [h], h'⟩)
  unfold F23
  intro b1 w1 hn1 b2 w2 hn2
  have f1 := hn1.mod none_
  have f2 := trN f1 (hn2.mod none_)
  have e1 := hn1.b; have e2 := hn2.b; have z1 := hn1.size; have z2 := hn2.size
  have B1 := hn1.blk.mod (hn2.mod none_) (fun h => h)
  refine ⟨s, by rw [addr_add, addr_add]; exact B1.ld rfl, ?_⟩
  refine (clone_calls w2 s m.tags (hs.mod f2 (fun _ _ h => h)) hok).mono ?_
  rintro _ w3 ⟨t, rfl, hr3, ht3, f3⟩
  have B1' := B1.mod f3 (fun h => h)
  have B2' := hn2.blk.mod f3 (fun h => h)
  refine ⟨t, rfl, by rw [addr_add, addr_add]; exact B1'.wr (show 10 < 12 by decide), ?_⟩
  rintro w4 rfl
  rw [addr_add, addr_add]
  have f4 : Frm (fun k => k = b1) w3 (w3.setCell ⟨b1, 0 + 2 + 8, none⟩ (.slice t.a t.l t.c)) := mod_setCell (a := ⟨b1, 0 + 2 + 8, none⟩)
  have B1s := B1'.set 10 (.slice t.a t.l t.c)
  have B2s := B2'.mod f4 (fun h => by omega)
  have hr4 := hr3.mod f4 (fun k hk h => by have := ht3 k hk; omega)
  generalize w3.setCell ⟨b1, 0 + 2 + 8, none⟩ (.slice t.a t.l t.c) = w4 at f4 B1s B2s hr4
  refine ⟨mc m t, B1s.ldA rfl, setWhole B2s rfl rfl (mc_one m t) ?_⟩
  intro w5 B25 f5
  refine ⟨mc m t, B25.ldA rfl, t, rfl, hr4.mod f5 (fun k hk h => by have := ht3 k hk; omega), fun k hk => by have := ht3 k hk; omega, ?_⟩
  exact trB (trB (trN f2 f3) f4 (by omega)) f5 (by omega)
theorem Own_calls : OwnC 17 := by
  intro w m s hs hok
  refine calls_ret (W17 (Q := fun v w' => ∃ t : Sl, v = .agg (mc m t) ∧ RowG w' t 9 1 (sv m.tags) ∧ (∀ k, t.blk = some k → w.heap.size ≤ k) ∧ Frm none_ w w') ?_) (fun v w' ⟨t, h, h'⟩ => ⟨t, by rw [h], h'⟩)
  unfold F17
  intro b1 w1 hn1 b2 w2 hn2
  have f1 := hn1.mod none_
  have f2 := trN f1 (hn2.mod none_)
  have e1 := hn1.b; have e2 := hn2.b; have z1 := hn1.size; have z2 := hn2.size
  have B1 := hn1.blk.mod (hn2.mod none_) (fun h => h)
  have hl : m.tags.length = s.l := by have := hs.len; rw [sv_len] at this; omega
  have hok' : m.tags.length * 16 ≤ 140737488351232 := hok
  refine runT_lit0 st29 ?_
  intro w3 hr3 f3 z3
  have B1a := B1.mod f3 (fun h => h)
  have B2a := hn2.blk.mod f3 (fun h => h)
  refine ⟨s, by rw [addr_add, addr_add]; exact B1a.ld rfl, ?_⟩
  refine runT_append st29 hr3 (hs.mod (trN f2 f3) (fun _ _ h => h)) (sv_one _) (by simp only; omega) (by simp only [maxLen]; omega) ?_
  intro t w4 hr4 hl4 hn4 f4
  rw [List.nil_append] at hr4
  have ht3 : ∀ k, t.blk = some k → w2.heap.size ≤ k := by
    intro k hk
    rcases hn4.cases hk with h | h
    · simp [Sl.blk] at h; omega
    · omega
  have f4' : Frm none_ w w4 := (trN f2 f3).trans f4 (fun _ _ h => h) (fun x hx hf => by simp [Sl.blk] at hf; omega)
  have B1' := B1a.mod f4 (fun h => by simp [Sl.blk] at h; omega)
  have B2' := B2a.mod f4 (fun h => by simp [Sl.blk] at h; omega)
  refine ⟨by rw [addr_add, addr_add]; exact B1'.wr (show 10 < 12 by decide), ?_⟩
  rintro w5 rfl
  rw [addr_add, addr_add]
  have f5 : Frm (fun k => k = b1) w4 (w4.setCell ⟨b1, 0 + 2 + 8, none⟩ (.slice t.a t.l t.c)) := mod_setCell (a := ⟨b1, 0 + 2 + 8, none⟩)
  have B1s := B1'.set 10 (.slice t.a t.l t.c)
  have B2s := B2'.mod f5 (fun h => by omega)
  have hr5 := hr4.g.mod f5 (fun k hk h => by have := ht3 k hk; omega)
  generalize w4.setCell ⟨b1, 0 + 2 + 8, none⟩ (.slice t.a t.l t.c) = w5 at f5 B1s B2s hr5
  refine ⟨mc m t, B1s.ldA rfl, setWhole B2s rfl rfl (mc_one m t) ?_⟩
  intro w6 B26 f6
  refine ⟨mc m t, B26.ldA rfl, t, rfl, hr5.mod f6 (fun k hk h => by have := ht3 k hk; omega), fun k hk => by have := ht3 k hk; omega, ?_⟩
  exact trB (trB f4' f5 (by omega)) f6 (by omega)
end Go.Proofs.Ytffcojmpaccppaa
