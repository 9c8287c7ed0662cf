/- A net in memory, the program's or the document's: what its calls do, over a plain net. -/
import Derived.Test.YtffcojmpaccppaaC2
set_option linter.unusedVariables false
set_option linter.unusedSimpArgs false
namespace Go.Proofs.Ytffcojmpaccppaa
open Go Go.Proofs.YtffcojmpaccppaaV
structure Nt where
  most : Int
  l : List Ml
structure Mls (G : Nat → Prop) (w : World) (s : Sl) (ps : List (Ml × Sl)) : Prop where
  row : RowG w s 33 12 (flat ps)
  own : ∀ p ∈ ps, RowG w p.2 9 1 (sv p.1.tags)
  ap : ps.Pairwise fun p q => ∀ k, p.2.blk = some k → q.2.blk ≠ some k
  gs : ∀ k, s.blk = some k → G k
  gp : ∀ p ∈ ps, ∀ k, p.2.blk = some k → G k
  ok : ∀ p ∈ ps, OkM p.1
theorem Mls.len {G : Nat → Prop} {w : World} {s : Sl} {ps : List (Ml × Sl)} (h : Mls G w s ps) : ps.length = s.l := by have := h.row.len; rw [flat_len] at this; omega
theorem Mls.rds {G : Nat → Prop} {w : World} {s : Sl} {ps : List (Ml × Sl)} (h : Mls G w s ps) : Rds w s ps := ⟨h.row.has, h.len, fun p hp => ⟨(h.own p hp).has, h.ok p hp⟩⟩
theorem Mls.mod {G F : Nat → Prop} {w w' : World} {s : Sl} {ps : List (Ml × Sl)} (h : Mls G w s ps) (f : Frm F w w') (hs : ∀ k, s.blk = some k → ¬ F k) (hp : ∀ p ∈ ps, ∀ k, p.2.blk = some k → ¬ F k) : Mls G w' s ps :=
  ⟨h.row.mod f hs, fun p hq => (h.own p hq).mod f (hp p hq), h.ap, h.gs, h.gp, h.ok⟩
theorem Mls.modG {G F : Nat → Prop} {w w' : World} {s : Sl} {ps : List (Ml × Sl)} (h : Mls G w s ps) (f : Frm F w w') (hg : ∀ k, G k → ¬ F k) : Mls G w' s ps :=
  h.mod f (fun k hk => hg k (h.gs k hk)) (fun p hp k hk => hg k (h.gp p hp k hk))
theorem Mls.mono {G G' : Nat → Prop} {w : World} {s : Sl} {ps : List (Ml × Sl)} (h : Mls G w s ps) (hg : ∀ k, G k → G' k) : Mls G' w s ps := ⟨h.row, h.own, h.ap, fun k hk => hg k (h.gs k hk), fun p hp k hk => hg k (h.gp p hp k hk), h.ok⟩
theorem Mls.nil (G : Nat → Prop) (w : World) : Mls G w ⟨none, 0, 0⟩ [] := ⟨RowG.nil _ _ _, by simp, List.Pairwise.nil, by simp [Sl.blk], by simp, by simp⟩
theorem mls_push {G : Nat → Prop} {w : World} {s t x : Sl} {ps : List (Ml × Sl)} {m : Ml} (h : Mls G w s ps) (ht : RowG w t 9 1 (sv m.tags)) (htg : ∀ k, t.blk = some k → ¬ G k) (hok : OkM m) (hlt : ps.length < 400) (hx : Has w x 12 (mc m t).toList) (hxl : x.l = 1) {K : Sl → World → Prop}
    (hk : ∀ s' w', Mls (fun k => G k ∨ t.blk = some k ∨ s'.blk = some k) w' s' (ps ++ [(m, t)]) → (∀ k, s'.blk = some k → s.blk = some k ∨ k = w.heap.size) → Frm (fun k => s.blk = some k) w w' → K s' w') :
    RunT prog .slice (Builtin.append_ #[40, 40] 40 #[.slice s.a s.l s.c, .slice x.a x.l x.c]) w K := by
  have hl := h.len
  refine runT_appendG st40 h.row hx (mc_one m t) (by rw [hxl]; omega) (by rw [hxl]; simp only [maxLen]; omega) ?_
  intro s' w' hr hl' hn f
  have e : flat ps ++ (mc m t).toList = flat (ps ++ [(m, t)]) := by simp [flat]
  rw [e] at hr
  refine hk s' w' ⟨hr, ?_, ?_, fun k hk => .inr (.inr hk), ?_, ?_⟩ (fun k hk => hn.cases hk) f
  · intro p hp
    rcases List.mem_append.1 hp with hp | hp
    · exact (h.own p hp).mod f (fun k hk hs => (h.own p hp).blkNe h.row (by decide) k hk hs)
    · simp at hp; subst hp
      exact ht.mod f (fun k hk hs => ht.blkNe h.row (by decide) k hk hs)
  · rw [List.pairwise_append]
    refine ⟨h.ap, by simp, ?_⟩
    intro p hp q hq k hk
    simp at hq; subst hq
    exact fun hk' => htg k hk' (h.gp p hp k hk)
  · intro p hp k hk
    rcases List.mem_append.1 hp with hp | hp
    · exact .inl (h.gp p hp k hk)
    · simp at hp; subst hp; exact .inr (.inl hk)
  · intro p hp
    rcases List.mem_append.1 hp with hp | hp
    · exact h.ok p hp
    · simp at hp; subst hp; exact hok
structure NetP (T : TypeId) (G : Nat → Prop) (w : World) (b : Nat) (s : Sl) (ps : List (Ml × Sl)) (most : Int) : Prop where
  hT : T = 55 ∨ T = 47
  blk : Blk w b #[.int .i64 most, .slice s.a s.l s.c] T
  ls : Mls G w s ps
  gb : G b
  lt : ∀ k, G k → k < w.heap.size
  m : 0 ≤ most ∧ most ≤ 400
  lm : (ps.length : Int) ≤ most
def NetQ (T : TypeId) (G : Nat → Prop) (w : World) (x : Option Addr) (N : Nt) : Prop := ∃ b s ps, x = some ⟨b, 0, none⟩ ∧ NetP T G w b s ps N.most ∧ ps.map (·.1) = N.l
theorem NetP.mod {T : TypeId} {G F : Nat → Prop} {w w' : World} {b : Nat} {s : Sl} {ps : List (Ml × Sl)} {most : Int} (h : NetP T G w b s ps most) (f : Frm F w w') (hg : ∀ k, G k → ¬ F k) : NetP T G w' b s ps most :=
  ⟨h.hT, h.blk.mod f (hg b h.gb), h.ls.modG f hg, h.gb, fun k hk => Nat.lt_of_lt_of_le (h.lt k hk) f.size, h.m, h.lm⟩
theorem NetQ.mod {T : TypeId} {G F : Nat → Prop} {w w' : World} {x : Option Addr} {N : Nt} (h : NetQ T G w x N) (f : Frm F w w') (hg : ∀ k, G k → ¬ F k) : NetQ T G w' x N := by
  obtain ⟨b, s, ps, hx, h, hl⟩ := h
  exact ⟨b, s, ps, hx, h.mod f hg, hl⟩
theorem NetP.neS {T : TypeId} {G : Nat → Prop} {w : World} {b : Nat} {s : Sl} {ps : List (Ml × Sl)} {most : Int} (h : NetP T G w b s ps most) : s.blk ≠ some b := h.ls.row.blkNeB h.blk.g (by rcases h.hT with rfl | rfl <;> decide)
theorem NetP.neP {T : TypeId} {G : Nat → Prop} {w : World} {b : Nat} {s : Sl} {ps : List (Ml × Sl)} {most : Int} (h : NetP T G w b s ps most) : ∀ p ∈ ps, p.2.blk ≠ some b := fun p hp => (h.ls.own p hp).blkNeB h.blk.g (by rcases h.hT with rfl | rfl <;> decide)
def putN (m : Ml) (N : Nt) : Int × Nt := if N.most ≤ N.l.length then (3, N) else (0, ⟨N.most, N.l ++ [m]⟩)
set_option maxRecDepth 20000 in
theorem put_tail {T : TypeId} {fo : FuncId} (hO : OwnC fo) {Q : Value → World → Prop} {G : Nat → Prop} {w1 : World} {b b3 : Nat} {s sm : Sl} {ps : List (Ml × Sl)} {most : Int} {m : Ml} (h : NetP T G w1 b s ps most) (hl : (ps.length : Int) < most) (hm : Has w1 sm 1 (sv m.tags)) (hok : OkM m) (hB3 : Blk w1 b3 (mc m sm) 33)
    (hQ : ∀ w' G' s' ps', NetP T G' w' b s' ps' most → ps'.map (·.1) = ps.map (·.1) ++ [m] → (∀ k, G' k → G k ∨ w1.heap.size ≤ k) → Frm G w1 w' → Q (.int .i64 0) w') :
    ∃ S : World → Prop, S w1.drew.drew ∧
     ∃ p21, (some ⟨b, 0, none⟩ : Option Addr) = some p21 ∧
     ∃ t23 : Sl, (∀ w', S w' → Ld w' (p21.add 1) (.slice t23.a t23.l t23.c)) ∧
     ∃ t24 : Array Value, (∀ w', S w' → LdA w' (⟨b3, 0, none⟩ : Addr) 12 t24) ∧
     Calls prog fo #[.agg t24] w1.drew.drew fun en w1_1 =>
     ∃ t25 : Array Value, en = .returned (.agg t25) ∧
     S w1_1 ∧
     RunT prog .slice (Instr.buildSlice 40 1 #[(0, .agg t25)]) w1_1 fun (t26 : Sl) w1_2 =>
     S w1_2 ∧
     RunT prog .slice (Builtin.append_ #[40, 40] 40 #[.slice t23.a t23.l t23.c, .slice t26.a t26.l t26.c]) w1_2 fun (t27 : Sl) w1_3 =>
     ∃ p28, (some ⟨b, 0, none⟩ : Option Addr) = some p28 ∧
     Wr w1_3 (p28.add 1) ∧ ∀ w1_4, w1_4 = w1_3.setCell (p28.add 1) (.slice t27.a t27.l t27.c) →
     Q (.int .i64 0) w1_4 := by
  have f0 : Frm none_ w1 w1.drew.drew := (Frm.refl _ _).drew.drew
  refine ⟨fun w' => Frm none_ w1 w', f0, _, rfl, s, fun w' f => by rw [addr_add]; exact (h.blk.mod f (fun h => h)).ld rfl, mc m sm, fun w' f => (hB3.mod f (fun h => h)).ldA rfl, ?_⟩
  refine (hO w1.drew.drew m sm (hm.mod f0 (fun _ _ h => h)) hok).mono ?_
  rintro _ w2 ⟨t, rfl, hrt, ht, f2⟩
  have f2' := trN f0 f2
  have z1 := f2.size
  refine ⟨mc m t, rfl, f2', ?_⟩
  refine runT_lit1 st40 (by decide) rfl ?_
  intro w3 hr3 f3 z3
  have f3' := trN f2' f3
  refine ⟨f3', ?_⟩
  have h3 := h.mod f3' (fun _ _ h => h)
  refine mls_push h3.ls (hrt.mod f3 (fun _ _ h => h)) (fun k hk hg => by have := ht k hk; have := h.lt k hg; simp at *; omega) hok (by have := h.m; omega) hr3.has rfl ?_
  intro s' w4 hM hs' f4
  have hnb := h3.neS
  have hB4 := h3.blk.mod f4 (fun e => hnb e)
  refine ⟨_, rfl, by rw [addr_add]; exact hB4.wr (show 1 < 2 by decide), ?_⟩
  rintro w5 rfl
  rw [addr_add]
  have f5 : Frm (fun k => k = b) w4 (w4.setCell ⟨b, 0 + 1, none⟩ (.slice s'.a s'.l s'.c)) := mod_setCell (a := ⟨b, 0 + 1, none⟩)
  have z4 := f4.size
  have z5 := f5.size
  have z1' := f2'.size
  have z3' := f3'.size
  have hb4 := hB4.lt
  have hTn : T ≠ 33 ∧ T ≠ 9 := by rcases h.hT with rfl | rfl <;> decide
  have hM5 := hM.mod f5 (fun k hk e => by subst e; exact hM.row.blkNeB hB4.g (Ne.symm hTn.1) hk) (fun p hp k hk e => by subst e; exact (hM.own p hp).blkNeB hB4.g (Ne.symm hTn.2) hk)
  refine hQ _ _ s' _ ⟨h.hT, hB4.set 1 _, hM5, .inl h.gb, ?_, h.m, by rw [List.length_append]; simp; omega⟩ (by simp) ?_ ?_
  · rintro k (hk | hk | hk)
    · have := h.lt k hk; omega
    · have := hrt.lt k hk; omega
    · have := hM5.row.lt k hk; omega
  · rintro k (hk | hk | hk)
    · exact .inl hk
    · right; have := ht k hk; simp at this; omega
    · rcases hs' k hk with hk | hk
      · exact .inl (h.ls.gs k hk)
      · right; omega
  · exact ((f3'.trans f4 (fun _ _ h => h.elim) (fun k _ hk => h.ls.gs k hk) (H := G))).trans f5 (fun _ _ h => h) (fun k _ hk => hk ▸ h.gb)
def PutC (T : TypeId) (f : FuncId) : Prop := ∀ (G : Nat → Prop) (w : World) (x : Option Addr) (N : Nt) (m : Ml) (s : Sl), NetQ T G w x N → Has w s 1 (sv m.tags) → OkM m →
    Calls prog f #[.pointer x, .agg (mc m s)] w fun e w' => e = .returned (.int .i64 (putN m N).1) ∧ ∃ G', NetQ T G' w' x (putN m N).2 ∧ (∀ k, G' k → G k ∨ w.heap.size ≤ k) ∧ Frm G w w'
set_option maxRecDepth 20000 in
theorem put_calls : PutC 55 8 := by
  intro G w x N m sm h hm hok
  refine calls_ret (W8 (Q := fun v w' => v = .int .i64 (putN m N).1 ∧ ∃ G', NetQ 55 G' w' x (putN m N).2 ∧ (∀ k, G' k → G k ∨ w.heap.size ≤ k) ∧ Frm G w w') ?_) (fun v w' ⟨h, h'⟩ => ⟨by rw [h], h'⟩)
  unfold F8
  obtain ⟨b, s, ps, rfl, h, hpl⟩ := h
  intro b3 w1 hn
  have f1 := hn.mod none_
  have z1 := hn.size
  have h1 := h.mod f1 (fun _ _ h => h)
  have hlen : ps.length = N.l.length := by rw [← hpl, List.length_map]
  have hsl := h.ls.len
  have fd : Frm none_ w1 w1.drew := (Frm.refl _ _).drew
  refine ⟨_, some_eql _ b, IfB.f rfl ⟨_, rfl, s, by rw [addr_add]; exact h1.blk.drew.ld rfl, _, rfl, N.most, by rw [addr_add]; exact h1.blk.drew.ld rfl, IfB.intro (fun hc => ?_) (fun hc => ?_)⟩⟩
  · have hc := of_decide_eq_true hc
    have e : putN m N = (3, N) := by unfold putN; rw [if_pos (by omega)]
    rw [e]
    exact ⟨rfl, G, ⟨b, s, ps, rfl, h1.mod fd (fun _ _ h => h), hpl⟩, fun k hk => .inl hk, (f1.drew).none⟩
  · have hc := of_decide_eq_false hc
    have e : putN m N = (0, ⟨N.most, N.l ++ [m]⟩) := by unfold putN; rw [if_neg (by omega)]
    rw [e]
    refine put_tail (Q := fun v w' => v = .int .i64 0 ∧ ∃ G', NetQ 55 G' w' (some ⟨b, 0, none⟩) ⟨N.most, N.l ++ [m]⟩ ∧ (∀ k, G' k → G k ∨ w.heap.size ≤ k) ∧ Frm G w w') own_calls h1 (by omega) (hm.mod f1 (fun _ _ h => h)) hok hn.blk ?_
    intro w' G' s' ps' h' hp' hg' f'
    exact ⟨rfl, G', ⟨b, s', ps', rfl, h', by rw [hp', hpl]⟩, fun k hk => (hg' k hk).imp_right (fun h => by omega), (f1.none (F := G)).trans f' (fun _ _ h => h) (fun _ _ h => h)⟩
set_option maxRecDepth 20000 in
theorem Put_calls : PutC 47 18 := by
  intro G w x N m sm h hm hok
  refine calls_ret (W18 (Q := fun v w' => v = .int .i64 (putN m N).1 ∧ ∃ G', NetQ 47 G' w' x (putN m N).2 ∧ (∀ k, G' k → G k ∨ w.heap.size ≤ k) ∧ Frm G w w') ?_) (fun v w' ⟨h, h'⟩ => ⟨by rw [h], h'⟩)
  unfold F18
  obtain ⟨b, s, ps, rfl, h, hpl⟩ := h
  intro b3 w1 hn
  have f1 := hn.mod none_
  have z1 := hn.size
  have h1 := h.mod f1 (fun _ _ h => h)
  have hlen : ps.length = N.l.length := by rw [← hpl, List.length_map]
  have hsl := h.ls.len
  have fd : Frm none_ w1 w1.drew := (Frm.refl _ _).drew
  refine ⟨_, rfl, s, by rw [addr_add]; exact h1.blk.drew.ld rfl, _, rfl, N.most, by rw [addr_add]; exact h1.blk.drew.ld rfl, IfB.intro (fun hc => ?_) (fun hc => ?_)⟩
  · have hc := of_decide_eq_true hc
    have e : putN m N = (3, N) := by unfold putN; rw [if_pos (by omega)]
    rw [e]
    exact ⟨rfl, G, ⟨b, s, ps, rfl, h1.mod fd (fun _ _ h => h), hpl⟩, fun k hk => .inl hk, (f1.drew).none⟩
  · have hc := of_decide_eq_false hc
    have e : putN m N = (0, ⟨N.most, N.l ++ [m]⟩) := by unfold putN; rw [if_neg (by omega)]
    rw [e]
    refine put_tail (Q := fun v w' => v = .int .i64 0 ∧ ∃ G', NetQ 47 G' w' (some ⟨b, 0, none⟩) ⟨N.most, N.l ++ [m]⟩ ∧ (∀ k, G' k → G k ∨ w.heap.size ≤ k) ∧ Frm G w w') Own_calls h1 (by omega) (hm.mod f1 (fun _ _ h => h)) hok hn.blk ?_
    intro w' G' s' ps' h' hp' hg' f'
    exact ⟨rfl, G', ⟨b, s', ps', rfl, h', by rw [hp', hpl]⟩, fun k hk => (hg' k hk).imp_right (fun h => by omega), (f1.none (F := G)).trans f' (fun _ _ h => h) (fun _ _ h => h)⟩
theorem b55 (n : Int) : BuildIs prog 55 #[(0, .int .i64 n)] #[.int .i64 n, .slice none 0 0] := fun w => by kernel_rfl
theorem new_calls (w : World) (n : Int) (h0 : 0 ≤ n) (h1 : n ≤ 400) : Calls prog 7 #[.int .i64 n] w fun e w' => ∃ b G, e = .returned (.tuple #[.pointer (some ⟨b, 0, none⟩), .int .i64 0]) ∧ NetQ 55 G w' (some ⟨b, 0, none⟩) ⟨n, []⟩ ∧ (∀ k, G k → w.heap.size ≤ k) ∧ Frm none_ w w' := by
  refine calls_ret (W7 (Q := fun v w' => ∃ b G, v = .tuple #[.pointer (some ⟨b, 0, none⟩), .int .i64 0] ∧ NetQ 55 G w' (some ⟨b, 0, none⟩) ⟨n, []⟩ ∧ (∀ k, G k → w.heap.size ≤ k) ∧ Frm none_ w w') ?_) (fun v w' ⟨b, G, h, h'⟩ => ⟨b, G, by rw [h], h'⟩)
  unfold F7
  refine IfB.f (decide_eq_false (by omega)) (IfB.f (decide_eq_false (by omega)) ⟨_, b55 n, ?_⟩)
  intro b w1 hn
  have z1 := hn.size; have e1 := hn.b
  exact ⟨b, fun k => k = b, rfl, ⟨b, ⟨none, 0, 0⟩, [], rfl, ⟨.inl rfl, hn.blk, Mls.nil _ _, rfl, fun k hk => by omega, ⟨h0, h1⟩, by simpa using h0⟩, rfl⟩, fun k hk => by omega, hn.mod _⟩
theorem new_no (w : World) (n : Int) (h0 : n < 0 ∨ n > 400) : Calls prog 7 #[.int .i64 n] w fun e w' => e = .returned (.tuple #[.pointer none, .int .i64 1]) ∧ w = w' := by
  refine calls_ret (W7 (Q := fun v w' => v = .tuple #[.pointer none, .int .i64 1] ∧ w = w') ?_) (fun v w' ⟨h, h'⟩ => ⟨by rw [h], h'⟩)
  unfold F7
  refine IfB.intro (fun h => ⟨rfl, rfl⟩) (fun h => ?_)
  have h := of_decide_eq_false h
  exact IfB.t (decide_eq_true (by omega)) ⟨rfl, rfl⟩
theorem there_calls (G : Nat → Prop) (w : World) (x : Option Addr) (N : Nt) (i : Int) (h : NetQ 55 G w x N) : Calls prog 24 #[.pointer x, .int .i64 i] w fun e w' => e = .returned (.int .i64 (if 0 ≤ i ∧ i < N.l.length then 0 else 5)) ∧ w = w' := by
  refine calls_ret (W24 (Q := fun v w' => v = .int .i64 (if 0 ≤ i ∧ i < N.l.length then 0 else 5) ∧ w = w') ?_) (fun v w' ⟨h, h'⟩ => ⟨by rw [h], h'⟩)
  unfold F24
  obtain ⟨b, s, ps, rfl, h, hpl⟩ := h
  have hlen : s.l = N.l.length := by rw [← hpl, List.length_map, h.ls.len]
  refine ⟨_, some_eql _ b, IfB.f rfl (IfB.intro (fun hc => ?_) (fun hc => ?_))⟩
  · have hc := of_decide_eq_true hc
    rw [if_neg (by omega)]; exact ⟨rfl, rfl⟩
  · have hc := of_decide_eq_false hc
    refine ⟨_, rfl, s, by rw [addr_add]; exact h.blk.ld rfl, IfB.intro (fun hd => ?_) (fun hd => ?_)⟩
    · have hd := of_decide_eq_true hd
      rw [if_neg (by omega)]; exact ⟨rfl, rfl⟩
    · have hd := of_decide_eq_false hd
      rw [if_pos (by omega)]; exact ⟨rfl, rfl⟩
theorem len_calls (G : Nat → Prop) (w : World) (x : Option Addr) (N : Nt) (h : NetQ 55 G w x N) : Calls prog 12 #[.pointer x] w fun e w' => e = .returned (.int .i64 (N.l.length : Int)) ∧ w = w' := by
  refine calls_ret (W12 (Q := fun v w' => v = .int .i64 (N.l.length : Int) ∧ w = w') ?_) (fun v w' ⟨h, h'⟩ => ⟨by rw [h], h'⟩)
  unfold F12
  obtain ⟨b, s, ps, rfl, h, hpl⟩ := h
  have hlen : s.l = N.l.length := by rw [← hpl, List.length_map, h.ls.len]
  exact ⟨_, some_eql _ b, IfB.f rfl ⟨_, rfl, s, by rw [addr_add]; exact h.blk.ld rfl, by rw [hlen], rfl⟩⟩
def dblN (i : Int) (N : Nt) : Int × Nt := if h : 0 ≤ i ∧ i.toNat < N.l.length then putN (N.l[i.toNat]'h.2) N else (5, N)
theorem double_calls (G : Nat → Prop) (w : World) (x : Option Addr) (N : Nt) (i : Int) (h : NetQ 55 G w x N) : Calls prog 13 #[.pointer x, .int .i64 i] w fun e w' => e = .returned (.int .i64 (dblN i N).1) ∧ ∃ G', NetQ 55 G' w' x (dblN i N).2 ∧ (∀ k, G' k → G k ∨ w.heap.size ≤ k) ∧ Frm G w w' := by
  refine calls_ret (W13 (Q := fun v w' => v = .int .i64 (dblN i N).1 ∧ ∃ G', NetQ 55 G' w' x (dblN i N).2 ∧ (∀ k, G' k → G k ∨ w.heap.size ≤ k) ∧ Frm G w w') ?_) (fun v w' ⟨h, h'⟩ => ⟨by rw [h], h'⟩)
  unfold F13
  refine (there_calls G w x N i h).mono ?_
  rintro _ _ ⟨rfl, rfl⟩
  refine ⟨_, rfl, ?_⟩
  by_cases hi : 0 ≤ i ∧ i < N.l.length
  · rw [if_pos hi]
    have hi2 : 0 ≤ i ∧ i.toNat < N.l.length := by omega
    have hq := h
    obtain ⟨b, s, ps, rfl, h, hpl⟩ := h
    have hlen : s.l = N.l.length := by rw [← hpl, List.length_map, h.ls.len]
    obtain ⟨p, a, hp, ha, ham, _, hla⟩ := h.ls.rds.hasL.at (by omega) hi.1 (i := i) (by omega)
    have ea : N.l[i.toNat]'hi2.2 = a.1 := by
      have : N.l[i.toNat]? = some a.1 := by rw [← hpl, List.getElem?_map, ha]; rfl
      simpa [hi2.2] using this
    refine IfB.f rfl ⟨_, rfl, s, by rw [addr_add]; exact h.blk.ld rfl, p, hp, hi.1, by omega, mc a.1 a.2, hla, ?_⟩
    refine (put_calls G w _ N a.1 a.2 hq (h.ls.own a ham).has (h.ls.ok a ham)).mono ?_
    rintro _ w' ⟨rfl, h'⟩
    refine ⟨_, rfl, ?_⟩
    unfold dblN
    rw [dif_pos hi2, ea]
    exact ⟨rfl, h'⟩
  · rw [if_neg hi]
    have e : dblN i N = (5, N) := by unfold dblN; rw [dif_neg (by omega)]
    rw [e]
    exact IfB.t rfl ⟨rfl, G, h, fun k hk => .inl hk, Frm.refl _ _⟩
end Go.Proofs.Ytffcojmpaccppaa
