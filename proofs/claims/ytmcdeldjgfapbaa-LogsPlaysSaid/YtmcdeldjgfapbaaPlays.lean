/- The law LogsPlays walked. -/
import Derived.Test.YtmcdeldjgfapbaaDl
set_option linter.unusedVariables false
set_option linter.unusedSimpArgs false
set_option maxRecDepth 20000
namespace Go.Proofs.Ytmcdeldjgfapbaa
open Go Go.Proofs.YtmcdeldjgfapbaaV
/-- The two logs of a play. -/
structure PlayI (W : World) (b : Nat) (t : Sl) (d : Nat) (q : Sl) (ps : List ByteArray) (V : World) : Prop where
  ok : OkL ps
  a : LgS V b t ps
  c : DgS V d q ps
  hb : W.heap.size ≤ b
  hd : W.heap.size ≤ d
  ht : New W t
  hq : New W q
  sep : ∀ k, t.blk = some k → q.blk ≠ some k
  frm : Frm none_ W V
theorem PlayI.mod {F : Nat → Prop} {W V V' : World} {b d : Nat} {t q : Sl} {ps : List ByteArray} (h : PlayI W b t d q ps V) (hm : Frm F V V') (hF : ∀ k, F k → V.heap.size ≤ k ∨ ¬ (k = b ∨ k = d ∨ t.blk = some k ∨ q.blk = some k) ∧ W.heap.size ≤ k) : PlayI W b t d q ps V' := by
  have n1 : ∀ k, k < V.heap.size → (k = b ∨ k = d ∨ t.blk = some k ∨ q.blk = some k) → ¬ F k := fun k hk hh hf => by
    rcases hF k hf with h1 | h1
    · omega
    · exact h1.1 hh
  exact ⟨h.ok, h.a.mod hm (n1 b h.a.blk.lt (.inl rfl)) (fun k hk => n1 k (h.a.row.lt k hk) (.inr (.inr (.inl hk)))), h.c.mod hm (n1 d h.c.blk.lt (.inr (.inl rfl))) (fun k hk => n1 k (h.c.row.lt k hk) (.inr (.inr (.inr hk)))), h.hb, h.hd, h.ht, h.hq, h.sep,
    h.frm.trans hm (fun _ _ h => h) (fun k hk hf => by
      rcases hF k hf with h1 | h1
      · have := h.frm.size; omega
      · omega)⟩
theorem PlayI.n {W V V' : World} {b d : Nat} {t q : Sl} {ps : List ByteArray} (h : PlayI W b t d q ps V) (hm : Frm none_ V V') : PlayI W b t d q ps V' := h.mod hm (fun k hk => hk.elim)
theorem blk_ne {w : World} {b d : Nat} {cs cs' : Array Value} {T T' : TypeId} (h : Blk w b cs T) (h' : Blk w d cs' T') (hT : T ≠ T') : b ≠ d := by
  rintro rfl
  have h1 : w.heap[b]? = _ := h
  have h2 : w.heap[b]? = _ := h'
  rw [h1] at h2
  cases h2
  exact hT rfl
/-- A step's own copy. -/
abbrev StB (V : World) (b6 : Nat) (p : Stp) : Prop := Blk V b6 (sc p).toArray 50
theorem blk_frm_lg {V V' : World} {b b6 : Nat} {s : Sl} {ps : List ByteArray} {p : Stp} (h6 : StB V b6 p) (hL : LgS V b s ps) (hf : Frm (fun k => k = b ∨ s.blk = some k) V V') : StB V' b6 p :=
  h6.mod hf (fun h => by
    rcases h with h | h
    · exact blk_ne h6 hL.blk (by decide) h
    · exact hL.row.g.blkNeB h6.g (by decide) h)
theorem blk_frm_dg {V V' : World} {b b6 : Nat} {s : Sl} {ps : List ByteArray} {p : Stp} (h6 : StB V b6 p) (hL : DgS V b s ps) (hf : Frm (fun k => k = b ∨ s.blk = some k) V V') : StB V' b6 p :=
  h6.mod hf (fun h => by
    rcases h with h | h
    · exact blk_ne h6 hL.blk (by decide) h
    · exact hL.row.g.blkNeB h6.g (by decide) h)
theorem b34n : BuildIs prog 34 #[] #[.slice none 0 0] := fun w => by kernel_rfl
theorem plays_law (W : World) (s : Sl) (l : List Stp) (ha : ArgS W s l) : Calls prog 10 #[.slice s.a s.l s.c] W fun e w' => e = .returned (.bool true) ∧ Frm none_ W w' := by
  refine callsRet (W10 (x0 := s) (Q := fun v w' => v = .bool true ∧ Frm none_ W w') ?_) (fun v w' ⟨h, h'⟩ => ⟨by rw [h], h'⟩)
  have hsl : s.l ≤ 1000000000000000 := by have := ha.2.2.2.2; have := ha.2.2.1; omega
  have hl := ha.1.len
  unfold F10
  refine (large_calls W s l ha.1 hsl).mono ?_
  rintro _ _ ⟨c, rfl, hc, rfl⟩
  rename_i W
  refine ⟨c, rfl, IfB.intro (fun _ => ⟨rfl, Frm.refl _ _⟩) (fun hcf => ?_)⟩
  obtain ⟨hl80, hsz⟩ := hc hcf
  refine (new_calls W).mono ?_
  rintro _ w1 ⟨b, rfl, hb, hL1, f1⟩
  refine ⟨_, rfl, _, b34n, ?_⟩
  intro d w2 hN2
  have hd := hN2.2
  have f2 : Frm none_ w1 w2 := hN2.mod _
  have hI0 : PlayI W b ⟨none, 0, 0⟩ d ⟨none, 0, 0⟩ [] w2 := ⟨ok_nil, hL1.n f2, ⟨hN2.blk, Row.nil _ _ _⟩, by omega, by have := f1.size; omega, fun k hk => by simp [Sl.blk] at hk, fun k hk => by simp [Sl.blk] at hk, fun k hk => by simp [Sl.blk] at hk, f1.n f2⟩
  refine ⟨fun n x y i V => ∃ (j b : Nat) (t : Sl) (d : Nat) (q : Sl) (ps : List ByteArray), x = some ⟨b, 0, none⟩ ∧ y = some ⟨d, 0, none⟩ ∧ i = (j : Int) ∧ j ≤ l.length ∧ n = l.length - j ∧ PlayI W b t d q ps V, l.length, ⟨0, b, _, d, _, _, rfl, rfl, rfl, by omega, rfl, hI0⟩, ?_⟩
  clear hI0 hL1 f1 f2 hN2 hd hb
  clear b d w1 w2
  rintro n u x y i V3 ⟨j, b, t, d, q, ps, rfl, rfl, rfl, hj, rfl, hI3⟩
  refine IfB.dec (fun hlt => ?_) (fun hge => ?_)
  rotate_left 1
  · refine ⟨fun V => Frm none_ V3 V, frm_drew _, _, rfl, q, fun V hV => (hI3.n hV).c.blk.ld rfl, (from_calls 0 V3.drew _ ps ((hI3.n (frm_drew _)).a.q) (by have := hI3.ok.n; omega) 0).mono ?_⟩
    rw [show (0 : Int).toNat = 0 from rfl, List.drop_zero]
    rintro _ V4 ⟨r, rfl, hr, hn, f4⟩
    have f4 := f4.ofDrew
    refine ⟨r, rfl, f4, (texts_calls V4 r q ps ps hr.has (hI3.n f4).c.row.has (by have := hI3.ok.n; omega)).mono ?_⟩
    rintro _ V5 ⟨rfl, f5⟩
    exact ⟨_, rfl, by rw [decide_eq_true rfl], ((hI3.n f4).n f5).frm⟩
  obtain ⟨qa, p, hqa, hp, hpm, hld, hldA⟩ := (ha.1.mod hI3.frm (fun _ _ h => h)).at (by decide) (i := (j : Int)) (by omega) (by omega)
  rw [Int.toNat_natCast] at hp
  have okp := ha.2.1 p hpm
  have hps := hsz p hpm
  refine ⟨qa, hqa, by omega, by omega, (sc p).toArray, hldA, ?_⟩
  intro b6 V4 hN6
  have hb6 : b6 = V3.heap.size := hN6.2
  refine Blk.setW hN6.blk rfl rfl (by simp [sc, Value.oneCell']) ?_
  intro V5 hB5 g5
  have F5 : Frm none_ V3 V5 := (hN6.mod none_).b g5 (by omega)
  have hI5 := hI3.n F5
  have hb6W : W.heap.size ≤ b6 := by have := hI3.frm.size; omega
  have ld0 : ∀ V, StB V b6 p → Ld V ((⟨b6, 0, none⟩ : Addr).add 0) (.int .i64 p.k) := fun V h => by rw [addr_add]; exact h.ld rfl
  have ld1 : ∀ V, StB V b6 p → Ld V ((⟨b6, 0, none⟩ : Addr).add 1) (.int .i64 p.n) := fun V h => by rw [addr_add]; exact h.ld rfl
  have ld2 : ∀ V, StB V b6 p → Ld V ((⟨b6, 0, none⟩ : Addr).add 2) (.int .i64 p.m) := fun V h => by rw [addr_add]; exact h.ld rfl
  have ld3 : ∀ V, StB V b6 p → Ld V ((⟨b6, 0, none⟩ : Addr).add 3) (.string p.s) := fun V h => by rw [addr_add]; exact h.ld rfl
  clear hldA hld hN6 g5 F5
  refine ⟨fun x y V => ∃ (b : Nat) (t : Sl) (d : Nat) (q : Sl) (ps : List ByteArray), x = some ⟨b, 0, none⟩ ∧ y = some ⟨d, 0, none⟩ ∧ PlayI W b t d q ps V ∧ StB V b6 p, ⟨p.k, ld0 V5 hB5, ?_⟩, ?_⟩
  · refine IfB.intro (fun _ => ?_) (fun _ => IfB.intro (fun _ => ?_) (fun _ => IfB.intro (fun _ => ?_) (fun _ => ⟨b, t, d, q, ps, rfl, rfl, hI5, hB5⟩)))
    · refine ⟨p.n, ld1 V5 hB5, p.s, ld3 V5 hB5, (add_calls V5 b t ps p.n p.s hI5.a hI5.ok).mono ?_⟩
      rintro _ V6 ⟨rfl, t6, hL6, hn6, f6⟩
      have hB6 := blk_frm_lg hB5 hI5.a f6
      have hC6 : DgS V6 d q ps := hI5.c.mod f6 (fun h => by
        rcases h with h | h
        · exact blk_ne hI5.c.blk hI5.a.blk (by decide) h
        · exact hI5.a.row.g.blkNeB hI5.c.blk.g (by decide) h) (fun k hk h => by
        rcases h with h | h
        · subst h; exact hI5.c.row.g.blkNeB hI5.a.blk.g (by decide) hk
        · exact hI5.sep k h hk)
      have F6 := frm_lg hI5.frm f6 hI5.hb hI5.ht
      have ht6 := hn6.new hI5.ht hI5.frm.size
      refine ⟨_, _, rfl, p.n, ld1 V6 hB6, p.s, ld3 V6 hB6, (addD_calls V6 d q ps p.n p.s hC6 hI5.ok).mono ?_⟩
      rintro _ V7 ⟨rfl, q7, hC7, hn7, f7⟩
      have hB7 := blk_frm_dg hB6 hC6 f7
      have sep6 : ∀ k, t6.blk = some k → q.blk ≠ some k := fun k hk hq => by
        rcases hn6 k hk with h | h
        · exact hI5.sep k h hq
        · have := hI5.c.row.lt k hq; omega
      have hL7 : LgS V7 b t6 _ := hL6.mod f7 (fun h => by
        rcases h with h | h
        · exact blk_ne hL6.blk hC6.blk (by decide) h
        · exact hC6.row.g.blkNeB hL6.blk.g (by decide) h) (fun k hk h => by
        rcases h with h | h
        · subst h; exact hL6.row.g.blkNeB hC6.blk.g (by decide) hk
        · exact sep6 k hk h)
      have F7 := frm_lg F6 f7 hI5.hd hI5.hq
      have hI7 : PlayI W b t6 d q7 _ V7 := ⟨addA_ok hI5.ok p.n p.s, hL7, hC7, hI5.hb, hI5.hd, ht6, hn7.new hI5.hq F6.size, fun k hk hq => by
        rcases hn7 k hq with h | h
        · exact sep6 k hk h
        · have := hL6.row.lt k hk; omega, F7⟩
      refine ⟨_, _, rfl, fun c V => c = false ∧ V7 = V, ⟨_, bneq _ _ _ _, IfB.f (by simp) ⟨by simp, rfl⟩⟩, ?_⟩
      rintro u c V ⟨rfl, rfl⟩
      exact IfB.f rfl ⟨b, t6, d, q7, _, rfl, rfl, hI7, hB7⟩
    · have hn64 := hI5.ok.n
      refine (copy_calls V5 b t ps hI5.a (by omega)).mono ?_
      rintro _ V6 ⟨b', t', rfl, hb', ht', hL6', f6⟩
      have hI6 := hI5.n f6
      have hB6 := hB5.mod f6 (fun h => h)
      refine ⟨_, rfl, (len_calls V6 _ _ _ hI6.a.lp).mono ?_⟩
      rintro _ _ ⟨rfl, rfl⟩
      rename_i V6
      refine ⟨_, rfl, (add_calls V6 b t ps _ _ hI6.a hI6.ok).mono ?_⟩
      rintro _ V7 ⟨rfl, t7, hL7, hn7, f7⟩
      have F7 := frm_lg hI6.frm f7 hI6.hb hI6.ht
      have hB7 := blk_frm_lg hB6 hI6.a f7
      have hblt := hI5.a.blk.lt
      have hL7' : LgS V7 b' t' ps := hL6'.mod f7 (fun h => by
        rcases h with h | h
        · omega
        · have := hI5.a.row.lt _ h; omega) (fun k hk h => by
        have := ht' k hk
        rcases h with h | h
        · omega
        · have := hI5.a.row.lt _ h; omega)
      have hC7 : DgS V7 d q ps := hI6.c.mod f7 (fun h => by
        rcases h with h | h
        · exact blk_ne hI6.c.blk hI6.a.blk (by decide) h
        · exact hI6.a.row.g.blkNeB hI6.c.blk.g (by decide) h) (fun k hk h => by
        rcases h with h | h
        · subst h; exact hI6.c.row.g.blkNeB hI6.a.blk.g (by decide) hk
        · exact hI6.sep k h hk)
      refine ⟨_, _, rfl, (copyD_calls V7 d q ps hC7 (by omega)).mono ?_⟩
      rintro _ V8 ⟨d', q', rfl, hd', hq', hC8, f8⟩
      have hz5 := hI5.frm.size
      have z67 := F7.size
      refine ⟨_, rfl, b', t', d', q', ps, rfl, rfl, ⟨hI5.ok, hL7'.n f8, hC8, by omega, by omega, fun k hk => by have := ht' k hk; omega, fun k hk => by have := hq' k hk; omega, fun k hk hq => ?_, F7.n f8⟩, hB7.mod f8 (fun h => h)⟩
      have := hL7'.row.lt k hk
      have := hq' k hq
      omega
    · refine (saveS hI5.a hI5.ok).mono ?_
      rintro _ V6 ⟨r, rfl, hr, hrn, f6⟩
      have hI6 := hI5.n f6
      have hn64 := hI5.ok.n
      have hzs := szs_le (fun p hp => (hI5.ok.each p hp).2)
      have hrl := rowLen hr
      have hsl := saveL_len ps (by omega)
      refine ⟨r, rfl, (load_calls V6 r (saveL ps) hr.has (by omega)).mono ?_⟩
      rintro _ V7 ⟨v, rfl, hv, f7⟩
      obtain ⟨b', t', rfl, hb', ht', hL7⟩ := loaded_some hI5.ok hv
      have hI7 := hI6.n f7
      have hz := hI6.frm.size
      refine ⟨_, _, rfl, IfB.f rfl ⟨b', t', d, q, ps, rfl, rfl, ⟨hI5.ok, hL7, hI7.c, by omega, hI7.hd, fun k hk => by have := ht' k hk; omega, hI7.hq, fun k hk hq => ?_, hI7.frm⟩, (hB5.mod f6 (fun h => h)).mod f7 (fun h => h)⟩⟩
      have := ht' k hk
      have := hI6.c.row.lt k hq
      omega
  clear hI5 hB5 hI3 hb6
  clear V5 V4 V3
  clear b t d q ps
  rintro u x y V6 ⟨b, t, d, q, ps, rfl, rfl, hI6, hB6⟩
  have hn64 := hI6.ok.n
  have hzs := szs_le (fun p hp => (hI6.ok.each p hp).2)
  obtain ⟨hn0, hn1, hm0, hm1⟩ := okp
  refine ⟨p.n, ld1 V6 hB6, (from_calls 0 V6 _ ps hI6.a.q (by omega) p.n).mono ?_⟩
  rintro _ V7 ⟨r7, rfl, hr7, hrn7, f7⟩
  have hI7 := hI6.n f7
  have hB7 : StB V7 b6 p := hB6.mod f7 (fun h => h)
  refine ⟨r7, rfl, p.n, ld1 V7 hB7, p.m, ld2 V7 hB7, (lines_calls V7 _ t ps p.n p.m hI7.a.lp (by omega) (by omega)).mono ?_⟩
  rintro _ V8 ⟨r8, rfl, hr8, hrn8, f8⟩
  have hI8 := hI7.n f8
  have hB8 : StB V8 b6 p := hB7.mod f8 (fun h => h)
  refine ⟨r8, rfl, (saveS hI8.a hI8.ok).mono ?_⟩
  rintro _ V9 ⟨r9, rfl, hr9, hrn9, f9⟩
  have hI9 := hI8.n f9
  have hB9 : StB V9 b6 p := hB8.mod f9 (fun h => h)
  have hr79 : Row V9 r7 9 1 (sv (ps.drop p.n.toNat)) := (hr7.mod f8 (fun _ _ h => h)).mod f9 (fun _ _ h => h)
  have hr89 : Row V9 r8 9 1 (sv (selL (lns [] (txt ps)) p.n p.m)) := hr8.mod f9 (fun _ _ h => h)
  have hall := lns_len (txt ps) []
  rw [txt_len] at hall
  refine ⟨r9, rfl, fun c V => c = false ∧ Frm none_ V9 V, ?_, ?_⟩
  · refine ⟨fun V => Frm none_ V9 V, frm_drew _, _, rfl, q, fun V hV => (hI9.n hV).c.blk.ld rfl, (len_calls V9.drew _ _ _ (hI9.n (frm_drew _)).a.lp).mono ?_⟩
    rintro _ _ ⟨rfl, rfl⟩
    refine ⟨_, rfl, fun V => Frm none_ V9 V, fun _ h => h, frm_drew _, IfB.f (by rw [hI9.c.len]; simp) ((size15_calls 0 V9.drew _ ps (hI9.n (frm_drew _)).a.q).mono ?_)⟩
    rintro _ V11 ⟨rfl, f11⟩
    have f11 := f11.ofDrew
    refine ⟨_, rfl, fun V => Frm none_ V9 V, fun _ h => h, f11, (text16_calls 0 V11 d ps (hI9.n f11).c.dp (by omega) (by omega)).mono ?_⟩
    rintro _ V12 ⟨rfl, f12⟩
    have F12 := f11.n f12
    refine ⟨_, rfl, fun V => Frm none_ V9 V, fun _ h => h, F12, IfB.f (by rw [str_size, txt_len]; simp) ⟨p.n, fun V hV => ld1 V (hB9.mod hV (fun h => h)), (fromD_calls V12 d q ps (hI9.n F12).c (by omega) p.n).mono ?_⟩⟩
    rintro _ V13 ⟨r13, rfl, hr13, hrn13, f13⟩
    have F13 := F12.n f13
    refine ⟨r13, rfl, fun V => Frm none_ V9 V, fun _ h => h, F13, (texts_calls V13 r7 r13 _ _ (hr79.mod F13 (fun _ _ h => h)).has hr13.has (by rw [List.length_drop]; omega)).mono ?_⟩
    rintro _ V14 ⟨rfl, f14⟩
    have F14 := F13.n f14
    refine ⟨_, rfl, fun V => Frm none_ V9 V, fun _ h => h, F14, IfB.f (by rw [decide_eq_true rfl]; rfl) ⟨p.n, fun V hV => ld1 V (hB9.mod hV (fun h => h)), p.m, fun V hV => ld2 V (hB9.mod hV (fun h => h)), (linesD_calls V14 d q ps (hI9.n F14).c (by omega) (by omega) p.n p.m).mono ?_⟩⟩
    rintro _ V15 ⟨r15, rfl, hr15, hrn15, f15⟩
    have F15 := F14.n f15
    refine ⟨r15, rfl, fun V => Frm none_ V9 V, fun _ h => h, F15, (texts_calls V15 r8 r15 _ _ (hr89.mod F15 (fun _ _ h => h)).has hr15.has (by rw [sel_len]; omega)).mono ?_⟩
    rintro _ V16 ⟨rfl, f16⟩
    have F16 := F15.n f16
    refine ⟨_, rfl, fun V => Frm none_ V9 V, fun _ h => h, F16, IfB.f (by rw [decide_eq_true rfl]; rfl) ⟨p.m, fun V hV => ld2 V (hB9.mod hV (fun h => h)), p.m, fun V hV => ld2 V (hB9.mod hV (fun h => h)), (tail_calls V16 b t ps (hI9.n F16).a (by omega) (by omega) p.m hm1).mono ?_⟩⟩
    rintro _ V17 ⟨rfl, f17⟩
    have F17 := F16.n f17
    refine ⟨_, rfl, F17, (tailD_calls V17 d q ps (hI9.n F17).c (by omega) (by omega) p.m hm0).mono ?_⟩
    rintro _ V18 ⟨rfl, f18⟩
    have F18 := F17.n f18
    have hend : (!((str (saveL ps)).toList == (str (saveL ps)).toList)) = false := by rw [(str_eqIff _ _).2 rfl]; rfl
    have conv9 : ∀ (V : World) {K : ByteArray → World → Prop}, Frm none_ V9 V → K (str (saveL ps)) V → RunT prog .str (convert 22 9 (.slice r9.a r9.l r9.c)) V K := fun V K hV hK => runT_str un22 un5 un9 (hr9.mod hV (fun _ _ h => h)).has hK
    refine ⟨_, rfl, IfB.f (by rw [(str_eqIff _ _).2 rfl]; rfl) ⟨?_, ?_⟩⟩
    · refine conv9 V18 F18 ((saveD_calls V18 d q ps (hI9.n F18).c hI9.ok).mono ?_)
      rintro _ V19 ⟨r19, rfl, hr19, hrn19, f19⟩
      exact ⟨r19, rfl, runT_str un22 un5 un9 hr19.has ⟨hend, F18.n f19⟩⟩
    · refine (saveD_calls V18 d q ps (hI9.n F18).c hI9.ok).mono ?_
      rintro _ V19 ⟨r19, rfl, hr19, hrn19, f19⟩
      have F19 := F18.n f19
      exact ⟨r19, rfl, conv9 V19 F19 (runT_str un22 un5 un9 hr19.has ⟨hend, F19⟩), runT_str un22 un5 un9 hr19.has (conv9 V19 F19 ⟨hend, F19⟩)⟩
  rintro u c V10 ⟨rfl, f10⟩
  have hI10 := hI9.n f10
  have hB10 : StB V10 b6 p := hB9.mod f10 (fun h => h)
  refine IfB.f rfl ⟨p.n, ld1 V10 hB10, (piece_calls V10 b t ps hI10.a p.n).mono ?_⟩
  rintro _ _ ⟨hres, rfl⟩
  rename_i V10
  have hI10' := hI10.n (frm_drew _)
  have hB10' : StB V10.drew b6 p := hB10.drew
  have hql := hI10.c.len
  have hK := hI10'.c.blk
  have he0 : ((⟨#[]⟩ : ByteArray).toList == (⟨#[]⟩ : ByteArray).toList) = true := (str_eqIff _ _).2 rfl
  have after : ∀ (u_3 : Env) (x214 : Bool) (w1_12 : World), (x214 = false ∧ V10.drew = w1_12) → IfB x214 (Value.bool false = Value.bool true ∧ Frm none_ W w1_12)
     (∃ (I_1 : Nat → Int → World → Prop) (n0_1 : Nat), I_1 n0_1 (0 : Int) w1_12 ∧
 ∀ (n_1 : Nat) (u_4 : Env) (x19 : Int) (w1_13 : World), I_1 n_1 x19 w1_13 →
 IfB (decide (x19 < ((r7.l : Nat) : Int)))
 (∃ p223, r7.a = some p223 ∧ 0 ≤ x19 ∧ x19 < ((r7.l : Nat) : Int) ∧
 Wr w1_13 (p223.add ((x19).toNat * 1)) ∧ ∀ w1_14, w1_14 = w1_13.setCell (p223.add ((x19).toNat * 1)) (.string (⟨#[63]⟩ : ByteArray)) →
 ∃ n', n' < n_1 ∧ I_1 n' (IntKind.wrap .i64 (x19 + (1 : Int))) w1_14)
 (∃ (I_2 : Nat → Int → World → Prop) (n0_2 : Nat), I_2 n0_2 (0 : Int) w1_13 ∧
 ∀ (n_2 : Nat) (u_5 : Env) (x20 : Int) (w1_14 : World), I_2 n_2 x20 w1_14 →
 IfB (decide (x20 < ((r8.l : Nat) : Int)))
 (∃ p232, r8.a = some p232 ∧ 0 ≤ x20 ∧ x20 < ((r8.l : Nat) : Int) ∧
 Wr w1_14 (p232.add ((x20).toNat * 1)) ∧ ∀ w1_15, w1_15 = w1_14.setCell (p232.add ((x20).toNat * 1)) (.string (⟨#[63]⟩ : ByteArray)) →
 ∃ n', n' < n_2 ∧ I_2 n' (IntKind.wrap .i64 (x20 + (1 : Int))) w1_15)
 (∃ (I_3 : Nat → Int → World → Prop) (n0_3 : Nat), I_3 n0_3 (0 : Int) w1_14 ∧
 ∀ (n_3 : Nat) (u_6 : Env) (x21 : Int) (w1_15 : World), I_3 n_3 x21 w1_15 →
 IfB (decide (x21 < ((r9.l : Nat) : Int)))
 (∃ p241, r9.a = some p241 ∧ 0 ≤ x21 ∧ x21 < ((r9.l : Nat) : Int) ∧
 Wr w1_15 (p241.add ((x21).toNat * 1)) ∧ ∀ w1_16, w1_16 = w1_15.setCell (p241.add ((x21).toNat * 1)) (.int .u8 255) →
 ∃ n', n' < n_3 ∧ I_3 n' (IntKind.wrap .i64 (x21 + (1 : Int))) w1_16)
 (∃ n', n' < l.length - j ∧ ∃ (j_1 b_1 : Nat) (t : Sl) (d_1 : Nat) (q : Sl) (ps : List ByteArray), (some (⟨b, 0, none⟩ : Addr)) = some ⟨b_1, 0, none⟩ ∧ (some (⟨d, 0, none⟩ : Addr)) = some ⟨d_1, 0, none⟩ ∧ IntKind.wrap .i64 ((j : Int) + 1) = (j_1 : Int) ∧ j_1 ≤ l.length ∧ n' = l.length - j_1 ∧ PlayI W b_1 t d_1 q ps w1_15)))) := by
    rintro u c V11 ⟨rfl, rfl⟩
    refine IfB.f rfl ?_
    have hrow : ∀ {V : World} {r : Sl} {E : TypeId} {cs : List Value} {k : Nat}, Row V r E 1 cs → k < r.l → k < cs.length := fun h hk => by have := h.len; omega
    have newF : ∀ {r : Sl} {V0 : World}, New V0 r → Frm none_ V6 V0 → ∀ k, r.blk = some k → ¬ (k = b ∨ k = d ∨ t.blk = some k ∨ q.blk = some k) ∧ W.heap.size ≤ k := fun {r V0} hn hf k hk => by
      have h1 := hn k hk
      have h2 := hf.size
      have h3 := hI6.frm.size
      have h4 := hI6.a.blk.lt
      have h5 := hI6.c.blk.lt
      refine ⟨?_, by omega⟩
      rintro (h | h | h | h)
      · omega
      · omega
      · have := hI6.a.row.lt k h; omega
      · have := hI6.c.row.lt k h; omega
    have F11 : Frm none_ V9 V10.drew := f10.drew
    refine ⟨fun n i V => ∃ (k : Nat) (cs : List Value), i = (k : Int) ∧ k ≤ r7.l ∧ n = r7.l - k ∧ Row V r7 9 1 cs ∧ Frm (fun k => r7.blk = some k) V10.drew V, r7.l, ⟨0, _, rfl, by omega, rfl, hr79.mod F11 (fun _ _ h => h), Frm.refl _ _⟩, ?_⟩
    rintro n u i V12 ⟨k, cs, rfl, hk, rfl, hr, f12⟩
    refine IfB.dec (fun hlt => ?_) (fun hge => ?_)
    · obtain ⟨g, hg, hwr, hset⟩ := hr.wr (hrow hr (show k < r7.l by omega))
      have ea : (⟨g, 0, none⟩ : Addr).add ((k : Int).toNat * 1) = ⟨g, k, none⟩ := by rw [addr_add, Int.toNat_natCast, Nat.mul_one, Nat.zero_add]
      refine ⟨_, hg, by omega, by omega, by rw [ea]; exact hwr, ?_⟩
      rintro V13 rfl
      rw [ea]
      refine ⟨r7.l - (k + 1), by omega, k + 1, _, by rw [wi _ (by have := has_sv hr7.has; rw [List.length_drop] at this; omega)]; omega, by omega, rfl, hset _, f12.trans (mod_setCell (a := ⟨g, k, none⟩)) (fun _ _ h => h) (fun x _ hx => by have hx : x = g := hx; subst hx; simp [Sl.blk, hg])⟩
    have hI12 := hI10'.mod f12 (fun k hk => .inr (newF hrn7 (Frm.refl _ _) k hk))
    have s78 : ∀ k, r8.blk = some k → ¬ r7.blk = some k := fun k hk h => by have := hrn8 k hk; have := hr7.lt k h; omega
    have s79 : ∀ k, r9.blk = some k → ¬ r7.blk = some k := fun k hk h => by have := hrn9 k hk; have := hr7.lt k h; have := f8.size; omega
    have s89 : ∀ k, r9.blk = some k → ¬ r8.blk = some k := fun k hk h => by have := hrn9 k hk; have := hr8.lt k h; omega
    have hr8b := (hr89.mod F11 (fun _ _ h => h)).mod f12 s78
    have hr9b := (hr9.mod F11 (fun _ _ h => h)).mod f12 s79
    have hl8 : r8.l ≤ 100000 := by have := has_sv hr8.has; rw [sel_len] at this; omega
    have hl9 : r9.l ≤ 100000 := by have h1 := rowLen hr9; have h2 := saveL_len ps (by omega); omega
    refine ⟨fun n i V => ∃ (k : Nat) (cs : List Value), i = (k : Int) ∧ k ≤ r8.l ∧ n = r8.l - k ∧ Row V r8 9 1 cs ∧ Frm (fun k => r8.blk = some k) V12 V, r8.l, ⟨0, _, rfl, by omega, rfl, hr8b, Frm.refl _ _⟩, ?_⟩
    rintro n u i V13 ⟨k8, cs8, rfl, hk8, rfl, hr8c, f13⟩
    refine IfB.dec (fun hlt => ?_) (fun hge => ?_)
    · obtain ⟨g, hg, hwr, hset⟩ := hr8c.wr (hrow hr8c (show k8 < r8.l by omega))
      have ea : (⟨g, 0, none⟩ : Addr).add ((k8 : Int).toNat * 1) = ⟨g, k8, none⟩ := by rw [addr_add, Int.toNat_natCast, Nat.mul_one, Nat.zero_add]
      refine ⟨_, hg, by omega, by omega, by rw [ea]; exact hwr, ?_⟩
      rintro V14 rfl
      rw [ea]
      refine ⟨r8.l - (k8 + 1), by omega, k8 + 1, _, by rw [wi _ (by omega)]; omega, by omega, rfl, hset _, f13.trans (mod_setCell (a := ⟨g, k8, none⟩)) (fun _ _ h => h) (fun x _ hx => by have hx : x = g := hx; subst hx; simp [Sl.blk, hg])⟩
    have hI13 := hI12.mod f13 (fun k hk => .inr (newF hrn8 f7 k hk))
    have hr9c := hr9b.mod f13 s89
    refine ⟨fun n i V => ∃ (k : Nat) (cs : List Value), i = (k : Int) ∧ k ≤ r9.l ∧ n = r9.l - k ∧ Row V r9 5 1 cs ∧ Frm (fun k => r9.blk = some k) V13 V, r9.l, ⟨0, _, rfl, by omega, rfl, hr9c, Frm.refl _ _⟩, ?_⟩
    rintro n u i V14 ⟨k9, cs9, rfl, hk9, rfl, hr9d, f14⟩
    refine IfB.dec (fun hlt => ?_) (fun hge => ?_)
    · obtain ⟨g, hg, hwr, hset⟩ := hr9d.wr (hrow hr9d (show k9 < r9.l by omega))
      have ea : (⟨g, 0, none⟩ : Addr).add ((k9 : Int).toNat * 1) = ⟨g, k9, none⟩ := by rw [addr_add, Int.toNat_natCast, Nat.mul_one, Nat.zero_add]
      refine ⟨_, hg, by omega, by omega, by rw [ea]; exact hwr, ?_⟩
      rintro V15 rfl
      rw [ea]
      refine ⟨r9.l - (k9 + 1), by omega, k9 + 1, _, by rw [wi _ (by omega)]; omega, by omega, rfl, hset _, f14.trans (mod_setCell (a := ⟨g, k9, none⟩)) (fun _ _ h => h) (fun x _ hx => by have hx : x = g := hx; subst hx; simp [Sl.blk, hg])⟩
    have hI14 := hI13.mod f14 (fun k hk => .inr (newF hrn9 (f7.n f8) k hk))
    exact ⟨l.length - (j + 1), by omega, j + 1, b, t, d, q, ps, rfl, rfl, by rw [wi _ (by omega)]; omega, by omega, rfl, hI14⟩
  rcases hres with ⟨p0, hp0, hpp, rfl⟩ | ⟨hout, rfl⟩
  · have hlt2 := (List.getElem?_eq_some_iff.1 hpp).1
    obtain ⟨qb, pb, hqb, hpb, hldb⟩ := sv_at hI10'.c.row.has (i := p.n.toNat) (by omega)
    rw [hpp] at hpb
    cases hpb
    have ec : ((p.n.toNat : Nat) : Int) = p.n := by omega
    rw [ec] at hldb
    refine ⟨_, _, rfl, fun c V => c = false ∧ V10.drew = V, ⟨p.n, ld1 _ hB10', IfB.dt hp0 ⟨p.n, ld1 _ hB10', _, rfl, q, hK.ld rfl, IfB.dt (by omega) (IfB.f rfl ⟨_, rfl, q, hK.ld rfl, p.n, ld1 _ hB10', qb, hqb, by omega, by omega, p0, hldb, IfB.f (by rw [(str_eqIff _ _).2 rfl]; rfl) ⟨p.n, ld1 _ hB10', IfB.df (by omega) ⟨p.n, ld1 _ hB10', _, rfl, q, hK.ld rfl, IfB.df (by omega) ⟨rfl, rfl⟩⟩⟩⟩)⟩⟩, after⟩
  · have tail : ∃ t198 : Int, Ld V10.drew ((⟨b6, 0, none⟩ : Addr).add 1) (.int .i64 t198) ∧ True := ⟨p.n, ld1 _ hB10', trivial⟩
    refine ⟨_, _, rfl, fun c V => c = false ∧ V10.drew = V, ⟨p.n, ld1 _ hB10', ?_⟩, after⟩
    by_cases h0 : p.n < 0
    · exact IfB.df (by omega) ⟨p.n, ld1 _ hB10', IfB.dt h0 (IfB.f rfl ⟨by rw [he0]; rfl, rfl⟩)⟩
    · refine IfB.dt (by omega) ⟨p.n, ld1 _ hB10', _, rfl, q, hK.ld rfl, IfB.df (by omega) ⟨p.n, ld1 _ hB10', IfB.df (by omega) ⟨p.n, ld1 _ hB10', _, rfl, q, hK.ld rfl, IfB.dt (by omega) (IfB.f rfl ⟨by rw [he0]; rfl, rfl⟩)⟩⟩⟩
end Go.Proofs.Ytmcdeldjgfapbaa
