/- Datagrams held against each other, written over, made. -/
import Derived.Test.YtffcojmpaccppaaC
set_option linter.unusedVariables false
set_option linter.unusedSimpArgs false
namespace Go.Proofs.Ytffcojmpaccppaa
open Go Go.Proofs.YtffcojmpaccppaaV
theorem ba_eq (s t : ByteArray) : (s.toList == t.toList) = true ↔ s = t := by
  rw [str_beq, decide_eq_true_iff]
  constructor
  · intro h
    obtain ⟨⟨a⟩⟩ := s
    obtain ⟨⟨b⟩⟩ := t
    simp at h
    subst h
    rfl
  · rintro rfl; rfl
theorem blkPart {w : World} {b o n : Nat} {cs vs : Array Value} {T : TypeId} (h : Blk w b cs T) (hv : vs = cs.extract o (o + n)) (hn : o + n ≤ cs.size) : LdA w ⟨b, o, none⟩ n vs := by
  subst hv
  refine ⟨by simp; omega, fun j u hu => ?_⟩
  rw [addr_add]
  refine h.ld ?_
  have hj := (Array.getElem?_eq_some_iff.1 hu).1
  simp at hj
  rw [Array.getElem?_extract] at hu
  rw [if_pos (by omega)] at hu
  exact hu
@[reducible] def mg (m : Ml) (s : Sl) : Array Value := #[.int .u8 m.ki, .int .i64 m.ru, .int .i64 m.li, .int .i64 m.ba, .int .i64 m.pi, .int .i64 m.jo, .int .i64 m.no, .int .i64 m.co, .slice s.a s.l s.c, .string m.data]
theorem mg_one (m : Ml) (s : Sl) : ∀ u, u ∈ (mg m s).toList → u.oneCell' = true := by
  intro u hu
  simp only [List.mem_cons, List.not_mem_nil, or_false] at hu
  rcases hu with rfl | rfl | rfl | rfl | rfl | rfl | rfl | rfl | rfl | rfl <;> rfl
def HdEq (m n : Ml) : Prop := m.fr = n.fr ∧ m.to = n.to ∧ m.ki = n.ki ∧ m.ru = n.ru ∧ m.li = n.li ∧ m.ba = n.ba ∧ m.pi = n.pi ∧ m.jo = n.jo ∧ m.no = n.no ∧ m.co = n.co ∧ m.data = n.data ∧ m.tags.length = n.tags.length
theorem ml_eq {m n : Ml} : m = n ↔ HdEq m n ∧ m.tags = n.tags := by
  constructor
  · rintro rfl; exact ⟨⟨rfl, rfl, rfl, rfl, rfl, rfl, rfl, rfl, rfl, rfl, rfl, rfl⟩, rfl⟩
  · rintro ⟨⟨h1, h2, h3, h4, h5, h6, h7, h8, h9, h10, h11, _⟩, h12⟩
    cases m; cases n; simp only at *; subst h1 h2 h3 h4 h5 h6 h7 h8 h9 h10 h11 h12; rfl
theorem ne_to {a b : Int} (h : (a != b) = true) : ¬ a = b := by simpa using h
theorem eq_to {a b : Int} (h : (a != b) = false) : a = b := by simpa using h
set_option maxRecDepth 20000 in
theorem same_calls (w : World) (m m' : Ml) (s s' : Sl) (hs : Has w s 1 (sv m.tags)) (hs' : Has w s' 1 (sv m'.tags)) (hb : s.l ≤ 9223372036854775807) : Calls prog 11 #[.agg (mc m s), .agg (mc m' s')] w fun e w' => ∃ b : Bool, e = .returned (.bool b) ∧ (b = true ↔ m = m') ∧ Frm none_ w w' := by
  refine calls_ret (W11 (Q := fun v w' => ∃ b : Bool, v = .bool b ∧ (b = true ↔ m = m') ∧ Frm none_ w w') ?_) (fun v w' ⟨t, h, h'⟩ => ⟨t, by rw [h], h'⟩)
  unfold F11
  have hl : m.tags.length = s.l := by have := hs.len; rw [sv_len] at this; omega
  have hl' : m'.tags.length = s'.l := by have := hs'.len; rw [sv_len] at this; omega
  intro b2 w1 hn1 b3 w2 hn2
  have f2 : Frm none_ w w2 := trN (hn1.mod none_) (hn2.mod none_)
  have B2 := hn1.blk.mod (hn2.mod none_) (fun h => h)
  have B3 := hn2.blk
  have e1 := hn1.b; have e2 := hn2.b; have z1 := hn1.size; have z2 := hn2.size
  refine ⟨mg m s, by rw [addr_add]; exact blkPart B2 rfl (Nat.le_refl 12), ?_⟩
  intro b5 w3 hn3
  have e3 := hn3.b; have z3 := hn3.size
  refine setWhole hn3.blk rfl rfl (mg_one m s) ?_
  intro w4 B5 f4
  have f4' : Frm none_ w2 w4 := trB (hn3.mod none_) f4 (by omega)
  have z4 := f4.size
  refine ⟨mg m' s', by rw [addr_add]; exact blkPart (B3.mod f4' (fun h => h)) rfl (Nat.le_refl 12), ?_⟩
  intro b6 w5 hn5
  have e5 := hn5.b; have z5 := hn5.size
  refine setWhole hn5.blk rfl rfl (mg_one m' s') ?_
  intro w6 B6 f6
  have f6' : Frm none_ w4 w6 := trB (hn5.mod none_) f6 (by omega)
  have B5 := B5.mod f6' (fun h => h)
  have B2 := B2.mod (trN f4' f6') (fun h => h)
  have B3 := B3.mod (trN f4' f6') (fun h => h)
  have fw : Frm none_ w w6 := trN f2 (trN f4' f6')
  refine ⟨fun x w' => w' = w6 ∧ (x = true ↔ ¬ HdEq m m'), ?_, ?_⟩
  · refine ⟨m.fr, by rw [addr_add]; exact B2.ld rfl, m'.fr, by rw [addr_add]; exact B3.ld rfl, IfB.intro (fun h => ⟨rfl, by have h := ne_to h; simp [HdEq, h]⟩) (fun h => ?_)⟩
    have c1 := eq_to h
    refine ⟨m.to, by rw [addr_add]; exact B2.ld rfl, m'.to, by rw [addr_add]; exact B3.ld rfl, IfB.intro (fun h => ⟨rfl, by have h := ne_to h; simp [HdEq, h]⟩) (fun h => ?_)⟩
    have c2 := eq_to h
    refine ⟨m.ki, by rw [addr_add]; exact B5.ld rfl, m'.ki, by rw [addr_add]; exact B6.ld rfl, IfB.intro (fun h => ⟨rfl, by have h := ne_to h; simp [HdEq, h]⟩) (fun h => ?_)⟩
    have c3 := eq_to h
    refine ⟨m.ru, by rw [addr_add]; exact B5.ld rfl, m'.ru, by rw [addr_add]; exact B6.ld rfl, IfB.intro (fun h => ⟨rfl, by have h := ne_to h; simp [HdEq, h]⟩) (fun h => ?_)⟩
    have c4 := eq_to h
    refine ⟨m.li, by rw [addr_add]; exact B5.ld rfl, m'.li, by rw [addr_add]; exact B6.ld rfl, IfB.intro (fun h => ⟨rfl, by have h := ne_to h; simp [HdEq, h]⟩) (fun h => ?_)⟩
    have c5 := eq_to h
    refine ⟨m.ba, by rw [addr_add]; exact B5.ld rfl, m'.ba, by rw [addr_add]; exact B6.ld rfl, IfB.intro (fun h => ⟨rfl, by have h := ne_to h; simp [HdEq, h]⟩) (fun h => ?_)⟩
    have c6 := eq_to h
    refine ⟨m.pi, by rw [addr_add]; exact B5.ld rfl, m'.pi, by rw [addr_add]; exact B6.ld rfl, IfB.intro (fun h => ⟨rfl, by have h := ne_to h; simp [HdEq, h]⟩) (fun h => ?_)⟩
    have c7 := eq_to h
    refine ⟨m.jo, by rw [addr_add]; exact B5.ld rfl, m'.jo, by rw [addr_add]; exact B6.ld rfl, IfB.intro (fun h => ⟨rfl, by have h := ne_to h; simp [HdEq, h]⟩) (fun h => ?_)⟩
    have c8 := eq_to h
    refine ⟨m.no, by rw [addr_add]; exact B5.ld rfl, m'.no, by rw [addr_add]; exact B6.ld rfl, IfB.intro (fun h => ⟨rfl, by have h := ne_to h; simp [HdEq, h]⟩) (fun h => ?_)⟩
    have c9 := eq_to h
    refine ⟨m.co, by rw [addr_add]; exact B5.ld rfl, m'.co, by rw [addr_add]; exact B6.ld rfl, IfB.intro (fun h => ⟨rfl, by have h := ne_to h; simp [HdEq, h]⟩) (fun h => ?_)⟩
    have c10 := eq_to h
    refine ⟨m.data, by rw [addr_add]; exact B5.ld rfl, m'.data, by rw [addr_add]; exact B6.ld rfl, IfB.intro (fun h => ⟨rfl, ?_⟩) (fun h => ?_)⟩
    · have h : ¬ m.data = m'.data := fun e => by rw [(ba_eq _ _).2 e] at h; simp at h
      simp [HdEq, h]
    have c11 : m.data = m'.data := (ba_eq _ _).1 (by simpa using h)
    refine ⟨s, by rw [addr_add]; exact B5.ld rfl, s', by rw [addr_add]; exact B6.ld rfl, rfl, ?_⟩
    simp only [HdEq, c1, c2, c3, c4, c5, c6, c7, c8, c9, c10, c11, true_and, hl, hl']
    simp; omega
  rintro u x w7 ⟨rfl, hx⟩
  refine IfB.intro (fun h => ?_) (fun h => ?_)
  · exact ⟨false, rfl, by simp only [Bool.false_eq_true, false_iff]; intro e; exact (hx.1 h) (ml_eq.1 e).1, fw⟩
  have hd : HdEq m m' := by
    by_cases hq : HdEq m m'
    · exact hq
    · have := hx.2 hq; rw [h] at this; cases this
  have hll : s.l = s'.l := by have := hd.2.2.2.2.2.2.2.2.2.2.2; omega
  refine ⟨fun n x w' => ∃ j : Nat, x = (j : Int) ∧ j ≤ s.l ∧ n = s.l - j ∧ (∀ i, i < j → m.tags[i]? = m'.tags[i]?) ∧ Frm none_ w7 w', s.l, ⟨0, rfl, Nat.zero_le _, by omega, by simp, Frm.refl _ _⟩, ?_⟩
  rintro n u x w8 ⟨j, rfl, hj, rfl, heq, f8⟩
  have B5a := B5.mod f8 (fun h => h)
  have B6a := B6.mod f8 (fun h => h)
  refine ⟨s, by rw [addr_add]; exact B5a.ld rfl, IfB.intro (fun h => ?_) (fun h => ?_)⟩
  · have hlt := of_decide_eq_true h
    have h1 := (hs.mod (trN fw f8) (fun _ _ h => h)).drew
    have h1' := (hs'.mod (trN fw f8) (fun _ _ h => h)).drew
    obtain ⟨p, v, hp, hv, hld⟩ := h1.at1 (i := (j : Int)) (by omega) (by omega)
    obtain ⟨p', v', hp', hv', hld'⟩ := h1'.at1 (i := (j : Int)) (by omega) (by omega)
    have hjt : j < m.tags.length := by omega
    have hjt' : j < m'.tags.length := by omega
    have ev : v = .string m.tags[j] := by simpa [sv, List.getElem?_map, hjt] using hv.symm
    have ev' : v' = .string m'.tags[j] := by simpa [sv, List.getElem?_map, hjt'] using hv'.symm
    subst ev ev'
    refine ⟨s, by rw [addr_add]; exact B5a.drew.ld rfl, p, hp, by omega, by omega, _, hld, s', by rw [addr_add]; exact B6a.drew.ld rfl, p', hp', by omega, by omega, _, hld', IfB.intro (fun h => ?_) (fun h => ?_)⟩
    · refine ⟨false, rfl, ?_, (trN fw f8).drew⟩
      simp only [Bool.false_eq_true, false_iff]
      rintro e
      have e := (ml_eq.1 e).2
      have : m.tags[j] = m'.tags[j] := by simp [e]
      rw [(ba_eq _ _).2 this] at h
      simp at h
    · have he : m.tags[j] = m'.tags[j] := (ba_eq _ _).1 (by simpa using h)
      refine ⟨s.l - (j + 1), by omega, j + 1, by rw [wi _ (by omega)]; omega, by omega, rfl, ?_, f8.drew⟩
      intro i hi
      rcases Nat.lt_succ_iff_lt_or_eq.1 hi with h | h
      · exact heq i h
      · rw [h]; simp [hjt, hjt', he]
  · have hge := of_decide_eq_false h
    refine ⟨true, rfl, ?_, trN fw f8⟩
    simp only [true_iff]
    refine ml_eq.2 ⟨hd, ?_⟩
    apply List.ext_getElem?
    intro i
    by_cases hi : i < j
    · exact heq i hi
    · rw [List.getElem?_eq_none (by omega), List.getElem?_eq_none (by omega)]
def flat (ps : List (Ml × Sl)) : List Value := ps.flatMap fun p => (mc p.1 p.2).toList
theorem flat_each (ps : List (Ml × Sl)) : ∀ p ∈ ps, ((fun p : Ml × Sl => (mc p.1 p.2).toList) p).length = 12 := fun _ _ => rfl
theorem flat_len (ps : List (Ml × Sl)) : (flat ps).length = ps.length * 12 := flatMap_len (flat_each ps)
theorem flat_one (ps : List (Ml × Sl)) : ∀ u ∈ flat ps, u.oneCell' = true := by
  intro u hu
  obtain ⟨p, _, hu⟩ := List.mem_flatMap.1 hu
  exact mc_one _ _ u hu
structure Rds (w : World) (s : Sl) (ps : List (Ml × Sl)) : Prop where
  has : Has w s 12 (flat ps)
  len : ps.length = s.l
  each : ∀ p ∈ ps, Has w p.2 1 (sv p.1.tags) ∧ OkM p.1
theorem Rds.mod {w w' : World} {s : Sl} {ps : List (Ml × Sl)} (h : Rds w s ps) (f : Frm none_ w w') : Rds w' s ps := ⟨h.has.mod f (fun _ _ h => h), h.len, fun p hp => ⟨(h.each p hp).1.mod f (fun _ _ h => h), (h.each p hp).2⟩⟩
theorem Rds.hasL {w : World} {s : Sl} {ps : List (Ml × Sl)} (h : Rds w s ps) : HasL w s 12 (fun p : Ml × Sl => (mc p.1 p.2).toList) ps := ⟨h.has, h.len, flat_each ps⟩
theorem has_l {w : World} {s : Sl} {l : List ByteArray} (h : Has w s 1 (sv l)) : s.l = l.length := by have := h.len; rw [sv_len] at this; omega
theorem sames_calls (w : World) (s s' : Sl) (ps ps' : List (Ml × Sl)) (h : Rds w s ps) (h' : Rds w s' ps') (hb : s.l ≤ 9223372036854775807) : Calls prog 22 #[.slice s.a s.l s.c, .slice s'.a s'.l s'.c] w fun e w' => ∃ b : Bool, e = .returned (.bool b) ∧ (b = true ↔ ps.map (·.1) = ps'.map (·.1)) ∧ Frm none_ w w' := by
  refine calls_ret (W22 (Q := fun v w' => ∃ b : Bool, v = .bool b ∧ (b = true ↔ ps.map (·.1) = ps'.map (·.1)) ∧ Frm none_ w w') ?_) (fun v w' ⟨t, h, h'⟩ => ⟨t, by rw [h], h'⟩)
  unfold F22
  have hl := h.len
  have hl' := h'.len
  refine IfB.intro (fun hq => ?_) (fun hq => ?_)
  · have hq := ne_to hq
    refine ⟨false, rfl, ?_, Frm.refl _ _⟩
    simp only [Bool.false_eq_true, false_iff]
    intro e
    have := congrArg List.length e
    simp at this
    omega
  have hq := eq_to hq
  refine ⟨fun n x w' => ∃ j : Nat, x = (j : Int) ∧ j ≤ s.l ∧ n = s.l - j ∧ (∀ i, i < j → (ps.map (·.1))[i]? = (ps'.map (·.1))[i]?) ∧ Frm none_ w w', s.l, ⟨0, rfl, Nat.zero_le _, by omega, by simp, Frm.refl _ _⟩, ?_⟩
  rintro n u x w1 ⟨j, rfl, hj, rfl, heq, f1⟩
  refine IfB.intro (fun hc => ?_) (fun hc => ?_)
  · have hlt := of_decide_eq_true hc
    refine ⟨fun w' => Frm none_ w w', f1.drew, ?_⟩
    obtain ⟨p, a, hp, ha, ham, _, _⟩ := h.hasL.at (by omega) (i := (j : Int)) (by omega) (by omega)
    obtain ⟨p', a', hp', ha', ham', _, _⟩ := h'.hasL.at (by omega) (i := (j : Int)) (by omega) (by omega)
    refine ⟨p, hp, by omega, by omega, mc a.1 a.2, ?_, p', hp', by omega, by omega, mc a'.1 a'.2, ?_, ?_⟩
    · intro w' f'
      obtain ⟨p2, a2, hp2, ha2, _, _, hla⟩ := ((h.mod f').hasL).at (by omega) (i := (j : Int)) (by omega) (by omega)
      rw [hp] at hp2; cases hp2
      rw [ha] at ha2; cases ha2
      exact hla
    · intro w' f'
      obtain ⟨p2, a2, hp2, ha2, _, _, hla⟩ := ((h'.mod f').hasL).at (by omega) (i := (j : Int)) (by omega) (by omega)
      rw [hp'] at hp2; cases hp2
      rw [ha'] at ha2; cases ha2
      exact hla
    have f1d : Frm none_ w w1.drew := f1.drew
    have h2 := ((h.mod f1d).each a ham)
    have h2' := ((h'.mod f1d).each a' ham').1
    have hlen2 := has_l h2.1
    have hok2 : a.1.tags.length * 16 ≤ 140737488351232 := h2.2
    refine (same_calls w1.drew a.1 a'.1 a.2 a'.2 h2.1 h2' (by omega)).mono ?_
    rintro _ w2 ⟨b, rfl, hbi, f2⟩
    have eja : (ps.map (·.1))[j]? = some a.1 := by rw [List.getElem?_map]; simp at ha; rw [ha]; rfl
    have eja' : (ps'.map (·.1))[j]? = some a'.1 := by rw [List.getElem?_map]; simp at ha'; rw [ha']; rfl
    refine ⟨b, rfl, IfB.intro (fun hbb => ?_) (fun hbb => ?_)⟩
    · refine ⟨false, rfl, ?_, trN f1d f2⟩
      simp only [Bool.false_eq_true, false_iff]
      intro e
      rw [e, eja'] at eja
      have := hbi.2 (by simpa using eja.symm)
      rw [this] at hbb
      simp at hbb
    · have hbt : b = true := by simpa using hbb
      have e := hbi.1 hbt
      refine ⟨s.l - (j + 1), by omega, j + 1, by rw [wi _ (by omega)]; omega, by omega, rfl, ?_, trN f1d f2⟩
      intro i hi
      rcases Nat.lt_succ_iff_lt_or_eq.1 hi with hh | hh
      · exact heq i hh
      · rw [hh, eja, eja', e]
  · have hge := of_decide_eq_false hc
    refine ⟨true, rfl, ?_, f1⟩
    simp only [true_iff]
    apply List.ext_getElem?
    intro i
    by_cases hi : i < j
    · exact heq i hi
    · rw [List.getElem?_eq_none (by rw [List.length_map]; omega), List.getElem?_eq_none (by rw [List.length_map]; omega)]
theorem spoil_calls (w : World) (m : Ml) (s : Sl) (h : RowG w s 9 1 (sv m.tags)) (hok : OkM m) : Calls prog 19 #[.agg (mc m s)] w fun e w' => e = .returned (.tuple #[]) ∧ Frm (fun k => s.blk = some k) w w' := by
  refine calls_ret (W19 (Q := fun v w' => v = .tuple #[] ∧ Frm (fun k => s.blk = some k) w w') ?_) (fun v w' ⟨h, h'⟩ => ⟨by rw [h], h'⟩)
  unfold F19
  intro b1 w1 hn1
  have e1 := hn1.b; have z1 := hn1.size
  have hl := has_l h.has
  have hok' : m.tags.length * 16 ≤ 140737488351232 := hok
  have h1 := h.mod (hn1.mod none_) (fun _ _ h => h)
  have hne : ∀ k, s.blk = some k → ¬ k = b1 := fun k hk => by have := h.lt k hk; omega
  refine ⟨fun n x w' => ∃ j : Nat, x = (j : Int) ∧ j ≤ s.l ∧ n = s.l - j ∧ (∃ cs, RowG w' s 9 1 cs) ∧ Blk w' b1 (mc m s) 33 ∧ Frm (fun k => s.blk = some k) w w', s.l, ⟨0, rfl, Nat.zero_le _, by omega, ⟨_, h1⟩, hn1.blk, hn1.mod _⟩, ?_⟩
  rintro n u x w2 ⟨j, rfl, hj, rfl, ⟨cs, hr⟩, hB, f2⟩
  refine ⟨s, by rw [addr_add, addr_add]; exact hB.ld rfl, IfB.intro (fun hc => ?_) (fun hc => ?_)⟩
  · have hlt := of_decide_eq_true hc
    have hcl := hr.len
    obtain ⟨g, hg, hwr, hset⟩ := hr.wr (j := j) (by omega)
    have hsg : s.blk = some g := by simp [Sl.blk, hg]
    have ead : (⟨g, 0, none⟩ : Addr).add ((j : Int).toNat * 1) = ⟨g, j, none⟩ := by rw [addr_add]; simp
    refine ⟨s, by rw [addr_add, addr_add]; exact hB.ld rfl, _, hg, by omega, by omega, by rw [ead]; exact hwr, ?_⟩
    rintro w3 rfl
    rw [ead]
    have f3 : Frm (fun k => k = g) w2 (w2.setCell ⟨g, j, none⟩ (.string (⟨#[63]⟩ : ByteArray))) := mod_setCell (a := ⟨g, j, none⟩)
    exact ⟨s.l - (j + 1), by omega, j + 1, by rw [wi _ (by omega)]; omega, by omega, rfl, ⟨_, hset _⟩, hB.mod f3 (fun e => hne g hsg e.symm), f2.trans f3 (fun _ _ h => h) (fun x hx he => by rw [he]; exact hsg)⟩
  · exact ⟨rfl, f2⟩
def mailM (n : Int) : Ml := ⟨n, 1, 1, 0, 0, 0, 0, 0, n, 0, [⟨#[97]⟩], ⟨#[]⟩⟩
theorem mail_ok (n : Int) : OkM (mailM n) := by show 1 * 16 ≤ 140737488351232; decide
theorem b31 (n : Int) (s : Sl) : BuildIs prog 31 #[(0, .int .u8 1), (6, .int .i64 n), (8, .slice s.a s.l s.c)] (mg (mailM n) s) := fun w => by kernel_rfl
theorem b33 (n : Int) (s : Sl) : BuildIs prog 33 #[(0, .int .i64 n), (1, .int .i64 1), (2, .agg (mg (mailM n) s))] (mc (mailM n) s) := fun w => by kernel_rfl
theorem mail_calls (w : World) (n : Int) : Calls prog 9 #[.int .i64 n] w fun e w' => ∃ t : Sl, e = .returned (.agg (mc (mailM n) t)) ∧ RowG w' t 9 1 (sv (mailM n).tags) ∧ (∀ k, t.blk = some k → w.heap.size ≤ k) ∧ Frm none_ w w' := by
  refine calls_ret (W9 (Q := fun v w' => ∃ t : Sl, v = .agg (mc (mailM n) t) ∧ RowG w' t 9 1 (sv (mailM n).tags) ∧ (∀ k, t.blk = some k → w.heap.size ≤ k) ∧ Frm none_ w w') ?_) (fun v w' ⟨t, h, h'⟩ => ⟨t, by rw [h], h'⟩)
  unfold F9
  intro b2 w1 hn1
  have e1 := hn1.b; have z1 := hn1.size
  refine runT_lit1 st29 (by decide) rfl ?_
  intro w2 hr2 f2 z2
  refine ⟨_, b31 n _, _, b33 n _, setWhole (hn1.blk.mod f2 (fun h => h)) rfl rfl (mc_one _ _) ?_⟩
  intro w3 B3 f3
  refine ⟨_, B3.ldA rfl, _, rfl, hr2.g.mod f3 (fun k hk h => by simp [Sl.blk] at hk; omega), fun k hk => by simp [Sl.blk] at hk; omega, trB (trN (hn1.mod none_) f2) f3 (by omega)⟩
end Go.Proofs.Ytffcojmpaccppaa
