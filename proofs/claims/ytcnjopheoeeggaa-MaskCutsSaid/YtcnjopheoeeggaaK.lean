/- A mask in memory: what its calls do, over plain masking. -/
import Derived.Test.YtcnjopheoeeggaaC
set_option linter.unusedVariables false
set_option linter.unusedSimpArgs false
namespace Go.Proofs.Ytcnjopheoeeggaa
open Go Go.Proofs.YtcnjopheoeeggaaV
def sv (l : List ByteArray) : List Value := l.map Value.string
theorem sv_len (l : List ByteArray) : (sv l).length = l.length := by simp [sv]
theorem sv_one (l : List ByteArray) : ∀ u ∈ sv l, u.oneCell' = true := by
  intro u hu
  obtain ⟨b, _, rfl⟩ := List.mem_map.1 hu
  rfl
theorem has_sv {w : World} {s : Sl} {l : List ByteArray} (h : Has w s 1 (sv l)) : s.l = l.length := by have := h.len; rw [sv_len] at this; omega
theorem sv_at {w : World} {s : Sl} {l : List ByteArray} (h : Has w s 1 (sv l)) {i : Nat} (hi : i < s.l) : ∃ q x, s.a = some q ∧ l[i]? = some x ∧ x ∈ l ∧ Ld w (q.add (i * 1)) (.string x) := by
  obtain ⟨q, v, hq, hv, hl⟩ := h.at1 (i := (i : Int)) (by omega) (by omega)
  rw [Int.toNat_natCast] at hv hl
  simp only [sv, List.getElem?_map, Option.map_eq_some_iff] at hv
  obtain ⟨x, hx, rfl⟩ := hv
  exact ⟨q, x, hq, hx, List.mem_of_getElem? hx, hl⟩
@[reducible] def mkc (sl : Sl) (held : ByteArray) (closed : Bool) (o : Nat) : Array Value := #[.slice sl.a sl.l sl.c, .string held, .bool closed, .pointer (some ⟨o, 0, none⟩)]
structure Mk where
  sb : List ByteArray
  held : List UInt8
  closed : Bool
def ssOf (sb : List ByteArray) : List (List UInt8) := sb.map fun s => s.data.toList
structure StP (w0 w : World) (b o : Nat) (sl : Sl) (M : Mk) : Prop where
  blk : Blk w b (mkc sl (str M.held) M.closed o) 46
  sec : Row w sl 9 1 (sv M.sb)
  out : Blk w o #[.pointer none, .slice none 0 0] 55
  hb : w0.heap.size ≤ b
  ho : w0.heap.size ≤ o
  hs : ∀ k, sl.blk = some k → w0.heap.size ≤ k
def St (w0 w : World) (x : Option Addr) (M : Mk) : Prop := ∃ b o sl, x = some ⟨b, 0, none⟩ ∧ StP w0 w b o sl M
theorem StP.mod {w0 w w' : World} {F : Nat → Prop} {b o : Nat} {sl : Sl} {M : Mk} (h : StP w0 w b o sl M) (f : Frm F w w') (hF : ∀ k, w0.heap.size ≤ k → ¬ F k) : StP w0 w' b o sl M :=
  ⟨h.blk.mod f (hF b h.hb), h.sec.mod f (fun k hk => hF k (h.hs k hk)), h.out.mod f (hF o h.ho), h.hb, h.ho, h.hs⟩
theorem St.mod {w0 w w' : World} {F : Nat → Prop} {x : Option Addr} {M : Mk} (h : St w0 w x M) (f : Frm F w w') (hF : ∀ k, w0.heap.size ≤ k → ¬ F k) : St w0 w' x M := by
  obtain ⟨b, o, sl, rfl, h⟩ := h
  exact ⟨b, o, sl, rfl, h.mod f hF⟩
theorem St.fn {w0 w w' : World} {x : Option Addr} {M : Mk} (h : St w0 w x M) (f : Frm none_ w w') : St w0 w' x M := h.mod f (fun _ _ h => h)
theorem body24 : hasBody prog 24 = true := by kernel_rfl
theorem body23 : hasBody prog 23 = true := by kernel_rfl
theorem body19 : hasBody prog 19 = true := by kernel_rfl
/-- ContainsFunc over texts, with a closure that tells a plain thing and turns nothing. -/
theorem any_calls {f : FuncId} {cap : Array Value} (w : World) (s : Sl) (l : List ByteArray) (g : ByteArray → Bool) (hs : Has w s 1 (sv l)) (hb : l.length ≤ 140737488351232) (hbody : hasBody prog f = true)
    (hf : ∀ x, Calls prog f (#[.string x] ++ cap) w fun e w' => e = .returned (.bool (g x)) ∧ w = w') : Calls prog 18 #[.slice s.a s.l s.c, .func (.func f) #[] cap] w fun e w' => e = .returned (.bool (l.any g)) ∧ w = w' := by
  have hl := has_sv hs
  have h29 : Calls prog 29 #[.slice s.a s.l s.c, .func (.func f) #[] cap] w fun e w' => ∃ r : Int, e = .returned (.int .i64 r) ∧ (0 ≤ r ↔ l.any g = true) ∧ w = w' := by
    refine callsRet (W29 (Q := fun v w' => ∃ r : Int, v = .int .i64 r ∧ (0 ≤ r ↔ l.any g = true) ∧ w = w') ?_) (fun v w' ⟨t, h, h'⟩ => ⟨t, by rw [h], h'⟩)
    unfold F29
    refine ⟨fun n x w' => ∃ j : Nat, x = (j : Int) ∧ j ≤ s.l ∧ n = s.l - j ∧ (∀ i x, i < j → l[i]? = some x → g x = false) ∧ w = w', s.l, ⟨0, rfl, Nat.zero_le _, by omega, by simp, rfl⟩, ?_⟩
    rintro n u x w1 ⟨j, rfl, hj, rfl, hno, rfl⟩
    refine IfB.intro (fun hc => ?_) (fun hc => ?_)
    · have hlt := of_decide_eq_true hc
      obtain ⟨q, x, hq, hx, hxm, hld⟩ := sv_at hs (i := j) (by omega)
      refine ⟨q, hq, by omega, by omega, x, by rw [Int.toNat_natCast]; exact hld, callV_of hbody ?_⟩
      have := hf x
      rw [show (#[] ++ #[Value.string x]) ++ cap = #[Value.string x] ++ cap by simp]
      refine this.mono ?_
      rintro _ _ ⟨rfl, rfl⟩
      refine ⟨_, rfl, _, rfl, IfB.intro (fun h => ⟨_, rfl, ⟨fun _ => List.any_eq_true.2 ⟨x, hxm, h⟩, fun _ => by omega⟩, rfl⟩) (fun h => ?_)⟩
      refine ⟨s.l - (j + 1), by omega, j + 1, by rw [wrap64 _ (by omega)]; omega, by omega, rfl, ?_, rfl⟩
      intro i y hi hy
      rcases Nat.lt_succ_iff_lt_or_eq.1 hi with hh | hh
      · exact hno i y hh hy
      · subst hh; rw [hx] at hy; cases hy; exact h
    · have hge := of_decide_eq_false hc
      refine ⟨_, rfl, ⟨fun h => absurd h (by decide), ?_⟩, rfl⟩
      intro ha
      obtain ⟨x, hx, hg⟩ := List.any_eq_true.1 ha
      obtain ⟨i, hi⟩ := List.mem_iff_getElem?.1 hx
      have := (List.getElem?_eq_some_iff.1 hi).1
      rw [hno i x (by omega) hi] at hg; cases hg
  refine callsRet (W18 (Q := fun v w' => v = .bool (l.any g) ∧ w = w') ?_) (fun v w' ⟨h, h'⟩ => ⟨by rw [h], h'⟩)
  unfold F18
  refine h29.mono ?_
  rintro _ _ ⟨r, rfl, hr, rfl⟩
  refine ⟨r, rfl, ?_, rfl⟩
  congr 1
  rw [Bool.eq_iff_iff, decide_eq_true_iff]; exact hr
theorem str_len (l : List UInt8) : (str l).size = l.length := rfl
theorem str_dl (l : List UInt8) : (str l).data.toList = l := rfl
theorem open_calls (w : World) (b b2 o : Nat) (sl : Sl) (sb : List ByteArray) (h : List UInt8) (c : Bool) (hB : Blk w b (mkc sl (str h) c o) 46) (hs : Has w sl 1 (sv sb)) (hB2 : Blk w b2 #[.pointer (some ⟨b, 0, none⟩)] 31) (hb : sb.length ≤ 140737488351232) :
    Calls prog 23 #[.pointer (some ⟨b2, 0, none⟩)] w fun e w' => e = .returned (.bool (openB (ssOf sb) h)) ∧ w = w' := by
  refine callsRet (W23 (Q := fun v w' => v = .bool (openB (ssOf sb) h) ∧ w = w') ?_) (fun v w' ⟨h, h'⟩ => ⟨by rw [h], h'⟩)
  unfold F23
  refine ⟨_, hB2.ld rfl, _, rfl, sl, by rw [addr_add]; exact hB.ld rfl, ?_⟩
  refine (any_calls (f := 24) (cap := #[.pointer (some ⟨b2, 0, none⟩)]) w sl sb (fun x => decide (h.length < x.data.toList.length) && h.isPrefixOf x.data.toList) hs hb body24 (fun x => ?_)).mono ?_
  · refine callsRet (W24 (x0 := x) (x1 := ⟨b2, 0, none⟩) (Q := fun v w' => v = .bool (decide (h.length < x.data.toList.length) && h.isPrefixOf x.data.toList) ∧ w = w') ?_) (fun v w' ⟨h, h'⟩ => ⟨by rw [h], h'⟩)
    unfold F24
    have hxl : x.data.toList.length = x.size := Array.length_toList
    refine ⟨_, hB2.ld rfl, _, rfl, str h, by rw [addr_add]; exact hB.ld rfl, IfB.intro (fun hc => ?_) (fun hc => ?_)⟩
    · have hc := of_decide_eq_true hc
      refine ⟨_, hB2.ld rfl, _, rfl, str h, by rw [addr_add]; exact hB.ld rfl, (hasp_calls w x (str h)).mono ?_⟩
      rintro _ _ ⟨rfl, rfl⟩
      refine ⟨_, rfl, ?_, rfl⟩
      rw [str_len] at hc
      rw [decide_eq_true (show h.length < x.data.toList.length by omega), Bool.true_and, str_dl]
    · have hc := of_decide_eq_false hc
      rw [str_len] at hc
      exact ⟨by rw [decide_eq_false (show ¬ h.length < x.data.toList.length by omega), Bool.false_and], rfl⟩
  · rintro _ _ ⟨rfl, rfl⟩
    refine ⟨_, rfl, ?_, rfl⟩
    unfold openB ssOf
    rw [List.any_map]; rfl
theorem ext_drop (h : List UInt8) (k : Nat) : (str h).extract k (str h).size = str (h.drop k) := by
  have e := ext_list (str h) k (str h).size
  rw [str_dl, str_len] at e
  have e2 : ((str h).extract k h.length).data.toList = h.drop k := by rw [e]; exact List.take_of_length_le (by rw [List.length_drop]; omega)
  rw [str_len]
  have := congrArg str e2
  rwa [str_list] at this
theorem lfold_snoc (l : List (List UInt8)) (s t : List UInt8) (n : Nat) : lfold (l ++ [s]) t n = if s.length > lfold l t n ∧ s.isPrefixOf t = true then s.length else lfold l t n := by unfold lfold; rw [List.foldl_append]; rfl
theorem ss_take {sb : List ByteArray} {j : Nat} {x : ByteArray} (h : sb[j]? = some x) : (ssOf sb).take (j + 1) = (ssOf sb).take j ++ [x.data.toList] := by
  rw [List.take_add_one]
  congr 1
  simp [ssOf, h]
theorem keepB {w w' : World} {o b : Nat} {s : Sl} {cs : List Value} {oc bc : Array Value} {T : TypeId} (f : Frm (fun k => k = o ∨ s.blk = some k) w w') (hs : Row w s 5 1 cs) (ho : Blk w o oc 55) (hB : Blk w b bc T) (h1 : T ≠ 55) (h2 : T ≠ 5) : Blk w' b bc T := by
  refine hB.mod f ?_
  rintro (rfl | hk)
  · have := hB.symm.trans ho
    simp only [Option.some.injEq, Obj.cells.injEq] at this
    exact h1 this.2.1
  · exact hs.g.blkNeB hB.g (Ne.symm h2) hk
theorem keepR {w w' : World} {o : Nat} {s t : Sl} {cs ds : List Value} {oc : Array Value} (f : Frm (fun k => k = o ∨ s.blk = some k) w w') (hs : Row w s 5 1 cs) (ho : Blk w o oc 55) (hR : Row w t 9 1 ds) : Row w' t 9 1 ds := by
  refine hR.mod f ?_
  rintro k hk (rfl | hk')
  · exact hR.g.blkNeB ho.g (by decide) hk
  · exact hR.g.blkNe hs.g (by decide) k hk hk'
theorem ne_empty {h : List UInt8} (hc : (!((str h).toList == (⟨#[]⟩ : ByteArray).toList)) = true) : h ≠ [] := by
  rintro rfl
  have : ((str []).toList == (⟨#[]⟩ : ByteArray).toList) = true := (str_eqIff _ _).2 rfl
  rw [this] at hc; cases hc
theorem blk_ne {w : World} {a b : Nat} {x y : Array Value} {S T : TypeId} (h : Blk w a x S) (h' : Blk w b y T) (hT : S ≠ T) : a ≠ b := by
  rintro rfl
  have := h.symm.trans h'
  simp only [Option.some.injEq, Obj.cells.injEq] at this
  exact hT this.2.1
set_option maxRecDepth 20000 in
theorem run_calls (w0 w : World) (b o : Nat) (sl : Sl) (M : Mk) (e : Bool) (hS : StP w0 w b o sl M) (hw : w0.heap.size ≤ w.heap.size) (hb : M.held.length ≤ 1000000000) (hsb : M.sb.length ≤ 1000) (hss : ∀ s ∈ M.sb, s.size ≤ 1000000000) : Calls prog 17 #[.pointer (some ⟨b, 0, none⟩), .bool e] w fun en w' =>
    en = .returned (.string (str (run (ssOf M.sb) e M.held).1)) ∧ StP w0 w' b o sl { M with held := (run (ssOf M.sb) e M.held).2 } ∧ Frm (Up w0) w w' := by
  refine callsRet (W17 (Q := fun v w' => v = .string (str (run (ssOf M.sb) e M.held).1) ∧ StP w0 w' b o sl { M with held := (run (ssOf M.sb) e M.held).2 } ∧ Frm (Up w0) w w') ?_) (fun v w' ⟨h, h'⟩ => ⟨by rw [h], h'⟩)
  unfold F17
  intro b2 w1 hn
  have e2 := hn.b; have z1 := hn.size
  have f1 := hn.mod none_
  have hS1 := hS.mod f1 (fun _ _ h => h)
  have hbd1 : Bd w0 w1 o [] := ⟨⟨none, 0, 0⟩, none, hS1.out, .inl rfl, Row.nil _ _ _, .inl rfl, by simp [Sl.blk]⟩
  refine ⟨fun n w' => ∃ out h, n = h.length ∧ Blk w' b (mkc sl (str h) M.closed o) 46 ∧ Row w' sl 9 1 (sv M.sb) ∧ Bd w0 w' o out ∧ Blk w' b2 #[.pointer (some ⟨b, 0, none⟩)] 31 ∧ run (ssOf M.sb) e M.held = (out ++ (run (ssOf M.sb) e h).1, (run (ssOf M.sb) e h).2) ∧ out.length + 3 * h.length ≤ 3 * M.held.length ∧ Frm (Up w0) w w', _, ⟨[], M.held, rfl, hS1.blk, hS1.sec, hbd1, hn.blk, by simp, by simp, f1.none⟩, ?_⟩
  rintro n u w2 ⟨out, h, rfl, hB, hR, hD, hB2, hrun, hsz, f2⟩
  have z2 := f2.size
  have hD' := hD
  obtain ⟨sd, pa, hO, hpa, hrd, hnd, hsd⟩ := hD'
  -- the end: what is certain is taken
  have fin : (run (ssOf M.sb) e h).1 = [] → (run (ssOf M.sb) e h).2 = h → ∃ t77 : Option Addr, Ld w2 (⟨b2, 0, none⟩ : Addr) (.pointer t77) ∧ ∃ p78, t77 = some p78 ∧ ∃ t80 : Option Addr, Ld w2 (p78.add 3) (.pointer t80) ∧ Calls prog 28 #[.pointer t80] w2 fun en w1_3 => ∃ t81 : ByteArray, en = .returned (.string t81) ∧ ((Value.string t81 = .string (str (run (ssOf M.sb) e M.held).1)) ∧ StP w0 w1_3 b o sl { M with held := (run (ssOf M.sb) e M.held).2 } ∧ Frm (Up w0) w w1_3) := by
    intro h1 h2
    refine ⟨_, hB2.ld rfl, _, rfl, _, by rw [addr_add]; exact hB.ld rfl, (take_calls w0 w2 o out hD).mono ?_⟩
    rintro _ w3 ⟨rfl, hO3, s, hr, hs, f3⟩
    rw [hrun, h1, h2, List.append_nil]
    refine ⟨_, rfl, rfl, ⟨keepB f3 hr hO hB (by decide) (by decide), keepR f3 hr hO hR, hO3, hS.hb, hS.ho, hS.hs⟩, f2.trans f3 (fun _ _ h => h) (fun k _ hk => ?_)⟩
    rcases hk with rfl | hk
    · exact hS.ho
    · exact hs k hk
  refine ⟨fun w' => w' = w2 ∧ h ≠ [] ∧ (e = true ∨ openB (ssOf M.sb) h = false), ⟨_, hB2.ld rfl, _, rfl, str h, by rw [addr_add]; exact hB.ld rfl, IfB.intro (fun hc => IfB.intro (fun he => ?_) (fun he => ?_)) (fun hc => ?_)⟩, ?_⟩
  · exact ⟨rfl, ne_empty hc, .inl he⟩
  · refine callV_of body23 ((open_calls w2 b b2 o sl M.sb h M.closed hB hR.has hB2 (by omega)).mono ?_)
    rintro _ _ ⟨rfl, rfl⟩
    refine ⟨_, rfl, _, rfl, IfB.intro (fun ho => ?_) (fun ho => ?_)⟩
    · exact ⟨rfl, ne_empty hc, .inr (by simpa using ho)⟩
    · have ho : openB (ssOf M.sb) h = true := by simpa using ho
      subst he
      have := run_open ho
      exact fin (by rw [this]) (by rw [this])
  · have h0 : h = [] := by
      have : (str h).toList == (⟨#[]⟩ : ByteArray).toList := by simpa using hc
      have := (str_eqIff _ _).1 this
      have := congrArg (fun x : ByteArray => x.data.toList) this
      simpa [str_dl] using this
    subst h0
    exact fin (by rw [run_nil]) (by rw [run_nil])
  rintro u1 w2' ⟨rfl, h0, ho⟩
  have hlen : 0 < h.length := by
    cases h with
    | nil => exact absurd rfl h0
    | cons => simp
  have hls := has_sv hR.has
  refine ⟨_, hB2.ld rfl, _, rfl, sl, by rw [addr_add]; exact hB.ld rfl, fun n x6 x28 w' => ∃ j : Nat, x28 = (j : Int) ∧ j ≤ sl.l ∧ n = sl.l - j ∧ x6 = (lfold ((ssOf M.sb).take j) h 0 : Int) ∧ w' = w2', sl.l, ⟨0, rfl, Nat.zero_le _, by omega, rfl, rfl⟩, ?_⟩
  rintro n u2 x6 x28 w3 ⟨j, rfl, hj, rfl, rfl, rfl⟩
  refine IfB.intro (fun hc => ?_) (fun hc => ?_)
  · have hlt := of_decide_eq_true hc
    obtain ⟨q, x, hq, hx, hxm, hld⟩ := sv_at hR.has (i := j) (by omega)
    have hxl : x.data.toList.length = x.size := Array.length_toList
    have hxs := hss x hxm
    have et := ss_take hx
    have next : ∀ m : Int, m = (lfold ((ssOf M.sb).take (j + 1)) h 0 : Int) → ∃ n', n' < sl.l - j ∧ ∃ j' : Nat, IntKind.wrap .i64 ((j : Int) + 1) = (j' : Int) ∧ j' ≤ sl.l ∧ n' = sl.l - j' ∧ m = (lfold ((ssOf M.sb).take j') h 0 : Int) ∧ w3 = w3 := fun m hm =>
      ⟨sl.l - (j + 1), by omega, j + 1, by rw [wrap64 _ (by omega)]; omega, by omega, rfl, hm, rfl⟩
    refine ⟨q, hq, by omega, by omega, x, by rw [Int.toNat_natCast]; exact hld, IfB.intro (fun hd => ?_) (fun hd => ?_)⟩
    · have hd := of_decide_eq_true hd
      refine ⟨_, hB2.ld rfl, _, rfl, str h, by rw [addr_add]; exact hB.ld rfl, (hasp_calls w3 (str h) x).mono ?_⟩
      rintro _ _ ⟨rfl, rfl⟩
      rw [str_dl]
      refine ⟨_, rfl, IfB.intro (fun hp => next _ ?_) (fun hp => next _ ?_)⟩
      · rw [et, lfold_snoc, if_pos ⟨by omega, hp⟩, hxl]
      · rw [et, lfold_snoc, if_neg (fun hh => by rw [hh.2] at hp; cases hp)]
    · have hd := of_decide_eq_false hd
      exact next _ (by rw [et, lfold_snoc, if_neg (fun hh => by omega)])
  · have hge := of_decide_eq_false hc
    have ej : lfold ((ssOf M.sb).take j) h 0 = longest (ssOf M.sb) h := by
      rw [List.take_of_length_le (by simp [ssOf]; omega)]; rfl
    rw [ej]
    have hle := longest_le (ssOf M.sb) h
    refine IfB.intro (fun hd => ?_) (fun hd => ?_)
    · have hd := of_decide_eq_true hd
      have hhit := run_hit h0 ho (by omega : longest (ssOf M.sb) h > 0)
      refine ⟨_, hB2.ld rfl, _, rfl, _, by rw [addr_add]; exact hB.ld rfl, _, rfl, ?_⟩
      rw [addr_add]
      refine (wstr_calls w0 w3 o out ⟨#[42, 42, 42]⟩ (by decide) hD (by omega) hS.ho (by have : (⟨#[42, 42, 42]⟩ : ByteArray).size = 3 := rfl; omega)).mono ?_
      rintro _ w4 ⟨rfl, hD4, s, hs, ⟨pa4, hO4⟩, hr4, f4⟩
      have hB4 := keepB f4 hr4 hO4 hB (by decide) (by decide)
      have hB24 := keepB f4 hr4 hO4 hB2 (by decide) (by decide)
      have hR4 := keepR f4 hr4 hO4 hR
      have fd : Frm none_ w4 w4.drew := (Frm.refl _ _).drew
      refine ⟨_, _, rfl, fun w' => Frm none_ w4 w', fd, _, fun w' f => (hB24.mod f (fun h => h)).ld rfl, _, fun w' f => (hB24.mod f (fun h => h)).ld rfl, _, rfl, str h, fun w' f => by rw [addr_add]; exact (hB4.mod f (fun h => h)).ld rfl, ⟨by omega, by rw [str_len]; omega⟩, _, rfl, by rw [addr_add]; exact (hB4.mod fd (fun h => h)).wr (show 1 < 4 by decide), ?_⟩
      rintro w5 rfl
      rw [addr_add, Int.toNat_natCast, ext_drop]
      have hB4d := hB4.mod fd (fun h => h)
      have f5 : Frm (fun k => k = b) w4.drew (w4.drew.setCell ⟨b, 0 + 1, none⟩ (.string (str (h.drop (longest (ssOf M.sb) h))))) := mod_setCell (a := ⟨b, 0 + 1, none⟩)
      have nb2 : b2 ≠ b := blk_ne hB24 hB4 (by decide)
      have nbo : o ≠ b := blk_ne hO hB (by decide)
      obtain ⟨s5, pa5, hO5, hpa5, hr5, hn5, hs5⟩ := hD4
      refine ⟨(h.drop (longest (ssOf M.sb) h)).length, by rw [List.length_drop]; omega, out ++ stars, _, rfl, hB4d.set 1 _, (hR4.mod fd (fun _ _ h => h)).mod f5 (fun k hk e0 => hR4.g.blkNeB hB4.g (by decide) (by rw [hk, e0])), ?_, (hB24.mod fd (fun h => h)).mod f5 nb2, ?_, ?_, ?_⟩
      · exact ⟨s5, pa5, (hO5.mod fd (fun h => h)).mod f5 nbo, hpa5, (hr5.mod fd (fun _ _ h => h)).mod f5 (fun k hk e0 => hr5.g.blkNeB hB4.g (by decide) (by rw [hk, e0])), hn5, hs5⟩
      · rw [hrun, hhit]; simp [List.append_assoc]
      · rw [List.length_append, List.length_drop]; simp only [stars, List.length_cons, List.length_nil]; omega
      · refine ((f2.trans f4 (fun _ _ h => h) (fun k _ hk => ?_) (H := Up w0)).trans fd (fun _ _ h => h) (fun _ _ h => h.elim)).trans f5 (fun _ _ h => h) (fun k _ hk => ?_)
        · rcases hk with rfl | hk
          · exact hS.ho
          · exact hs k hk
        · have hk : k = b := hk
          subst hk; exact hS.hb
    · have hd := of_decide_eq_false hd
      have hlit := run_lit h0 ho (by omega : ¬ longest (ssOf M.sb) h > 0)
      have fd : Frm none_ w3 w3.drew := (Frm.refl _ _).drew
      cases h with
      | nil => exact absurd rfl h0
      | cons c r =>
      have ebt : bt (str (c :: r)) 0 = (c.toNat : Int) := by
        unfold bt; rw [dif_pos (by rw [str_len]; simp)]; rfl
      refine ⟨fun w' => Frm none_ w3 w', fd, _, fun w' f => (hB2.mod f (fun h => h)).ld rfl, _, rfl, _, fun w' f => by rw [addr_add]; exact (hB.mod f (fun h => h)).ld rfl, _, rfl, _, fun w' f => (hB2.mod f (fun h => h)).ld rfl, _, rfl, str (c :: r), fun w' f => by rw [addr_add]; exact (hB.mod f (fun h => h)).ld rfl, by decide, by rw [str_len]; simp, ?_⟩
      rw [addr_add, ebt]
      refine (wbyte_calls w0 w3.drew o out c (hD.fn fd) (by show w0.heap.size ≤ w3.heap.size; omega) hS.ho (by omega)).mono ?_
      rintro _ w4 ⟨rfl, hD4, s, hs, ⟨pa4, hO4⟩, hr4, f4⟩
      have hB4 := keepB f4 hr4 hO4 (hB.mod fd (fun h => h)) (by decide) (by decide)
      have hB24 := keepB f4 hr4 hO4 (hB2.mod fd (fun h => h)) (by decide) (by decide)
      have hR4 := keepR f4 hr4 hO4 (hR.mod fd (fun _ _ h => h))
      have fd4 : Frm none_ w4 w4.drew := (Frm.refl _ _).drew
      refine ⟨_, rfl, fun w' => Frm none_ w4 w', fd4, _, fun w' f => (hB24.mod f (fun h => h)).ld rfl, _, fun w' f => (hB24.mod f (fun h => h)).ld rfl, _, rfl, str (c :: r), fun w' f => by rw [addr_add]; exact (hB4.mod f (fun h => h)).ld rfl, ⟨by decide, by rw [str_len]; simp; omega⟩, _, rfl, by rw [addr_add]; exact (hB4.mod fd4 (fun h => h)).wr (show 1 < 4 by decide), ?_⟩
      rintro w5 rfl
      rw [addr_add, ext_drop]
      have hB4d := hB4.mod fd4 (fun h => h)
      have f5 : Frm (fun k => k = b) w4.drew (w4.drew.setCell ⟨b, 0 + 1, none⟩ (.string (str ((c :: r).drop 1)))) := mod_setCell (a := ⟨b, 0 + 1, none⟩)
      have nb2 : b2 ≠ b := blk_ne hB24 hB4 (by decide)
      have nbo : o ≠ b := blk_ne hO hB (by decide)
      obtain ⟨s5, pa5, hO5, hpa5, hr5, hn5, hs5⟩ := hD4
      refine ⟨((c :: r).drop 1).length, by simp, out ++ [c], _, rfl, hB4d.set 1 _, (hR4.mod fd4 (fun _ _ h => h)).mod f5 (fun k hk e0 => hR4.g.blkNeB hB4.g (by decide) (by rw [hk, e0])), ?_, (hB24.mod fd4 (fun h => h)).mod f5 nb2, ?_, ?_, ?_⟩
      · exact ⟨s5, pa5, (hO5.mod fd4 (fun h => h)).mod f5 nbo, hpa5, (hr5.mod fd4 (fun _ _ h => h)).mod f5 (fun k hk e0 => hr5.g.blkNeB hB4.g (by decide) (by rw [hk, e0])), hn5, hs5⟩
      · rw [hrun, hlit]; simp [List.append_assoc]
      · simp at hsz ⊢; omega
      · refine (((f2.trans fd (fun _ _ h => h) (fun _ _ h => h.elim) (H := Up w0)).trans f4 (fun _ _ h => h) (fun k _ hk => ?_)).trans fd4 (fun _ _ h => h) (fun _ _ h => h.elim)).trans f5 (fun _ _ h => h) (fun k _ hk => ?_)
        · rcases hk with rfl | hk
          · exact hS.ho
          · exact hs k hk
        · have hk : k = b := hk
          subst hk; exact hS.hb
end Go.Proofs.Ytcnjopheoeeggaa
