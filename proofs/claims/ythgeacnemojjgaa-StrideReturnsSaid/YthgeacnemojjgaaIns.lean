/- slices.Insert and slices.Delete on a row of pointers. -/
import Derived.Test.YthgeacnemojjgaaX
import Derived.Test.YthgeacnemojjgaaG
import Derived.Test.YthgeacnemojjgaaE
import Derived.Test.YthgeacnemojjgaaF3
import Derived.Test.YthgeacnemojjgaaF
import Derived.Lib.AppendZerosOnto
import Derived.Lib.SliceRun
import Derived.Lib.Overlaps
import Derived.Laws.Externs
set_option linter.unusedVariables false
set_option linter.unusedSimpArgs false
set_option maxRecDepth 20000
namespace Go.Proofs.Ythgeacnemojjgaa
open Go Go.Proofs.YthgeacnemojjgaaV
theorem st71 : SlT prog 71 74 1 8 (.pointer none) := ⟨by kernel_rfl, by kernel_rfl, rfl, by decide⟩
theorem un71 : prog.underlying 71 = some (.slice 74) := by kernel_rfl
theorem un3 : prog.underlying 3 = some (.int .i64) := by kernel_rfl
theorem blk_has {w : World} {g o l c : Nat} {cur : Array Value} {T : TypeId} (h : Blk w g cur T) (hl : o + l ≤ cur.size) : Has w ⟨some ⟨g, o, none⟩, l, c⟩ 1 ((cur.toList.drop o).take l) := by
  constructor
  · simp; omega
  · intro j u hu
    refine ⟨_, rfl, ?_⟩
    rw [addr_add]
    have hu' : cur[o + j]? = some u := by
      rw [List.getElem?_take] at hu
      split at hu
      · rw [List.getElem?_drop] at hu
        simpa using hu
      · cases hu
    exact h.ld hu'
theorem setList_toListV (vs : List Value) (cs : Array Value) (o : Nat) (h : o + vs.length ≤ cs.size) : (setList cs o vs).toList = cs.toList.take o ++ vs ++ cs.toList.drop (o + vs.length) := setList_toList vs cs o h
theorem overlaps_run (w : World) (g g' o o' la ca lb cb : Nat) (cs cs' : Array Value) (T T' : TypeId) (h : Blk w g cs T) (h' : Blk w g' cs' T') (hne : g ≠ g') (hz : cs'.size ≠ 0) :
    (callFunc 77 #[.slice (some ⟨g, o, none⟩) la ca, .slice (some ⟨g', o', none⟩) lb cb]).run prog w = .ok (.value (.bool false)) w := by
  rw [run_callFunc_extern Try.func77 (by kernel_rfl) (by kernel_rfl) (by kernel_rfl) (e := Extern.SlicesOverlaps.overlaps #[71, 71] #[4]) (by kernel_rfl)]
  have hs : w.shape? g = some (T, cs.size) := by have h : w.heap[g]? = _ := h; simp [World.shape?, h]
  have hs' : w.shape? g' = some (T', cs'.size) := by have h' : w.heap[g']? = _ := h'; simp [World.shape?, h']
  rw [Lib.run_overlaps_apart w 71 4 74 un71 1 (fun w => by kernel_rfl) ⟨g, o, none⟩ ⟨g', o', none⟩ la ca lb cb hne T T' cs.size cs'.size hs hs' hz (frozen_of_row w g o cs T h) (frozen_of_row w g cs.size cs T h)]
  rfl
theorem runT_of {P : Program} {t : Ty} {s : Sem Value} {w w' : World} {x : t.den} {K : t.den → World → Prop} (h : s.run P w = .ok (t.enc x) w') (hk : K x w') : RunT P t s w K := by
  unfold RunT; rw [h]; exact ⟨x, rfl, hk⟩
/-- copy: what is moved is named. -/
theorem runT_copyN {P : Program} {dT sT ty E : TypeId} {bytes : Nat} {z : Value} (T : SlT P dT E 1 bytes z) {w : World} {g o dLen dCap : Nat} {cur : Array Value} {E' : TypeId} (hB : Blk w g cur E') {a : Addr} {sLen sCap : Nat} {cs : List Value}
    (hm : Nat.min sLen dLen = cs.length) (hx : ∀ j v, cs[j]? = some v → w.cell? (a.add j) = some v) (hfit : o + cs.length ≤ cur.size) (h1 : ∀ v ∈ cs, v.oneCell' = true) {K : Int → World → Prop}
    (hk : ∀ w', Blk w' g (cur.toList.take o ++ cs ++ cur.toList.drop (o + cs.length)).toArray E' → Frm (fun b => b = g) w w' → w'.heap.size = w.heap.size → K (cs.length : Int) w') :
    RunT P (.int .i64) (Builtin.copy_ #[dT, sT] ty #[.slice (some ⟨g, o, Option.none⟩) dLen dCap, .slice (some a) sLen sCap]) w K := by
  obtain ⟨i, hi, hz, hsz, hby⟩ := T.info
  have hl := run_loadCells_list (P := P) w a cs (fun j v hv => hx j v hv)
  have hst := run_storeCells_at P g o E' cs 0 cur w hB (by simpa using hfit) (fun v hv => h1 v hv)
  have hr : (Builtin.copy_ #[dT, sT] ty #[.slice (some ⟨g, o, Option.none⟩) dLen dCap, .slice (some a) sLen sCap]).run P w =
      .ok (goInt cs.length) (w.setRow g (cur.toList.take o ++ cs ++ cur.toList.drop (o + cs.length)).toArray) := by
    have hm' : min sLen dLen = cs.length := hm
    simp [Builtin.copy_, run_underlying T.und, Builtin.lenOf, Builtin.firstCells, sizeOf, typeInfo, hi, hsz, hm', hl]
    simpa using congrArg (fun r => r.andThen fun _ w' => Result.ok (goInt cs.length) w') hst
  exact runT_of (t := .int .i64) (x := (cs.length : Int)) hr (hk _ (setRow_heap w g cur _ E' _ hB) (mod_setRow w g _) (by simp))
/-- What became of a row of pointers. -/
abbrev RowP (w : World) (s : Sl) (cs : List Value) : Ending → World → Prop := fun e w' => ∃ r : Sl, e = .returned (.slice r.a r.l r.c) ∧ Row w' r 74 1 cs ∧ Near w s r ∧ Frm (fun b => s.blk = some b) w w'
theorem insert_calls (w : World) (s x : Sl) (cs : List Value) (v : Value) (k : Nat) (hs : Row w s 74 1 cs) (hk : k ≤ cs.length) (hx : Row w x 74 1 [v]) (h1 : ∀ u ∈ cs, u.oneCell' = true) (hv : v.oneCell' = true) (hne : ∀ b, x.blk = some b → s.blk ≠ some b) (hn : cs.length ≤ 100000) :
    Calls prog 46 #[.slice s.a s.l s.c, .int .i64 (k : Int), .slice x.a x.l x.c] w (RowP w s (cs.take k ++ v :: cs.drop k)) := by
  refine calls_ret (W46 (x0 := s) (x1 := (k : Int)) (x2 := x) (Q := fun u w' => ∃ r : Sl, u = .slice r.a r.l r.c ∧ Row w' r 74 1 (cs.take k ++ v :: cs.drop k) ∧ Near w s r ∧ Frm (fun b => s.blk = some b) w w') ?_) (fun v w' ⟨r, h, h'⟩ => ⟨r, by rw [h], h'⟩)
  have hl : cs.length = s.l := by have := hs.len; omega
  have hxl : x.l = 1 := by have := hx.len; simp at this; omega
  have hvs : ∀ u ∈ [v], u.oneCell' = true := by intro u hu; simp at hu; rw [hu]; exact hv
  unfold F46
  refine ⟨by omega, IfB.f (by rw [hxl]; rfl) (IfB.intro (fun he => ?_) (fun hne2 => ?_))⟩
  · have he : (k : Int) = ((s.l : Nat) : Int) := by simpa using he
    refine runT_append st71 hs hx.has hvs (by rw [hxl]; omega) (by simp only [maxLen]; omega) ?_
    intro r w1 hr hrl hnear hf
    refine ⟨r, rfl, ?_, hnear, hf⟩
    rw [List.take_of_length_le (by omega), List.drop_of_length_le (by omega)]
    exact hr
  · have hne2 : ¬ (k : Int) = ((s.l : Nat) : Int) := by simpa using hne2
    have hkl : k < s.l := by omega
    rcases hs.cases with ⟨rfl, rfl⟩ | ⟨g, cur, ha, hB, hlc, hcm, hcur, htake⟩
    · simp at hkl
    obtain ⟨a, l, c⟩ := s
    simp only at ha hl hlc hcm hcur htake hkl hne2
    subst ha
    simp only [Nat.mul_one] at hcur htake
    have hsb : (⟨some ⟨g, 0, none⟩, l, c⟩ : Sl).blk = some g := rfl
    rcases hx.cases with ⟨rfl, hxx⟩ | ⟨gx, curx, hxa, hBx, hxlc, hxcm, hxcur, hxtake⟩
    · cases hxx
    have hgx : gx ≠ g := by
      intro e
      refine hne gx ?_ (by rw [hsb, e])
      simp [Sl.blk, hxa]
    have hcap : ∀ K : Int → World → Prop, K (c : Int) w → RunT prog (.int .i64) (Builtin.cap_ #[71] 3 #[.slice (some ⟨g, 0, none⟩) l c]) w K := by
      intro K hK
      have : (Builtin.cap_ #[71] 3 #[.slice (some ⟨g, 0, none⟩) l c]).run prog w = .ok (goInt c) w := by simp [Builtin.cap_, run_underlying un71]
      exact runT_of (t := .int .i64) (x := (c : Int)) this hK
    refine hcap _ ?_
    rw [hxl]
    simp only [maxLen] at hcm
    have e1 : IntKind.wrap .i64 ((l : Int) + ((1 : Nat) : Int)) = ((l + 1 : Nat) : Int) := by rw [wi _ (by omega)]; omega
    have e2 : IntKind.wrap .i64 ((k : Int) + ((1 : Nat) : Int)) = ((k + 1 : Nat) : Int) := by rw [wi _ (by omega)]; omega
    have e3 : IntKind.wrap .i64 (((l + 1 : Nat) : Int) - (k : Int)) = ((l + 1 - k : Nat) : Int) := by rw [wi _ (by omega)]; omega
    simp only [e1, e2, e3, Int.toNat_natCast]
    have hct : cs.take k = cur.toList.take k := by rw [← htake, List.take_take, Nat.min_eq_left (by omega)]
    have hcd : cs.drop k = (cur.toList.drop k).take (l - k) := by rw [← htake, List.drop_take]
    refine IfB.intro (fun hgt => ?_) (fun hle => ?_)
    · have hgt := of_decide_eq_true hgt
      refine ⟨by omega, ?_⟩
      obtain ⟨i, hi, hz, hsz, hby⟩ := st71.info
      rw [slA_zero]
      have hold : (Builtin.firstCells i.size k (.slice (some ⟨g, 0, none⟩) k c)).run prog w.drew = .ok (cs.take k).toArray w.drew := by
        rw [hsz]
        refine run_firstCells_some w.drew 1 k ⟨g, 0, none⟩ k c (cs.take k) (by rw [List.length_take]; omega) (fun j u hj => ?_)
        rw [addr_add, Nat.zero_add]
        rw [hct, List.getElem?_take] at hj
        split at hj
        · exact hB.ld (by simpa using hj)
        · cases hj
      have hkk : k + (l + 1 - k) = l + 1 := by omega
      have hr := Lib.run_append_grow_zeros w 71 3 71 74 i _ .i64 .i64 un71 un3 hi hz (some ⟨g, 0, none⟩) k c (cs.take k) hold (l + 1 - k) (by omega) (by omega) (by omega) (by omega) (by rw [hby]; omega) (by
        rw [hby, hkk]
        have := nextslicecap_le (need := l + 1) (old := c) (by omega)
        omega)
      rw [hkk] at hr
      obtain ⟨G, hG⟩ : ∃ G, G = grownCap w (l + 1) c 74 := ⟨_, rfl⟩
      have hGn : l + 1 ≤ G := by rw [hG]; exact grownCap_ge w _ _ _
      have hGm : G ≤ maxLen := by rw [hG]; exact grownCap_le_maxLen w _ _ _ (by simp only [maxLen]; omega)
      rw [← hG] at hr
      obtain ⟨ROW, hROW⟩ : ∃ ROW : Array Value, ROW = (cs.take k).toArray ++ Builtin.zeroCells (Value.pointer none).cells (l + 1 - k) ++ Builtin.zeroCells (Value.pointer none).cells (G - (l + 1)) := ⟨_, rfl⟩
      rw [← hROW] at hr
      have hcz : (Value.pointer none).cells.size = 1 := rfl
      have hRs : ROW.size = G := by
        rw [hROW]
        simp only [Array.size_append, List.size_toArray, size_zeroCells, hcz, List.length_take]
        omega
      have hRt : ROW.toList.take k = cs.take k := by
        rw [hROW]
        simp only [Array.toList_append, List.append_assoc]
        rw [List.take_append_of_le_length (by simp; omega), List.take_of_length_le (by simp; omega)]
      simp only [Nat.sub_zero]
      refine runT_of (t := .slice) (x := (⟨some ⟨w.heap.size, 0, none⟩, l + 1, G⟩ : Sl)) hr ?_
      have hN : NewB w.drew (.cells ROW 74) w.heap.size (w.drew.alloc (.cells ROW 74)) := ⟨rfl, rfl⟩
      have hBN := hN.blk
      have fN : Frm none_ w (w.drew.alloc (.cells ROW 74)) := (hN.mod none_).ofDrew
      generalize w.drew.alloc (.cells ROW 74) = w1 at *
      have hxw := hBx.lt
      have hgw := hB.lt
      refine ⟨by simp only; omega, ?_⟩
      have es1 : slA (some ⟨w.heap.size, 0, none⟩) k G 1 = some ⟨w.heap.size, k, none⟩ := by unfold slA; rw [if_neg (by omega)]; simp [addr_add]
      have es2 : slA (some ⟨w.heap.size, 0, none⟩) (k + 1) G 1 = some ⟨w.heap.size, k + 1, none⟩ ∨ (G = k + 1) := by
        by_cases h : G = k + 1
        · exact .inr h
        · left; unfold slA; rw [if_neg h]; simp [addr_add]
      have es2 : slA (some ⟨w.heap.size, 0, none⟩) (k + 1) G 1 = some ⟨w.heap.size, k + 1, none⟩ := by
        rcases es2 with h | h
        · exact h
        · omega
      simp only
      rw [es1]
      have hx1 := hx.has.mod fN (fun _ _ h => h)
      rw [hxa]
      have hx1' : ∀ j u, [v][j]? = some u → w1.cell? ((⟨gx, 0, none⟩ : Addr).add j) = some u := fun j u hu => by
        obtain ⟨a, ha', hc⟩ := hx1.get j u hu
        rw [hxa] at ha'; cases ha'; exact hc
      refine runT_copyN st71 (dLen := l + 1 - k) hBN (cs := [v]) (show Nat.min 1 (l + 1 - k) = 1 from Nat.min_eq_left (by omega)) hx1' (by simp; omega) hvs ?_
      intro w2 hB2 f2 z2
      refine ⟨⟨by omega, by omega⟩, ⟨by omega, by omega⟩, ?_⟩
      rw [es2]
      have hg2 : Blk w2 g cur 74 := (hB.mod fN (fun h => h)).mod f2 (fun h => by have h : g = w.heap.size := h; omega)
      have es3 : slA (some ⟨g, 0, none⟩) k c 1 = some ⟨g, k, none⟩ := by unfold slA; rw [if_neg (by omega)]; simp [addr_add]
      rw [es3]
      have hsrc : Has w2.drew ⟨some ⟨g, k, none⟩, l - k, c - k⟩ 1 ((cur.toList.drop k).take (l - k)) := Has.drew (blk_has hg2 (by omega))
      have hB2' : Blk w2.drew w.heap.size (ROW.toList.take k ++ [v] ++ ROW.toList.drop (k + 1)).toArray 74 := hB2
      have hsz2 : (ROW.toList.take k ++ [v] ++ ROW.toList.drop (k + 1)).toArray.size = G := by simp; omega
      have hlen : ((cur.toList.drop k).take (l - k)).length = l - k := by simp; omega
      refine runT_copyN st71 (dLen := l + 1 - (k + 1)) hB2' (cs := (cur.toList.drop k).take (l - k)) ((Nat.min_eq_left (by omega)).trans hlen.symm) (fun j u hu => ?_) (by rw [hlen, hsz2]; omega) ?_ ?_
      · obtain ⟨a, ha', hc⟩ := hsrc.get j u hu
        cases ha'; exact hc
      · intro u hu
        rw [← hcd] at hu
        exact h1 u (List.mem_of_mem_drop hu)
      intro w3 hB3 f3 z3
      rw [hlen] at hB3
      have hR3 := Row.mk (n := l + 1) (c := G) (sz := 1) hB3 hGn hGm (by simp; omega)
      rw [Nat.mul_one] at hR3
      refine ⟨⟨some ⟨w.heap.size, 0, none⟩, l + 1, G⟩, rfl, ?_, .inr rfl, ?_⟩
      · have e : ((ROW.toList.take k ++ [v] ++ ROW.toList.drop (k + 1)).toArray.toList.take (k + 1) ++ (cur.toList.drop k).take (l - k) ++ (ROW.toList.take k ++ [v] ++ ROW.toList.drop (k + 1)).toArray.toList.drop (k + 1 + (l - k))).toArray.toList.take (l + 1) = cs.take k ++ v :: cs.drop k := by
          simp only [List.toList_toArray]
          have ea : (ROW.toList.take k ++ [v] ++ ROW.toList.drop (k + 1)).take (k + 1) = ROW.toList.take k ++ [v] := List.take_left' (by simp; omega)
          rw [ea, List.take_left' (by simp; omega), hRt, ← hcd]
          simp
        rw [e] at hR3
        exact hR3
      · have g1 : Frm none_ w w2 := fN.b f2 (Nat.le_refl _)
        exact (g1.b f3.ofDrew (Nat.le_refl _)).none
    · have hle := of_decide_eq_false hle
      have hroom : l + 1 ≤ c := by omega
      refine ⟨by omega, by omega, ?_⟩
      rw [slA_zero]
      have es1 : slA (some ⟨g, 0, none⟩) (k + 1) (c - 0) 1 = some ⟨g, k + 1, none⟩ := by unfold slA; rw [if_neg (by omega)]; simp [addr_add]
      have es2 : slA (some ⟨g, 0, none⟩) k (c - 0) 1 = some ⟨g, k, none⟩ := by unfold slA; rw [if_neg (by omega)]; simp [addr_add]
      rw [es1, es2, hxa]
      have hov := overlaps_run w gx g 0 (k + 1) 1 x.c (l + 1 - 0 - (k + 1)) (c - 0 - (k + 1)) curx cur 74 74 hBx hB hgx (by omega)
      unfold RunN
      rw [hov]
      refine ⟨false, rfl, IfB.t rfl ⟨⟨by omega, by omega⟩, ⟨by omega, by omega⟩, ?_⟩⟩
      have hlen : ((cur.toList.drop k).take (l - k)).length = l - k := by simp; omega
      have hsrc : Has w.drew ⟨some ⟨g, k, none⟩, l - k, c⟩ 1 ((cur.toList.drop k).take (l - k)) := Has.drew (blk_has hB (by omega))
      have hBd : Blk w.drew g cur 74 := hB
      refine runT_copyN st71 (dLen := l + 1 - 0 - (k + 1)) hBd (cs := (cur.toList.drop k).take (l - k)) ((Nat.min_eq_right (by omega)).trans (by rw [hlen]; omega)) (fun j u hu => ?_) (by rw [hlen]; omega) ?_ ?_
      · obtain ⟨a, ha', hc⟩ := hsrc.get j u hu
        cases ha'; exact hc
      · intro u hu
        rw [← hcd] at hu
        exact h1 u (List.mem_of_mem_drop hu)
      intro w2 hB2 f2 z2
      rw [hlen] at hB2
      refine ⟨⟨by omega, by omega⟩, ?_⟩
      have hx2' : ∀ j u, [v][j]? = some u → w2.cell? ((⟨gx, 0, none⟩ : Addr).add j) = some u := fun j u hu => by
        obtain ⟨a, ha', hc⟩ := (hx.has.drew.mod f2 (fun b hb h => hne b hb (by rw [hsb, show b = g from h]))).get j u hu
        rw [hxa] at ha'; cases ha'; exact hc
      have hsz2 : (cur.toList.take (k + 1) ++ (cur.toList.drop k).take (l - k) ++ cur.toList.drop (k + 1 + (l - k))).toArray.size = c := by simp; omega
      refine runT_copyN st71 (dLen := l + 1 - 0 - k) hB2 (cs := [v]) (show Nat.min 1 (l + 1 - 0 - k) = 1 from Nat.min_eq_left (by omega)) hx2' (by rw [hsz2]; simp; omega) hvs ?_
      intro w3 hB3 f3 z3
      have hR3 := Row.mk (n := l + 1) (c := c) (sz := 1) hB3 (by omega) (by simp only [maxLen]; omega) (by rw [List.size_toArray, List.length_append, List.length_append, List.length_take, List.length_drop, List.length_singleton, Array.length_toList, hsz2]; omega)
      rw [Nat.mul_one] at hR3
      refine ⟨⟨some ⟨g, 0, none⟩, l + 1, c⟩, rfl, ?_, .inl rfl, ?_⟩
      · have e : ((cur.toList.take (k + 1) ++ (cur.toList.drop k).take (l - k) ++ cur.toList.drop (k + 1 + (l - k))).toArray.toList.take k ++ [v] ++ (cur.toList.take (k + 1) ++ (cur.toList.drop k).take (l - k) ++ cur.toList.drop (k + 1 + (l - k))).toArray.toList.drop (k + [v].length)).toArray.toList.take (l + 1) = cs.take k ++ v :: cs.drop k := by
          simp only [List.toList_toArray, List.length_singleton, List.append_assoc]
          have hca : cur.toList.length = c := by rw [Array.length_toList, hcur]
          have ea : (cur.toList.take (k + 1) ++ ((cur.toList.drop k).take (l - k) ++ cur.toList.drop (k + 1 + (l - k)))).take k = cs.take k := by
            rw [List.take_append_of_le_length (by rw [List.length_take]; omega), List.take_take, Nat.min_eq_left (by omega), ← hct]
          have eb : (cur.toList.take (k + 1) ++ ((cur.toList.drop k).take (l - k) ++ cur.toList.drop (k + 1 + (l - k)))).drop (k + 1) = cs.drop k ++ cur.toList.drop (k + 1 + (l - k)) := by
            rw [List.drop_left' (by rw [List.length_take]; omega), ← hcd]
          rw [ea, eb]
          rw [show cs.take k ++ ([v] ++ (cs.drop k ++ cur.toList.drop (k + 1 + (l - k)))) = (cs.take k ++ v :: cs.drop k) ++ cur.toList.drop (k + 1 + (l - k)) by simp]
          exact List.take_left' (by simp; omega)
        rw [e] at hR3
        exact hR3
      · have g1 : Frm (fun b => b = g) w w3 := (f2.trans f3 (fun _ _ h => h) (fun _ _ h => h) : Frm (fun b => b = g) w.drew w3).ofDrew
        exact g1.mono fun b _ hb => by rw [hb, hsb]

theorem runT_clear {w : World} {g o n c : Nat} {cur : Array Value} (hB : Blk w g cur 74) (hfit : o + n ≤ cur.size) {K : Value → World → Prop}
    (hk : ∀ w', Blk w' g (cur.toList.take o ++ List.replicate n (Value.pointer none) ++ cur.toList.drop (o + n)).toArray 74 → Frm (fun b => b = g) w w' → K (.tuple #[]) w') :
    RunT prog .val (Builtin.clear_ #[71] 0 #[.slice (some ⟨g, o, none⟩) n c]) w K := by
  cases n with
  | zero =>
    have hr : (Builtin.clear_ #[71] 0 #[.slice (some ⟨g, o, none⟩) 0 c]).run prog w = .ok (.tuple #[]) w := by simp [Builtin.clear_, run_underlying un71]
    refine runT_of (t := .val) (x := (.tuple #[])) hr (hk _ ?_ (Frm.refl _ _))
    have : (cur.toList.take o ++ List.replicate 0 (Value.pointer none) ++ cur.toList.drop (o + 0)).toArray = cur := by simp
    rw [this]; exact hB
  | succ n =>
    have hzc : (Builtin.zeroCells (Value.pointer none).cells (n + 1)).toList = List.replicate (n + 1) (Value.pointer none) := by
      simp [Builtin.zeroCells]
      apply List.ext_getElem
      · simp [Value.cells]
      · intro i h1 h2
        simp [Value.cells, Nat.mod_one]
    have hzv : (zeroValue 74).run prog w = .ok (.pointer none) w := by kernel_rfl
    have hst := run_storeCells_at prog g o 74 (List.replicate (n + 1) (Value.pointer none)) 0 cur w hB (by simpa using hfit) (fun v hv => by rw [List.eq_of_mem_replicate hv]; rfl)
    simp only [Nat.add_zero, List.length_replicate] at hst
    have hr : (Builtin.clear_ #[71] 0 #[.slice (some ⟨g, o, none⟩) (n + 1) c]).run prog w = .ok (.tuple #[]) (w.setRow g (cur.toList.take o ++ List.replicate (n + 1) (Value.pointer none) ++ cur.toList.drop (o + (n + 1))).toArray) := by
      simp [Builtin.clear_, run_underlying un71, hzv, hzc, hst]
    exact runT_of (t := .val) (x := (.tuple #[])) hr (hk _ (setRow_heap w g cur _ 74 _ hB) (mod_setRow w g _))
theorem delete_calls (w : World) (s : Sl) (cs : List Value) (k : Nat) (hs : Row w s 74 1 cs) (hk : k < cs.length) (h1 : ∀ u ∈ cs, u.oneCell' = true) (hn : cs.length ≤ 100000) :
    Calls prog 51 #[.slice s.a s.l s.c, .int .i64 (k : Int), .int .i64 ((k + 1 : Nat) : Int)] w (RowP w s (cs.eraseIdx k)) := by
  refine calls_ret (W51 (x0 := s) (x1 := (k : Int)) (x2 := ((k + 1 : Nat) : Int)) (Q := fun u w' => ∃ r : Sl, u = .slice r.a r.l r.c ∧ Row w' r 74 1 (cs.eraseIdx k) ∧ Near w s r ∧ Frm (fun b => s.blk = some b) w w') ?_) (fun v w' ⟨r, h, h'⟩ => ⟨r, by rw [h], h'⟩)
  have hl : cs.length = s.l := by have := hs.len; omega
  rcases hs.cases with ⟨rfl, rfl⟩ | ⟨g, cur, ha, hB, hlc, hcm, hcur, htake⟩
  · simp at hk
  obtain ⟨a, l, c⟩ := s
  simp only at ha hl hlc hcm hcur htake hk
  subst ha
  simp only [Nat.mul_one] at hcur htake
  simp only [maxLen] at hcm
  have hsb : (⟨some ⟨g, 0, none⟩, l, c⟩ : Sl).blk = some g := rfl
  have hca : cur.toList.length = c := by rw [Array.length_toList, hcur]
  unfold F51
  simp only [Int.toNat_natCast]
  refine ⟨by omega, by omega, by omega, IfB.f (beq_eq_false_iff_ne.2 (by omega)) ⟨by omega, by omega, ?_⟩⟩
  rw [slA_zero]
  have hct : cs.take k = cur.toList.take k := by rw [← htake, List.take_take, Nat.min_eq_left (by omega)]
  have hcd : cs.drop (k + 1) = (cur.toList.drop (k + 1)).take (l - (k + 1)) := by rw [← htake, List.drop_take]
  have her : cs.eraseIdx k = cs.take k ++ cs.drop (k + 1) := List.eraseIdx_eq_take_drop_succ ..
  have hBd : Blk w.drew g cur 74 := hB
  have hdl : (cs.drop (k + 1)).length = l - (k + 1) := by rw [List.length_drop]; omega
  -- the append, in place
  have key : ∀ K : Sl → World → Prop, (∀ w', Blk w' g (cur.toList.take k ++ cs.drop (k + 1) ++ cur.toList.drop (k + (l - (k + 1)))).toArray 74 → Frm (fun b => b = g) w.drew w' → K ⟨some ⟨g, 0, none⟩, l - 1, c⟩ w') →
      RunT prog .slice (Builtin.append_ #[71, 71] 71 #[.slice (some ⟨g, 0, none⟩) (k - 0) (c - 0), .slice (slA (some ⟨g, 0, none⟩) (k + 1) c 1) (l - (k + 1)) (c - (k + 1))]) w.drew K := by
    intro K hK
    obtain ⟨i, hi, hz, hsz, hby⟩ := st71.info
    have hsum : k + (l - (k + 1)) = l - 1 := by omega
    have hf : (Builtin.firstCells 1 (l - (k + 1)) (.slice (slA (some ⟨g, 0, none⟩) (k + 1) c 1) (l - (k + 1)) (c - (k + 1)))).run prog w.drew = .ok (cs.drop (k + 1)).toArray w.drew := by
      unfold slA
      split
      · rename_i h
        have h0 : l - (k + 1) = 0 := by omega
        have : cs.drop (k + 1) = [] := List.eq_nil_of_length_eq_zero (by omega)
        rw [this, h0]
        exact run_firstCells_some w.drew 1 0 ⟨g, 0, none⟩ _ _ [] rfl (by simp)
      · refine run_firstCells_some w.drew 1 (l - (k + 1)) _ _ _ _ (by omega) (fun j u hu => ?_)
        rw [hcd] at hu
        have := (Has.drew (blk_has (l := l - (k + 1)) (c := c) (o := k + 1) hB (by omega))).get j u hu
        obtain ⟨a, ha, hc⟩ := this
        cases ha
        rw [addr_add] at hc
        simpa [addr_add] using hc
    have hst := run_storeCells_at prog g k 74 (cs.drop (k + 1)) 0 cur w.drew hBd (by simp; omega) (fun v hv => h1 v (List.mem_of_mem_drop hv))
    simp only [Nat.add_zero, hdl] at hst
    have hle : k + (l - (k + 1)) ≤ c := by omega
    have hr : (Builtin.append_ #[71, 71] 71 #[.slice (some ⟨g, 0, none⟩) (k - 0) (c - 0), .slice (slA (some ⟨g, 0, none⟩) (k + 1) c 1) (l - (k + 1)) (c - (k + 1))]).run prog w.drew =
        .ok (.slice (some ⟨g, 0, none⟩) (k + (l - (k + 1))) c) (w.drew.setRow g (cur.toList.take k ++ cs.drop (k + 1) ++ cur.toList.drop (k + (l - (k + 1)))).toArray) := by
      rw [Nat.sub_zero, Nat.sub_zero]
      simp only [Builtin.append_]
      simp [run_underlying un71, sizeOf, typeInfo, hi, hsz, Builtin.lenOf, hle, hf, addr_add, hst]
    rw [hsum] at hr
    refine runT_of (t := .slice) (x := (⟨some ⟨g, 0, none⟩, l - 1, c⟩ : Sl)) hr (hK _ ?_ (mod_setRow w.drew g _))
    rw [hsum]
    have := setRow_heap w.drew g cur (cur.toList.take k ++ cs.drop (k + 1) ++ cur.toList.drop (l - 1)).toArray 74 _ hBd
    exact this
  refine key _ ?_
  intro w1 hB1 f1
  have hsum : k + (l - (k + 1)) = l - 1 := by omega
  rw [hsum] at hB1
  refine ⟨by simp only; omega, by simp only; omega, ?_⟩
  simp only
  have hz1 : (cur.toList.take k ++ cs.drop (k + 1) ++ cur.toList.drop (l - 1)).toArray.size = c := by simp; omega
  have hs1 : ∃ o, slA (some ⟨g, 0, none⟩) (l - 1) c 1 = some ⟨g, o, none⟩ ∧ o = l - 1 := by
    unfold slA
    rw [if_neg (by omega)]
    exact ⟨_, by simp [addr_add], rfl⟩
  obtain ⟨o, ho, rfl⟩ := hs1
  rw [ho]
  refine runT_clear hB1 (by rw [hz1]; omega) ?_
  intro w2 hB2 f2
  have hR2 := Row.mk (n := l - 1) (c := c) (sz := 1) hB2 (by omega) (by simp only [maxLen]; omega) (by rw [List.size_toArray, List.length_append, List.length_append, List.length_take, List.length_drop, List.length_replicate, Array.length_toList, hz1]; omega)
  rw [Nat.mul_one] at hR2
  refine ⟨⟨some ⟨g, 0, none⟩, l - 1, c⟩, rfl, ?_, .inl rfl, ?_⟩
  · have e : ((cur.toList.take k ++ cs.drop (k + 1) ++ cur.toList.drop (l - 1)).toArray.toList.take (l - 1) ++ List.replicate (l - (l - 1)) (Value.pointer none) ++ (cur.toList.take k ++ cs.drop (k + 1) ++ cur.toList.drop (l - 1)).toArray.toList.drop (l - 1 + (l - (l - 1)))).toArray.toList.take (l - 1) = cs.eraseIdx k := by
      have ea : (cur.toList.take k ++ cs.drop (k + 1) ++ cur.toList.drop (l - 1)).take (l - 1) = cs.eraseIdx k := by
        rw [her, hct]
        exact List.take_left' (by rw [List.length_append, List.length_take, hdl]; omega)
      simp only [List.toList_toArray]
      rw [ea, List.append_assoc]
      exact List.take_left' (by rw [her, List.length_append, List.length_take, hdl]; omega)
    rw [e] at hR2
    exact hR2
  · have g1 : Frm (fun b => b = g) w w2 := (f1.trans f2 (fun _ _ h => h) (fun _ _ h => h) : Frm (fun b => b = g) w.drew w2).ofDrew
    exact g1.mono fun b _ hb => by rw [hb, hsb]
end Go.Proofs.Ythgeacnemojjgaa
