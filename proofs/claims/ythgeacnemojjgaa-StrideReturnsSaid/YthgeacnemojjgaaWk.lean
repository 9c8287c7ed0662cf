/- The example, walked (printed by wk.py). -/
import Derived.Test.YthgeacnemojjgaaPl
set_option linter.unusedVariables false
set_option linter.unusedSimpArgs false
set_option maxRecDepth 20000
namespace Go.Proofs.Ythgeacnemojjgaa
open Go Go.Proofs.YthgeacnemojjgaaV
theorem nb (a : ByteArray) : (!(a.toList == a.toList)) = false := by rw [(str_eqIff _ _).2 rfl]; rfl
/-- Projects that are one's own. -/
structure Hs (W : World) (a : Nat) (M : List Pj) (V : World) : Prop where
  ok : OkM M
  frm : Frm none_ W V
  sh : ∃ D, Shw V D a M ∧ ∀ k, D k → W.heap.size ≤ k
theorem Hs.n {W V V' : World} {a : Nat} {M : List Pj} (h : Hs W a M V) (hf : Frm none_ V V') : Hs W a M V' := by
  obtain ⟨D, h1, h2⟩ := h.sh
  exact ⟨h.ok, h.frm.n hf, D, h1.n hf, h2⟩
theorem Hs.went {W V V' : World} {D : Nat → Prop} {a : Nat} {M M' : List Pj} (h : Hs W a M V) (hD : ∀ k, D k → W.heap.size ≤ k) (hw : Went V D a M' V') (ok : OkM M') : Hs W a M' V' := by
  obtain ⟨hf, D', h1, h2⟩ := hw
  have hz := h.frm.size
  exact ⟨ok, h.frm.trans hf (fun _ _ h => h) (fun k hk hh => by have := hD k hh; omega), D', h1, fun k hk => by
    rcases h2 k hk with h | h
    · exact hD k h
    · omega⟩
theorem new1 {W : World} {K : Ending → World → Prop} (hk : ∀ V a, Hs W a [] V → K (.returned (.pointer (some ⟨a, 0, none⟩))) V) : Calls prog 12 #[] W K := by
  refine (new_calls W).mono ?_
  rintro _ V ⟨a, rfl, f, D, h, hD⟩
  exact hk V a ⟨⟨by simp, List.Pairwise.nil, by simp⟩, f, D, h, hD⟩
theorem set1 {W V : World} {a : Nat} {M M' : List Pj} {nm : ByteArray} {k e : Int} (h : Hs W a M V) (he : setP nm k M = (e, M')) {K : Ending → World → Prop} (hk : ∀ V', Hs W a M' V' → K (.returned (.int .i64 e)) V') : Calls prog 15 #[.pointer (some ⟨a, 0, none⟩), .string nm, .int .i64 k] V K := by
  obtain ⟨D, h1, h2⟩ := h.sh
  refine (set_calls V D a M h1 h.ok nm k).mono ?_
  rintro _ V' ⟨rfl, hw⟩
  have ok := setP_ok h.ok nm k
  rw [he] at hw ok ⊢
  exact hk V' (h.went h2 hw ok)
theorem chg1 {W V : World} {a : Nat} {M M' : List Pj} {nm : ByteArray} {k e : Int} (h : Hs W a M V) (he : chgP nm k M = (e, M')) {K : Ending → World → Prop} (hk : ∀ V', Hs W a M' V' → K (.returned (.int .i64 e)) V') : Calls prog 18 #[.pointer (some ⟨a, 0, none⟩), .string nm, .int .i64 k] V K := by
  obtain ⟨D, h1, h2⟩ := h.sh
  refine (chg_calls V D a M h1 h.ok nm k).mono ?_
  rintro _ V' ⟨rfl, hw⟩
  have ok := chgP_ok h.ok nm k
  rw [he] at hw ok ⊢
  exact hk V' (h.went h2 hw ok)
theorem drop1 {W V : World} {a : Nat} {M M' : List Pj} {nm : ByteArray} {e : Int} (h : Hs W a M V) (he : dropP nm M = (e, M')) {K : Ending → World → Prop} (hk : ∀ V', Hs W a M' V' → K (.returned (.int .i64 e)) V') : Calls prog 17 #[.pointer (some ⟨a, 0, none⟩), .string nm] V K := by
  obtain ⟨D, h1, h2⟩ := h.sh
  refine (drop_calls V D a M h1 h.ok nm).mono ?_
  rintro _ V' ⟨rfl, hw⟩
  have ok := dropP_ok h.ok nm
  rw [he] at hw ok ⊢
  exact hk V' (h.went h2 hw ok)
theorem had1 {W V : World} {a : Nat} {M : List Pj} {nm : ByteArray} {r : Int × Int × Bool} (h : Hs W a M V) (he : hadP nm M = r) {K : Ending → World → Prop} (hk : ∀ V', Hs W a M V' → K (.returned (.tuple #[.int .i64 r.1, .int .i64 r.2.1, .bool r.2.2])) V') : Calls prog 19 #[.pointer (some ⟨a, 0, none⟩), .string nm] V K := by
  obtain ⟨D, h1, h2⟩ := h.sh
  refine (had_calls V D a M h1 h.ok nm).mono ?_
  rintro _ V' ⟨rfl, f⟩
  rw [he]
  exact hk V' (h.n f)
theorem nextX {W V : World} {a : Nat} {M M' : List Pj} {x : Sl} {ws : List ByteArray} {q : ByteArray} {e : Int} (h : Hs W a M V) (hx : Has V x 1 (sv ws)) (hxn : ws ≠ [] → ∀ D, Shw V D a M → (∀ k, D k → W.heap.size ≤ k) → ∀ k, x.blk = some k → ¬ D k) (hws : ws.length ≤ 1000000000000) (he : nextP ws M = (q, e, M')) {K : Ending → World → Prop} (hk : ∀ V', Hs W a M' V' → K (.returned (.tuple #[.string q, .int .i64 e])) V') : Calls prog 13 #[.pointer (some ⟨a, 0, none⟩), .slice x.a x.l x.c] V K := by
  obtain ⟨D, h1, h2⟩ := h.sh
  refine (next_calls V D a M h1 h.ok x ws hx (fun hne => hxn hne D h1 h2) hws).mono ?_
  rintro _ V' ⟨rfl, hw⟩
  have ok := nextP_ok h.ok ws
  rw [he] at hw ok ⊢
  exact hk V' (h.went h2 hw ok)
theorem next1 {W V U : World} {a : Nat} {M M' : List Pj} {x : Sl} {ws : List ByteArray} {q : ByteArray} {e : Int} (h : Hs W a M V) (hf : Frm none_ V U) (hx : Row U x 9 1 (sv ws)) (hn : New V x) (he : nextP ws M = (q, e, M')) {K : Ending → World → Prop} (hk : ∀ V', Hs W a M' V' → K (.returned (.tuple #[.string q, .int .i64 e])) V') (hws : ws.length ≤ 1000000000000 := by decide) : Calls prog 13 #[.pointer (some ⟨a, 0, none⟩), .slice x.a x.l x.c] U K := by
  obtain ⟨D, h1, h2⟩ := h.sh
  refine (next_calls U D a M (h1.n hf) h.ok x ws hx.has (fun _ k hk hh => by have := hn k hk; have := h1.lt k hh; omega) hws).mono ?_
  rintro _ V' ⟨rfl, hw⟩
  have ok := nextP_ok h.ok ws
  rw [he] at hw ok ⊢
  exact hk V' ((h.n hf).went h2 hw ok)
theorem litT {n : Nat} {parts : Array (Nat × Value)} {w : World} (ss : List ByteArray) (hn : 0 < n) (hb : n * 1 ≤ 16777216)
    (hf : Instr.fill (fun i => some (i * 1, 1)) ((Array.range (n * 1)).map fun j => (Value.string (⟨#[]⟩ : ByteArray)).cells[j % (Value.string (⟨#[]⟩ : ByteArray)).cells.size]!) parts.toList = some (sv ss).toArray) (hc : (sv ss).toArray.size = n * 1) {K : Sl → World → Prop}
    (hk : ∀ t w', Row w' t 9 1 (sv ss) → New w t → Frm none_ w w' → K t w') : RunT prog .slice (Instr.buildSlice 28 n parts) w K := by
  refine runT_lit st28 hn hb hf hc ?_
  intro w' hr f z
  exact hk _ w' (by simpa using hr) (fun k hk => by simp [Sl.blk] at hk; omega) f
theorem two_calls (w : World) : Calls prog 14 #[] w (MadeT w [⟨#[97]⟩, ⟨#[98]⟩]) := by
  refine callsRet (W14 (Q := fun v w' => ∃ r : Sl, v = .slice r.a r.l r.c ∧ Row w' r 9 1 (sv [⟨#[97]⟩, ⟨#[98]⟩]) ∧ New w r ∧ Frm none_ w w') ?_) (fun v w' ⟨r, h, h'⟩ => ⟨r, by rw [h], h'⟩)
  unfold F14
  exact litT [⟨#[97]⟩, ⟨#[98]⟩] (by decide) (by decide) (by kernel_rfl) rfl fun t w' hr hn hf => ⟨t, rfl, hr, hn, hf⟩
theorem works_calls (W : World) : Calls prog 11 #[] W fun e w' => e = .returned (.bool true) ∧ Frm none_ W w' := by
  refine callsRet (W11 (Q := fun v w' => v = .bool true ∧ Frm none_ W w') ?_) (fun v w' ⟨h, h'⟩ => ⟨by rw [h], h'⟩)
  unfold F11
  refine new1 (W := W) fun V0 a h0 => ⟨_, rfl, ?_⟩
  refine ⟨fun c V => c = false ∧ Hs W a [⟨⟨#[97]⟩, 1, 0, false⟩, ⟨⟨#[98]⟩, 2, 0, false⟩] V, ?_, ?_⟩
  · refine set1 h0 (e := 0) (M' := [⟨⟨#[97]⟩, 1, 0, false⟩]) (by kernel_rfl) fun V1 h1 => ⟨_, rfl, ?_⟩
    refine IfB.f rfl (set1 h1 (e := 0) (M' := [⟨⟨#[97]⟩, 1, 0, false⟩, ⟨⟨#[98]⟩, 2, 0, false⟩]) (by kernel_rfl) fun V2 h2 => ⟨_, rfl, rfl, h2⟩)
  rintro u c V3 ⟨rfl, h3⟩
  refine IfB.f rfl ?_
  refine (two_calls _).mono ?_
  rintro _ U ⟨s, rfl, t, n, f⟩
  refine ⟨s, rfl, next1 h3 f t n (q := (⟨#[97]⟩ : ByteArray)) (e := 0) (M' := [⟨⟨#[97]⟩, 1, 0, true⟩, ⟨⟨#[98]⟩, 2, 0, true⟩]) (by kernel_rfl) fun V4 h4 => ⟨_, _, rfl, ?_⟩⟩
  refine chg1 h4 (e := 0) (M' := [⟨⟨#[97]⟩, 1, 6, true⟩, ⟨⟨#[98]⟩, 2, 0, true⟩]) (by kernel_rfl) fun V5 h5 => ⟨_, rfl, ?_⟩
  refine litT [(⟨#[98]⟩ : ByteArray), (⟨#[97]⟩ : ByteArray)] (by decide) (by decide) (by kernel_rfl) rfl fun s U t n f => next1 h5 f t n (q := (⟨#[98]⟩ : ByteArray)) (e := 0) (M' := [⟨⟨#[97]⟩, 1, 6, true⟩, ⟨⟨#[98]⟩, 2, 0, true⟩]) (by kernel_rfl) fun V6 h6 => ⟨_, _, rfl, ?_⟩
  refine chg1 h6 (e := 0) (M' := [⟨⟨#[97]⟩, 1, 6, true⟩, ⟨⟨#[98]⟩, 2, 6, true⟩]) (by kernel_rfl) fun V7 h7 => ⟨_, rfl, ?_⟩
  refine (two_calls _).mono ?_
  rintro _ U ⟨s, rfl, t, n, f⟩
  refine ⟨s, rfl, next1 h7 f t n (q := (⟨#[98]⟩ : ByteArray)) (e := 0) (M' := [⟨⟨#[97]⟩, 1, 6, true⟩, ⟨⟨#[98]⟩, 2, 6, true⟩]) (by kernel_rfl) fun V8 h8 => ⟨_, _, rfl, ?_⟩⟩
  refine chg1 h8 (e := 0) (M' := [⟨⟨#[97]⟩, 1, 6, true⟩, ⟨⟨#[98]⟩, 2, 12, true⟩]) (by kernel_rfl) fun V9 h9 => ⟨_, rfl, ?_⟩
  refine (two_calls _).mono ?_
  rintro _ U ⟨s, rfl, t, n, f⟩
  refine ⟨s, rfl, next1 h9 f t n (q := (⟨#[97]⟩ : ByteArray)) (e := 0) (M' := [⟨⟨#[97]⟩, 1, 6, true⟩, ⟨⟨#[98]⟩, 2, 12, true⟩]) (by kernel_rfl) fun V10 h10 => ⟨_, _, rfl, ?_⟩⟩
  refine ⟨fun c V => c = false ∧ Hs W a [⟨⟨#[97]⟩, 1, 6, true⟩, ⟨⟨#[98]⟩, 2, 12, true⟩] V, ?_, ?_⟩
  · exact IfB.f (nb _) (IfB.f (nb _) (IfB.f (nb _) (IfB.f (nb _) ⟨by decide, h10⟩)))
  rintro u c V11 ⟨rfl, h11⟩
  refine IfB.f rfl ?_
  refine set1 h11 (e := 0) (M' := [⟨⟨#[97]⟩, 1, 6, true⟩, ⟨⟨#[98]⟩, 2, 12, true⟩, ⟨⟨#[99]⟩, 3, 0, false⟩]) (by kernel_rfl) fun V12 h12 => ⟨_, rfl, ?_⟩
  refine IfB.f rfl ?_
  refine litT [(⟨#[99]⟩ : ByteArray), (⟨#[97]⟩ : ByteArray), (⟨#[98]⟩ : ByteArray)] (by decide) (by decide) (by kernel_rfl) rfl fun s U t n f => next1 h12 f t n (q := (⟨#[97]⟩ : ByteArray)) (e := 0) (M' := [⟨⟨#[97]⟩, 1, 6, true⟩, ⟨⟨#[98]⟩, 2, 12, true⟩, ⟨⟨#[99]⟩, 3, 18, true⟩]) (by kernel_rfl) fun V13 h13 => ⟨_, _, rfl, ?_⟩
  refine had1 h13 (r := (3, 18, true)) (by kernel_rfl) fun V14 h14 => ⟨_, _, _, rfl, ?_⟩
  refine ⟨fun c V => c = false ∧ Hs W a [⟨⟨#[97]⟩, 1, 6, true⟩, ⟨⟨#[98]⟩, 1, 6, true⟩, ⟨⟨#[99]⟩, 3, 18, true⟩] V, ?_, ?_⟩
  · refine IfB.f (nb _) (IfB.f rfl (IfB.f rfl (IfB.f rfl ?_)))
    exact set1 h14 (e := 0) (M' := [⟨⟨#[97]⟩, 1, 6, true⟩, ⟨⟨#[98]⟩, 1, 6, true⟩, ⟨⟨#[99]⟩, 3, 18, true⟩]) (by kernel_rfl) fun V15 h15 => ⟨_, rfl, rfl, h15⟩
  rintro u c V16 ⟨rfl, h16⟩
  refine IfB.f rfl ?_
  refine had1 h16 (r := (1, 6, true)) (by kernel_rfl) fun V17 h17 => ⟨_, _, _, rfl, ?_⟩
  refine ⟨fun c V => c = false ∧ Hs W a [⟨⟨#[97]⟩, 1, 6, true⟩, ⟨⟨#[98]⟩, 4, 24, true⟩, ⟨⟨#[99]⟩, 3, 18, true⟩] V, ?_, ?_⟩
  · refine IfB.f rfl ?_
    exact set1 h17 (e := 0) (M' := [⟨⟨#[97]⟩, 1, 6, true⟩, ⟨⟨#[98]⟩, 4, 24, true⟩, ⟨⟨#[99]⟩, 3, 18, true⟩]) (by kernel_rfl) fun V18 h18 => ⟨_, rfl, rfl, h18⟩
  rintro u c V19 ⟨rfl, h19⟩
  refine IfB.f rfl ?_
  refine litT [(⟨#[122]⟩ : ByteArray)] (by decide) (by decide) (by kernel_rfl) rfl fun s U t n f => next1 h19 f t n (q := (⟨#[]⟩ : ByteArray)) (e := 5) (M' := [⟨⟨#[97]⟩, 1, 6, true⟩, ⟨⟨#[98]⟩, 4, 24, true⟩, ⟨⟨#[99]⟩, 3, 18, true⟩]) (by kernel_rfl) fun V20 h20 => ⟨_, _, rfl, ?_⟩
  refine litT [(⟨#[98]⟩ : ByteArray)] (by decide) (by decide) (by kernel_rfl) rfl fun s U t n f => next1 h20 f t n (q := (⟨#[98]⟩ : ByteArray)) (e := 0) (M' := [⟨⟨#[97]⟩, 1, 6, false⟩, ⟨⟨#[98]⟩, 4, 24, true⟩, ⟨⟨#[99]⟩, 3, 18, false⟩]) (by kernel_rfl) fun V21 h21 => ⟨_, _, rfl, ?_⟩
  refine chg1 h21 (e := 0) (M' := [⟨⟨#[97]⟩, 1, 6, false⟩, ⟨⟨#[98]⟩, 4, 28, true⟩, ⟨⟨#[99]⟩, 3, 18, false⟩]) (by kernel_rfl) fun V22 h22 => ⟨_, rfl, ?_⟩
  refine (two_calls _).mono ?_
  rintro _ U ⟨s, rfl, t, n, f⟩
  refine ⟨s, rfl, next1 h22 f t n (q := (⟨#[97]⟩ : ByteArray)) (e := 0) (M' := [⟨⟨#[97]⟩, 1, 7, true⟩, ⟨⟨#[98]⟩, 4, 28, true⟩, ⟨⟨#[99]⟩, 3, 18, false⟩]) (by kernel_rfl) fun V23 h23 => ⟨_, _, rfl, ?_⟩⟩
  refine had1 h23 (r := (1, 7, true)) (by kernel_rfl) fun V24 h24 => ⟨_, _, _, rfl, ?_⟩
  exact IfB.t rfl (IfB.t ((str_eqIff _ _).2 rfl) (IfB.t rfl (IfB.t ((str_eqIff _ _).2 rfl) ⟨rfl, h24.frm⟩)))
end Go.Proofs.Ythgeacnemojjgaa
