/- The iterator over a log's lines: what each round is handed, whoever ranges over it. -/
import Derived.Test.YtmcdeldjgfapbaaOps
import Derived.Test.YtmcdeldjgfapbaaShelf2
import Derived.Test.YtmcdeldjgfapbaaF2
set_option linter.unusedVariables false
set_option linter.unusedSimpArgs false
set_option maxRecDepth 20000
namespace Go.Proofs.Ytmcdeldjgfapbaa
open Go Go.Proofs.YtmcdeldjgfapbaaV
/-! ### Plain: the lines of a text -/
def lns : List UInt8 → List UInt8 → List ByteArray
  | cur, [] => if cur = [] then [] else [str cur]
  | cur, c :: r => if c.toNat = 10 then str (cur ++ [c]) :: lns [] r else lns (cur ++ [c]) r
theorem lns_skip : ∀ (a t cur : List UInt8), (∀ c ∈ a, c.toNat ≠ 10) → lns cur (a ++ t) = lns (cur ++ a) t
  | [], t, cur, _ => by simp
  | c :: a, t, cur, h => by
    have h0 := h c (by simp)
    rw [List.cons_append, lns, if_neg h0, lns_skip a t _ (fun x hx => h x (by simp [hx])), List.append_assoc]
    rfl
theorem lns_cut (a : List UInt8) (c : UInt8) (t cur : List UInt8) (h : ∀ c ∈ a, c.toNat ≠ 10) (hc : c.toNat = 10) : lns cur (a ++ c :: t) = str (cur ++ (a ++ [c])) :: lns [] t := by
  rw [lns_skip a _ cur h, lns, if_pos hc, List.append_assoc]
theorem idx_cases : ∀ l : List UInt8, (Lib.indexByte l 10 = -1 ∧ ∀ c ∈ l, c.toNat ≠ 10) ∨ ∃ a c b, l = a ++ c :: b ∧ c.toNat = 10 ∧ (∀ x ∈ a, x.toNat ≠ 10) ∧ Lib.indexByte l 10 = (a.length : Int)
  | [] => .inl ⟨rfl, by simp⟩
  | d :: l => by
    by_cases hd : d = 10
    · exact .inr ⟨[], d, l, rfl, by rw [hd]; rfl, by simp, by simp [Lib.indexByte, hd]⟩
    · have hd' : d.toNat ≠ 10 := fun h => hd (UInt8.toNat_inj.1 (by rw [h]; rfl))
      rcases idx_cases l with ⟨h1, h2⟩ | ⟨a, c, b, h1, h2, h3, h4⟩
      · left
        refine ⟨by simp [Lib.indexByte, hd, h1], fun c hc => ?_⟩
        rcases List.mem_cons.1 hc with rfl | hc
        · exact hd'
        · exact h2 c hc
      · right
        refine ⟨d :: a, c, b, by rw [h1]; rfl, h2, fun x hx => ?_, ?_⟩
        · rcases List.mem_cons.1 hx with rfl | hx
          · exact hd'
          · exact h3 x hx
        · have : ¬ ((a.length : Int) = -1) := by omega
          simp [Lib.indexByte, hd, h4, this]
/-! ### Frames by kind -/
/-- What the iterator may turn: rows of bytes and builders, from a place on. -/
def Ib (B : Nat) (w : World) (k : Nat) : Prop := B ≤ k ∧ ∃ cs fr T, w.heap[k]? = some (.cells cs T fr) ∧ (T = 5 ∨ T = 90)
theorem frm_k {B b : Nat} {w w' : World} {bs : List Value} (hb : Lib.IsBuilderF 90 5 B b bs w) (h1 : RowKit.Below B w w') (h2 : Lib.OthersKept 5 (some b) w w') : Frm (Ib B w) w w' := by
  refine ⟨h1.os, h1.tape, h1.output, h1.size, fun k hk hn => ?_⟩
  by_cases hB : k < B
  · exact h1.block k hB
  · have ho : w.heap[k]? = some w.heap[k] := by simp [hk]
    have hkb : k ≠ b := by
      rintro rfl
      refine hn ⟨by omega, ?_⟩
      rcases hb with ⟨_, v, hb, _⟩ | ⟨_, v, hb, _⟩
      · exact ⟨_, _, _, hb, .inr rfl⟩
      · exact ⟨_, _, _, hb, .inr rfl⟩
    rw [ho]
    refine h2 k _ ho (by simpa using hkb) (fun c fz hc => hn ⟨by omega, c, fz, 5, ?_, .inl rfl⟩)
    rw [ho, hc]
theorem builder_mod {B b : Nat} {w w' : World} {bs : List Value} (hb : Lib.IsBuilderF 90 5 B b bs w) (hm : Frm (fun k => ¬ Ib B w k) w w') : Lib.IsBuilderF 90 5 B b bs w' := by
  have key : ∀ p, Lib.BuilderAtF 90 5 B b p bs w → Lib.BuilderAtF 90 5 B b p bs w' := by
    rintro p ⟨hB, v, hb, hown, hne⟩
    have lt : ∀ {k : Nat} {o : Obj}, w.heap[k]? = some o → k < w.heap.size := fun h => (Array.getElem?_eq_some_iff.1 h).1
    refine ⟨hB, v, ?_, ⟨hown.1, ?_⟩, hne⟩
    · rw [hm.same b (lt hb) (fun h => h ⟨hB, _, _, _, hb, .inr rfl⟩)]; exact hb
    · rcases hown.2 with h | ⟨g, cap, cur, fz, h1, h2, h3, h4⟩
      · exact .inl h
      · refine .inr ⟨g, cap, cur, fz, h1, h2, ?_, h4⟩
        rw [hm.same g (lt h3) (fun h => h ⟨h2, _, _, _, h3, .inl rfl⟩)]; exact h3
  rcases hb with h | h
  · exact .inl (key _ h)
  · exact .inr (key _ h)
theorem builder_blk {B b : Nat} {w : World} {bs : List Value} (hb : Lib.IsBuilderF 90 5 B b bs w) : ∃ p v, Blk w b #[p, v] 90 := by
  rcases hb with ⟨_, v, hb, _⟩ | ⟨_, v, hb, _⟩ <;> exact ⟨_, _, hb⟩
theorem builder_new {B b : Nat} {w : World} (hB : B ≤ b) (hb : Blk w b #[.pointer none, .slice none 0 0] 90) : Lib.IsBuilderF 90 5 B b (bv []) w :=
  .inl ⟨hB, _, hb, World.ownsRowF_nil _ _ _ _, by simp [Value.ownBlock]⟩
/-! ### The calls -/
theorem index_calls (w : World) (s : ByteArray) : Calls prog 61 #[.string s, .int .u8 10] w fun e w' => e = .returned (.int .i64 (Lib.indexByte s.data.toList 10)) ∧ w' = w := by
  refine calls_ret (W61 (Q := fun v w' => v = .int .i64 (Lib.indexByte s.data.toList 10) ∧ w' = w) ?_) (fun v w' ⟨h, h'⟩ => ⟨by rw [h], h'⟩)
  unfold F61
  refine (Try.stringslite_IndexByte s 10 w).mono ?_
  rintro _ _ ⟨rfl, rfl⟩
  exact ⟨_, rfl, rfl, rfl⟩
theorem write_calls (B b : Nat) (l : List UInt8) (s : ByteArray) (w : World) (h : Lib.IsBuilderF 90 5 B b (bv l) w) (hlen : l.length + s.size ≤ 140737488355328) (hBw : B ≤ w.heap.size) :
    Calls prog 62 #[.pointer (some ⟨b, 0, none⟩), .string s] w fun e w' => e = .returned (.tuple #[.int .i64 (s.size : Int), .nilIface]) ∧ Lib.IsBuilderF 90 5 B b (bv (l ++ s.data.toList)) w' ∧ Frm (Ib B w) w w' := by
  refine (Try.Builder_WriteString_k B b (bv l) s w h (by rw [bv_length]; exact hlen) hBw).mono ?_
  rintro _ w' ⟨rfl, h1, h2, h3⟩
  refine ⟨rfl, .inr ?_, frm_k h h2 h3⟩
  rw [bv_append]
  exact h1
theorem string_calls (B b : Nat) (l : List UInt8) (w : World) (h : Lib.IsBuilderF 90 5 B b (bv l) w) (hBw : B ≤ w.heap.size) :
    Calls prog 63 #[.pointer (some ⟨b, 0, none⟩)] w fun e w' => e = .returned (.string (str l)) ∧ Lib.IsBuilderF 90 5 B b (bv l) w' ∧ Frm (Ib B w) w w' := by
  refine (Try.Builder_String_any_k B b l w h hBw).mono ?_
  rintro _ w' ⟨rfl, h1, h2, h3⟩
  exact ⟨rfl, h1, frm_k h h2 h3⟩
theorem reset_calls (B b : Nat) (l : List UInt8) (w : World) (h : Lib.IsBuilderF 90 5 B b (bv l) w) (hB : B ≤ b) :
    Calls prog 64 #[.pointer (some ⟨b, 0, none⟩)] w fun e w' => e = .returned (.tuple #[]) ∧ Lib.IsBuilderF 90 5 B b (bv []) w' ∧ Frm (Ib B w) w w' := by
  refine calls_ret (W64 (x0 := some ⟨b, 0, none⟩) (Q := fun v w' => v = .tuple #[] ∧ Lib.IsBuilderF 90 5 B b (bv []) w' ∧ Frm (Ib B w) w w') ?_) (fun v w' ⟨h, h'⟩ => ⟨by rw [h], h'⟩)
  obtain ⟨p, v, hK⟩ := builder_blk h
  unfold F64
  refine ⟨_, rfl, by rw [addr_add]; exact hK.wr (by show 0 < 2; omega), ?_⟩
  rintro w1 rfl
  rw [addr_add]
  have hK1 := hK.set 0 (.pointer none)
  refine ⟨_, rfl, by rw [addr_add]; exact hK1.wr (by show 1 < 2; omega), ?_⟩
  rintro w2 rfl
  rw [addr_add]
  have hK2 := hK1.set 1 (.slice none 0 0)
  refine ⟨rfl, builder_new hB hK2, ?_⟩
  have hf : Frm (fun k => k = b) w ((w.setCell ⟨b, 0 + 0, none⟩ (.pointer none)).setCell ⟨b, 0 + 1, none⟩ (.slice none 0 0)) := mod_setCell.trans mod_setCell (fun _ _ h => h) (fun _ _ h => h)
  exact hf.mono fun k _ hk => by
    have hk : k = b := hk
    subst hk
    exact ⟨hB, _, _, _, hK, .inr rfl⟩
theorem blen_calls (B b : Nat) (l : List UInt8) (w : World) (h : Lib.IsBuilderF 90 5 B b (bv l) w) :
    Calls prog 65 #[.pointer (some ⟨b, 0, none⟩)] w fun e w' => e = .returned (.int .i64 (l.length : Int)) ∧ w' = w := by
  refine (Try.Builder_Len_f B b (bv l) w h).mono ?_
  rintro _ w' ⟨rfl, rfl⟩
  exact ⟨by rw [bv_length], rfl⟩
/-- A log, its row named. -/
def LpS (w : World) (x : Option Addr) (s : Sl) (ps : List ByteArray) : Prop := (x = none ∧ ps = []) ∨ ∃ b, x = some ⟨b, 0, none⟩ ∧ Blk w b #[.slice s.a s.l s.c, .int .i64 (szs ps : Int)] 63 ∧ Row w s 9 1 (sv ps)
theorem LpS.mod {F : Nat → Prop} {w w' : World} {x : Option Addr} {s : Sl} {ps : List ByteArray} (h : LpS w x s ps) (hm : Frm F w w') (h1 : ∀ b, x = some ⟨b, 0, none⟩ → ¬ F b) (h2 : ∀ b, s.blk = some b → ¬ F b) : LpS w' x s ps := by
  rcases h with h | ⟨b, hx, hK, hR⟩
  · exact .inl h
  · exact .inr ⟨b, hx, hK.mod hm (h1 b hx), hR.mod hm h2⟩
theorem rest0_calls (w : World) (x : Option Addr) (s : Sl) (ps : List ByteArray) (h : LpS w x s ps) : Calls prog 44 #[.pointer x, .int .i64 0] w fun e w' => ∃ r : Sl, e = .returned (.slice r.a r.l r.c) ∧ (∀ W, (Has W s 1 (sv ps) ∨ ps = []) → Has W r 1 (sv ps)) ∧ w' = w := by
  refine calls_ret (W44 (x0 := x) (x1 := 0) (Q := fun v w' => ∃ r : Sl, v = .slice r.a r.l r.c ∧ (∀ W, (Has W s 1 (sv ps) ∨ ps = []) → Has W r 1 (sv ps)) ∧ w' = w) ?_) (fun v w' ⟨r, h, h'⟩ => ⟨r, by rw [h], h'⟩)
  unfold F44
  rcases h with ⟨rfl, rfl⟩ | ⟨b, rfl, hK, hR⟩
  · exact ⟨true, none23, IfB.t rfl ⟨⟨none, 0, 0⟩, rfl, fun W _ => Has.nil _ _ _ rfl, rfl⟩⟩
  · have hl := has_sv hR.has
    refine ⟨false, some23 b, IfB.f rfl ⟨⟨b, 0, none⟩, rfl, s, hK.ld rfl, IfB.intro (fun hge => ?_) (fun hlt => ?_)⟩⟩
    · have hge := of_decide_eq_true hge
      have : ps = [] := List.eq_nil_of_length_eq_zero (by omega)
      subst this
      exact ⟨⟨none, 0, 0⟩, rfl, fun W _ => Has.nil _ _ _ rfl, rfl⟩
    · have hlt := of_decide_eq_false hlt
      refine ⟨⟨b, 0, none⟩, rfl, s, hK.ld rfl, ⟨by decide, by rw [if_neg (by decide)]; omega⟩, ?_⟩
      have e0 : (if (0 : Int) > (0 : Int) then (0 : Int) else 0).toNat = 0 := rfl
      refine ⟨s, ?_, fun W hW => ?_, rfl⟩
      · rw [e0, slA_zero]
        rfl
      · rcases hW with hW | rfl
        · exact hW
        · simp at hl; omega
end Go.Proofs.Ytmcdeldjgfapbaa
