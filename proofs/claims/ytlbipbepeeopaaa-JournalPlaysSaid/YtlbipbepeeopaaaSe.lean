/- Sessions: a journal over a disk of one's own, and what it reads as. -/
import Derived.Test.YtlbipbepeeopaaaDo
set_option linter.unusedVariables false
set_option linter.unusedSimpArgs false
set_option maxRecDepth 20000
namespace Go.Proofs.Ytlbipbepeeopaaa
open Go Go.Proofs.YtlbipbepeeopaaaV
def Rg (lo hi : Nat) : Nat → Prop := fun k => lo ≤ k ∧ k < hi
theorem DkQ.wide {G G' : Nat → Prop} {w : World} {x : Option Addr} {d : Dk} (h : DkQ G w x d) (hg : ∀ k, G k → G' k) : DkQ G' w x d := by
  obtain ⟨b, s, rfl, h⟩ := h
  exact ⟨b, s, rfl, h.blk, h.row, h.len, hg _ h.gb, fun k hk => hg _ (h.gs k hk), h.ok⟩
theorem DkQ.ok {G : Nat → Prop} {w : World} {x : Option Addr} {d : Dk} (h : DkQ G w x d) : OkD d := by obtain ⟨_, _, _, hh⟩ := h; exact hh.ok
def rep (c : Int) : List UInt8 := List.replicate 256 (u8 c)
theorem rep_len (c : Int) : (rep c).length = 256 := by simp [rep]
theorem rep_0 : rep 0 = zeroB := rfl
theorem u8_id {c : Int} (h0 : 0 ≤ c) (h1 : c < 256) : ((u8 c).toNat : Int) = c := by rw [u8_nat c h0]; omega
theorem u8_inj {a b : Int} (ha : 0 ≤ a) (ha' : a < 256) (hb : 0 ≤ b) (hb' : b < 256) (h : u8 a = u8 b) : a = b := by
  have h1 := u8_id ha ha'
  have h2 := u8_id hb hb'
  rw [h] at h1
  omega
theorem rep_inj {a b : Int} (h : rep a = rep b) : u8 a = u8 b := by
  have h1 : (rep a)[0]? = some (u8 a) := rfl
  have h2 : (rep b)[0]? = some (u8 b) := rfl
  rw [h, h2] at h1
  exact (Option.some.inj h1).symm
theorem full_i (w : World) (c : Int) (h0 : 0 ≤ c) (h1 : c < 256) : Calls prog 8 #[.int .u8 c] w fun e w' => ∃ t : Sl, e = .returned (.slice t.a t.l t.c) ∧ Row w' t 5 1 (bv (rep c)) ∧ t.l = 256 ∧ (∀ k, t.blk = some k → w.heap.size ≤ k ∧ k < w'.heap.size) ∧ Frm none_ w w' := by
  have := full_calls w (u8 c)
  rw [u8_id h0 h1] at this
  refine this.mono ?_
  rintro _ w' ⟨t, rfl, hr, hk, hf⟩
  refine ⟨t, rfl, hr, ?_, fun k hk' => ⟨by rw [hk k hk']; exact Nat.le_refl _, hr.lt k hk'⟩, hf⟩
  have := hr.len
  rw [bv_length, List.length_replicate] at this
  omega
/-- A journal y over the disk x, which lives as d, and reads as f. -/
structure Ses (n lo hi : Nat) (w : World) (y x : Option Addr) (d : Dk) (f : Int → List UInt8) : Prop where
  jr : JrQ (Rg lo hi) w y x d
  hi : hi ≤ w.heap.size
  live : d.dead = false
  zero : Zero d
  len : d.bl.length = n
  is : EqP n (cont d) f
theorem Ses.mod {n lo hi : Nat} {F : Nat → Prop} {w w' : World} {y x : Option Addr} {d : Dk} {f : Int → List UInt8} (h : Ses n lo hi w y x d f) (hm : Frm F w w') (hF : ∀ k, k < w.heap.size → ¬ F k) : Ses n lo hi w' y x d f :=
  ⟨h.jr.mod hm hF, Nat.le_trans h.hi hm.size, h.live, h.zero, h.len, h.is⟩
theorem Ses.modN {n lo hi : Nat} {w w' : World} {y x : Option Addr} {d : Dk} {f : Int → List UInt8} (h : Ses n lo hi w y x d f) (hm : Frm none_ w w') : Ses n lo hi w' y x d f := h.mod hm (fun _ _ h => h)
theorem Ses.n0 {n lo hi : Nat} {w : World} {y x : Option Addr} {d : Dk} {f : Int → List UInt8} (h : Ses n lo hi w y x d f) : 512 ≤ n ∧ n ≤ 32768 := by
  have := h.jr.dk.ok
  have := h.len
  exact ⟨by have := h.jr.dk.ok.n0; omega, by have := h.jr.dk.ok.n1; omega⟩
theorem Ses.y {n lo hi : Nat} {w : World} {y x : Option Addr} {d : Dk} {f : Int → List UInt8} (h : Ses n lo hi w y x d f) : ∃ b, y = some ⟨b, 0, none⟩ := by obtain ⟨b, h, _⟩ := h.jr; exact ⟨b, h⟩
theorem rg_lt {lo hi : Nat} {w : World} (h : hi ≤ w.heap.size) : ∀ k, Rg lo hi k → k < w.heap.size := fun k hk => Nat.lt_of_lt_of_le hk.2 h
theorem Frm.rg {lo hi : Nat} {W w w' : World} (h : Frm none_ W w) (hf : Frm (Rg lo hi) w w') (hlo : W.heap.size ≤ lo) : Frm none_ W w' :=
  h.trans hf (fun _ _ h => h) (fun k hk hr => by have := hr.1; omega)
/-- New, its disk in a stretch of blocks. -/
theorem newR_calls (w : World) (n : Int) (h0 : 512 ≤ n) (h1 : n ≤ 32768) : Calls prog 18 #[.int .i64 n] w fun e w' => ∃ x, e = .returned (.tuple #[.pointer x, .int .i64 0]) ∧ DkQ (Rg w.heap.size w'.heap.size) w' x ⟨List.replicate n.toNat zeroB, 0, -1, false⟩ ∧ Frm none_ w w' := by
  refine (new_calls w n h0 h1).mono ?_
  rintro _ w' ⟨b, G, rfl, hd, hG, hf⟩
  exact ⟨_, rfl, hd.wide hG, hf⟩
theorem zero_new (n : Nat) (hn : 512 ≤ n) (wr : Nat) (c : Int) (b : Bool) : Zero ⟨List.replicate n zeroB, wr, c, b⟩ ∧ EqP n (cont ⟨List.replicate n zeroB, wr, c, b⟩) (fun _ => rep 0) := by
  constructor
  · unfold Zero
    simp only [List.getElem?_replicate]
    rw [if_pos (by omega)]
  · intro i hi
    have := hi.range hn
    unfold cont contB
    simp only [List.getElem?_replicate]
    rw [if_pos (by omega)]
    rfl
/-- Open of a disk whose head is 0. -/
theorem Ses.open0 {n lo hi : Nat} {w : World} {x : Option Addr} {d : Dk} {f : Int → List UInt8} (h : DkQ (Rg lo hi) w x d) (hhi : hi ≤ w.heap.size) (hd : d.dead = false) (hz : Zero d) (hn : d.bl.length = n) (hf : EqP n (cont d) f) :
    Calls prog 14 #[.pointer x] w fun e w' => ∃ y, e = .returned (.tuple #[.pointer y, .int .i64 0]) ∧ Ses n lo hi w' y x d f ∧ Frm none_ w w' := by
  refine (open0_calls (Rg lo hi) w x d h hd hz (rg_lt hhi)).mono ?_
  rintro _ w' ⟨rfl, hj, hm⟩
  exact ⟨_, rfl, ⟨hj, Nat.le_trans hhi hm.size, hd, hz, hn, hf⟩, hm⟩
theorem fresh_calls (w : World) : Calls prog 9 #[] w fun e w' => ∃ x y d hi, e = .returned (.tuple #[.pointer x, .pointer y]) ∧ Ses 512 w.heap.size hi w' y x d (fun _ => rep 0) ∧ d.cut = -1 ∧ d.wr = 0 ∧ Frm none_ w w' := by
  refine calls_ret (W9 (Q := fun v w' => ∃ x y d hi, v = .tuple #[.pointer x, .pointer y] ∧ Ses 512 w.heap.size hi w' y x d (fun _ => rep 0) ∧ d.cut = -1 ∧ d.wr = 0 ∧ Frm none_ w w') ?_) (fun v w' ⟨x, y, d, hi, h, h'⟩ => ⟨x, y, d, hi, by rw [h], h'⟩)
  unfold F9
  refine (newR_calls w 512 (by decide) (by decide)).mono ?_
  rintro _ w1 ⟨x, rfl, hd, hf⟩
  have hz := zero_new 512 (by decide) 0 (-1) false
  refine ⟨x, 0, rfl, IfB.f rfl ?_⟩
  refine (Ses.open0 (n := 512) hd (Nat.le_refl _) rfl hz.1 (List.length_replicate ..) hz.2).mono ?_
  rintro _ w2 ⟨y, rfl, hs, hf2⟩
  exact ⟨y, 0, rfl, IfB.f rfl ⟨x, y, _, _, rfl, hs, rfl, rfl, trN hf hf2⟩⟩
/-- A plain block read. -/
theorem Ses.read {n lo hi : Nat} {w : World} {y x : Option Addr} {d : Dk} {f : Int → List UInt8} (h : Ses n lo hi w y x d f) {i : Int} (hp : PlN n i) :
    Calls prog 17 #[.pointer y, .int .i64 i] w fun e w' => ∃ b : Nat, e = .returned (.tuple #[.slice (some ⟨b, 0, none⟩) 256 256, .int .i64 0]) ∧ Blk w' b (bv (f i)).toArray 74 ∧ (f i).length = 256 ∧ b = w.heap.size ∧ Frm none_ w w' := by
  refine (jread_calls (Rg lo hi) w y x d i h.jr).mono ?_
  rintro _ w' ⟨v, rfl, hr, hf⟩
  rcases hr with ⟨h1, _⟩ | ⟨_, h1, _⟩ | ⟨_, _, b, l, h1, rfl, h2, h3⟩
  · rw [h.live] at h1; cases h1
  · exact absurd (by rw [PlN_d, h.len]; exact hp) h1
  · have e : l = f i := by
      have := h.is i hp
      unfold cont contB at this
      rw [h1] at this
      exact this
    have hl := h.jr.dk.ok.len l (List.mem_of_getElem? h1)
    subst e
    exact ⟨b, rfl, h2, hl, h3, hf⟩
theorem Ses.readBad {n lo hi : Nat} {w : World} {y x : Option Addr} {d : Dk} {f : Int → List UInt8} (h : Ses n lo hi w y x d f) {i : Int} (hp : ¬ PlN n i) :
    Calls prog 17 #[.pointer y, .int .i64 i] w fun e w' => e = .returned (.tuple #[.slice none 0 0, .int .i64 1]) ∧ Frm none_ w w' := by
  refine (jread_calls (Rg lo hi) w y x d i h.jr).mono ?_
  rintro _ w' ⟨v, rfl, hr, hf⟩
  rcases hr with ⟨h1, _⟩ | ⟨_, h1, rfl⟩ | ⟨_, h1, _⟩
  · rw [h.live] at h1; cases h1
  · exact ⟨rfl, hf⟩
  · exact absurd (by rw [PlN_d, h.len] at h1; exact h1) hp
theorem Blk.hasB {w : World} {b : Nat} {l : List UInt8} (h : Blk w b (bv l).toArray 74) (hl : l.length = 256) : Has w ⟨some ⟨b, 0, none⟩, 256, 256⟩ 1 (bv l) := by
  have := Blk.has h 256
  have e : (bv l).toArray.size = 256 := by rw [List.size_toArray, bv_length, hl]
  rw [e, List.toList_toArray] at this
  exact this
theorem Ses.holds {n lo hi : Nat} {w : World} {y x : Option Addr} {d : Dk} {f : Int → List UInt8} (h : Ses n lo hi w y x d f) {i c : Int} (hp : PlN n i) (h0 : 0 ≤ c) (h1 : c < 256) :
    Calls prog 15 #[.pointer y, .int .i64 i, .int .u8 c] w fun e w' => e = .returned (.bool (decide (f i = rep c))) ∧ Frm none_ w w' := by
  refine calls_ret (W15 (Q := fun v w' => v = .bool (decide (f i = rep c)) ∧ Frm none_ w w') ?_) (fun v w' ⟨h, h'⟩ => ⟨by rw [h], h'⟩)
  unfold F15
  refine (h.read hp).mono ?_
  rintro _ w1 ⟨b, rfl, hB, hl, hb, hf⟩
  have hh := Blk.hasB hB hl
  have key : ((str (f i)).toList == (str (rep c)).toList) = decide (f i = rep c) := by
    rw [str_toList, str_toList]
    by_cases e : f i = rep c
    · simp [e]
    · simp [e]
  refine ⟨⟨some ⟨b, 0, none⟩, 256, 256⟩, 0, rfl, IfB.t rfl ⟨?_, ?_⟩⟩
  · refine runT_str un23 un5 un9 hh.drew ((full_i w1.drew c h0 h1).mono ?_)
    rintro _ w2 ⟨t, rfl, hr, htl, htb, hf2⟩
    refine ⟨t, rfl, runT_str un23 un5 un9 hr.has ⟨?_, trN hf.drew hf2⟩⟩
    rw [key]
  · refine (full_i w1.drew c h0 h1).mono ?_
    rintro _ w2 ⟨t, rfl, hr, htl, htb, hf2⟩
    have hh2 := hh.drew.mod hf2 (fun _ _ h => h)
    refine ⟨t, rfl, runT_str un23 un5 un9 hh2 (runT_str un23 un5 un9 hr.has ⟨?_, trN hf.drew hf2⟩), runT_str un23 un5 un9 hr.has (runT_str un23 un5 un9 hh2 ⟨?_, trN hf.drew hf2⟩)⟩
    · rw [key]
    · rw [key]
/-- What a Do leaves. -/
def DoLeaves (n lo hi : Nat) (w' : World) (y x : Option Addr) (d d' : Dk) (f : Int → List UInt8) (l : List Wt) (e : Int) : Prop :=
  (chkD n l ≠ 0 ∧ e = chkD n l ∧ d' = d ∧ Ses n lo hi w' y x d f) ∨
  (chkD n l = 0 ∧ e = 0 ∧ Ses n lo hi w' y x d' (over l f) ∧ (l.length = 0 → d' = d) ∧ (l.length = 0 ∨ d.cut < 0 ∨ 2 * (l.length : Int) + 2 ≤ d.cut)) ∨
  (chkD n l = 0 ∧ e = 20 ∧ JrQ (Rg lo hi) w' y x d' ∧ d'.dead = true ∧ d'.bl.length = n ∧ 0 ≤ d.cut ∧ d.cut < 2 * (l.length : Int) + 2 ∧ 1 ≤ l.length ∧ ((d.cut ≤ (l.length : Int) ∧ Stand d' f) ∨ ((l.length : Int) < d.cut ∧ Stand d' (over l f))))
theorem Ses.do {n lo hi : Nat} {H : Nat → Prop} {w : World} {y x : Option Addr} {d : Dk} {f : Int → List UInt8} (h : Ses n lo hi w y x d f) {s : Sl} {l : List Wt} (hg : Grp H w s l) (hHG : ∀ k, H k → ¬ Rg lo hi k) (hHw : ∀ k, H k → k < w.heap.size)
    (hi' : ∀ p ∈ l, -9223372036854775808 ≤ p.1 ∧ p.1 ≤ 9223372036854775807) (hwr : d.wr < 900000) :
    Calls prog 10 #[.pointer y, .slice s.a s.l s.c] w fun e w' => ∃ (d' : Dk) (r : Int), e = .returned (.int .i64 r) ∧ DoLeaves n lo hi w' y x d d' f l r ∧ d'.wr ≤ d.wr + 2 * l.length + 2 ∧ hi ≤ w'.heap.size ∧ Frm (Rg lo hi) w w' := by
  refine (do_calls (Rg lo hi) H w y x d s l hg hHG hHw hi' h.jr (rg_lt h.hi) hwr).mono ?_
  rintro _ w' ⟨rfl, hj, hf⟩
  have hhi : hi ≤ w'.heap.size := Nat.le_trans h.hi hf.size
  refine ⟨(doD l d).2, (doD l d).1, rfl, ?_, ?_, hhi, hf⟩
  · by_cases hc : chkD n l = 0
    · have hc' : chkD d.bl.length l = 0 := by rw [h.len]; exact hc
      obtain ⟨hlaw, hll, hww⟩ := doD_law h.live h.jr.dk.ok h.zero hc'
      rw [h.len] at hlaw
      rcases hlaw with ⟨a1, a2, a3, a4, a5, a6⟩ | ⟨a1, a2, a3, a4, a5, a6⟩
      · exact .inr (.inl ⟨hc, a1, ⟨hj, hhi, a2, a3, by rw [hll, h.len], a4.trans (h.is.over l)⟩, a5, a6⟩)
      · refine .inr (.inr ⟨hc, a1, hj, a2, by rw [hll, h.len], a4, a5, a6, ?_⟩)
        rcases a3 with ⟨b1, b2⟩ | ⟨b1, b2⟩
        · exact .inl ⟨b1, b2.congr (by rw [hll, h.len]; exact h.is)⟩
        · exact .inr ⟨b1, b2.congr (by rw [hll, h.len]; exact h.is.over l)⟩
    · have hc' : chkD d.bl.length l ≠ 0 := by rw [h.len]; exact hc
      have e := doD_bad h.live hc'
      rw [e] at hj ⊢
      rw [h.len]
      exact .inl ⟨hc, rfl, rfl, ⟨hj, hhi, h.live, h.zero, h.len, h.is⟩⟩
  · by_cases hc : chkD n l = 0
    · have hc' : chkD d.bl.length l = 0 := by rw [h.len]; exact hc
      exact (doD_law h.live h.jr.dk.ok h.zero hc').2.2
    · have hc' : chkD d.bl.length l ≠ 0 := by rw [h.len]; exact hc
      rw [doD_bad h.live hc']
      simp only
      omega
/-- What a Raw leaves. -/
def RawLeaves (n lo hi : Nat) (w' : World) (y x : Option Addr) (d d' : Dk) (f : Int → List UInt8) (i : Int) (b : List UInt8) (e : Int) : Prop :=
  (chkD n [(i, b)] ≠ 0 ∧ e = chkD n [(i, b)] ∧ d' = d ∧ Ses n lo hi w' y x d f) ∨
  (chkD n [(i, b)] = 0 ∧ e = 0 ∧ Ses n lo hi w' y x d' (over [(i, b)] f) ∧ d.cut ≠ 0) ∨
  (chkD n [(i, b)] = 0 ∧ e = 20 ∧ JrQ (Rg lo hi) w' y x d' ∧ d'.dead = true ∧ d'.bl.length = n ∧ Stand d' f ∧ d.cut = 0)
theorem chk_one {n : Nat} {i : Int} {b : List UInt8} : chkD n [(i, b)] = if PlN n i ∧ b.length = 256 then 0 else 1 := by
  unfold chkD ChkP
  rw [if_neg (by simp)]
  simp
theorem Ses.raw {n lo hi : Nat} {w : World} {y x : Option Addr} {d : Dk} {f : Int → List UInt8} (h : Ses n lo hi w y x d f) {t : Sl} {i : Int} {b : List UInt8} (hi' : -9223372036854775808 ≤ i ∧ i ≤ 9223372036854775807) (ht : Has w t 1 (bv b)) (htg : ∀ k, t.blk = some k → ¬ Rg lo hi k) (hwr : d.wr < 900000) :
    Calls prog 25 #[.pointer y, .int .i64 i, .slice t.a t.l t.c] w fun e w' => ∃ (d' : Dk) (r : Int), e = .returned (.int .i64 r) ∧ RawLeaves n lo hi w' y x d d' f i b r ∧ d'.wr ≤ d.wr + 1 ∧ hi ≤ w'.heap.size ∧ Frm (Rg lo hi) w w' := by
  refine (raw_calls (Rg lo hi) w y x d i t b hi' ht htg h.jr (by omega)).mono ?_
  rintro _ w' ⟨rfl, hj, hf⟩
  have hhi : hi ≤ w'.heap.size := Nat.le_trans h.hi hf.size
  have hlen := h.len
  have hok := h.jr.dk.ok
  have hn0 := hok.n0
  by_cases hc : PlN n i ∧ b.length = 256
  · have hrg := hc.1.range (h.n0).1
    have e : rawD i b d = writeD i b d := by
      unfold rawD
      rw [h.live]
      simp only [Bool.false_eq_true, if_false]
      rw [if_neg]
      rw [PlN_d, hlen]
      exact fun hh => hh.elim (fun hh => hh hc.1) (fun hh => hh hc.2)
    have hck : chkD n [(i, b)] = 0 := by rw [chk_one, if_pos hc]
    rw [e] at hj ⊢
    rcases writeD_cases (b := b) h.live (by omega : 0 ≤ i ∧ i < (d.bl.length : Int)) hc.2 with ⟨hcut, e2⟩ | ⟨hcut, e2⟩
    · rw [e2] at hj ⊢
      refine ⟨_, _, rfl, .inr (.inr ⟨hck, rfl, hj, rfl, hlen, ?_, hcut⟩), by simp only; omega, hhi, hf⟩
      exact .inl ⟨h.zero, by simp only; rw [hlen]; exact h.is⟩
    · rw [e2] at hj ⊢
      refine ⟨_, _, rfl, .inr (.inl ⟨hck, rfl, ⟨hj, hhi, h.live, ?_, ?_, ?_⟩, hcut⟩), by simp only; omega, hhi, hf⟩
      · unfold Zero
        simp only
        rw [List.getElem?_set_ne (hc.1.notArea (by omega) (by omega))]
        exact h.zero
      · simp only [List.length_set]; exact hlen
      · intro j hj'
        show contB (d.bl.set i.toNat b) j = _
        rw [contB_set (by omega) (hj'.range h.n0.1).1]
        unfold over over upd
        simp only
        split
        · rfl
        · exact h.is j hj'
  · have e : rawD i b d = (1, d) := by
      unfold rawD
      rw [h.live]
      simp only [Bool.false_eq_true, if_false]
      rw [if_pos]
      rw [PlN_d, hlen]
      by_cases h1 : PlN n i
      · exact .inr (fun h2 => hc ⟨h1, h2⟩)
      · exact .inl h1
    have hck : chkD n [(i, b)] = 1 := by rw [chk_one, if_neg hc]
    rw [e] at hj ⊢
    exact ⟨_, _, rfl, .inl ⟨by rw [hck]; simp, by rw [hck], rfl, ⟨hj, hhi, h.live, h.zero, h.len, h.is⟩⟩, by omega, hhi, hf⟩
/-- Cut of a disk that lives. -/
theorem Ses.cut {n lo hi : Nat} {w : World} {y x : Option Addr} {d : Dk} {f : Int → List UInt8} (h : Ses n lo hi w y x d f) (c : Int) (h0 : 0 ≤ c) (h1 : c ≤ 9223372036854775807) :
    Calls prog 11 #[.pointer x, .int .i64 c] w fun e w' => e = .returned (.int .i64 0) ∧ Ses n lo hi w' y x { d with cut := c } f ∧ Frm (Rg lo hi) w w' := by
  refine (cut_calls (Rg lo hi) w x d c h1 h.jr.dk).mono ?_
  have e : cutD c d = (0, { d with cut := c }) := by unfold cutD; rw [h.live]; simp only [Bool.false_eq_true, if_false]; rw [if_neg (by omega)]
  rw [e]
  rintro _ w' ⟨rfl, hd, hf⟩
  exact ⟨rfl, ⟨h.jr.turn hf hd, Nat.le_trans h.hi hf.size, h.live, h.zero, h.len, h.is⟩, hf⟩
theorem Stand.bl {d d' : Dk} {f : Int → List UInt8} (h : Stand d f) (e : d'.bl = d.bl) : Stand d' f := by
  rcases h with ⟨h, h1⟩ | ⟨l, h, h1⟩
  · refine .inl ⟨?_, ?_⟩
    · unfold Zero; rw [e]; exact h
    · unfold cont; rw [e]; exact h1
  · refine .inr ⟨l, ⟨by rw [e]; exact h.head, h.n0, h.n1, by rw [e]; exact h.pl, by rw [e]; exact h.dat⟩, ?_⟩
    unfold cont; rw [e]; exact h1
/-- A dead disk reopened: in a stretch of blocks of its own. -/
theorem reopenR_calls (G : Nat → Prop) (w : World) (x : Option Addr) (d : Dk) (h : DkQ G w x d) (hd : d.dead = true) : Calls prog 13 #[.pointer x] w fun e w' =>
    ∃ x', e = .returned (.tuple #[.pointer x', .int .i64 0]) ∧ DkQ (Rg w.heap.size w'.heap.size) w' x' ⟨d.bl, 0, -1, false⟩ ∧ Frm none_ w w' := by
  refine (reopen_calls G w x d h hd).mono ?_
  rintro _ w' ⟨b, G', rfl, hd, hG, hf⟩
  exact ⟨_, rfl, hd.wide hG, hf⟩
/-- What Open leaves of a disk that stands for f. -/
theorem openR_calls {n lo hi : Nat} {w : World} {x : Option Addr} {d : Dk} {f : Int → List UInt8} (h : DkQ (Rg lo hi) w x d) (hhi : hi ≤ w.heap.size) (hd : d.dead = false) (hn : d.bl.length = n) (hS : Stand d f) (hwr : d.wr < 900000) :
    Calls prog 14 #[.pointer x] w fun e w' => ∃ d', Frm (Rg lo hi) w w' ∧ hi ≤ w'.heap.size ∧ d'.wr ≤ d.wr + 121 ∧
      ((∃ y, e = .returned (.tuple #[.pointer y, .int .i64 0]) ∧ Ses n lo hi w' y x d' f ∧ (Zero d → d' = d)) ∨
       (e = .returned (.tuple #[.pointer none, .int .i64 20]) ∧ DkQ (Rg lo hi) w' x d' ∧ d'.dead = true ∧ d'.bl.length = n ∧ Stand d' f ∧ 0 ≤ d.cut ∧ ¬ Zero d)) := by
  refine (open_calls (Rg lo hi) w x d f h hd hS (rg_lt hhi) hwr).mono ?_
  rintro _ w' ⟨d', h1, h2, h3, h4, h5⟩
  have hhi' := Nat.le_trans hhi h2.size
  refine ⟨d', h2, hhi', h4, ?_⟩
  rcases h5 with ⟨rfl, a1, a2, a3, a4, a5⟩ | ⟨rfl, a1, a2, a3, a4⟩
  · exact .inl ⟨_, rfl, ⟨a1, hhi', a2, a3, by omega, by rw [← hn]; exact a4⟩, a5⟩
  · exact .inr ⟨rfl, h1, a1, by omega, a2, a3, a4⟩
/-- A group told by a literal of one write, and of two. -/
theorem lit1_grp {w : World} {B : Nat} {p : Wt} {s : Sl} (hs : Has w s 1 (bv p.2)) (hsb : ∀ k, s.blk = some k → B ≤ k ∧ k < w.heap.size) (hB : B ≤ w.heap.size) {K : Sl → World → Prop}
    (hk : ∀ t w', Grp (fun k => B ≤ k ∧ k < w'.heap.size) w' t [p] → Frm none_ w w' → K t w') : RunT prog .slice (Instr.buildSlice 25 1 #[(0, .agg #[.int .i64 p.1, .slice s.a s.l s.c])]) w K := by
  refine runT_lit1 st25 (by decide) rfl ?_
  intro w1 hrow hf hsz
  refine hk _ w1 ?_ hf
  have hG : GrpR 30 B w1 ⟨some ⟨w.heap.size, 0, none⟩, 1, 1⟩ [(p, s)] := by
    refine ⟨hrow, fun k hk => ?_, fun q hq => ?_⟩
    · simp [Sl.blk] at hk; omega
    · rw [List.mem_singleton] at hq
      subst hq
      refine ⟨hs.mod hf (fun _ _ h => h), fun k hk => ⟨(hsb k hk).1, by have := (hsb k hk).2; omega, fun hkt => ?_⟩⟩
      simp [Sl.blk] at hkt
      have := (hsb k hk).2; omega
  exact hG.grp
theorem lit2_grp {w : World} {B : Nat} {p q : Wt} {s t : Sl} (hs : Has w s 1 (bv p.2)) (ht : Has w t 1 (bv q.2)) (hsb : ∀ k, s.blk = some k → B ≤ k ∧ k < w.heap.size) (htb : ∀ k, t.blk = some k → B ≤ k ∧ k < w.heap.size) (hB : B ≤ w.heap.size) {K : Sl → World → Prop}
    (hk : ∀ t w', Grp (fun k => B ≤ k ∧ k < w'.heap.size) w' t [p, q] → Frm none_ w w' → K t w') : RunT prog .slice (Instr.buildSlice 25 2 #[(0, .agg #[.int .i64 p.1, .slice s.a s.l s.c]), (1, .agg #[.int .i64 q.1, .slice t.a t.l t.c])]) w K := by
  refine runT_lit st25 (n := 2) (cells := #[.int .i64 p.1, .slice s.a s.l s.c, .int .i64 q.1, .slice t.a t.l t.c]) (by decide) (by decide) (by kernel_rfl) rfl ?_
  intro w1 hrow hf hsz
  refine hk _ w1 ?_ hf
  have hG : GrpR 30 B w1 ⟨some ⟨w.heap.size, 0, none⟩, 2, 2⟩ [(p, s), (q, t)] := by
    refine ⟨hrow, fun k hk => ?_, fun r hr => ?_⟩
    · simp [Sl.blk] at hk; omega
    · have key : ∀ (r : Sl) (c : List UInt8), Has w r 1 (bv c) → (∀ k, r.blk = some k → B ≤ k ∧ k < w.heap.size) → Has w1 r 1 (bv c) ∧ ∀ k, r.blk = some k → B ≤ k ∧ k < w1.heap.size ∧ (⟨some ⟨w.heap.size, 0, none⟩, 2, 2⟩ : Sl).blk ≠ some k := by
        intro r c hr hrb
        refine ⟨hr.mod hf (fun _ _ h => h), fun k hk => ⟨(hrb k hk).1, by have := (hrb k hk).2; omega, fun hkt => ?_⟩⟩
        simp [Sl.blk] at hkt
        have := (hrb k hk).2; omega
      simp only [List.mem_cons, List.not_mem_nil, or_false] at hr
      rcases hr with rfl | rfl
      · exact key _ _ hs hsb
      · exact key _ _ ht htb
  exact hG.grp
end Go.Proofs.Ytlbipbepeeopaaa
