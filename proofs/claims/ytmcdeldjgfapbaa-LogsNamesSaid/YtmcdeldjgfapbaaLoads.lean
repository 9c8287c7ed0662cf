/- The law LogsLoads walked. -/
import Derived.Test.YtmcdeldjgfapbaaLl
set_option linter.unusedVariables false
set_option linter.unusedSimpArgs false
set_option maxRecDepth 20000
namespace Go.Proofs.Ytmcdeldjgfapbaa
open Go Go.Proofs.YtmcdeldjgfapbaaV
theorem loads_law (W : World) (b : Sl) (lb : List UInt8) (hb : HasL W b 1 (fun b : UInt8 => [Value.int .u8 (b.toNat : Int)]) lb ∧ (∀ a ∈ lb, True) ∧ b.l ≤ b.c ∧ b.c ≤ maxLen ∧ b.c * 1 ≤ 140737488351232) : Calls prog 3 #[.slice b.a b.l b.c] W fun e w' => e = .returned (.bool true) ∧ Frm none_ W w' := by
  refine callsRet (W3 (x0 := b) (Q := fun v w' => v = .bool true ∧ Frm none_ W w') ?_) (fun v w' ⟨h, h'⟩ => ⟨by rw [h], h'⟩)
  have hbh := hb.1.bytes
  have hbl : lb.length = b.l := by have := hbh.len; rw [bv_length] at this; omega
  unfold F3
  refine IfB.intro (fun _ => ⟨rfl, Frm.refl _ _⟩) (fun hc => ?_)
  have hc := of_decide_eq_false hc
  refine runT_lit0 st22 ?_
  intro w1 hr1 f1 z1
  refine runT_append st22 hr1 (hbh.mod f1 (fun _ _ h => h)) (bv_one _) (by simp only; omega) (by simp only [maxLen]; omega) ?_
  intro t w2 hr2 hl2 hn2 f2
  rw [List.nil_append] at hr2
  have htn : New W t := (show New W ⟨some ⟨W.heap.size, 0, none⟩, 0, 0⟩ from fun k hk => by simp [Sl.blk] at hk; omega).near (w2 := w2) hn2 f1.size
  have f12 : Frm none_ W w2 := (show New W ⟨some ⟨W.heap.size, 0, none⟩, 0, 0⟩ from fun k hk => by simp [Sl.blk] at hk; omega).frm f1 f2
  have htl := rowLen hr2
  refine (load_calls w2 t lb hr2.has (by omega)).mono ?_
  rintro _ w3 ⟨v, rfl, hv, f3⟩
  have f13 := f12.n f3
  have hD : Calls prog 12 #[.slice b.a b.l b.c] w3 fun e w' => ∃ v, e = .returned v ∧ LoadedD w3.heap.size w' lb v ∧ Frm none_ w3 w' := loadD_calls w3 b lb (hbh.mod f13 (fun _ _ h => h)) hb.2.2.1 hb.2.2.2.1 (by omega)
  rcases hv with ⟨a, ps, rfl, hld, hL3⟩ | ⟨rfl, hld⟩
  · refine ⟨_, _, rfl, hD.mono ?_⟩
    rintro _ w4 ⟨v', rfl, hv', f4⟩
    rcases hv' with ⟨d, qs, rfl, hld', hD4⟩ | ⟨rfl, hld'⟩
    · rw [hld] at hld'; cases hld'
      obtain ⟨ok, hsv⟩ := ldOf_spec hld
      have hN := ok.n
      have hzs := szs_le (fun p hp => (ok.each p hp).2)
      have hL4 : LpN w2.heap.size w4 a ps := hL3.n f4
      have hD4' : DpN w2.heap.size w4 d ps := hD4.lower f3.size
      have ht4 : Row w4 t 5 1 (bv lb) := (hr2.mod f3 (fun _ _ h => h)).mod f4 (fun _ _ h => h)
      have f14 := f13.n f4
      refine ⟨_, _, rfl, fun c w' => c = false ∧ w' = w4, IfB.f rfl ⟨rfl, rfl⟩, ?_⟩
      rintro u c w4' ⟨rfl, rfl⟩
      refine IfB.f rfl ⟨fun n i w' => ∃ (j : Nat) (cs : List Value), j ≤ lb.length ∧ i = (j : Int) ∧ n = lb.length - j ∧ cs.length = lb.length ∧ (∀ (k : Nat) (v : Value), cs[k]? = some v → ∃ z : Int, v = Value.int .u8 z) ∧ Row w' t 5 1 cs ∧ Frm (fun k => t.blk = some k) w4' w', lb.length, ⟨0, bv lb, by omega, rfl, rfl, bv_length _, ?_, ht4, Frm.refl _ _⟩, ?_⟩
      · intro k v hv
        obtain ⟨b', _, rfl⟩ := bv_get hv
        exact ⟨_, rfl⟩
      rintro n u1 i w5 ⟨j, cs, hj, rfl, rfl, hcl, hcs, hr5, f5⟩
      have htb : ∀ k, w2.heap.size ≤ k → ¬ t.blk = some k := fun k hk he => by have := hr2.lt k he; omega
      have f15 : Frm none_ W w5 := f14.trans f5 (fun _ _ h => h) (fun k hk he => by have := htn k he; omega)
      refine IfB.intro (fun hlt => ?_) (fun hge => ?_)
      · have hlt := of_decide_eq_true hlt
        obtain ⟨q, v, hq, hv, hld5⟩ := hr5.has.at1 (i := (j : Int)) (by omega) (by omega)
        obtain ⟨z, rfl⟩ := hcs _ _ hv
        obtain ⟨g, hg, hwr, hset⟩ := hr5.wr (j := j) (by omega)
        rw [hg] at hq; cases hq
        have ea : (⟨g, 0, none⟩ : Addr).add ((j : Int).toNat * 1) = ⟨g, j, none⟩ := by rw [addr_add, Int.toNat_natCast, Nat.mul_one, Nat.zero_add]
        refine ⟨_, hg, by omega, by omega, z, hld5, _, hg, by omega, by omega, by rw [ea]; exact hwr, ?_⟩
        rintro w6 rfl
        rw [ea]
        refine ⟨lb.length - (j + 1), by omega, j + 1, cs.set j (Value.int .u8 (IntKind.wrap .u8 ((255 : Int) - z))), by omega, by rw [wi _ (by omega)]; omega, rfl, by simpa using hcl, ?_, hset _, f5.trans (mod_setCell (a := ⟨g, j, none⟩)) (fun _ _ h => h) (fun k _ h => by have h : k = g := h; subst h; simp [Sl.blk, hg])⟩
        intro k v hv
        rw [List.getElem?_set] at hv
        split at hv
        · split at hv
          · cases hv; exact ⟨_, rfl⟩
          · cases hv
        · exact hcs k v hv
      · have hL5 := (hL4.mod f5 htb).n (frm_drew _)
        have hD5 := (hD4'.mod f5 htb).n (frm_drew _)
        obtain ⟨s, hs1, hs2, hK, hR⟩ := hD5
        refine ⟨fun w' => Frm none_ w5.drew w', Frm.refl _ _, ⟨d, 0, none⟩, rfl, s, fun w' hf => (hK.mod hf (fun h => h)).ld rfl, (from_calls w2.heap.size w5.drew (some ⟨a, 0, none⟩) ps (.inr ⟨a, rfl, hL5⟩) (by omega) 0).mono ?_⟩
        rintro _ w6 ⟨r, rfl, hr6, hn6, f6⟩
        rw [show (0 : Int).toNat = 0 from rfl, List.drop_zero] at hr6
        refine ⟨r, rfl, f6, (texts_calls w6 r s ps ps hr6.has (hR.has.mod f6 (fun _ _ h => h)) (by omega)).mono ?_⟩
        rintro _ w7 ⟨rfl, f7⟩
        have f57 : Frm none_ w5.drew w7 := f6.n f7
        have f17 : Frm none_ W w7 := f15.n f57.ofDrew
        have hL7 := hL5.n f57
        refine ⟨_, rfl, IfB.t (decide_eq_true rfl) ((size15_calls w2.heap.size w7 _ ps (.inr ⟨a, rfl, hL7⟩)).mono ?_)⟩
        rintro _ w8 ⟨rfl, f8⟩
        have hD8 : DpN w2.heap.size w8 d ps := (show DpN w2.heap.size w5.drew d ps from ⟨s, hs1, hs2, hK, hR⟩).n (f57.n f8)
        refine ⟨_, rfl, (text16_calls w2.heap.size w8 d ps hD8 (by omega) (by omega)).mono ?_⟩
        rintro _ w9 ⟨rfl, f9⟩
        have f19 : Frm none_ W w9 := f17.n (f8.n f9)
        have hL9 := hL7.n (f8.n f9)
        have hb9 : Has w9 b 1 (bv lb) := hbh.mod f19 (fun _ _ h => h)
        refine ⟨_, rfl, IfB.t (by rw [str_size, txt_len]; exact beq_self_eq_true _) ⟨?_, ?_⟩⟩
        rotate_left 1
        · refine runT_str un22 un5 un9 hb9 ((save_calls w2.heap.size w9 (some ⟨a, 0, none⟩) ps (.inr ⟨a, rfl, hL9⟩) (by omega) (by omega)).mono ?_)
          rintro _ w10 ⟨r', rfl, hr10, hn10, f10⟩
          rw [if_neg (by simp), hsv] at hr10
          refine ⟨r', rfl, runT_str un22 un5 un9 hr10.has ⟨?_, f19.n f10⟩⟩
          rw [(str_eqIff _ _).2 rfl]
        all_goals
          refine (save_calls w2.heap.size w9 (some ⟨a, 0, none⟩) ps (.inr ⟨a, rfl, hL9⟩) (by omega) (by omega)).mono ?_
          rintro _ w10 ⟨r', rfl, hr10, hn10, f10⟩
          rw [if_neg (by simp), hsv] at hr10
          have hb10 := hb9.mod f10 (fun _ _ h => h)
          refine ⟨r', rfl, ⟨?_, ?_⟩⟩
          · refine runT_str un22 un5 un9 hr10.has (runT_str un22 un5 un9 hb10 ⟨?_, f19.n f10⟩)
            rw [(str_eqIff _ _).2 rfl]
          · refine runT_str un22 un5 un9 hb10 (runT_str un22 un5 un9 hr10.has ⟨?_, f19.n f10⟩)
            rw [(str_eqIff _ _).2 rfl]
    · rw [hld] at hld'; cases hld'
  · refine ⟨_, _, rfl, hD.mono ?_⟩
    rintro _ w4 ⟨v', rfl, hv', f4⟩
    rcases hv' with ⟨d, qs, rfl, hld', hD4⟩ | ⟨rfl, hld'⟩
    · rw [hld] at hld'; cases hld'
    · refine ⟨_, _, rfl, fun c w' => c = true ∧ w' = w4, IfB.f rfl ⟨rfl, rfl⟩, ?_⟩
      rintro u c w4' ⟨rfl, rfl⟩
      exact IfB.t rfl (IfB.t rfl ⟨true, none23, rfl, f13.n f4⟩)
end Go.Proofs.Ytmcdeldjgfapbaa
