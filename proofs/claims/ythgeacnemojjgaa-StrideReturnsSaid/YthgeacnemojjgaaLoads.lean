/- The law StrideLoads walked. -/
import Derived.Test.YthgeacnemojjgaaDd
set_option linter.unusedVariables false
set_option linter.unusedSimpArgs false
set_option maxRecDepth 20000
namespace Go.Proofs.Ythgeacnemojjgaa
open Go Go.Proofs.YthgeacnemojjgaaV
theorem hadP_at {M : List Pj} (hs : Srt M) {i : Nat} {p : Pj} (hp : M[i]? = some p) : hadP p.n M = (p.sh, p.had, true) := by
  unfold hadP
  rw [ix_at hs hp]
  simp only [hp]
theorem loads_law (W : World) (b : Sl) (lb : List UInt8) (hb : HasL W b 1 (fun b : UInt8 => [Value.int .u8 (b.toNat : Int)]) lb ∧ (∀ a ∈ lb, True) ∧ b.l ≤ b.c ∧ b.c ≤ maxLen ∧ b.c * 1 ≤ 140737488351232) : Calls prog 5 #[.slice b.a b.l b.c] W fun e w' => e = .returned (.bool true) ∧ Frm none_ W w' := by
  refine callsRet (W5 (x0 := b) (Q := fun v w' => v = .bool true ∧ Frm none_ W w') ?_) (fun v w' ⟨h, h'⟩ => ⟨by rw [h], h'⟩)
  have hbh := hb.1.bytes
  have hbl : lb.length = b.l := by have := hbh.len; rw [bv_length] at this; omega
  unfold F5
  refine IfB.intro (fun _ => ⟨rfl, Frm.refl _ _⟩) (fun hc => ?_)
  have hc := of_decide_eq_false hc
  refine runT_lit0 st22 ?_
  intro w1 hr1 f1 z1
  refine runT_append st22 hr1 (hbh.mod f1 (fun _ _ h => h)) (bv_one _) (by simp only; omega) (by simp only [maxLen]; omega) ?_
  intro t w2 hr2 hl2 hn2 f2
  rw [List.nil_append] at hr2
  have htn : New W t := (show New W ⟨some ⟨W.heap.size, 0, none⟩, 0, 0⟩ from fun k hk => by simp [Sl.blk] at hk; omega).near (w2 := w2) hn2 f1.size
  have f12 : Frm none_ W w2 := (show New W ⟨some ⟨W.heap.size, 0, none⟩, 0, 0⟩ from fun k hk => by simp [Sl.blk] at hk; omega).frm f1 f2
  have htl := rowLen hr2
  refine (load_calls w2 t lb hr2.has (by omega)).mono ?_
  rintro _ w3 ⟨v, rfl, hv, f3⟩
  have f13 := f12.n f3
  have hD : Calls prog 32 #[.slice b.a b.l b.c] w3 fun e w' => ∃ v, e = .returned v ∧ LoadedD w3 lb v w' ∧ Frm none_ w3 w' := dLoad_calls w3 b lb (hbh.mod f13 (fun _ _ h => h)) (by omega)
  rcases hv with ⟨a, ps, DA, rfl, hld, hL3, hDA⟩ | ⟨rfl, hld⟩
  · refine ⟨_, _, rfl, hD.mono ?_⟩
    rintro _ w4 ⟨v', rfl, hv', f4⟩
    rcases hv' with ⟨d, qs, DD, rfl, hld', hD4, hDD⟩ | ⟨rfl, hld'⟩
    · rw [hld] at hld'; cases hld'
      obtain ⟨ok, hsv⟩ := ldOf_spec hld
      have hN := ok.n
      have hL4 := hL3.n f4
      have ht4 : Row w4 t 5 1 (bv lb) := (hr2.mod f3 (fun _ _ h => h)).mod f4 (fun _ _ h => h)
      have f14 := f13.n f4
      refine ⟨_, _, rfl, fun c w' => c = false ∧ w' = w4, IfB.f rfl ⟨rfl, rfl⟩, ?_⟩
      rintro u c w4' ⟨rfl, rfl⟩
      refine IfB.f rfl ⟨fun n i w' => ∃ (j : Nat) (cs : List Value), j ≤ lb.length ∧ i = (j : Int) ∧ n = lb.length - j ∧ cs.length = lb.length ∧ (∀ (k : Nat) (v : Value), cs[k]? = some v → ∃ z : Int, v = Value.int .u8 z) ∧ Row w' t 5 1 cs ∧ Frm (fun k => t.blk = some k) w4' w', lb.length, ⟨0, bv lb, by omega, rfl, rfl, bv_length _, ?_, ht4, Frm.refl _ _⟩, ?_⟩
      · intro k v hv
        obtain ⟨b', _, rfl⟩ := bv_get hv
        exact ⟨_, rfl⟩
      rintro n u1 i w5 ⟨j, cs, hj, rfl, rfl, hcl, hcs, hr5, f5⟩
      have htb2 : ∀ k, t.blk = some k → k < w2.heap.size := hr2.lt
      have z23 := f3.size
      have z34 := f4.size
      have f15 : Frm none_ W w5 := f14.trans f5 (fun _ _ h => h) (fun k hk he => by have := htn k he; omega)
      refine IfB.intro (fun hlt => ?_) (fun hge => ?_)
      · have hlt := of_decide_eq_true hlt
        obtain ⟨q, v, hq, hv, hld5⟩ := hr5.has.at1 (i := (j : Int)) (by omega) (by omega)
        obtain ⟨z, rfl⟩ := hcs _ _ hv
        obtain ⟨g, hg, hwr, hset⟩ := hr5.wr (j := j) (by omega)
        rw [hg] at hq; cases hq
        have ea : (⟨g, 0, none⟩ : Addr).add ((j : Int).toNat * 1) = ⟨g, j, none⟩ := by rw [addr_add, Int.toNat_natCast, Nat.mul_one, Nat.zero_add]
        refine ⟨_, hg, by omega, by omega, z, hld5, _, hg, by omega, by omega, by rw [ea]; exact hwr, ?_⟩
        rintro w6 rfl
        rw [ea]
        refine ⟨lb.length - (j + 1), by omega, j + 1, cs.set j (Value.int .u8 (IntKind.wrap .u8 ((255 : Int) - z))), by omega, by rw [wi _ (by omega)]; omega, rfl, by simpa using hcl, ?_, hset _, f5.trans (mod_setCell (a := ⟨g, j, none⟩)) (fun _ _ h => h) (fun k _ h => by have h : k = g := h; subst h; simp [Sl.blk, hg])⟩
        intro k v hv
        rw [List.getElem?_set] at hv
        split at hv
        · split at hv
          · cases hv; exact ⟨_, rfl⟩
          · cases hv
        · exact hcs k v hv
      · have hL5 := hL4.mod f5 (fun k hk he => by have := hDA k hk; have := htb2 k he; omega)
        have hD5 := hD4.mod f5 (fun k hk he => by have := hDD k hk; have := htb2 k he; omega)
        refine ⟨fun n i w' => ∃ j : Nat, i = (j : Int) ∧ j ≤ ps.length ∧ n = ps.length - j ∧ Frm none_ w5 w', ps.length, ⟨0, rfl, by omega, rfl, Frm.refl _ _⟩, ?_⟩
        rintro n u i w6 ⟨j, rfl, hj, rfl, f6⟩
        have hL6 := hL5.n f6
        obtain ⟨s, hS, hDb, hDs, hDl⟩ := hD5.n f6
        have hsl := hS.sl
        refine ⟨_, rfl, s, hS.ld0, IfB.dec (fun hlt => ?_) (fun hge => ?_)⟩
        · obtain ⟨p, hp⟩ : ∃ p, ps[j]? = some p := ⟨_, List.getElem?_eq_getElem (by omega)⟩
          obtain ⟨q, hq, hil, _, hldp⟩ := hS.at hp
          refine ⟨_, rfl, s, hS.ld0, q, hq, by omega, by omega, p.n, hldp 0 _ rfl, (had_calls w6 DA a ps hL6 ok p.n).mono ?_⟩
          rintro _ w7 ⟨rfl, f7⟩
          rw [hadP_at ok.srt hp]
          have hS7 := hS.n f7
          obtain ⟨q', hq', _, _, hldp'⟩ := hS7.at hp
          refine ⟨_, _, _, rfl, IfB.f rfl ⟨_, rfl, s, hS7.ld0, q', hq', by omega, by omega, p.sh, hldp' 1 _ rfl, IfB.f (by simp) ⟨_, rfl, s, hS7.ld0, q', hq', by omega, by omega, p.had, hldp' 2 _ rfl, IfB.f (by simp) ⟨ps.length - (j + 1), by omega, j + 1, by rw [wi _ (by omega)]; omega, by omega, rfl, f6.n f7⟩⟩⟩⟩
        · have f16 := f15.n f6
          have hL6d := hL6.n (frm_drew (F := none_) w6)
          refine (names_calls w6.drew DA a ps hL6d ok).mono ?_
          rintro _ w7 ⟨r7, rfl, hr7, hn7, f7⟩
          have f67 : Frm none_ w6 w7 := f7.ofDrew
          refine ⟨r7, rfl, (dNames_calls w7 DD d ps ((hD5.n f6).n f67) ok).mono ?_⟩
          rintro _ w8 ⟨r8, rfl, hr8, hn8, f8⟩
          refine ⟨r8, rfl, (texts_calls w8 r7 r8 _ _ (hr7.mod f8 (fun _ _ h => h)).has hr8.has (by rw [List.length_map]; omega)).mono ?_⟩
          rintro _ w9 ⟨rfl, f9⟩
          have f69 : Frm none_ w6 w9 := (f67.n f8).n f9
          have f19 : Frm none_ W w9 := f16.n f69
          have hL9 := hL6.n f69
          have hb9 : Has w9 b 1 (bv lb) := hbh.mod f19 (fun _ _ h => h)
          refine ⟨_, rfl, IfB.t (decide_eq_true rfl) ⟨?_, ?_⟩⟩
          rotate_left 1
          · refine runT_str un22 un5 un9 hb9 ((save_calls w9 DA a ps hL9 ok).mono ?_)
            rintro _ w10 ⟨r', rfl, hr10, hn10, f10⟩
            rw [hsv] at hr10
            refine ⟨r', rfl, runT_str un22 un5 un9 hr10.has ⟨?_, f19.n f10⟩⟩
            rw [(str_eqIff _ _).2 rfl]
          · refine (save_calls w9 DA a ps hL9 ok).mono ?_
            rintro _ w10 ⟨r', rfl, hr10, hn10, f10⟩
            rw [hsv] at hr10
            have hb10 := hb9.mod f10 (fun _ _ h => h)
            refine ⟨r', rfl, ⟨?_, ?_⟩⟩
            · refine runT_str un22 un5 un9 hr10.has (runT_str un22 un5 un9 hb10 ⟨?_, f19.n f10⟩)
              rw [(str_eqIff _ _).2 rfl]
            · refine runT_str un22 un5 un9 hb10 (runT_str un22 un5 un9 hr10.has ⟨?_, f19.n f10⟩)
              rw [(str_eqIff _ _).2 rfl]
    · rw [hld] at hld'; cases hld'
  · refine ⟨_, _, rfl, hD.mono ?_⟩
    rintro _ w4 ⟨v', rfl, hv', f4⟩
    rcases hv' with ⟨d, qs, DD, rfl, hld', hD4, hDD⟩ | ⟨rfl, hld'⟩
    · rw [hld] at hld'; cases hld'
    · refine ⟨_, _, rfl, fun c w' => c = true ∧ w' = w4, IfB.f rfl ⟨rfl, rfl⟩, ?_⟩
      rintro u c w4' ⟨rfl, rfl⟩
      exact IfB.t rfl (IfB.t rfl ⟨true, none23, rfl, f13.n f4⟩)
end Go.Proofs.Ythgeacnemojjgaa
