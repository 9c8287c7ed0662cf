/- append(b, make([]byte, n)...). -/
import Derived.Test.YtlbipbepeeopaaaGr
set_option linter.unusedVariables false
set_option linter.unusedSimpArgs false
set_option maxRecDepth 20000
namespace Go.Proofs.Ytlbipbepeeopaaa
open Go Go.Proofs.YtlbipbepeeopaaaV
theorem un3 : prog.underlying 3 = some (.int .i64) := by kernel_rfl
theorem zeros_list (n : Nat) : (Builtin.zeroCells (Value.int .u8 0).cells n).toList = List.replicate n (Value.int .u8 0) := by
  simp [Builtin.zeroCells]
  apply List.ext_getElem
  · simp [Value.cells]
  · intro i h1 h2
    simp [Value.cells, Nat.mod_one]
theorem runT_appendZ {w : World} {s : Sl} {cs : List Value} (h : Row w s 5 1 cs) (hne : ∃ g, s.blk = some g) (n : Nat) (hn0 : 0 < n) (hb : s.l + n ≤ 1000000) {K : Sl → World → Prop}
    (hk : ∀ s' w', Row w' s' 5 1 (cs ++ List.replicate n (.int .u8 0)) → s'.l = s.l + n → Near w s s' → Frm (fun b => s.blk = some b) w w' → K s' w') :
    RunT prog .slice (Builtin.append_ #[23, 3] 23 #[.slice s.a s.l s.c, .int .i64 (n : Int)]) w K := by
  obtain ⟨i, hi, hz, hsz, hby⟩ := st31.info
  have hw : IntKind.wrap .i64 (n : Int) = (n : Int) := wi _ (by omega)
  have hnn : ¬ ((n : Int) < 0) := by omega
  have hnn2 : ¬ (281474976710656 < (n : Int)) := by omega
  have hn0' : n ≠ 0 := by omega
  unfold RunT
  rcases h.cases with ⟨rfl, _⟩ | ⟨g, cur, ha, hB, hlc, hcm, hcs, htake⟩
  · obtain ⟨g, hg⟩ := hne; simp [Sl.blk] at hg
  · have hblk : s.blk = some g := by simp [Sl.blk, ha]
    simp only [Nat.mul_one] at hcs htake
    by_cases hroom : s.l + n ≤ s.c
    · have hst := run_storeCells_at prog g s.l 5 (List.replicate n (Value.int .u8 0)) 0 cur w hB (by simp; omega) (fun v hv => by rw [List.eq_of_mem_replicate hv]; rfl)
      simp only [Nat.add_zero, List.length_replicate] at hst
      have hr : (Builtin.append_ #[23, 3] 23 #[.slice (some ⟨g, 0, none⟩) s.l s.c, .int .i64 (n : Int)]).run prog w = .ok (.slice (some ⟨g, 0, none⟩) (s.l + n) s.c) (w.setRow g (cur.toList.take s.l ++ List.replicate n (Value.int .u8 0) ++ cur.toList.drop (s.l + n)).toArray) := by
        simp [Builtin.append_, run_underlying st31.und, run_underlying un3, sizeOf, typeInfo, zeroValue, hi, hz, hsz, hby, asInt, asIntOf, hw, hnn, hnn2, hn0', hroom, zeros_list, Addr.add_lit, hst]
      rw [ha, hr]
      refine ⟨⟨some ⟨g, 0, Option.none⟩, s.l + n, s.c⟩, rfl, hk _ _ ?_ rfl (.inl (by simp [Sl.blk, ha])) ?_⟩
      · have hB' : Blk (w.setRow g (cur.toList.take s.l ++ List.replicate n (Value.int .u8 0) ++ cur.toList.drop (s.l + n)).toArray) g (cur.toList.take s.l ++ List.replicate n (Value.int .u8 0) ++ cur.toList.drop (s.l + n)).toArray 5 := setRow_heap w g cur _ 5 _ hB
        have hlt : (cur.toList.take s.l ++ List.replicate n (Value.int .u8 0)).length = s.l + n := by simp; omega
        have := Row.mk (n := s.l + n) (c := s.c) (sz := 1) hB' hroom hcm (by simp; omega)
        rw [Nat.mul_one] at this
        have he : ((cur.toList.take s.l ++ List.replicate n (Value.int .u8 0) ++ cur.toList.drop (s.l + n)).toArray.toList.take (s.l + n)) = cs ++ List.replicate n (Value.int .u8 0) := by
          rw [← htake]
          simp only [List.toList_toArray]
          rw [← hlt]
          exact List.take_left
        rwa [he] at this
      · exact (mod_setRow w g _).mono fun b _ hb => by rw [hb]; exact hblk
    · have hgl := grownCap_ge w (s.l + n) s.c 5
      have hgm := grownCap_le_maxLen w (s.l + n) s.c 5 (by simp only [maxLen]; omega)
      have hcl : cs.length = s.l := by have := h.len; omega
      have hhas := h.has
      have hfit : ¬ (281474976710656 < Builtin.nextslicecap (s.l + n) s.c) := by
        have := nextslicecap_le (need := s.l + n) (old := s.c) (by omega)
        omega
      have h63 : ¬ (9223372036854775807 < ((s.l : Int) + (n : Int))) := by omega
      have hfo := run_firstCells_some (P := prog) w.drew i.size s.l ⟨g, 0, none⟩ s.l s.c cs (by rw [hsz]; omega) (fun j v hv => by
        obtain ⟨a, ha', hc⟩ := hhas.get j v hv
        rw [ha] at ha'; cases ha'; simpa using hc)
      rw [hsz] at hfo
      have hr : (Builtin.append_ #[23, 3] 23 #[.slice (some ⟨g, 0, none⟩) s.l s.c, .int .i64 (n : Int)]).run prog w = .ok (.slice (some ⟨w.heap.size, 0, none⟩) (s.l + n) (grownCap w (s.l + n) s.c 5))
          (w.drew.alloc (.cells (cs.toArray ++ Builtin.zeroCells (Value.int .u8 0).cells n ++ Builtin.zeroCells (Value.int .u8 0).cells (grownCap w (s.l + n) s.c 5 - (s.l + n))) 5)) := by
        simp [Builtin.append_, run_underlying st31.und, run_underlying un3, sizeOf, typeInfo, zeroValue, hi, hz, hsz, hby, asInt, asIntOf, hw, hnn, hnn2, hn0', hroom, hfit, h63, Question.forced, hfo, newRow, grownCap]
      rw [ha, hr]
      refine ⟨⟨some ⟨w.heap.size, 0, Option.none⟩, s.l + n, grownCap w (s.l + n) s.c 5⟩, rfl, hk _ _ ?_ rfl (.inr rfl) ?_⟩
      · have hB' := NewB.blk (w := w.drew) (cs := cs.toArray ++ Builtin.zeroCells (Value.int .u8 0).cells n ++ Builtin.zeroCells (Value.int .u8 0).cells (grownCap w (s.l + n) s.c 5 - (s.l + n))) (T := 5) ⟨rfl, rfl⟩
        have hz1 : (Value.int IntKind.u8 0).cells.size = 1 := rfl
        have hlt : (cs ++ List.replicate n (Value.int .u8 0)).length = s.l + n := by simp; omega
        have := Row.mk (n := s.l + n) (sz := 1) hB' hgl hgm (by simp only [Array.size_append, List.size_toArray, size_zeroCells, hz1, hcl]; omega)
        rw [Nat.mul_one] at this
        have he : ((cs.toArray ++ Builtin.zeroCells (Value.int .u8 0).cells n ++ Builtin.zeroCells (Value.int .u8 0).cells (grownCap w (s.l + n) s.c 5 - (s.l + n))).toList.take (s.l + n)) = cs ++ List.replicate n (Value.int .u8 0) := by
          simp only [Array.toList_append, zeros_list]
          rw [← hlt]
          exact List.take_left
        rwa [he] at this
      · exact (NewB.mod (w := w.drew) ⟨rfl, rfl⟩ _).ofDrew
end Go.Proofs.Ytlbipbepeeopaaa
