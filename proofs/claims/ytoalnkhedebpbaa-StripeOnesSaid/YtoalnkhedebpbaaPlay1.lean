/- wattleplay.Good: a geometry that may be. -/
import Derived.Test.YtoalnkhedebpbaaPlay0
namespace Go.Proofs.Ytoalnkhedebpbaa
open Go.RowKit

theorem goodG_std : goodG 5 3 1 = true := by decide
set_option maxRecDepth 100000 in
set_option maxHeartbeats 1000000 in
theorem good_any (n : Int) (w : World) (hn : -9223372036854775808 ≤ n) (hn' : n ≤ 9223372036854775807) :
    Calls Try.prog 17 #[.int .i64 n] w fun e w' => ∃ L D C, goodG L D C = true ∧ e = .returned (gv L D C) ∧ Gr w w' := by
  go_enter Try.func17, Try.ntmps17
  go_wp2_with fail
  refine (geom_any n _ hn hn').mono ?_
  rintro e w1 ⟨L, D, C, rfl, hg⟩
  have g1 : Gr w w1 := (Gr.alloc w _).trans hg
  have hR : w1.heap[w.heap.size]? = some (.cells #[.int .i64 0, .int .i64 0, .int .i64 0] 23) := hg.get (heap_alloc_new w _)
  have hsz : w.heap.size < w1.heap.size := heap_lt hR
  have HR := Lib.hid hR; clear hR hg
  go_wp2_with fail
  refine (rcheck_any L D C _).mono ?_
  rintro e w2 ⟨rfl, hg2⟩
  have hR2 := hg2.get (heap_alloc_lt HR.out _)
  have hG := hg2.get (heap_alloc_new w1 _)
  have hs2 := heap_lt hG
  obtain ⟨r0, r1, r2⟩ := box3 hR2
  obtain ⟨c0, c1, c2⟩ := box3 hG
  have f0 : ∀ j, w2.frozen? ⟨w.heap.size, j, none⟩ = false := fun j => frozen_of_row _ _ _ _ _ hR2
  have g2 : Gr w w2 := (g1.trans (Gr.alloc w1 _)).trans hg2
  have HR2 := Lib.hid hR2; clear hR2
  have HG := Lib.hid hG; clear hG hg2
  by_cases hb : goodG L D C = true
  · have HB := Lib.hid hb
    rw [hb]; clear hb
    go_wp2
    refine bodyPost_ret (v := gv L D C) ?_ rfl ⟨L, D, C, HB.out, rfl, ?_⟩
    · simp [results, Try.results17, go_sem, r0, r1, r2]
    · exact Below.setCell (Below.setCell (Below.setCell g2 (Nat.le_refl _) _) (Nat.le_refl _) _) (Nat.le_refl _) _
  · have hbf : goodG L D C = false := by simpa using hb
    rw [hbf]; clear hb hbf
    go_wp2
    refine bodyPost_ret (v := gv 5 3 1) ?_ rfl ⟨5, 3, 1, goodG_std, rfl, ?_⟩
    · simp [results, Try.results17, go_sem, r0, r1, r2]
    · exact Below.setCell (Below.setCell (Below.setCell g2 (Nat.le_refl _) _) (Nat.le_refl _) _) (Nat.le_refl _) _
end Go.Proofs.Ytoalnkhedebpbaa
