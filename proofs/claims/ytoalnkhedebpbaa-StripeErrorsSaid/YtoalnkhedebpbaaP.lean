/- wattleplay.Geom: some geometry. wattleplay.Good: a geometry that may be. -/
import Derived.Test.YtoalnkhedebpbaaE

/-! wattleplay.Geom: some geometry. -/
namespace Go.Proofs.Ytoalnkhedebpbaa
open Go.RowKit
set_option maxRecDepth 100000 in
set_option maxHeartbeats 2000000 in
theorem geom_any (n : Int) (w : World) (hn : -9223372036854775808 ≤ n) (hn' : n ≤ 9223372036854775807) :
    Calls Try.prog 71 #[.int .i64 n] w fun e w' => ∃ L D C, e = .returned (gv L D C) ∧ Gr w w' := by
  go_enter Try.func71, Try.ntmps71
  go_wp2_with fail
  refine (within_pos _ _ _ (by omega) (by omega)).mono ?_
  rintro e w1 ⟨k1, k1a, k1b, -, rfl, rfl⟩
  go_wp2_with fail
  refine (within_pos _ _ _ (by omega) (by omega)).mono ?_
  rintro e w1 ⟨k2, k2a, k2b, -, rfl, rfl⟩
  have hk : k2 = 0 ∨ k2 = 1 ∨ k2 = 2 := by omega
  rcases hk with rfl | rfl | rfl
  all_goals go_wp2_with (go_at_call 19; refine (within_pos _ _ _ (by omega) (by omega)).mono ?_; rintro e w1 ⟨k3, k3a, k3b, -, rfl, rfl⟩)
  all_goals
    refine bodyPost_ret (results_cell_row rfl _ _ w.heap.size 23 _ (0, 0) _ rfl (heap_alloc_lt (heap_alloc_lt (heap_alloc_new w _) _) _) Try.underlying23 rfl (by kernel_rfl)) rfl ⟨_, _, _, rfl, ((Gr.alloc w _).trans (Gr.alloc _ _)).trans (Gr.alloc _ _)⟩
end Go.Proofs.Ytoalnkhedebpbaa

/-! wattleplay.Good: a geometry that may be. -/
namespace Go.Proofs.Ytoalnkhedebpbaa
open Go.RowKit

theorem goodG_std : goodG 5 3 1 = true := by decide
set_option maxRecDepth 100000 in
set_option maxHeartbeats 1000000 in
theorem good_any (n : Int) (w : World) (hn : -9223372036854775808 ≤ n) (hn' : n ≤ 9223372036854775807) :
    Calls Try.prog 17 #[.int .i64 n] w fun e w' => ∃ L D C, goodG L D C = true ∧ e = .returned (gv L D C) ∧ Gr w w' := by
  go_enter Try.func17, Try.ntmps17
  go_wp2_with fail
  refine (geom_any n _ hn hn').mono ?_
  rintro e w1 ⟨L, D, C, rfl, hg⟩
  have g1 : Gr w w1 := (Gr.alloc w _).trans hg
  have hR : w1.heap[w.heap.size]? = some (.cells #[.int .i64 0, .int .i64 0, .int .i64 0] 23) := hg.get (heap_alloc_new w _)
  have hsz : w.heap.size < w1.heap.size := heap_lt hR
  have HR := Lib.hid hR; clear hR hg
  go_wp2_with fail
  refine (rcheck_any L D C _).mono ?_
  rintro e w2 ⟨rfl, hg2⟩
  have hR2 := hg2.get (heap_alloc_lt HR.out _)
  have hG := hg2.get (heap_alloc_new w1 _)
  have hs2 := heap_lt hG
  obtain ⟨r0, r1, r2⟩ := box3 hR2
  obtain ⟨c0, c1, c2⟩ := box3 hG
  have f0 : ∀ j, w2.frozen? ⟨w.heap.size, j, none⟩ = false := fun j => frozen_of_row _ _ _ _ _ hR2
  have g2 : Gr w w2 := (g1.trans (Gr.alloc w1 _)).trans hg2
  have HR2 := Lib.hid hR2; clear hR2
  have HG := Lib.hid hG; clear hG hg2
  by_cases hb : goodG L D C = true
  · have HB := Lib.hid hb
    rw [hb]; clear hb
    go_wp2
    refine bodyPost_ret (v := gv L D C) ?_ rfl ⟨L, D, C, HB.out, rfl, ?_⟩
    · simp [results, Try.results17, go_sem, r0, r1, r2]
    · exact Below.setCell (Below.setCell (Below.setCell g2 (Nat.le_refl _) _) (Nat.le_refl _) _) (Nat.le_refl _) _
  · have hbf : goodG L D C = false := by simpa using hb
    rw [hbf]; clear hb hbf
    go_wp2
    refine bodyPost_ret (v := gv 5 3 1) ?_ rfl ⟨5, 3, 1, goodG_std, rfl, ?_⟩
    · simp [results, Try.results17, go_sem, r0, r1, r2]
    · exact Below.setCell (Below.setCell (Below.setCell g2 (Nat.le_refl _) _) (Nat.le_refl _) _) (Nat.le_refl _) _
end Go.Proofs.Ytoalnkhedebpbaa
