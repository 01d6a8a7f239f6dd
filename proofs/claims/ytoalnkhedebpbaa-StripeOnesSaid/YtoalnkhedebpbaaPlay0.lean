/- wattleplay.Geom: some geometry. -/
import Derived.Test.YtoalnkhedebpbaaRef0
namespace Go.Proofs.Ytoalnkhedebpbaa
open Go.RowKit
set_option maxRecDepth 100000 in
set_option maxHeartbeats 2000000 in
theorem geom_any (n : Int) (w : World) (hn : -9223372036854775808 ≤ n) (hn' : n ≤ 9223372036854775807) :
    Calls Try.prog 71 #[.int .i64 n] w fun e w' => ∃ L D C, e = .returned (gv L D C) ∧ Gr w w' := by
  go_enter Try.func71, Try.ntmps71
  go_wp2_with fail
  refine (within_pos _ _ _ (by omega) (by omega)).mono ?_
  rintro e w1 ⟨k1, k1a, k1b, -, rfl, rfl⟩
  go_wp2_with fail
  refine (within_pos _ _ _ (by omega) (by omega)).mono ?_
  rintro e w1 ⟨k2, k2a, k2b, -, rfl, rfl⟩
  have hk : k2 = 0 ∨ k2 = 1 ∨ k2 = 2 := by omega
  rcases hk with rfl | rfl | rfl
  all_goals go_wp2_with (go_at_call 19; refine (within_pos _ _ _ (by omega) (by omega)).mono ?_; rintro e w1 ⟨k3, k3a, k3b, -, rfl, rfl⟩)
  all_goals
    refine bodyPost_ret (results_cell_row rfl _ _ w.heap.size 23 _ (0, 0) _ rfl (heap_alloc_lt (heap_alloc_lt (heap_alloc_new w _) _) _) Try.underlying23 rfl (by kernel_rfl)) rfl ⟨_, _, _, rfl, ((Gr.alloc w _).trans (Gr.alloc _ _)).trans (Gr.alloc _ _)⟩
end Go.Proofs.Ytoalnkhedebpbaa
