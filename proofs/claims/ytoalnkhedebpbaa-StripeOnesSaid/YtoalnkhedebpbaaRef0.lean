/- wattleref01.Check, wattleplay.Geom, Good, Pair; wattlekeep.Within: what they answer. -/
import Derived.Test.YtoalnkhedebpbaaGeo2
namespace Go.Proofs.Ytoalnkhedebpbaa
open Go.RowKit

set_option maxRecDepth 100000 in
set_option maxHeartbeats 1000000 in
theorem rcheck_any (L D C : Int) (w : World) :
    Calls Try.prog 64 #[gv L D C] w fun e w' => e = .returned (.bool (goodG L D C)) ∧ Gr w w' := by
  go_enter Try.func64, Try.ntmps64
  go_wp2
  all_goals
    go_ret
    refine ⟨ret_bool ?_, Gr.alloc w _⟩
    first
      | (exfalso; simp at *; omega)
      | (have hL : L = 5 := by assumption
         subst hL; simp [goodG]; try simp_all; try omega)
      | (have hL : (L == 6) = true := by assumption
         have hL6 : L = 6 := by simpa using hL
         subst hL6; simp [goodG]; try simp_all; try omega)
      | (simp_all [goodG]; done)
      | (simp_all [goodG] <;> omega)

/-- Any number as one from 0 to n - 1. -/
def within (v n : Int) : Int := if n < 1 then 0 else if v.tmod n < 0 then v.tmod n + n else v.tmod n
theorem within_range (v : Int) {n : Int} (hn : 1 ≤ n) : 0 ≤ within v n ∧ within v n < n := by
  have h1 := Int.tmod_lt_of_pos v (show 0 < n by omega)
  have h2 : -n < v.tmod n := by
    have h3 : (-v).tmod n < n := Int.tmod_lt_of_pos (-v) (show 0 < n by omega)
    rw [Int.neg_tmod] at h3; omega
  unfold within
  rw [if_neg (by omega)]
  split <;> omega
theorem within_zero (v : Int) {n : Int} (hn : n < 1) : within v n = 0 := by unfold within; rw [if_pos hn]
set_option maxHeartbeats 400000 in
theorem within_any (v n : Int) (w : World) (hn : n ≤ 9223372036854775807) :
    Calls Try.prog 19 #[.int .i64 v, .int .i64 n] w fun e w' => e = .returned (.int .i64 (within v n)) ∧ w = w' := by
  by_cases h : n < 1
  · go_enter Try.func19, Try.ntmps19
    go_wp2
    go_ret
    exact ⟨ret_i64 (within_zero v h).symm, rfl⟩
  · have h1 : ¬ n = 0 := by omega
    have hlo : -n < v.tmod n := by
      have h3 : (-v).tmod n < n := Int.tmod_lt_of_pos (-v) (show 0 < n by omega)
      rw [Int.neg_tmod] at h3; omega
    go_enter Try.func19, Try.ntmps19
    go_wp2
    · have hs : v.tmod n < 0 := by assumption
      go_ret
      exact ⟨ret_i64 (by unfold within; rw [if_neg (show ¬ n < 1 by omega), if_pos hs]), rfl⟩
    · have hs : 0 ≤ v.tmod n := by assumption
      go_ret
      exact ⟨ret_i64 (by unfold within; rw [if_neg (show ¬ n < 1 by omega), if_neg (show ¬ v.tmod n < 0 by omega)]), rfl⟩

theorem within_pos (v n : Int) (w : World) (h1 : 1 ≤ n) (hn : n ≤ 9223372036854775807) :
    Calls Try.prog 19 #[.int .i64 v, .int .i64 n] w fun e w' => ∃ k, 0 ≤ k ∧ k < n ∧ within v n = k ∧ e = .returned (.int .i64 k) ∧ w = w' :=
  (within_any v n w hn).mono fun _ _ ⟨he, hw⟩ => ⟨_, (within_range v h1).1, (within_range v h1).2, rfl, he, hw⟩
end Go.Proofs.Ytoalnkhedebpbaa
