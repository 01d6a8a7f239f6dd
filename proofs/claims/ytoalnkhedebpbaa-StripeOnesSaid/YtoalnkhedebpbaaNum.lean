/- Numbers of sectors, plainly. -/
import Derived.Test.YtoalnkhedebpbaaGeo2
namespace Go.Proofs.Ytoalnkhedebpbaa

theorem div_of {x y c : Int} (hc : 0 < c) (hy : 0 ≤ y) (hy' : y < c) : (x * c + y) / c = x := by
  rw [Int.add_comm, Int.add_mul_ediv_right _ _ (by omega), Int.ediv_eq_zero_of_lt hy hy']; omega
theorem mod_of {x y c : Int} (hy : 0 ≤ y) (hy' : y < c) : (x * c + y) % c = y := by
  rw [Int.add_comm, Int.add_mul_emod_self_right, Int.emod_eq_of_lt hy hy']
theorem row_num {L D C r k : Int} (h : goodG L D C = true) (hk : 0 ≤ k) (hk' : k < D - (L - 4)) : rowOf L D C (numOf L D C r k) = r ∧ colOf L D C (numOf L D C r k) = k := by
  obtain ⟨hL1, hL2, hD1, hD2, hC1, hC2, hw⟩ := goodG_bds h
  have m0 := Int.emod_nonneg r (show C ≠ 0 by omega)
  have m1 := Int.emod_lt_of_pos r (show 0 < C by omega)
  unfold rowOf colOf numOf
  rw [div_of (by omega) m0 m1, mod_of m0 m1, div_of (by omega) hk hk', mod_of hk hk']
  refine ⟨?_, rfl⟩
  have := Int.mul_ediv_add_emod r C
  rw [Int.mul_comm] at this
  exact this
theorem num_row {L D C n : Int} : numOf L D C (rowOf L D C n) (colOf L D C n) = n ∨ ¬ goodG L D C = true := by
  by_cases h : goodG L D C = true
  · left
    obtain ⟨hL1, hL2, hD1, hD2, hC1, hC2, hw⟩ := goodG_bds h
    have m0 := Int.emod_nonneg n (show C ≠ 0 by omega)
    have m1 := Int.emod_lt_of_pos n (show 0 < C by omega)
    unfold rowOf colOf numOf
    rw [div_of (by omega) m0 m1, mod_of m0 m1]
    have h1 := Int.mul_ediv_add_emod (n / C) (D - (L - 4))
    rw [Int.mul_comm] at h1
    rw [h1]
    have h2 := Int.mul_ediv_add_emod n C
    rw [Int.mul_comm] at h2
    exact h2
  · exact .inr h
theorem num_inj {L D C r k k' : Int} (hC : 1 ≤ C) (h : numOf L D C r k = numOf L D C r k') : k = k' := by
  unfold numOf at h
  have : (r / C * (D - (L - 4)) + k) * C = (r / C * (D - (L - 4)) + k') * C := by omega
  have := Int.eq_of_mul_eq_mul_right (by omega) this
  omega
theorem num_lt {L D C r k : Int} (h : goodG L D C = true) (hr : 0 ≤ r) (hr' : r < 16) (hk : 0 ≤ k) (hk' : k < D - (L - 4)) : 0 ≤ numOf L D C r k ∧ numOf L D C r k < (D - (L - 4)) * 16 := by
  obtain ⟨hL1, hL2, hD1, hD2, hC1, hC2, hw⟩ := goodG_bds h
  have hC := (goodG_cases h).2.2
  unfold numOf
  generalize D - (L - 4) = W at *
  have m0 := Int.emod_nonneg r (show C ≠ 0 by omega)
  have m1 := Int.emod_lt_of_pos r (show 0 < C by omega)
  have q0 : 0 ≤ r / C := Int.ediv_nonneg hr (by omega)
  have hq : C * (r / C) + r % C = r := Int.mul_ediv_add_emod r C
  have a0 : 0 ≤ r / C * W := Int.mul_nonneg q0 (by omega)
  have b0 : 0 ≤ (r / C * W + k) * C := Int.mul_nonneg (by omega) (by omega)
  refine ⟨by omega, ?_⟩
  have hq15 : r / C * W ≤ (16 / C - 1) * W := by
    refine Int.mul_le_mul_of_nonneg_right ?_ (by omega)
    rcases hC with rfl | rfl | rfl <;> omega
  rcases hC with rfl | rfl | rfl <;> omega
end Go.Proofs.Ytoalnkhedebpbaa
