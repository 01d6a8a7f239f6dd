/- wattleref01.Check, wattleplay.Geom, Good, Pair; wattlekeep.Within: what they answer. wattleref01: Budget, Width, Capacity, fine, Parity, Disk, Of: what they answer at a geometry that may be. -/
import Derived.Test.YtoalnkhedebpbaaA

/-! wattleref01.Check, wattleplay.Geom, Good, Pair; wattlekeep.Within: what they answer. -/
namespace Go.Proofs.Ytoalnkhedebpbaa
open Go.RowKit

set_option maxRecDepth 100000 in
set_option maxHeartbeats 1000000 in
theorem rcheck_any (L D C : Int) (w : World) :
    Calls Try.prog 64 #[gv L D C] w fun e w' => e = .returned (.bool (goodG L D C)) ∧ Gr w w' := by
  go_enter Try.func64, Try.ntmps64
  go_wp2
  all_goals
    go_ret
    refine ⟨ret_bool ?_, Gr.alloc w _⟩
    first
      | (exfalso; simp at *; omega)
      | (have hL : L = 5 := by assumption
         subst hL; simp [goodG]; try simp_all; try omega)
      | (have hL : (L == 6) = true := by assumption
         have hL6 : L = 6 := by simpa using hL
         subst hL6; simp [goodG]; try simp_all; try omega)
      | (simp_all [goodG]; done)
      | (simp_all [goodG] <;> omega)

/-- Any number as one from 0 to n - 1. -/
def within (v n : Int) : Int := if n < 1 then 0 else if v.tmod n < 0 then v.tmod n + n else v.tmod n
theorem within_range (v : Int) {n : Int} (hn : 1 ≤ n) : 0 ≤ within v n ∧ within v n < n := by
  have h1 := Int.tmod_lt_of_pos v (show 0 < n by omega)
  have h2 : -n < v.tmod n := by
    have h3 : (-v).tmod n < n := Int.tmod_lt_of_pos (-v) (show 0 < n by omega)
    rw [Int.neg_tmod] at h3; omega
  unfold within
  rw [if_neg (by omega)]
  split <;> omega
theorem within_zero (v : Int) {n : Int} (hn : n < 1) : within v n = 0 := by unfold within; rw [if_pos hn]
set_option maxHeartbeats 400000 in
theorem within_any (v n : Int) (w : World) (hn : n ≤ 9223372036854775807) :
    Calls Try.prog 19 #[.int .i64 v, .int .i64 n] w fun e w' => e = .returned (.int .i64 (within v n)) ∧ w = w' := by
  by_cases h : n < 1
  · go_enter Try.func19, Try.ntmps19
    go_wp2
    go_ret
    exact ⟨ret_i64 (within_zero v h).symm, rfl⟩
  · have h1 : ¬ n = 0 := by omega
    have hlo : -n < v.tmod n := by
      have h3 : (-v).tmod n < n := Int.tmod_lt_of_pos (-v) (show 0 < n by omega)
      rw [Int.neg_tmod] at h3; omega
    go_enter Try.func19, Try.ntmps19
    go_wp2
    · have hs : v.tmod n < 0 := by assumption
      go_ret
      exact ⟨ret_i64 (by unfold within; rw [if_neg (show ¬ n < 1 by omega), if_pos hs]), rfl⟩
    · have hs : 0 ≤ v.tmod n := by assumption
      go_ret
      exact ⟨ret_i64 (by unfold within; rw [if_neg (show ¬ n < 1 by omega), if_neg (show ¬ v.tmod n < 0 by omega)]), rfl⟩

theorem within_pos (v n : Int) (w : World) (h1 : 1 ≤ n) (hn : n ≤ 9223372036854775807) :
    Calls Try.prog 19 #[.int .i64 v, .int .i64 n] w fun e w' => ∃ k, 0 ≤ k ∧ k < n ∧ within v n = k ∧ e = .returned (.int .i64 k) ∧ w = w' :=
  (within_any v n w hn).mono fun _ _ ⟨he, hw⟩ => ⟨_, (within_range v h1).1, (within_range v h1).2, rfl, he, hw⟩
end Go.Proofs.Ytoalnkhedebpbaa

/-! wattleref01: Budget, Width, Capacity, fine, Parity, Disk, Of: what they answer at a geometry that may be. -/
namespace Go.Proofs.Ytoalnkhedebpbaa
open Go.RowKit

theorem rcheck_good (L D C : Int) (w : World) (h : goodG L D C = true) :
    Calls Try.prog 64 #[gv L D C] w fun e w' => e = .returned (.bool true) ∧ Gr w w' :=
  (rcheck_any L D C w).mono fun _ _ ⟨he, hg⟩ => ⟨by rw [he, h], hg⟩
set_option maxRecDepth 100000 in
set_option maxHeartbeats 400000 in
theorem rbudget_good (L D C : Int) (w : World) (h : goodG L D C = true) :
    Calls Try.prog 83 #[gv L D C] w fun e w' => e = .returned (.int .i64 (L - 4)) ∧ Gr w w' := by
  obtain ⟨hL1, hL2, _⟩ := goodG_bds h
  have H := Lib.hid h; clear h
  go_enter Try.func83, Try.ntmps83
  go_wp2_with fail
  refine (rcheck_good L D C _ H.out).mono ?_
  rintro e w1 ⟨rfl, hg⟩
  obtain ⟨hc, hf⟩ := hg.cells
  go_wp2
  go_ret
  exact ⟨rfl, (Gr.alloc w _).trans hg⟩

set_option maxRecDepth 100000 in
set_option maxHeartbeats 400000 in
theorem rwidth_good (L D C : Int) (w : World) (h : goodG L D C = true) :
    Calls Try.prog 54 #[gv L D C] w fun e w' => e = .returned (.int .i64 (D - (L - 4))) ∧ Gr w w' := by
  obtain ⟨hL1, hL2, hD1, hD2, _⟩ := goodG_bds h
  have H := Lib.hid h; clear h
  go_enter Try.func54, Try.ntmps54
  go_wp2_with fail
  refine (rcheck_good L D C _ H.out).mono ?_
  rintro e w1 ⟨rfl, hg⟩
  have g1 : Gr w w1 := (Gr.alloc w _).trans hg
  obtain ⟨hc, hf⟩ := hg.cells
  go_wp2
  obtain ⟨c0, c1, c2⟩ := box3 (hg.get (heap_alloc_new w _))
  clear hc hf
  have e1 : IntKind.i64.wrap (D - (L - 4)) = D - (L - 4) := IntWalk.i64_in _ (by omega)
  go_region_held3 (fun wx : World => wx.cell? ⟨w.heap.size, 0, none⟩ = some (.int .i64 L) ∧ wx.cell? ⟨w.heap.size, 1, none⟩ = some (.int .i64 D) ∧ wx.cell? ⟨w.heap.size, 2, none⟩ = some (.int .i64 C)) (first | exact ⟨c0, c1, c2⟩ | exact ⟨hg2.cell c0, hg2.cell c1, hg2.cell c2⟩) (first | (go_at_call 83; refine (rbudget_good L D C _ H.out).mono ?_; rintro e w2 ⟨rfl, hg2⟩))
  go_wp2
  go_ret
  exact ⟨rfl, (g1.trans (Gr.drew _)).trans hg2⟩

set_option maxRecDepth 100000 in
set_option maxHeartbeats 400000 in
theorem rcapacity_good (L D C : Int) (w : World) (h : goodG L D C = true) :
    Calls Try.prog 37 #[gv L D C] w fun e w' => e = .returned (.int .i64 ((D - (L - 4)) * 16)) ∧ Gr w w' := by
  obtain ⟨hL1, hL2, hD1, hD2, _⟩ := goodG_bds h
  have H := Lib.hid h; clear h
  go_enter Try.func37, Try.ntmps37
  go_wp2_with fail
  refine (rwidth_good L D C _ H.out).mono ?_
  rintro e w1 ⟨rfl, hg⟩
  go_wp2
  go_ret
  exact ⟨rfl, (Gr.alloc w _).trans hg⟩

set_option maxRecDepth 100000 in
set_option maxHeartbeats 400000 in
theorem rin_good (L D C r : Int) (w : World) (h : goodG L D C = true) (hr : 0 ≤ r) (hr' : r < 16) :
    Calls Try.prog 79 #[gv L D C, .int .i64 r] w fun e w' => e = .returned (.bool true) ∧ Gr w w' := by
  have H := Lib.hid h; clear h
  have d0 : decide (0 ≤ r) = true := by simpa using hr
  have d1 : decide (r < 16) = true := by simpa using hr'
  go_enter Try.func79, Try.ntmps79
  go_wp2_with fail
  refine (rcheck_good L D C _ H.out).mono ?_
  rintro e w1 ⟨rfl, hg⟩
  go_wp2
  go_ret
  exact ⟨rfl, (Gr.alloc w _).trans hg⟩

set_option maxRecDepth 100000 in
set_option maxHeartbeats 400000 in
theorem rparity_good (L D C r : Int) (w : World) (h : goodG L D C = true) (hr : 0 ≤ r) (hr' : r < 16) :
    Calls Try.prog 43 #[gv L D C, .int .i64 r] w fun e w' => e = .returned (.tuple #[.int .i64 (parP D C r), .int .i64 (parQ L D C r)]) ∧ Gr w w' := by
  obtain ⟨hL1, hL2, hD1, hD2, hC1, hC2, _⟩ := goodG_bds h
  have H := Lib.hid h; clear h
  have q0 : 0 ≤ r / C := Int.ediv_nonneg hr (by omega)
  have q1 : r / C ≤ r := Int.ediv_le_self _ hr
  have m0 := Int.emod_nonneg (r / C) (show D ≠ 0 by omega)
  have m1 := Int.emod_lt_of_pos (r / C) (show 0 < D by omega)
  have nC : ¬ C = 0 := by omega
  have nD : ¬ D = 0 := by omega
  have f1 : IntKind.i64.wrap (D - 1) = D - 1 := wr (by omega) (by omega)
  have f2 : IntKind.i64.wrap (r.tdiv C) = r / C := wrDiv hr (by omega) (by omega)
  have f3 : (r / C).tmod D = r / C % D := Int.tmod_eq_emod_of_nonneg q0
  have f4 : (D - 1 - r / C % D + 1).tmod D = (D - 1 - r / C % D + 1) % D := Int.tmod_eq_emod_of_nonneg (by omega)
  have e1 : IntKind.i64.wrap (D - 1 - r / C % D) = D - 1 - r / C % D := IntWalk.i64_in _ (by omega)
  have e2 : IntKind.i64.wrap (D - 1 - r / C % D + 1) = D - 1 - r / C % D + 1 := IntWalk.i64_in _ (by omega)
  have z0 : 0 ≤ D - 1 - r / C % D + 1 := by omega
  by_cases hL : L = 5
  · subst hL
    go_enter Try.func43, Try.ntmps43
    go_wp2_with fail
    refine (rin_good 5 D C r _ H.out hr hr').mono ?_
    rintro e w1 ⟨rfl, hg⟩
    have g1 : Gr w w1 := (Gr.alloc w _).trans hg
    obtain ⟨c0, c1, c2⟩ := box3 (hg.get (heap_alloc_new w _))
    go_wp2
    go_region_held3 (fun wx : World => wx.cell? ⟨w.heap.size, 0, none⟩ = some (.int .i64 5) ∧ wx.cell? ⟨w.heap.size, 1, none⟩ = some (.int .i64 D) ∧ wx.cell? ⟨w.heap.size, 2, none⟩ = some (.int .i64 C)) (exact ⟨c0, c1, c2⟩) (first | fail)
    go_wp2
    go_ret2
    exact ⟨rfl, g1.trans (Gr.drew _)⟩
  · have hL6 : L = 6 := by omega
    clear hL
    subst hL6
    go_enter Try.func43, Try.ntmps43
    go_wp2_with fail
    refine (rin_good 6 D C r _ H.out hr hr').mono ?_
    rintro e w1 ⟨rfl, hg⟩
    have g1 : Gr w w1 := (Gr.alloc w _).trans hg
    obtain ⟨c0, c1, c2⟩ := box3 (hg.get (heap_alloc_new w _))
    go_wp2
    go_region_held3 (fun wx : World => wx.cell? ⟨w.heap.size, 0, none⟩ = some (.int .i64 6) ∧ wx.cell? ⟨w.heap.size, 1, none⟩ = some (.int .i64 D) ∧ wx.cell? ⟨w.heap.size, 2, none⟩ = some (.int .i64 C)) (exact ⟨c0, c1, c2⟩) (first | fail)
    go_wp2
    go_region_held3 (fun wx : World => wx.cell? ⟨w.heap.size, 0, none⟩ = some (.int .i64 6) ∧ wx.cell? ⟨w.heap.size, 1, none⟩ = some (.int .i64 D) ∧ wx.cell? ⟨w.heap.size, 2, none⟩ = some (.int .i64 C)) (exact ⟨c0, c1, c2⟩) (first | fail)
    go_wp2
    go_ret2
    exact ⟨rfl, (g1.trans (Gr.drew _)).trans (Gr.drew _)⟩

set_option maxRecDepth 100000 in
set_option maxHeartbeats 400000 in
theorem rdisk_good (L D C r k : Int) (w : World) (h : goodG L D C = true) (hr : 0 ≤ r) (hr' : r < 16) (hk : 0 ≤ k) (hk' : k < D - (L - 4)) :
    Calls Try.prog 30 #[gv L D C, .int .i64 r, .int .i64 k] w fun e w' => e = .returned (.int .i64 (dskOf L D C r k)) ∧ Gr w w' := by
  obtain ⟨hL1, hL2, hD1, hD2, hC1, hC2, _⟩ := goodG_bds h
  have H := Lib.hid h; clear h
  obtain ⟨p0, p1⟩ := parP_range (D := D) (C := C) (r := r) (by omega)
  have nD : ¬ D = 0 := by omega
  have d0 : decide (k < 0) = false := by simp; omega
  have d1 : decide (D - (L - 4) ≤ k) = false := by simp; omega
  have e1 : IntKind.i64.wrap (parP D C r + (L - 4)) = parP D C r + (L - 4) := IntWalk.i64_in _ (by omega)
  have e2 : IntKind.i64.wrap (parP D C r + (L - 4) + k) = parP D C r + (L - 4) + k := IntWalk.i64_in _ (by omega)
  have z0 : 0 ≤ parP D C r + (L - 4) + k := by omega
  have f4 : (parP D C r + (L - 4) + k).tmod D = (parP D C r + (L - 4) + k) % D := Int.tmod_eq_emod_of_nonneg z0
  go_enter Try.func30, Try.ntmps30
  go_wp2_with fail
  refine (rin_good L D C r _ H.out hr hr').mono ?_
  rintro e w1 ⟨rfl, hg⟩
  have g1 : Gr w w1 := (Gr.alloc w _).trans hg
  obtain ⟨c0, c1, c2⟩ := box3 (hg.get (heap_alloc_new w _))
  clear hg
  go_wp2_with fail
  refine (rwidth_good L D C _ H.out).mono ?_
  rintro e w2 ⟨rfl, hg2⟩
  replace g1 := g1.trans hg2
  replace c0 := hg2.cell c0
  replace c1 := hg2.cell c1
  replace c2 := hg2.cell c2
  clear hg2
  go_wp2_with fail
  refine (rparity_good L D C r _ H.out hr hr').mono ?_
  rintro e w3 ⟨rfl, hg3⟩
  replace g1 := g1.trans hg3
  replace c0 := hg3.cell c0
  replace c1 := hg3.cell c1
  replace c2 := hg3.cell c2
  clear hg3
  go_wp2
  go_region_held3 (fun wx : World => wx.cell? ⟨w.heap.size, 0, none⟩ = some (.int .i64 L) ∧ wx.cell? ⟨w.heap.size, 1, none⟩ = some (.int .i64 D) ∧ wx.cell? ⟨w.heap.size, 2, none⟩ = some (.int .i64 C)) (first | exact ⟨c0, c1, c2⟩ | exact ⟨hg4.cell c0, hg4.cell c1, hg4.cell c2⟩) (first | (go_at_call 83; refine (rbudget_good L D C _ H.out).mono ?_; rintro e w4 ⟨rfl, hg4⟩))
  go_wp2
  go_ret
  exact ⟨rfl, (g1.trans (Gr.drew _)).trans hg4⟩

set_option maxRecDepth 100000 in
set_option maxHeartbeats 800000 in
theorem rof_good (L D C n : Int) (w : World) (h : goodG L D C = true) (hn : 0 ≤ n) (hn' : n < (D - (L - 4)) * 16) :
    Calls Try.prog 38 #[gv L D C, .int .i64 n] w fun e w' => e = .returned (.tuple #[.int .i64 (dskOf L D C (rowOf L D C n) (colOf L D C n)), .int .i64 (rowOf L D C n), .bool true]) ∧ Gr w w' := by
  obtain ⟨hL1, hL2, hD1, hD2, hC1, hC2, hw⟩ := goodG_bds h
  obtain ⟨b1, b2, b3, b4, b5, b6, b7, b8, b9, r0, r1, k0, k1⟩ := of_bds h hn hn'
  have H := Lib.hid h; clear h
  have d0 : decide (n < 0) = false := by simp; omega
  have d1 : decide ((D - (L - 4)) * 16 ≤ n) = false := by simp; omega
  have nC : ¬ C = 0 := by omega
  have nW : ¬ D - (L - 4) = 0 := by omega
  have f1 : IntKind.i64.wrap ((n / C).tdiv (D - (L - 4))) = n / C / (D - (L - 4)) := wrDiv b1 (by omega) (by omega)
  have f2 : n.tmod C = n % C := Int.tmod_eq_emod_of_nonneg hn
  have f3 : IntKind.i64.wrap (n / C / (D - (L - 4)) * C) = n / C / (D - (L - 4)) * C := wr (by omega) (by omega)
  have f4 : IntKind.i64.wrap (n / C / (D - (L - 4)) * C + n % C) = rowOf L D C n := wr (by omega) (by omega)
  have f5 : (n / C).tmod (D - (L - 4)) = colOf L D C n := Int.tmod_eq_emod_of_nonneg b1
  go_enter Try.func38, Try.ntmps38
  go_wp2_with fail
  refine (rcheck_good L D C _ H.out).mono ?_
  rintro e w0 ⟨rfl, hg0⟩
  have g0 : Gr w w0 := (Gr.alloc w _).trans hg0
  obtain ⟨c0, c1, c2⟩ := box3 (hg0.get (heap_alloc_new w _))
  clear hg0
  go_wp2_with fail
  refine (rcapacity_good L D C _ H.out).mono ?_
  rintro e w1 ⟨rfl, hg⟩
  have g1 : Gr w w1 := g0.trans hg
  replace c0 := hg.cell c0
  replace c1 := hg.cell c1
  replace c2 := hg.cell c2
  clear hg
  go_wp2
  go_region_held3 (fun wx : World => wx.cell? ⟨w.heap.size, 0, none⟩ = some (.int .i64 L) ∧ wx.cell? ⟨w.heap.size, 1, none⟩ = some (.int .i64 D) ∧ wx.cell? ⟨w.heap.size, 2, none⟩ = some (.int .i64 C)) (first | exact ⟨c0, c1, c2⟩ | exact ⟨hg4.cell c0, hg4.cell c1, hg4.cell c2⟩) (first | (go_at_call 54; refine (rwidth_good L D C _ H.out).mono ?_; rintro e w4 ⟨rfl, hg4⟩))
  replace g1 := (g1.trans (Gr.drew _)).trans hg4
  replace c0 := hg4.cell c0
  replace c1 := hg4.cell c1
  replace c2 := hg4.cell c2
  clear hg4
  go_wp2
  go_region_held3 (fun wx : World => wx.cell? ⟨w.heap.size, 0, none⟩ = some (.int .i64 L) ∧ wx.cell? ⟨w.heap.size, 1, none⟩ = some (.int .i64 D) ∧ wx.cell? ⟨w.heap.size, 2, none⟩ = some (.int .i64 C)) (first | exact ⟨c0, c1, c2⟩ | exact ⟨hg5.cell c0, hg5.cell c1, hg5.cell c2⟩ | exact ⟨hg6.cell (hg5.cell c0), hg6.cell (hg5.cell c1), hg6.cell (hg5.cell c2)⟩) (first | (go_at_call 54; refine (rwidth_good L D C _ H.out).mono ?_; rintro e w5 ⟨rfl, hg5⟩) | (go_at_call 30; refine (rdisk_good L D C _ _ _ H.out r0 r1 k0 k1).mono ?_; rintro e w6 ⟨rfl, hg6⟩))
  go_wp2
  go_ret3
  exact ⟨rfl, ((g1.trans (Gr.drew _)).trans hg5).trans hg6⟩

set_option maxRecDepth 100000 in
set_option maxHeartbeats 400000 in
theorem rof_low (L D C n : Int) (w : World) (h : goodG L D C = true) (hn : n < 0) :
    Calls Try.prog 38 #[gv L D C, .int .i64 n] w fun e w' => e = .returned (.tuple #[.int .i64 0, .int .i64 0, .bool false]) ∧ Gr w w' := by
  have H := Lib.hid h; clear h
  have d0 : decide (n < 0) = true := by simpa using hn
  go_enter Try.func38, Try.ntmps38
  go_wp2_with fail
  refine (rcheck_good L D C _ H.out).mono ?_
  rintro e w1 ⟨rfl, hg⟩
  go_wp2
  go_ret3
  exact ⟨rfl, (Gr.alloc w _).trans hg⟩

set_option maxRecDepth 100000 in
set_option maxHeartbeats 400000 in
theorem rof_high (L D C n : Int) (w : World) (h : goodG L D C = true) (hn : (D - (L - 4)) * 16 ≤ n) :
    Calls Try.prog 38 #[gv L D C, .int .i64 n] w fun e w' => e = .returned (.tuple #[.int .i64 0, .int .i64 0, .bool false]) ∧ Gr w w' := by
  obtain ⟨hL1, hL2, hD1, hD2, hC1, hC2, hw⟩ := goodG_bds h
  have H := Lib.hid h; clear h
  have d0 : decide (n < 0) = false := by simp; omega
  have d1 : decide ((D - (L - 4)) * 16 ≤ n) = true := by simpa using hn
  go_enter Try.func38, Try.ntmps38
  go_wp2_with fail
  refine (rcheck_good L D C _ H.out).mono ?_
  rintro e w1 ⟨rfl, hg⟩
  obtain ⟨c0, c1, c2⟩ := box3 (hg.get (heap_alloc_new w _))
  go_wp2_with fail
  refine (rcapacity_good L D C _ H.out).mono ?_
  rintro e w2 ⟨rfl, hg2⟩
  go_wp2
  go_ret3
  exact ⟨rfl, ((Gr.alloc w _).trans hg).trans hg2⟩

end Go.Proofs.Ytoalnkhedebpbaa
