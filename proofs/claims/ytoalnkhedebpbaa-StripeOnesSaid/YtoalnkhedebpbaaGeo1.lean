/- geom.Budget, Width, Capacity; place.in, Parity, Disk, number, Of: what they answer at a geometry that may be. -/
import Derived.Test.YtoalnkhedebpbaaGeo0
namespace Go.Proofs.Ytoalnkhedebpbaa
open Go.RowKit

theorem box3 {w : World} {b : Nat} {x y z : Value} {T : TypeId} {fr : Nat × Nat} (h : w.heap[b]? = some (.cells #[x, y, z] T fr)) :
    w.cell? ⟨b, 0, none⟩ = some x ∧ w.cell? ⟨b, 1, none⟩ = some y ∧ w.cell? ⟨b, 2, none⟩ = some z := by
  simp [cell_of_row w b _ _ _ _ h]
theorem wr {x : Int} (h : -9223372036854775808 ≤ x) (h' : x ≤ 9223372036854775807) : IntKind.i64.wrap x = x := IntWalk.i64_in _ (by omega)
theorem wrDiv {a b : Int} (h : 0 ≤ a) (h' : a ≤ 9223372036854775807) (hb : 0 ≤ b) : IntKind.i64.wrap (a.tdiv b) = a / b := by
  rw [Int.tdiv_eq_ediv_of_nonneg h]
  have h0 : 0 ≤ a / b := Int.ediv_nonneg h hb
  have h1 : a / b ≤ a := Int.ediv_le_self _ h
  exact wr (by omega) (by omega)
theorem goodG_bds {L D C : Int} (h : goodG L D C = true) : 5 ≤ L ∧ L ≤ 6 ∧ 3 ≤ D ∧ D ≤ 8 ∧ 1 ≤ C ∧ C ≤ 4 ∧ 2 ≤ D - (L - 4) := by
  have := goodG_cases h; omega

set_option maxRecDepth 100000 in
set_option maxHeartbeats 400000 in
theorem budget_good (L D C : Int) (w : World) (h : goodG L D C = true) :
    Calls Try.prog 107 #[gv L D C] w fun e w' => e = .returned (.int .i64 (L - 4)) ∧ Gr w w' := by
  obtain ⟨hL1, hL2, _⟩ := goodG_bds h
  have H := Lib.hid h; clear h
  go_enter Try.func107, Try.ntmps107
  go_wp2_with fail
  refine (check_good L D C _ H.out).mono ?_
  rintro e w1 ⟨rfl, hg⟩
  obtain ⟨hc, hf⟩ := hg.cells
  go_wp2
  go_ret
  exact ⟨rfl, (Gr.alloc w _).trans hg⟩

set_option maxRecDepth 100000 in
set_option maxHeartbeats 400000 in
theorem width_good (L D C : Int) (w : World) (h : goodG L D C = true) :
    Calls Try.prog 74 #[gv L D C] w fun e w' => e = .returned (.int .i64 (D - (L - 4))) ∧ Gr w w' := by
  obtain ⟨hL1, hL2, hD1, hD2, _⟩ := goodG_bds h
  have H := Lib.hid h; clear h
  go_enter Try.func74, Try.ntmps74
  go_wp2_with fail
  refine (check_good L D C _ H.out).mono ?_
  rintro e w1 ⟨rfl, hg⟩
  have g1 : Gr w w1 := (Gr.alloc w _).trans hg
  obtain ⟨hc, hf⟩ := hg.cells
  go_wp2
  obtain ⟨c0, c1, c2⟩ := box3 (hg.get (heap_alloc_new w _))
  clear hc hf
  have e1 : IntKind.i64.wrap (D - (L - 4)) = D - (L - 4) := IntWalk.i64_in _ (by omega)
  go_region_held3 (fun wx : World => wx.cell? ⟨w.heap.size, 0, none⟩ = some (.int .i64 L) ∧ wx.cell? ⟨w.heap.size, 1, none⟩ = some (.int .i64 D) ∧ wx.cell? ⟨w.heap.size, 2, none⟩ = some (.int .i64 C)) (first | exact ⟨c0, c1, c2⟩ | exact ⟨hg2.cell c0, hg2.cell c1, hg2.cell c2⟩) (first | (go_at_call 107; refine (budget_good L D C _ H.out).mono ?_; rintro e w2 ⟨rfl, hg2⟩))
  go_wp2
  go_ret
  exact ⟨rfl, (g1.trans (Gr.drew _)).trans hg2⟩

set_option maxRecDepth 100000 in
set_option maxHeartbeats 400000 in
theorem capacity_good (L D C : Int) (w : World) (h : goodG L D C = true) :
    Calls Try.prog 73 #[gv L D C] w fun e w' => e = .returned (.int .i64 ((D - (L - 4)) * 16)) ∧ Gr w w' := by
  obtain ⟨hL1, hL2, hD1, hD2, _⟩ := goodG_bds h
  have H := Lib.hid h; clear h
  go_enter Try.func73, Try.ntmps73
  go_wp2_with fail
  refine (width_good L D C _ H.out).mono ?_
  rintro e w1 ⟨rfl, hg⟩
  go_wp2
  go_ret
  exact ⟨rfl, (Gr.alloc w _).trans hg⟩

set_option maxRecDepth 100000 in
set_option maxHeartbeats 400000 in
theorem in_good (L D C r : Int) (w : World) (h : goodG L D C = true) (hr : 0 ≤ r) (hr' : r < 16) :
    Calls Try.prog 72 #[gv L D C, .int .i64 r] w fun e w' => e = .returned (.bool true) ∧ Gr w w' := by
  have H := Lib.hid h; clear h
  have d0 : decide (0 ≤ r) = true := by simpa using hr
  have d1 : decide (r < 16) = true := by simpa using hr'
  go_enter Try.func72, Try.ntmps72
  go_wp2_with fail
  refine (check_good L D C _ H.out).mono ?_
  rintro e w1 ⟨rfl, hg⟩
  go_wp2
  go_ret
  exact ⟨rfl, (Gr.alloc w _).trans hg⟩

/-- The disk of P. -/
def parP (D C r : Int) : Int := D - 1 - r / C % D
/-- The disk of Q; -1: none. -/
def parQ (L D C r : Int) : Int := if L = 5 then -1 else (parP D C r + 1) % D
theorem parP_range {D C r : Int} (hD : 0 < D) : 0 ≤ parP D C r ∧ parP D C r < D := by
  have h1 := Int.emod_nonneg (r / C) (show D ≠ 0 by omega)
  have h2 := Int.emod_lt_of_pos (r / C) hD
  unfold parP; omega

set_option maxRecDepth 100000 in
set_option maxHeartbeats 400000 in
theorem parity_good (L D C r : Int) (w : World) (h : goodG L D C = true) (hr : 0 ≤ r) (hr' : r < 16) :
    Calls Try.prog 18 #[gv L D C, .int .i64 r] w fun e w' => e = .returned (.tuple #[.int .i64 (parP D C r), .int .i64 (parQ L D C r)]) ∧ Gr w w' := by
  obtain ⟨hL1, hL2, hD1, hD2, hC1, hC2, _⟩ := goodG_bds h
  have H := Lib.hid h; clear h
  have q0 : 0 ≤ r / C := Int.ediv_nonneg hr (by omega)
  have q1 : r / C ≤ r := Int.ediv_le_self _ hr
  have m0 := Int.emod_nonneg (r / C) (show D ≠ 0 by omega)
  have m1 := Int.emod_lt_of_pos (r / C) (show 0 < D by omega)
  have nC : ¬ C = 0 := by omega
  have nD : ¬ D = 0 := by omega
  have f1 : IntKind.i64.wrap (D - 1) = D - 1 := wr (by omega) (by omega)
  have f2 : IntKind.i64.wrap (r.tdiv C) = r / C := wrDiv hr (by omega) (by omega)
  have f3 : (r / C).tmod D = r / C % D := Int.tmod_eq_emod_of_nonneg q0
  have f4 : (D - 1 - r / C % D + 1).tmod D = (D - 1 - r / C % D + 1) % D := Int.tmod_eq_emod_of_nonneg (by omega)
  have e1 : IntKind.i64.wrap (D - 1 - r / C % D) = D - 1 - r / C % D := IntWalk.i64_in _ (by omega)
  have e2 : IntKind.i64.wrap (D - 1 - r / C % D + 1) = D - 1 - r / C % D + 1 := IntWalk.i64_in _ (by omega)
  have z0 : 0 ≤ D - 1 - r / C % D + 1 := by omega
  by_cases hL : L = 5
  · subst hL
    go_enter Try.func18, Try.ntmps18
    go_wp2_with fail
    refine (in_good 5 D C r _ H.out hr hr').mono ?_
    rintro e w1 ⟨rfl, hg⟩
    have g1 : Gr w w1 := (Gr.alloc w _).trans hg
    obtain ⟨c0, c1, c2⟩ := box3 (hg.get (heap_alloc_new w _))
    go_wp2
    go_region_held3 (fun wx : World => wx.cell? ⟨w.heap.size, 0, none⟩ = some (.int .i64 5) ∧ wx.cell? ⟨w.heap.size, 1, none⟩ = some (.int .i64 D) ∧ wx.cell? ⟨w.heap.size, 2, none⟩ = some (.int .i64 C)) (exact ⟨c0, c1, c2⟩) (first | fail)
    go_wp2
    go_ret2
    exact ⟨rfl, g1.trans (Gr.drew _)⟩
  · have hL6 : L = 6 := by omega
    clear hL
    subst hL6
    go_enter Try.func18, Try.ntmps18
    go_wp2_with fail
    refine (in_good 6 D C r _ H.out hr hr').mono ?_
    rintro e w1 ⟨rfl, hg⟩
    have g1 : Gr w w1 := (Gr.alloc w _).trans hg
    obtain ⟨c0, c1, c2⟩ := box3 (hg.get (heap_alloc_new w _))
    go_wp2
    go_region_held3 (fun wx : World => wx.cell? ⟨w.heap.size, 0, none⟩ = some (.int .i64 6) ∧ wx.cell? ⟨w.heap.size, 1, none⟩ = some (.int .i64 D) ∧ wx.cell? ⟨w.heap.size, 2, none⟩ = some (.int .i64 C)) (exact ⟨c0, c1, c2⟩) (first | fail)
    go_wp2
    go_region_held3 (fun wx : World => wx.cell? ⟨w.heap.size, 0, none⟩ = some (.int .i64 6) ∧ wx.cell? ⟨w.heap.size, 1, none⟩ = some (.int .i64 D) ∧ wx.cell? ⟨w.heap.size, 2, none⟩ = some (.int .i64 C)) (exact ⟨c0, c1, c2⟩) (first | fail)
    go_wp2
    go_ret2
    exact ⟨rfl, (g1.trans (Gr.drew _)).trans (Gr.drew _)⟩

/-- The disk of a data chunk. -/
def dskOf (L D C r k : Int) : Int := (parP D C r + (L - 4) + k) % D
set_option maxRecDepth 100000 in
set_option maxHeartbeats 400000 in
theorem disk_good (L D C r k : Int) (w : World) (h : goodG L D C = true) (hr : 0 ≤ r) (hr' : r < 16) (hk : 0 ≤ k) (hk' : k < D - (L - 4)) :
    Calls Try.prog 75 #[gv L D C, .int .i64 r, .int .i64 k] w fun e w' => e = .returned (.int .i64 (dskOf L D C r k)) ∧ Gr w w' := by
  obtain ⟨hL1, hL2, hD1, hD2, hC1, hC2, _⟩ := goodG_bds h
  have H := Lib.hid h; clear h
  obtain ⟨p0, p1⟩ := parP_range (D := D) (C := C) (r := r) (by omega)
  have nD : ¬ D = 0 := by omega
  have d0 : decide (k < 0) = false := by simp; omega
  have d1 : decide (D - (L - 4) ≤ k) = false := by simp; omega
  have e1 : IntKind.i64.wrap (parP D C r + (L - 4)) = parP D C r + (L - 4) := IntWalk.i64_in _ (by omega)
  have e2 : IntKind.i64.wrap (parP D C r + (L - 4) + k) = parP D C r + (L - 4) + k := IntWalk.i64_in _ (by omega)
  have z0 : 0 ≤ parP D C r + (L - 4) + k := by omega
  have f4 : (parP D C r + (L - 4) + k).tmod D = (parP D C r + (L - 4) + k) % D := Int.tmod_eq_emod_of_nonneg z0
  go_enter Try.func75, Try.ntmps75
  go_wp2_with fail
  refine (in_good L D C r _ H.out hr hr').mono ?_
  rintro e w1 ⟨rfl, hg⟩
  have g1 : Gr w w1 := (Gr.alloc w _).trans hg
  obtain ⟨c0, c1, c2⟩ := box3 (hg.get (heap_alloc_new w _))
  clear hg
  go_wp2_with fail
  refine (width_good L D C _ H.out).mono ?_
  rintro e w2 ⟨rfl, hg2⟩
  replace g1 := g1.trans hg2
  replace c0 := hg2.cell c0
  replace c1 := hg2.cell c1
  replace c2 := hg2.cell c2
  clear hg2
  go_wp2_with fail
  refine (parity_good L D C r _ H.out hr hr').mono ?_
  rintro e w3 ⟨rfl, hg3⟩
  replace g1 := g1.trans hg3
  replace c0 := hg3.cell c0
  replace c1 := hg3.cell c1
  replace c2 := hg3.cell c2
  clear hg3
  go_wp2
  go_region_held3 (fun wx : World => wx.cell? ⟨w.heap.size, 0, none⟩ = some (.int .i64 L) ∧ wx.cell? ⟨w.heap.size, 1, none⟩ = some (.int .i64 D) ∧ wx.cell? ⟨w.heap.size, 2, none⟩ = some (.int .i64 C)) (first | exact ⟨c0, c1, c2⟩ | exact ⟨hg4.cell c0, hg4.cell c1, hg4.cell c2⟩) (first | (go_at_call 107; refine (budget_good L D C _ H.out).mono ?_; rintro e w4 ⟨rfl, hg4⟩))
  go_wp2
  go_ret
  exact ⟨rfl, (g1.trans (Gr.drew _)).trans hg4⟩

/-- The number of the sector of a data chunk in a row. -/
def numOf (L D C r k : Int) : Int := (r / C * (D - (L - 4)) + k) * C + r % C
theorem num_bds {L D C r k : Int} (hL1 : 5 ≤ L) (hL2 : L ≤ 6) (hD1 : 3 ≤ D) (hD2 : D ≤ 8) (hC1 : 1 ≤ C) (hC2 : C ≤ 4) (hr : 0 ≤ r) (hr' : r < 16) (hk : 0 ≤ k) (hk' : k < 8) (hw : 1 ≤ D - (L - 4)) :
    0 ≤ r / C ∧ r / C ≤ 15 ∧ 0 ≤ r / C * (D - (L - 4)) ∧ r / C * (D - (L - 4)) ≤ 120 ∧ 0 ≤ r / C * (D - (L - 4)) + k ∧ 0 ≤ (r / C * (D - (L - 4)) + k) * C ∧ (r / C * (D - (L - 4)) + k) * C ≤ 512 ∧ 0 ≤ r % C ∧ r % C < C := by
  have q0 : 0 ≤ r / C := Int.ediv_nonneg hr (by omega)
  have q1 : r / C ≤ r := Int.ediv_le_self _ hr
  have m0 := Int.emod_nonneg r (show C ≠ 0 by omega)
  have m1 := Int.emod_lt_of_pos r (show 0 < C by omega)
  have w7 : D - (L - 4) ≤ 7 := by omega
  have a0 : 0 ≤ r / C * (D - (L - 4)) := Int.mul_nonneg q0 (by omega)
  have a1 : r / C * (D - (L - 4)) ≤ 15 * 7 := Int.mul_le_mul (by omega) w7 (by omega) (by omega)
  have b0 : 0 ≤ (r / C * (D - (L - 4)) + k) * C := Int.mul_nonneg (by omega) (by omega)
  have b1 : (r / C * (D - (L - 4)) + k) * C ≤ 112 * 4 := Int.mul_le_mul (by omega) hC2 (by omega) (by omega)
  omega
set_option maxRecDepth 100000 in
set_option maxHeartbeats 400000 in
theorem number_good (L D C r k : Int) (w : World) (h : goodG L D C = true) (hr : 0 ≤ r) (hr' : r < 16) (hk : 0 ≤ k) (hk' : k < 8) :
    Calls Try.prog 111 #[gv L D C, .int .i64 r, .int .i64 k] w fun e w' => e = .returned (.int .i64 (numOf L D C r k)) ∧ Gr w w' := by
  obtain ⟨hL1, hL2, hD1, hD2, hC1, hC2, hw⟩ := goodG_bds h
  have H := Lib.hid h; clear h
  obtain ⟨q0, q1, a0, a1, ak, b0, b1, m0, m1⟩ := num_bds hL1 hL2 hD1 hD2 hC1 hC2 hr hr' hk hk' (by omega)
  have nC : ¬ C = 0 := by omega
  have e1 : IntKind.i64.wrap (r / C * (D - (L - 4))) = r / C * (D - (L - 4)) := IntWalk.i64_in _ (by omega)
  have e2 : IntKind.i64.wrap (r / C * (D - (L - 4)) + k) = r / C * (D - (L - 4)) + k := IntWalk.i64_in _ (by omega)
  have e3 : IntKind.i64.wrap ((r / C * (D - (L - 4)) + k) * C) = (r / C * (D - (L - 4)) + k) * C := IntWalk.i64_in _ (by omega)
  have e4 : IntKind.i64.wrap ((r / C * (D - (L - 4)) + k) * C + r % C) = (r / C * (D - (L - 4)) + k) * C + r % C := IntWalk.i64_in _ (by omega)
  have f1 : IntKind.i64.wrap (r.tdiv C) = r / C := wrDiv hr (by omega) (by omega)
  have f2 : r.tmod C = r % C := Int.tmod_eq_emod_of_nonneg hr
  go_enter Try.func111, Try.ntmps111
  go_wp2
  obtain ⟨c0, c1, c2⟩ := box3 (heap_alloc_new w (.cells #[.int .i64 L, .int .i64 D, .int .i64 C] 23))
  obtain ⟨W, hW⟩ : ∃ W, W = w.alloc (.cells #[.int .i64 L, .int .i64 D, .int .i64 C] 23) := ⟨_, rfl⟩
  have g1 : Gr w W := by rw [hW]; exact Gr.alloc w _
  rw [← hW] at c0 c1 c2 ⊢
  clear hW
  go_region_held3 (fun wx : World => wx.cell? ⟨w.heap.size, 0, none⟩ = some (.int .i64 L) ∧ wx.cell? ⟨w.heap.size, 1, none⟩ = some (.int .i64 D) ∧ wx.cell? ⟨w.heap.size, 2, none⟩ = some (.int .i64 C)) (first | exact ⟨c0, c1, c2⟩ | exact ⟨hg4.cell c0, hg4.cell c1, hg4.cell c2⟩) (first | (go_at_call 74; refine (width_good L D C _ H.out).mono ?_; rintro e w4 ⟨rfl, hg4⟩))
  go_wp2
  go_ret
  exact ⟨rfl, (g1.trans (Gr.drew _)).trans hg4⟩
end Go.Proofs.Ytoalnkhedebpbaa
