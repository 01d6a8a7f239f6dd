/- place.Of, Numbers; row.in: what they answer at a geometry that may be. -/
import Derived.Test.YtoalnkhedebpbaaGeo1
namespace Go.Proofs.Ytoalnkhedebpbaa
open Go.RowKit

/-- The row of a sector. -/
def rowOf (L D C n : Int) : Int := n / C / (D - (L - 4)) * C + n % C
/-- The place in its row of a sector. -/
def colOf (L D C n : Int) : Int := n / C % (D - (L - 4))
theorem of_bds {L D C n : Int} (h : goodG L D C = true) (hn : 0 ≤ n) (hn' : n < (D - (L - 4)) * 16) :
    0 ≤ n / C ∧ n / C ≤ n ∧ n ≤ 200 ∧ 0 ≤ n / C / (D - (L - 4)) ∧ n / C / (D - (L - 4)) ≤ 16 ∧ 0 ≤ n / C / (D - (L - 4)) * C ∧ n / C / (D - (L - 4)) * C ≤ 16 ∧ 0 ≤ n % C ∧ n % C < C ∧ 0 ≤ rowOf L D C n ∧ rowOf L D C n < 16 ∧ 0 ≤ colOf L D C n ∧ colOf L D C n < D - (L - 4) := by
  obtain ⟨hL1, hL2, hD1, hD2, hC1, hC2, hw⟩ := goodG_bds h
  have hC := (goodG_cases h).2.2
  unfold rowOf colOf
  generalize hW : D - (L - 4) = W at *
  have hW2 : 2 ≤ W := by omega
  have hW7 : W ≤ 7 := by omega
  have h1 := Int.emod_nonneg (n / C) (show W ≠ 0 by omega)
  have h2 := Int.emod_lt_of_pos (n / C) (show 0 < W by omega)
  have q : n / C / W ≤ n / C := Int.ediv_le_self _ (Int.ediv_nonneg hn (by omega))
  have q2 : 0 ≤ n / C / W := Int.ediv_nonneg (Int.ediv_nonneg hn (by omega)) (by omega)
  have q3 : W * (n / C / W) + n / C % W = n / C := Int.mul_ediv_add_emod (n / C) W
  have q4 : W * (n / C / W) ≤ n / C := by omega
  rcases hC with rfl | rfl | rfl
  · have : n / 1 / W < 16 := Int.ediv_lt_of_lt_mul (by omega) (by omega)
    omega
  · have : n / 2 / W < 8 := Int.ediv_lt_of_lt_mul (by omega) (by omega)
    omega
  · have : n / 4 / W < 4 := Int.ediv_lt_of_lt_mul (by omega) (by omega)
    omega

set_option maxRecDepth 100000 in
set_option maxHeartbeats 400000 in
theorem of_low (L D C n : Int) (w : World) (hn : n < 0) :
    Calls Try.prog 20 #[gv L D C, .int .i64 n] w fun e w' => e = .returned (.tuple #[.int .i64 0, .int .i64 0, .bool false]) ∧ Gr w w' := by
  have d0 : decide (n < 0) = true := by simpa using hn
  go_enter Try.func20, Try.ntmps20
  go_wp2
  go_ret3
  exact ⟨rfl, Gr.alloc w _⟩
set_option maxRecDepth 100000 in
set_option maxHeartbeats 400000 in
theorem of_high (L D C n : Int) (w : World) (h : goodG L D C = true) (hn : (D - (L - 4)) * 16 ≤ n) :
    Calls Try.prog 20 #[gv L D C, .int .i64 n] w fun e w' => e = .returned (.tuple #[.int .i64 0, .int .i64 0, .bool false]) ∧ Gr w w' := by
  obtain ⟨hL1, hL2, hD1, hD2, hC1, hC2, hw⟩ := goodG_bds h
  have H := Lib.hid h; clear h
  have d0 : decide (n < 0) = false := by simp; omega
  have d1 : decide ((D - (L - 4)) * 16 ≤ n) = true := by simpa using hn
  go_enter Try.func20, Try.ntmps20
  go_wp2_with fail
  refine (capacity_good L D C _ H.out).mono ?_
  rintro e w1 ⟨rfl, hg⟩
  go_wp2
  go_ret3
  exact ⟨rfl, (Gr.alloc w _).trans hg⟩
set_option maxRecDepth 100000 in
set_option maxHeartbeats 800000 in
theorem of_good (L D C n : Int) (w : World) (h : goodG L D C = true) (hn : 0 ≤ n) (hn' : n < (D - (L - 4)) * 16) :
    Calls Try.prog 20 #[gv L D C, .int .i64 n] w fun e w' => e = .returned (.tuple #[.int .i64 (dskOf L D C (rowOf L D C n) (colOf L D C n)), .int .i64 (rowOf L D C n), .bool true]) ∧ Gr w w' := by
  obtain ⟨hL1, hL2, hD1, hD2, hC1, hC2, hw⟩ := goodG_bds h
  obtain ⟨b1, b2, b3, b4, b5, b6, b7, b8, b9, r0, r1, k0, k1⟩ := of_bds h hn hn'
  have H := Lib.hid h; clear h
  have d0 : decide (n < 0) = false := by simp; omega
  have d1 : decide ((D - (L - 4)) * 16 ≤ n) = false := by simp; omega
  have nC : ¬ C = 0 := by omega
  have nW : ¬ D - (L - 4) = 0 := by omega
  have f1 : IntKind.i64.wrap ((n / C).tdiv (D - (L - 4))) = n / C / (D - (L - 4)) := wrDiv b1 (by omega) (by omega)
  have f2 : n.tmod C = n % C := Int.tmod_eq_emod_of_nonneg hn
  have f3 : IntKind.i64.wrap (n / C / (D - (L - 4)) * C) = n / C / (D - (L - 4)) * C := wr (by omega) (by omega)
  have f4 : IntKind.i64.wrap (n / C / (D - (L - 4)) * C + n % C) = rowOf L D C n := wr (by omega) (by omega)
  have f5 : (n / C).tmod (D - (L - 4)) = colOf L D C n := Int.tmod_eq_emod_of_nonneg b1
  go_enter Try.func20, Try.ntmps20
  go_wp2_with fail
  refine (capacity_good L D C _ H.out).mono ?_
  rintro e w1 ⟨rfl, hg⟩
  have g1 : Gr w w1 := (Gr.alloc w _).trans hg
  obtain ⟨c0, c1, c2⟩ := box3 (hg.get (heap_alloc_new w _))
  clear hg
  go_wp2
  go_region_held3 (fun wx : World => wx.cell? ⟨w.heap.size, 0, none⟩ = some (.int .i64 L) ∧ wx.cell? ⟨w.heap.size, 1, none⟩ = some (.int .i64 D) ∧ wx.cell? ⟨w.heap.size, 2, none⟩ = some (.int .i64 C)) (first | exact ⟨c0, c1, c2⟩ | exact ⟨hg4.cell c0, hg4.cell c1, hg4.cell c2⟩) (first | (go_at_call 74; refine (width_good L D C _ H.out).mono ?_; rintro e w4 ⟨rfl, hg4⟩))
  replace g1 := (g1.trans (Gr.drew _)).trans hg4
  replace c0 := hg4.cell c0
  replace c1 := hg4.cell c1
  replace c2 := hg4.cell c2
  clear hg4
  go_wp2
  go_region_held3 (fun wx : World => wx.cell? ⟨w.heap.size, 0, none⟩ = some (.int .i64 L) ∧ wx.cell? ⟨w.heap.size, 1, none⟩ = some (.int .i64 D) ∧ wx.cell? ⟨w.heap.size, 2, none⟩ = some (.int .i64 C)) (first | exact ⟨c0, c1, c2⟩ | exact ⟨hg5.cell c0, hg5.cell c1, hg5.cell c2⟩ | exact ⟨hg6.cell (hg5.cell c0), hg6.cell (hg5.cell c1), hg6.cell (hg5.cell c2)⟩) (first | (go_at_call 74; refine (width_good L D C _ H.out).mono ?_; rintro e w5 ⟨rfl, hg5⟩) | (go_at_call 75; refine (disk_good L D C _ _ _ H.out r0 r1 k0 k1).mono ?_; rintro e w6 ⟨rfl, hg6⟩))
  go_wp2
  go_ret3
  exact ⟨rfl, ((g1.trans (Gr.drew _)).trans hg5).trans hg6⟩

set_option maxRecDepth 100000 in
set_option maxHeartbeats 400000 in
theorem rowin_good (L D C r : Int) (w : World) (h : goodG L D C = true) :
    Calls Try.prog 109 #[gv L D C, .int .i64 r] w fun e w' => e = .returned (.bool (decide (0 ≤ r) && decide (r < 16))) ∧ Gr w w' := by
  have H := Lib.hid h; clear h
  go_enter Try.func109, Try.ntmps109
  by_cases hr : 0 ≤ r
  · have d0 : decide (0 ≤ r) = true := by simpa using hr
    go_wp2_with fail
    refine (check_good L D C _ H.out).mono ?_
    rintro e w1 ⟨rfl, hg⟩
    go_wp2
    go_ret
    exact ⟨ret_bool (by simp [d0]), (Gr.alloc w _).trans hg⟩
  · have d0 : decide (0 ≤ r) = false := by simpa using hr
    go_wp2_with fail
    refine (check_good L D C _ H.out).mono ?_
    rintro e w1 ⟨rfl, hg⟩
    go_wp2
    go_ret
    exact ⟨ret_bool (by simp [d0]), (Gr.alloc w _).trans hg⟩
set_option maxRecDepth 100000 in
set_option maxHeartbeats 400000 in
theorem rowin_zero (r : Int) (w : World) :
    Calls Try.prog 109 #[gv 0 0 0, .int .i64 r] w fun e w' => e = .returned (.bool false) ∧ Gr w w' := by
  go_enter Try.func109, Try.ntmps109
  go_wp2_with fail
  refine (check_zero _).mono ?_
  rintro e w1 ⟨rfl, hg⟩
  go_wp2
  go_ret
  exact ⟨rfl, (Gr.alloc w _).trans hg⟩

theorem slInt : Try.prog.underlying 33 = some (.slice 3) := by kernel_rfl
theorem infInt : (Try.prog.info? 3).map (fun i => (i.zero, i.size, i.bytes)) = some (some (.int .i64 0), 1, 8) := by kernel_rfl
/-- The numbers of all sectors of a row. -/
def numsOf (L D C r : Int) : List Int := (List.range (D - (L - 4)).toNat).map fun k : Nat => numOf L D C r k
theorem ints_snoc (f : Nat → Int) (k : Nat) : ((List.range k).map fun j => Value.int .i64 (f j)) ++ [.int .i64 (f k)] = (List.range (k + 1)).map fun j => Value.int .i64 (f j) := by
  simp [List.range_succ]
set_option maxRecDepth 100000 in
set_option maxHeartbeats 800000 in
theorem numbers_good (L D C r : Int) (w : World) (h : goodG L D C = true) (hr : 0 ≤ r) (hr' : r < 16) :
    Calls Try.prog 80 #[gv L D C, .int .i64 r] w fun e w' => ∃ v, e = .returned v ∧ SlAt w' 3 v (ints (numsOf L D C r)) ∧ Gr w w' := by
  obtain ⟨hL1, hL2, hD1, hD2, hC1, hC2, hw⟩ := goodG_bds h
  have H := Lib.hid h; clear h
  obtain ⟨W, hW⟩ : ∃ W : Nat, D - (L - 4) = W := ⟨(D - (L - 4)).toNat, by omega⟩
  have hW8 : W < 8 := by omega
  go_enter Try.func80, Try.ntmps80
  go_wp2_with fail
  refine (in_good L D C r _ H.out hr hr').mono ?_
  rintro e w1 ⟨rfl, hg⟩
  have g1 : Gr w w1 := (Gr.alloc w _).trans hg
  obtain ⟨c0, c1, c2⟩ := box3 (hg.get (heap_alloc_new w _))
  clear hg
  go_wp2_with fail
  refine (width_good L D C _ H.out).mono ?_
  rintro e w2 ⟨rfl, hg2⟩
  replace g1 := g1.trans hg2
  replace c0 := hg2.cell c0
  replace c1 := hg2.cell c1
  replace c2 := hg2.cell c2
  clear hg2
  rw [hW]
  go_wp2
  go_loopw [5, 13] (fun v i wr => ∃ k : Nat, k ≤ W ∧ i = .int .i64 k ∧ wr.ownsRow w2.heap.size 3 1 v k ((List.range k).map fun j : Nat => Value.int .i64 (numOf L D C r j)) ∧ Below w2.heap.size w2 wr) (fun _ i _ => W - (intOf i).toNat)
  case atStart => exact ⟨0, by omega, rfl, World.ownsRow_nil _ _ _ _, Below.refl _ _⟩
  case round =>
    obtain ⟨k, hk, rfl, hown, hb⟩ := hrel
    have b0 := (Below.cell hb (World.block_lt_of_cell? w2 _ c0)).trans c0
    have b1 := (Below.cell hb (World.block_lt_of_cell? w2 _ c1)).trans c1
    have b2 := (Below.cell hb (World.block_lt_of_cell? w2 _ c2)).trans c2
    have hsz := hb.size
    by_cases hlt : k < W
    · go_wp2_with fail
      refine (number_good L D C r k _ H.out hr hr' (by omega) (by omega)).mono ?_
      rintro e w3 ⟨rfl, hg3⟩
      have hs3 := hg3.size
      go_wp2_with ((with_reducible apply wpL_append1 slInt infInt rfl (by decide)); rfl; rfl; exact (own_gr hown hg3).alloc _; exact cell_new _ _ _ _ rfl; rfl; omega; (simp; omega); (intro v' w4 hown' hgr))
      have hs4 := hgr.size
      go_roundw
      case rel =>
        refine ⟨k + 1, by omega, by go_num, ?_, ?_⟩
        · have := hown'; rw [ints_snoc] at this; exact this
        · exact Below.grown (Below.alloc (hb.trans (hg3.mono hsz)) (by omega) _) hgr (by simp; omega) (fun j hj => ((own_gr hown hg3).lt j hj).1)
      case measure => simp [intOf]; omega
    · go_wp2
      have hkW : k = W := by omega
      subst hkW
      go_ret
      refine ⟨_, rfl, ?_, g1.trans hb⟩
      have := SlAt.own hown (by omega)
      unfold numsOf ints
      rw [hW, List.map_map]
      exact this
end Go.Proofs.Ytoalnkhedebpbaa
