/- wattleref01.Numbers: what it answers. -/
import Derived.Test.YtoalnkhedebpbaaRefFill
namespace Go.Proofs.Ytoalnkhedebpbaa
open Go.RowKit

set_option maxRecDepth 100000 in
set_option maxHeartbeats 2000000 in
theorem rnumbers_good (L D C r : Int) (w : World) (h : goodG L D C = true) (hr : 0 ≤ r) (hr' : r < 16) :
    Calls Try.prog 25 #[gv L D C, .int .i64 r] w fun e w' => ∃ v, e = .returned v ∧ SlAt w' 3 v (ints (numsOf L D C r)) ∧ Gr w w' := by
  obtain ⟨hL1, hL2, hD1, hD2, hC1, hC2, hw⟩ := goodG_bds h
  have H := Lib.hid h; clear h
  obtain ⟨W, hW⟩ : ∃ W : Nat, D - (L - 4) = W := ⟨(D - (L - 4)).toNat, by omega⟩
  have hW8 : W < 8 := by omega
  have nC : ¬ C = 0 := by omega
  obtain ⟨i0, hi0, hz0, hz1, hz2⟩ := info_parts infInt
  go_enter Try.func25, Try.ntmps25
  go_wp2_with fail
  refine (rin_good L D C r _ H.out hr hr').mono ?_
  rintro e w2 ⟨rfl, hg⟩
  have g1 : Gr w w2 := (Gr.alloc w _).trans hg
  obtain ⟨c0, c1, c2⟩ := box3 (hg.get (heap_alloc_new w _))
  clear hg
  go_wp2_with fail
  go_loopw [5, 6] (fun v i wr => ∃ k : Nat, k ≤ W ∧ i = .int .i64 k ∧ wr.ownsRow w2.heap.size 3 1 v k ((List.range k).map fun j : Nat => Value.int .i64 (numOf L D C r j)) ∧ Gr w2 wr) (fun _ i _ => W - (intOf i).toNat)
  case atStart => exact ⟨0, by omega, rfl, World.ownsRow_nil _ _ _ _, Gr.refl _⟩
  case round =>
    obtain ⟨k, hk, rfl, hown, hb⟩ := hrel
    have b0 := hb.cell c0
    have b1 := hb.cell c1
    have b2 := hb.cell c2
    have hsz := hb.size
    go_wp2_with fail
    refine (rwidth_good L D C _ H.out).mono ?_
    rintro e w3 ⟨rfl, hg3⟩
    rw [hW]
    have hs3 := hg3.size
    replace b0 := hg3.cell b0
    replace b1 := hg3.cell b1
    replace b2 := hg3.cell b2
    have hown3 := own_gr hown hg3
    by_cases hlt : k < W
    · obtain ⟨q0, q1, a0, a1, ak, m0, m1, m2, m3⟩ := num_bds hL1 hL2 hD1 hD2 hC1 hC2 hr hr' (k := k) (by omega) (by omega) (by omega)
      rw [hW] at a0 a1 ak m0 m1
      have e1 : IntKind.i64.wrap (r / C * (W : Int)) = r / C * (W : Int) := IntWalk.i64_in _ (by omega)
      have e2 : IntKind.i64.wrap (r / C * (W : Int) + k) = r / C * (W : Int) + k := IntWalk.i64_in _ (by omega)
      have e3 : IntKind.i64.wrap ((r / C * (W : Int) + k) * C) = (r / C * (W : Int) + k) * C := IntWalk.i64_in _ (by omega)
      have e4 : IntKind.i64.wrap ((r / C * (W : Int) + k) * C + r % C) = numOf L D C r k := by unfold numOf; rw [hW]; exact IntWalk.i64_in _ (by omega)
      have f1 : IntKind.i64.wrap (r.tdiv C) = r / C := wrDiv hr (by omega) (by omega)
      have f2 : r.tmod C = r % C := Int.tmod_eq_emod_of_nonneg hr
      have HOW := Lib.hid hown3
      have hneb : some w.heap.size ≠ u5.ownBlock := fun e => by have := (hown3.lt _ e.symm).1; have := World.block_lt_of_cell? w2 _ c0; simp at this; omega
      clear m0 m1 m2 m3 ak a0 a1 q0 q1 hown hown3
      have hlw : w.heap.size < w2.heap.size := World.block_lt_of_cell? w2 _ c0
      go_wp2_with fail
      obtain ⟨z, hzz⟩ : ∃ z, z = numOf L D C r k := ⟨_, rfl⟩
      rw [← hzz] at e4
      have HZZ := Lib.hid hzz
      clear hzz
      go_region_held3 (fun wx : World => wx.cell? ⟨w.heap.size, 0, none⟩ = some (.int .i64 L) ∧ wx.cell? ⟨w.heap.size, 1, none⟩ = some (.int .i64 D) ∧ wx.cell? ⟨w.heap.size, 2, none⟩ = some (.int .i64 C)) (first | exact ⟨b0, b1, b2⟩ | exact ⟨d0, d1, d2⟩ | exact ⟨(Gr.alloc _ _).cell d0, (Gr.alloc _ _).cell d1, (Gr.alloc _ _).cell d2⟩ | exact ⟨x0, x1, x2⟩) (first | (go_at_call 54; refine (rwidth_good L D C _ H.out).mono ?_; rintro e w4 ⟨rfl, hg4⟩; rw [hW]; have d0 := ((Gr.drew _).trans hg4).cell b0; have d1 := ((Gr.drew _).trans hg4).cell b1; have d2 := ((Gr.drew _).trans hg4).cell b2; have hs4 := ((Gr.drew w3).trans hg4).size) | ((refine step_append_lies _ (by rfl) _ _ _ (by rfl) w2.heap.size 3 i0 _ 1 8 slInt hi0 hz0 hz1 hz2 rfl (by omega) u5 k _ (by rfl) ((own_gr HOW.out ((Gr.drew _).trans hg4)).alloc _) ⟨w4.heap.size, 0, none⟩ 1 1 [.int .i64 z] (by rfl) (by rfl) (World.news_of_block (cs := #[.int .i64 z]) (t := 3) (fr := (0, 0)) (heap_alloc_new w4 _)) (by simp [Value.oneCell']) (by omega) (by unfold maxLen; omega) (by omega) (by simp; omega) (w4.heap.size + 1) (by simp) ?_; intro gg cap w5 hown5 hgr hat hltg; have x0 := (hgr.cell_far ⟨w.heap.size, 0, none⟩ (by simp; omega) hneb).trans ((Gr.alloc _ _).cell d0); have x1 := (hgr.cell_far ⟨w.heap.size, 1, none⟩ (by simp; omega) hneb).trans ((Gr.alloc _ _).cell d1); have x2 := (hgr.cell_far ⟨w.heap.size, 2, none⟩ (by simp; omega) hneb).trans ((Gr.alloc _ _).cell d2))))
      have HO5 := Lib.hid hown5
      have hgt : Gr w3 (w4.alloc (.cells #[.int .i64 z] 3)) := ((Gr.drew _).trans hg4).trans (Gr.alloc _ _)
      have hsz3 := (hb.trans hg3).size
      have hB : Gr w2 w5 := Below.grown ((hb.trans hg3).trans hgt) hgr (by simp; omega) (fun j hj => (HOW.out.lt j hj).1)
      clear e1 e2 e3 e4 f1 f2 hown5 hgr hgt hat
      go_wp2
      go_roundw
      case rel =>
        refine ⟨k + 1, by omega, by go_num, ?_, hB⟩
        rw [← ints_snoc, ← HZZ.out]
        exact HO5.out
      case measure => simp [intOf]; omega
    · obtain rfl : k = W := by omega
      go_wp2
      go_ret
      refine ⟨_, rfl, ?_, (g1.trans hb).trans hg3⟩
      have := SlAt.own hown3 (by omega)
      unfold numsOf ints
      rw [hW, List.map_map]
      exact this
end Go.Proofs.Ytoalnkhedebpbaa
