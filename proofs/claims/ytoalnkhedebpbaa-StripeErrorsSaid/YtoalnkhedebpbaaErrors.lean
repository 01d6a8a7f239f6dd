/- wattlelaw14.StripeErrors: it answers true. -/
import Derived.Test.YtoalnkhedebpbaaErr0
namespace Go.Proofs.Ytoalnkhedebpbaa
open Go.RowKit

set_option maxRecDepth 100000 in
set_option maxHeartbeats 1000000 in
theorem sector_shape (n : Int) (w : World) :
    Calls Try.prog 29 #[.int .i64 n] w fun e w' => ∃ g, e = .returned (.slice (some ⟨g, 0, none⟩) 32 32) ∧ BytesAt w' (.slice (some ⟨g, 0, none⟩) 32 32) (secF n) ∧ Gr w w' := by
  go_enter Try.func29, Try.ntmps29
  go_wp2_with ((with_reducible apply wpL_make1 (n := 32) slU8 infU8 rfl (by decide)); rfl; rfl; decide)
  refine (within_any n 11 _ (by decide)).mono ?_
  rintro e w1 ⟨rfl, rfl⟩
  obtain ⟨t, ht⟩ : ∃ t, (within n 11 == 10) = t := ⟨_, rfl⟩
  cases t with
  | true =>
    have HF : Hid (secF n = zeros 32) := Lib.hid (by unfold secF; rw [ht]; rfl)
    go_wp2
    go_ret
    rw [HF.out]
    exact ⟨_, rfl, BytesAt.zeros (heap_alloc_new w _) (by decide), Gr.alloc _ _⟩
  | false =>
    have HE := Lib.hid (secTo_end n ht)
    go_wp2
    go_loopw [12] (fun i wr => ∃ k : Nat, k ≤ 32 ∧ i = .int .i64 k ∧ Hid (wr.heap[w.heap.size]? = some (.cells (secTo n k).toArray 5 (0, 0))) ∧ Gr w wr) (fun i _ => 32 - (intOf i).toNat)
    case atStart => exact ⟨0, by omega, rfl, Lib.hid (by rw [secTo_zero]; exact heap_alloc_new w _), Gr.alloc _ _⟩
    case round =>
      obtain ⟨k, hk, rfl, hv, hg⟩ := hrel
      by_cases hlt : k < 32
      · have hu : ∃ u, wr.cell? ⟨w.heap.size, k, none⟩ = some u := ⟨_, cell_blk (v := (secTo n k)[k]'(by rw [secTo_length]; exact hlt)) hv.out (by simp)⟩
        obtain ⟨u, hu⟩ := hu
        have hf : wr.frozen? ⟨w.heap.size, k, none⟩ = false := by simp [World.frozen?, hv.out]
        go_wp2
        go_roundw
        case rel =>
          refine ⟨k + 1, by omega, by go_num, Lib.hid ?_, ?_⟩
          · rw [setCell_putB hv.out, putB_get_self (heap_lt hv.out), ← secTo_set n k hlt]
            rw [List.setIfInBounds_toArray]
            rfl
          · rw [setCell_putB hv.out]
            exact below_putB hg (Nat.le_refl _) _
        case measure => simp [intOf]; omega
      · obtain rfl : k = 32 := by omega
        rw [HE.out] at hv
        have HL := Lib.hid (secF_length n)
        go_wp2
        go_ret
        exact ⟨_, rfl, BytesAt.lit hv.out HL.out (by decide), hg⟩
theorem fl_down {m : BM} {l : List Bool} (hd : m.down = true) (hu : upF m l 0 = true) {n : Nat} (hn : 0 < n) : (stepTo (flF l) m n).1 = 6 := by
  have h1 : stepTo (flF l) m 1 = (6, m) := by
    show (if (0 : Int) = 0 then flF l m 0 else _) = _
    rw [if_pos rfl]
    unfold flF BM.fl
    rw [if_pos hu, if_pos hd]
  rw [stepTo_err (k := 1) (by rw [h1]; exact (by decide : (6 : Int) ≠ 0)) n hn, h1]
set_option maxRecDepth 100000 in
set_option maxHeartbeats 12000000 in
set_option linter.unusedSimpArgs false in
theorem errors_walk (n : Int) (w : World) :
    Calls Try.prog 10 #[.int .i64 n] w fun e w' => e = .returned (.bool true) ∧ Gr w w' := by
  have hG : goodG 5 4 2 = true := rfl
  go_enter Try.func10, Try.ntmps10
  go_wp2_with fail
  refine (bnew_any 4 _ (by decide) (by decide)).mono ?_
  rintro e w1 ⟨rfl, ⟨F, hb, hF⟩, hg1⟩
  obtain ⟨bb, hbb⟩ : ∃ bb, bb = w.heap.size := ⟨_, rfl⟩
  rw [← hbb] at hb ⊢
  have HB := Lib.hid hb; clear hb hbb
  have HF := Lib.hid hF; clear hF
  have hr := within_range n (n := 1000) (by decide)
  obtain ⟨n1, hn1⟩ : ∃ n1 : Int, within n 1000 = n1 := ⟨_, rfl⟩
  rw [hn1] at hr
  obtain ⟨n2, hn2⟩ : ∃ n2 : Int, 1 + n1 = n2 := ⟨_, rfl⟩
  have hw2 : IntKind.i64.wrap (1 + n1) = n2 := (IntWalk.i64_in _ (by omega)).trans hn2
  have n2a : 1 ≤ n2 := by omega
  have n2b : n2 ≤ 1000 := by omega
  clear hn2
  go_wp2_with fail
  refine (within_any n 1000 _ (by decide)).mono ?_
  rintro e w2 ⟨rfl, rfl⟩
  rw [hn1]
  have hl0 := heap_alloc_lt (heap_alloc_new w1 (.cells #[.bool true, .bool true, .bool true, .bool true] 4)) (.cells #[.int .i64 5, .int .i64 4, .int .i64 2] 23)
  have hg0 : ((w1.alloc (.cells #[.bool true, .bool true, .bool true, .bool true] 4)).alloc (.cells #[.int .i64 5, .int .i64 4, .int .i64 2] 23)).heap[w1.heap.size + 1]? = some (.cells #[.int .i64 5, .int .i64 4, .int .i64 2] 23 (0, 0)) := heap_alloc_at _ _ _ (by simp)
  have gA : Gr w1 ((w1.alloc (.cells #[.bool true, .bool true, .bool true, .bool true] 4)).alloc (.cells #[.int .i64 5, .int .i64 4, .int .i64 2] 23)) := (Gr.alloc _ _).trans (Gr.alloc _ _)
  go_wp2_with fail
  obtain ⟨wA, hwA⟩ : ∃ wA, wA = (w1.alloc (.cells #[.bool true, .bool true, .bool true, .bool true] 4)).alloc (.cells #[.int .i64 5, .int .i64 4, .int .i64 2] 23) := ⟨_, rfl⟩
  rw [← hwA] at hl0 hg0 gA ⊢
  clear hwA
  refine (sector_shape n2 _).mono ?_
  rintro e w3 ⟨xg, rfl, hx, hg3⟩
  obtain ⟨X, hX⟩ : ∃ X, X = secF n2 := ⟨_, rfl⟩
  have hXl : X.length = 32 := by rw [hX, secF_length]
  rw [← hX] at hx
  have HXL := Lib.hid hXl; clear hXl hX
  obtain ⟨gb, hgb⟩ : ∃ gb, gb = w1.heap.size + 1 := ⟨_, rfl⟩
  rw [← hgb] at hg0 ⊢
  obtain ⟨lb, hlb⟩ : ∃ lb, lb = w1.heap.size := ⟨_, rfl⟩
  rw [← hlb] at hl0 ⊢
  clear hlb hgb
  have hs3 : Gr w1 w3 := gA.trans hg3
  have HX := Lib.hid hx; clear hx
  have HB3 := Lib.hid (HB.out.gr hs3)
  have HL3 : Hid (OwnB w3 lb [true, true, true, true]) := Lib.hid (hg3.get hl0)
  have hgb3 := Lib.hid (hg3.get hg0)
  have g3 := hg1.trans hs3
  clear HB hl0 hg0 gA hg3 hs3 hg1 hr hn1 hw2
  obtain ⟨c0, c1, c2⟩ := box3 hgb3.out
  have hneg : IntKind.i64.wrap (-n2) = -n2 := IntWalk.i64_in _ (by omega)
  have hadd : IntKind.i64.wrap (15 + n2) = 15 + n2 := IntWalk.i64_in _ (by omega)
  have hsl : (w3.alloc (.cells #[.int .i64 (-n2), .int .i64 (15 + n2)] 3)).heap[w3.heap.size]? = some (.cells #[.int .i64 (-n2), .int .i64 (15 + n2)] 3 (0, 0)) := heap_alloc_new _ _
  have gS : Gr w3 (w3.alloc (.cells #[.int .i64 (-n2), .int .i64 (15 + n2)] 3)) := Gr.alloc _ _
  go_wp2_with fail
  obtain ⟨wS, hwS⟩ : ∃ wS, wS = w3.alloc (.cells #[.int .i64 (-n2), .int .i64 (15 + n2)] 3) := ⟨_, rfl⟩
  obtain ⟨sb, hsb⟩ : ∃ sb, sb = w3.heap.size := ⟨_, rfl⟩
  rw [← hwS] at hsl gS ⊢
  rw [← hsb] at hsl ⊢
  have HSL := Lib.hid hsl; clear hsl hwS hsb
  go_loopw [46] (fun i wr => ∃ k : Nat, k ≤ 2 ∧ i = .int .i64 k ∧ Gr wS wr) (fun i _ => 2 - (intOf i).toNat)
  case atStart => exact ⟨0, by omega, rfl, Gr.refl _⟩
  case round =>
    obtain ⟨k, hk, rfl, hgr⟩ := hrel
    obtain ⟨y0, y1, y2⟩ := box3 ((gS.trans hgr).get hgb3.out)
    by_cases hlt : k < 2
    · obtain ⟨r, hrr, hcr⟩ : ∃ r : Int, (r < 0 ∨ 16 ≤ r) ∧ wr.cell? ⟨sb, k, none⟩ = some (.int .i64 r) := by
        have : k = 0 ∨ k = 1 := by omega
        rcases this with rfl | rfl
        · exact ⟨-n2, .inl (by omega), cell_blk (hgr.get HSL.out) rfl⟩
        · exact ⟨15 + n2, .inr (by omega), cell_blk (hgr.get HSL.out) rfl⟩
      have HRR := Lib.hid hrr; clear hrr
      go_wp2_with fail
      refine (sread_row (bm0 4) F 5 4 2 r bb _ _ (HB3.out.gr (gS.trans hgr)) hG HRR.out).mono ?_
      rintro e w5 ⟨rfl, hg5⟩
      replace y0 := hg5.cell y0
      replace y1 := hg5.cell y1
      replace y2 := hg5.cell y2
      go_wp2_with fail
      refine (swrite_bad 5 4 2 r 3 _ 3 bb _ _ hG (.inl HRR.out)).mono ?_
      rintro e w6 ⟨rfl, hg6⟩
      go_wp2
      go_roundw
      case rel => exact ⟨k + 1, by omega, by go_num, ((hgr.trans hg5).trans (Gr.alloc _ _)).trans hg6⟩
      case measure => simp [intOf]; omega
    · obtain rfl : k = 2 := by omega
      go_wp2_with fail
      refine (sread_zero bb _ 0 _).mono ?_
      rintro e w5 ⟨rfl, hg5⟩
      replace y0 := hg5.cell y0
      replace y1 := hg5.cell y1
      replace y2 := hg5.cell y2
      have g35 := (gS.trans hgr).trans hg5
      go_wp2_with fail
      refine (sone_none (bm0 4) F 5 4 2 (-n2) bb _ _ (HB3.out.gr g35) hG (.inl (by omega))).mono ?_
      rintro e w6 ⟨rfl, hg6⟩
      replace y0 := hg6.cell y0
      replace y1 := hg6.cell y1
      replace y2 := hg6.cell y2
      have h47 : IntKind.i64.wrap (47 + n2) = 47 + n2 := IntWalk.i64_in _ (by omega)
      go_wp2_with fail
      refine (sone_none (bm0 4) F 5 4 2 (47 + n2) bb _ _ (HB3.out.gr (g35.trans hg6)) hG (.inr (by omega))).mono ?_
      rintro e w7 ⟨rfl, hg7⟩
      have g37 := (g35.trans hg6).trans hg7
      have HB7 := Lib.hid (HB3.out.gr g37)
      have HL7 := Lib.hid (HL3.out.gr g37)
      have hgb7 := Lib.hid (g37.get hgb3.out)
      have HX7 := Lib.hid (HX.out.gr g37)
      have g7 := g3.trans g37
      clear HB3 HL3 hgb3 HX g3 g37 g35 hg7 hg6 hg5 hgr gS y0 y1 y2 h47 hneg hadd HSL hk hlt c0 c1 c2
      obtain ⟨y0, y1, y2⟩ := box3 hgb7.out
      have hany : [X, X, X.take 9].any notSec = true := by
        have h9 : notSec (X.take 9) = true := by unfold notSec; rw [List.length_take, HXL.out]; rfl
        simp [h9]
      have HANY := Lib.hid hany; clear hany
      have hrl : ∀ wz : World, BytesAt wz (.slice (some ⟨xg, 0, none⟩) 32 32) X → RowsAt (wz.alloc (.cells #[.slice (some ⟨xg, 0, none⟩) 32 32, .slice (some ⟨xg, 0, none⟩) 32 32, .slice (some ⟨xg, 0, none⟩) 9 32] 43)) (.slice (some ⟨wz.heap.size, 0, none⟩) 3 3) [X, X, X.take 9] := fun wz h0 =>
        rows_lit (cap := 3) (vs := [.slice (some ⟨xg, 0, none⟩) 32 32, .slice (some ⟨xg, 0, none⟩) 32 32, .slice (some ⟨xg, 0, none⟩) 9 32]) (heap_alloc_new wz _) rfl (by show 3 ≤ 8; decide) (fun i hi => by
          have hx := h0.gr (Gr.alloc wz (.cells #[.slice (some ⟨xg, 0, none⟩) 32 32, .slice (some ⟨xg, 0, none⟩) 32 32, .slice (some ⟨xg, 0, none⟩) 9 32] 43))
          have : i = 0 ∨ i = 1 ∨ i = 2 := by have : i < 3 := hi; omega
          rcases this with rfl | rfl | rfl
          · exact hx
          · exact hx
          · exact hx.front (by rw [HXL.out]; decide) (by rw [HXL.out]; decide))
      have HRL := Lib.hid hrl; clear hrl
      have hwr : (bm0 4).writes = 0 := rfl
      have HWR := Lib.hid hwr; clear hwr
      go_wp2_with fail
      obtain ⟨S, hSe⟩ : ∃ S : World → Prop, S = (fun wx : World => wx.cell? ⟨gb, 0, none⟩ = some (.int .i64 5) ∧ wx.cell? ⟨gb, 1, none⟩ = some (.int .i64 4) ∧ wx.cell? ⟨gb, 2, none⟩ = some (.int .i64 2)) := ⟨_, rfl⟩
      have HSD : Hid (∀ wx : World, S wx → wx.cell? ⟨gb, 0, none⟩ = some (.int .i64 5) ∧ wx.cell? ⟨gb, 1, none⟩ = some (.int .i64 4) ∧ wx.cell? ⟨gb, 2, none⟩ = some (.int .i64 2)) := Lib.hid fun wx h => by rw [hSe] at h; exact h
      have HST : Hid (∀ wx : World, Gr w7 wx → S wx) := Lib.hid fun wx g => by rw [hSe]; exact box3 (g.get hgb7.out)
      clear hSe y0 y1 y2
      refine wp_region_held_drew (S := S) (by kernel_rfl) (HST.out _ (Gr.drew _)) (fun hS => ?_)
      have gr : Gr w7 w7.drew := Gr.drew _
      -- region 18
      refine wpAnyH_take (S := S) (i := 0) (v := .int .i64 1) rfl (by kernel_rfl) (by kernel_rfl) (by kernel_rfl) (fun _ _ _ h => h) (Or.inl ⟨by kernel_rfl, fun _ _ => by kernel_rfl⟩) hS ?_
      try simp only [Act.put, List.getElem_toArray, List.getElem_cons_succ, List.getElem_cons_zero, List.setIfInBounds_toArray, List.set_cons_zero, List.set_cons_succ]
      refine wpAnyH_take (S := S) (i := 1) (v := .bool false) rfl (by kernel_rfl) (by kernel_rfl) (by kernel_rfl) (fun _ _ _ h => h) (Or.inl ⟨by kernel_rfl, fun v hv => by (obtain ⟨s0, s1, s2⟩ := HSD.out _ hv; go_simp)⟩) hS ?_
      try simp only [Act.put, List.getElem_toArray, List.getElem_cons_succ, List.getElem_cons_zero, List.setIfInBounds_toArray, List.set_cons_zero, List.set_cons_succ]
      refine wpAnyH_take (S := S) (i := 2) (v := .bool false) rfl (by kernel_rfl) (by kernel_rfl) (by kernel_rfl) (fun _ _ _ h => h) (Or.inl ⟨by kernel_rfl, fun _ _ => by kernel_rfl⟩) hS ?_
      try simp only [Act.put, List.getElem_toArray, List.getElem_cons_succ, List.getElem_cons_zero, List.setIfInBounds_toArray, List.set_cons_zero, List.set_cons_succ]
      refine wpAnyH_take (S := S) (i := 3) (v := .int .i64 4) rfl (by kernel_rfl) (by kernel_rfl) (by kernel_rfl) (fun _ _ _ h => h) (Or.inl ⟨by kernel_rfl, fun _ _ => by kernel_rfl⟩) hS ?_
      try simp only [Act.put, List.getElem_toArray, List.getElem_cons_succ, List.getElem_cons_zero, List.setIfInBounds_toArray, List.set_cons_zero, List.set_cons_succ]
      refine wpAnyH_take (S := S) (i := 4) (v := .bool false) rfl (by kernel_rfl) (by kernel_rfl) (by kernel_rfl) (fun _ _ _ h => h) (Or.inl ⟨by kernel_rfl, fun v hv => by (obtain ⟨s0, s1, s2⟩ := HSD.out _ hv; go_simp)⟩) hS ?_
      try simp only [Act.put, List.getElem_toArray, List.getElem_cons_succ, List.getElem_cons_zero, List.setIfInBounds_toArray, List.set_cons_zero, List.set_cons_succ]
      refine wpAnyH_take (S := S) (i := 5) (v := .bool false) rfl (by kernel_rfl) (by kernel_rfl) (by kernel_rfl) (fun _ _ _ h => h) (Or.inl ⟨by kernel_rfl, fun _ _ => by kernel_rfl⟩) hS ?_
      try simp only [Act.put, List.getElem_toArray, List.getElem_cons_succ, List.getElem_cons_zero, List.setIfInBounds_toArray, List.set_cons_zero, List.set_cons_succ]
      refine wpAnyH_take (S := S) (i := 6) (v := .bool false) rfl (by kernel_rfl) (by kernel_rfl) (by kernel_rfl) (fun _ _ _ h => h) (Or.inl ⟨by kernel_rfl, fun _ _ => by kernel_rfl⟩) hS ?_
      try simp only [Act.put, List.getElem_toArray, List.getElem_cons_succ, List.getElem_cons_zero, List.setIfInBounds_toArray, List.set_cons_zero, List.set_cons_succ]
      refine wpAnyH_take (S := S) (i := 7) (v := .int .i64 4) rfl (by kernel_rfl) (by kernel_rfl) (by kernel_rfl) (fun _ _ _ h => h) (Or.inl ⟨by kernel_rfl, fun _ _ => by kernel_rfl⟩) hS ?_
      try simp only [Act.put, List.getElem_toArray, List.getElem_cons_succ, List.getElem_cons_zero, List.setIfInBounds_toArray, List.set_cons_zero, List.set_cons_succ]
      refine wpAnyH_take (S := S) (i := 8) (v := .bool false) rfl (by kernel_rfl) (by kernel_rfl) (by kernel_rfl) (fun _ _ _ h => h) (Or.inl ⟨by kernel_rfl, fun v hv => by (obtain ⟨s0, s1, s2⟩ := HSD.out _ hv; go_simp)⟩) hS ?_
      try simp only [Act.put, List.getElem_toArray, List.getElem_cons_succ, List.getElem_cons_zero, List.setIfInBounds_toArray, List.set_cons_zero, List.set_cons_succ]
      refine wpAnyH_take (S := S) (i := 9) (v := .bool false) rfl (by kernel_rfl) (by kernel_rfl) (by kernel_rfl) (fun _ _ _ h => h) (Or.inl ⟨by kernel_rfl, fun _ _ => by kernel_rfl⟩) hS ?_
      try simp only [Act.put, List.getElem_toArray, List.getElem_cons_succ, List.getElem_cons_zero, List.setIfInBounds_toArray, List.set_cons_zero, List.set_cons_succ]
      refine wpAnyH_take (S := S) (i := 10) (v := .bool false) rfl (by kernel_rfl) (by kernel_rfl) (by kernel_rfl) (fun _ _ _ h => h) (Or.inl ⟨by kernel_rfl, fun _ _ => by kernel_rfl⟩) hS ?_
      try simp only [Act.put, List.getElem_toArray, List.getElem_cons_succ, List.getElem_cons_zero, List.setIfInBounds_toArray, List.set_cons_zero, List.set_cons_succ]
      refine wpAnyH_take (S := S) (i := 11) (v := bp bb) rfl (by kernel_rfl) (by kernel_rfl) (by kernel_rfl) (fun _ _ _ h => h) (Or.inl ⟨by kernel_rfl, fun _ _ => by kernel_rfl⟩) hS ?_
      try simp only [Act.put, List.getElem_toArray, List.getElem_cons_succ, List.getElem_cons_zero, List.setIfInBounds_toArray, List.set_cons_zero, List.set_cons_succ]
      refine wpAnyH_take (S := S) (i := 12) (v := .slice (some ⟨lb, 0, none⟩) 4 4) rfl (by kernel_rfl) (by kernel_rfl) (by kernel_rfl) (fun _ _ _ h => h) (Or.inl ⟨by kernel_rfl, fun _ _ => by kernel_rfl⟩) hS ?_
      try simp only [Act.put, List.getElem_toArray, List.getElem_cons_succ, List.getElem_cons_zero, List.setIfInBounds_toArray, List.set_cons_zero, List.set_cons_succ]
      refine wpAnyH_take (S := S) (i := 13) (v := .agg #[.int .i64 5, .int .i64 4, .int .i64 2]) rfl (by kernel_rfl) (by kernel_rfl) (by kernel_rfl) (fun _ _ _ h => h) (Or.inl ⟨by kernel_rfl, fun v hv => by (obtain ⟨s0, s1, s2⟩ := HSD.out _ hv; go_simp)⟩) hS ?_
      try simp only [Act.put, List.getElem_toArray, List.getElem_cons_succ, List.getElem_cons_zero, List.setIfInBounds_toArray, List.set_cons_zero, List.set_cons_succ]
      refine wpAnyH_take (S := S) (i := 14) (v := .slice (some ⟨xg, 0, none⟩) 32 32) rfl (by kernel_rfl) (by kernel_rfl) (by kernel_rfl) (fun _ _ _ h => h) (Or.inl ⟨by kernel_rfl, fun _ _ => by kernel_rfl⟩) hS ?_
      try simp only [Act.put, List.getElem_toArray, List.getElem_cons_succ, List.getElem_cons_zero, List.setIfInBounds_toArray, List.set_cons_zero, List.set_cons_succ]
      refine wpAnyH_take (S := S) (i := 15) (v := .slice (some ⟨xg, 0, none⟩) 32 32) rfl (by kernel_rfl) (by kernel_rfl) (by kernel_rfl) (fun _ _ _ h => h) (Or.inl ⟨by kernel_rfl, fun _ _ => by kernel_rfl⟩) hS ?_
      try simp only [Act.put, List.getElem_toArray, List.getElem_cons_succ, List.getElem_cons_zero, List.setIfInBounds_toArray, List.set_cons_zero, List.set_cons_succ]
      refine wpAnyH_ready (rs := [16]) (by kernel_rfl) (by simp) ?_
      refine AllReadyH.cons rfl (fun K hK => ?_) AllReadyH.nil
      go_simp
      replace gr := gr.trans (Gr.alloc _ (.cells #[.slice (some ⟨xg, 0, none⟩) 32 32, .slice (some ⟨xg, 0, none⟩) 32 32] 43))
      replace hS := HST.out _ gr
      refine hK.out _ _ hS (fun _ => ?_)
      clear hK K
      try simp only [Act.put, List.getElem_toArray, List.getElem_cons_succ, List.getElem_cons_zero, List.setIfInBounds_toArray, List.set_cons_zero, List.set_cons_succ]
      refine wpAnyH_ready (rs := [17]) (by kernel_rfl) (by simp) ?_
      refine AllReadyH.cons rfl (fun K hK => ?_) AllReadyH.nil
      go_simp
      refine (swrite_bad 5 4 2 0 2 _ 2 bb _ _ hG (.inr (by decide))).mono ?_
      rintro e v1 ⟨rfl, hg1⟩
      replace gr := gr.trans hg1
      replace hS := HST.out _ gr
      refine hK.out _ _ hS (fun _ => ?_)
      clear hK K
      try simp only [Act.put, List.getElem_toArray, List.getElem_cons_succ, List.getElem_cons_zero, List.setIfInBounds_toArray, List.set_cons_zero, List.set_cons_succ]
      refine wpAnyH_take (S := S) (i := 18) (v := .bool false) rfl (by kernel_rfl) (by kernel_rfl) (by kernel_rfl) (fun _ _ _ h => h) (Or.inl ⟨by kernel_rfl, fun v hv => by (obtain ⟨s0, s1, s2⟩ := HSD.out _ hv; go_simp)⟩) hS ?_
      try simp only [Act.put, List.getElem_toArray, List.getElem_cons_succ, List.getElem_cons_zero, List.setIfInBounds_toArray, List.set_cons_zero, List.set_cons_succ]
      refine wpAnyH_take (S := S) (i := 19) (v := .bool false) rfl (by kernel_rfl) (by kernel_rfl) (by kernel_rfl) (fun _ _ _ h => h) (Or.inl ⟨by kernel_rfl, fun _ _ => by kernel_rfl⟩) hS ?_
      try simp only [Act.put, List.getElem_toArray, List.getElem_cons_succ, List.getElem_cons_zero, List.setIfInBounds_toArray, List.set_cons_zero, List.set_cons_succ]
      refine wpAnyH_take (S := S) (i := 20) (v := .bool false) rfl (by kernel_rfl) (by kernel_rfl) (by kernel_rfl) (fun _ _ _ h => h) (Or.inl ⟨by kernel_rfl, fun _ _ => by kernel_rfl⟩) hS ?_
      try simp only [Act.put, List.getElem_toArray, List.getElem_cons_succ, List.getElem_cons_zero, List.setIfInBounds_toArray, List.set_cons_zero, List.set_cons_succ]
      refine wpAnyH_take (S := S) (i := 21) (v := bp bb) rfl (by kernel_rfl) (by kernel_rfl) (by kernel_rfl) (fun _ _ _ h => h) (Or.inl ⟨by kernel_rfl, fun _ _ => by kernel_rfl⟩) hS ?_
      try simp only [Act.put, List.getElem_toArray, List.getElem_cons_succ, List.getElem_cons_zero, List.setIfInBounds_toArray, List.set_cons_zero, List.set_cons_succ]
      refine wpAnyH_take (S := S) (i := 22) (v := .slice (some ⟨lb, 0, none⟩) 4 4) rfl (by kernel_rfl) (by kernel_rfl) (by kernel_rfl) (fun _ _ _ h => h) (Or.inl ⟨by kernel_rfl, fun _ _ => by kernel_rfl⟩) hS ?_
      try simp only [Act.put, List.getElem_toArray, List.getElem_cons_succ, List.getElem_cons_zero, List.setIfInBounds_toArray, List.set_cons_zero, List.set_cons_succ]
      refine wpAnyH_take (S := S) (i := 23) (v := .agg #[.int .i64 5, .int .i64 4, .int .i64 2]) rfl (by kernel_rfl) (by kernel_rfl) (by kernel_rfl) (fun _ _ _ h => h) (Or.inl ⟨by kernel_rfl, fun v hv => by (obtain ⟨s0, s1, s2⟩ := HSD.out _ hv; go_simp)⟩) hS ?_
      try simp only [Act.put, List.getElem_toArray, List.getElem_cons_succ, List.getElem_cons_zero, List.setIfInBounds_toArray, List.set_cons_zero, List.set_cons_succ]
      refine wpAnyH_take (S := S) (i := 24) (v := .slice (some ⟨xg, 0, none⟩) 32 32) rfl (by kernel_rfl) (by kernel_rfl) (by kernel_rfl) (fun _ _ _ h => h) (Or.inl ⟨by kernel_rfl, fun _ _ => by kernel_rfl⟩) hS ?_
      try simp only [Act.put, List.getElem_toArray, List.getElem_cons_succ, List.getElem_cons_zero, List.setIfInBounds_toArray, List.set_cons_zero, List.set_cons_succ]
      refine wpAnyH_take (S := S) (i := 25) (v := .slice (some ⟨xg, 0, none⟩) 32 32) rfl (by kernel_rfl) (by kernel_rfl) (by kernel_rfl) (fun _ _ _ h => h) (Or.inl ⟨by kernel_rfl, fun _ _ => by kernel_rfl⟩) hS ?_
      try simp only [Act.put, List.getElem_toArray, List.getElem_cons_succ, List.getElem_cons_zero, List.setIfInBounds_toArray, List.set_cons_zero, List.set_cons_succ]
      refine wpAnyH_take (S := S) (i := 26) (v := .slice (some ⟨xg, 0, none⟩) 32 32) rfl (by kernel_rfl) (by kernel_rfl) (by kernel_rfl) (fun _ _ _ h => h) (Or.inl ⟨by kernel_rfl, fun _ _ => by kernel_rfl⟩) hS ?_
      try simp only [Act.put, List.getElem_toArray, List.getElem_cons_succ, List.getElem_cons_zero, List.setIfInBounds_toArray, List.set_cons_zero, List.set_cons_succ]
      refine wpAnyH_take (S := S) (i := 27) (v := .slice (some ⟨xg, 0, none⟩) 32 32) rfl (by kernel_rfl) (by kernel_rfl) (by kernel_rfl) (fun _ _ _ h => h) (Or.inl ⟨by kernel_rfl, fun _ _ => by kernel_rfl⟩) hS ?_
      try simp only [Act.put, List.getElem_toArray, List.getElem_cons_succ, List.getElem_cons_zero, List.setIfInBounds_toArray, List.set_cons_zero, List.set_cons_succ]
      refine wpAnyH_ready (rs := [28]) (by kernel_rfl) (by simp) ?_
      refine AllReadyH.cons rfl (fun K hK => ?_) AllReadyH.nil
      go_simp
      replace gr := gr.trans (Gr.alloc _ (.cells #[.slice (some ⟨xg, 0, none⟩) 32 32, .slice (some ⟨xg, 0, none⟩) 32 32, .slice (some ⟨xg, 0, none⟩) 32 32, .slice (some ⟨xg, 0, none⟩) 32 32] 43))
      replace hS := HST.out _ gr
      refine hK.out _ _ hS (fun _ => ?_)
      clear hK K
      try simp only [Act.put, List.getElem_toArray, List.getElem_cons_succ, List.getElem_cons_zero, List.setIfInBounds_toArray, List.set_cons_zero, List.set_cons_succ]
      refine wpAnyH_ready (rs := [29]) (by kernel_rfl) (by simp) ?_
      refine AllReadyH.cons rfl (fun K hK => ?_) AllReadyH.nil
      go_simp
      refine (swrite_bad 5 4 2 0 4 _ 4 bb _ _ hG (.inr (by decide))).mono ?_
      rintro e v2 ⟨rfl, hg2⟩
      replace gr := gr.trans hg2
      replace hS := HST.out _ gr
      refine hK.out _ _ hS (fun _ => ?_)
      clear hK K
      try simp only [Act.put, List.getElem_toArray, List.getElem_cons_succ, List.getElem_cons_zero, List.setIfInBounds_toArray, List.set_cons_zero, List.set_cons_succ]
      refine wpAnyH_take (S := S) (i := 30) (v := .bool false) rfl (by kernel_rfl) (by kernel_rfl) (by kernel_rfl) (fun _ _ _ h => h) (Or.inl ⟨by kernel_rfl, fun v hv => by (obtain ⟨s0, s1, s2⟩ := HSD.out _ hv; go_simp)⟩) hS ?_
      try simp only [Act.put, List.getElem_toArray, List.getElem_cons_succ, List.getElem_cons_zero, List.setIfInBounds_toArray, List.set_cons_zero, List.set_cons_succ]
      refine wpAnyH_take (S := S) (i := 31) (v := .bool false) rfl (by kernel_rfl) (by kernel_rfl) (by kernel_rfl) (fun _ _ _ h => h) (Or.inl ⟨by kernel_rfl, fun _ _ => by kernel_rfl⟩) hS ?_
      try simp only [Act.put, List.getElem_toArray, List.getElem_cons_succ, List.getElem_cons_zero, List.setIfInBounds_toArray, List.set_cons_zero, List.set_cons_succ]
      refine wpAnyH_take (S := S) (i := 32) (v := .bool false) rfl (by kernel_rfl) (by kernel_rfl) (by kernel_rfl) (fun _ _ _ h => h) (Or.inl ⟨by kernel_rfl, fun _ _ => by kernel_rfl⟩) hS ?_
      try simp only [Act.put, List.getElem_toArray, List.getElem_cons_succ, List.getElem_cons_zero, List.setIfInBounds_toArray, List.set_cons_zero, List.set_cons_succ]
      refine wpAnyH_take (S := S) (i := 33) (v := bp bb) rfl (by kernel_rfl) (by kernel_rfl) (by kernel_rfl) (fun _ _ _ h => h) (Or.inl ⟨by kernel_rfl, fun _ _ => by kernel_rfl⟩) hS ?_
      try simp only [Act.put, List.getElem_toArray, List.getElem_cons_succ, List.getElem_cons_zero, List.setIfInBounds_toArray, List.set_cons_zero, List.set_cons_succ]
      refine wpAnyH_take (S := S) (i := 34) (v := .slice (some ⟨lb, 0, none⟩) 4 4) rfl (by kernel_rfl) (by kernel_rfl) (by kernel_rfl) (fun _ _ _ h => h) (Or.inl ⟨by kernel_rfl, fun _ _ => by kernel_rfl⟩) hS ?_
      try simp only [Act.put, List.getElem_toArray, List.getElem_cons_succ, List.getElem_cons_zero, List.setIfInBounds_toArray, List.set_cons_zero, List.set_cons_succ]
      refine wpAnyH_take (S := S) (i := 35) (v := .agg #[.int .i64 5, .int .i64 4, .int .i64 2]) rfl (by kernel_rfl) (by kernel_rfl) (by kernel_rfl) (fun _ _ _ h => h) (Or.inl ⟨by kernel_rfl, fun v hv => by (obtain ⟨s0, s1, s2⟩ := HSD.out _ hv; go_simp)⟩) hS ?_
      try simp only [Act.put, List.getElem_toArray, List.getElem_cons_succ, List.getElem_cons_zero, List.setIfInBounds_toArray, List.set_cons_zero, List.set_cons_succ]
      refine wpAnyH_take (S := S) (i := 36) (v := .slice (some ⟨xg, 0, none⟩) 32 32) rfl (by kernel_rfl) (by kernel_rfl) (by kernel_rfl) (fun _ _ _ h => h) (Or.inl ⟨by kernel_rfl, fun _ _ => by kernel_rfl⟩) hS ?_
      try simp only [Act.put, List.getElem_toArray, List.getElem_cons_succ, List.getElem_cons_zero, List.setIfInBounds_toArray, List.set_cons_zero, List.set_cons_succ]
      refine wpAnyH_take (S := S) (i := 37) (v := .slice (some ⟨xg, 0, none⟩) 32 32) rfl (by kernel_rfl) (by kernel_rfl) (by kernel_rfl) (fun _ _ _ h => h) (Or.inl ⟨by kernel_rfl, fun _ _ => by kernel_rfl⟩) hS ?_
      try simp only [Act.put, List.getElem_toArray, List.getElem_cons_succ, List.getElem_cons_zero, List.setIfInBounds_toArray, List.set_cons_zero, List.set_cons_succ]
      refine wpAnyH_take (S := S) (i := 38) (v := .slice (some ⟨xg, 0, none⟩) 32 32) rfl (by kernel_rfl) (by kernel_rfl) (by kernel_rfl) (fun _ _ _ h => h) (Or.inl ⟨by kernel_rfl, fun _ _ => by kernel_rfl⟩) hS ?_
      try simp only [Act.put, List.getElem_toArray, List.getElem_cons_succ, List.getElem_cons_zero, List.setIfInBounds_toArray, List.set_cons_zero, List.set_cons_succ]
      refine wpAnyH_take (S := S) (i := 39) (v := .slice (some ⟨xg, 0, none⟩) 9 32) rfl (by kernel_rfl) (by kernel_rfl) (by kernel_rfl) (fun _ _ _ h => h) (Or.inl ⟨by kernel_rfl, fun v hv => by (obtain ⟨s0, s1, s2⟩ := HSD.out _ hv; go_simp)⟩) hS ?_
      try simp only [Act.put, List.getElem_toArray, List.getElem_cons_succ, List.getElem_cons_zero, List.setIfInBounds_toArray, List.set_cons_zero, List.set_cons_succ]
      have gr0 := gr
      refine wpAnyH_ready (rs := [40]) (by kernel_rfl) (by simp) ?_
      refine AllReadyH.cons rfl (fun K hK => ?_) AllReadyH.nil
      go_simp
      replace gr := gr.trans (Gr.alloc _ (.cells #[.slice (some ⟨xg, 0, none⟩) 32 32, .slice (some ⟨xg, 0, none⟩) 32 32, .slice (some ⟨xg, 0, none⟩) 9 32] 43))
      replace hS := HST.out _ gr
      refine hK.out _ _ hS (fun _ => ?_)
      clear hK K
      try simp only [Act.put, List.getElem_toArray, List.getElem_cons_succ, List.getElem_cons_zero, List.setIfInBounds_toArray, List.set_cons_zero, List.set_cons_succ]
      refine wpAnyH_ready (rs := [41]) (by kernel_rfl) (by simp) ?_
      refine AllReadyH.cons rfl (fun K hK => ?_) AllReadyH.nil
      go_simp
      refine (swrite_len 5 4 2 0 bb [X, X, X.take 9] _ _ _ hG (by decide) (HRL.out _ (HX7.out.gr gr0)) (by simp) HANY.out).mono ?_
      rintro e v3 ⟨rfl, hg3⟩
      replace gr := gr.trans hg3
      replace hS := HST.out _ gr
      refine hK.out _ _ hS (fun _ => ?_)
      clear hK K
      try simp only [Act.put, List.getElem_toArray, List.getElem_cons_succ, List.getElem_cons_zero, List.setIfInBounds_toArray, List.set_cons_zero, List.set_cons_succ]
      refine wpAnyH_take (S := S) (i := 42) (v := .bool false) rfl (by kernel_rfl) (by kernel_rfl) (by kernel_rfl) (fun _ _ _ h => h) (Or.inl ⟨by kernel_rfl, fun v hv => by (obtain ⟨s0, s1, s2⟩ := HSD.out _ hv; go_simp)⟩) hS ?_
      try simp only [Act.put, List.getElem_toArray, List.getElem_cons_succ, List.getElem_cons_zero, List.setIfInBounds_toArray, List.set_cons_zero, List.set_cons_succ]
      refine wpAnyH_take (S := S) (i := 43) (v := .bool false) rfl (by kernel_rfl) (by kernel_rfl) (by kernel_rfl) (fun _ _ _ h => h) (Or.inl ⟨by kernel_rfl, fun _ _ => by kernel_rfl⟩) hS ?_
      try simp only [Act.put, List.getElem_toArray, List.getElem_cons_succ, List.getElem_cons_zero, List.setIfInBounds_toArray, List.set_cons_zero, List.set_cons_succ]
      refine wpAnyH_take (S := S) (i := 44) (v := .bool false) rfl (by kernel_rfl) (by kernel_rfl) (by kernel_rfl) (fun _ _ _ h => h) (Or.inl ⟨by kernel_rfl, fun _ _ => by kernel_rfl⟩) hS ?_
      try simp only [Act.put, List.getElem_toArray, List.getElem_cons_succ, List.getElem_cons_zero, List.setIfInBounds_toArray, List.set_cons_zero, List.set_cons_succ]
      refine wpAnyH_take (S := S) (i := 45) (v := bp bb) rfl (by kernel_rfl) (by kernel_rfl) (by kernel_rfl) (fun _ _ _ h => h) (Or.inl ⟨by kernel_rfl, fun _ _ => by kernel_rfl⟩) hS ?_
      try simp only [Act.put, List.getElem_toArray, List.getElem_cons_succ, List.getElem_cons_zero, List.setIfInBounds_toArray, List.set_cons_zero, List.set_cons_succ]
      refine wpAnyH_take (S := S) (i := 46) (v := bp bb) rfl (by kernel_rfl) (by kernel_rfl) (by kernel_rfl) (fun _ _ _ h => h) (Or.inl ⟨by kernel_rfl, fun v hv => by (obtain ⟨s0, s1, s2⟩ := HSD.out _ hv; go_simp)⟩) hS ?_
      try simp only [Act.put, List.getElem_toArray, List.getElem_cons_succ, List.getElem_cons_zero, List.setIfInBounds_toArray, List.set_cons_zero, List.set_cons_succ]
      refine wpAnyH_take (S := S) (i := 47) (v := bp bb) rfl (by kernel_rfl) (by kernel_rfl) (by kernel_rfl) (fun _ _ _ h => h) (Or.inl ⟨by kernel_rfl, fun v hv => by (obtain ⟨s0, s1, s2⟩ := HSD.out _ hv; go_simp)⟩) hS ?_
      try simp only [Act.put, List.getElem_toArray, List.getElem_cons_succ, List.getElem_cons_zero, List.setIfInBounds_toArray, List.set_cons_zero, List.set_cons_succ]
      refine wpAnyH_ready (rs := [48]) (by kernel_rfl) (by simp) ?_
      refine AllReadyH.cons rfl (fun K hK => ?_) AllReadyH.nil
      go_simp
      refine (writes_any (bm0 4) F bb _ (HB7.out.gr gr)).mono ?_
      rintro e v4 ⟨rfl, rfl⟩
      rw [HWR.out]
      refine hK.out _ _ hS (fun _ => ?_)
      clear hK K
      try simp only [Act.put, List.getElem_toArray, List.getElem_cons_succ, List.getElem_cons_zero, List.setIfInBounds_toArray, List.set_cons_zero, List.set_cons_succ]
      refine wpAnyH_take (S := S) (i := 49) (v := .bool false) rfl (by kernel_rfl) (by kernel_rfl) (by kernel_rfl) (fun _ _ _ h => h) (Or.inl ⟨by kernel_rfl, fun v hv => by (obtain ⟨s0, s1, s2⟩ := HSD.out _ hv; go_simp)⟩) hS ?_
      try simp only [Act.put, List.getElem_toArray, List.getElem_cons_succ, List.getElem_cons_zero, List.setIfInBounds_toArray, List.set_cons_zero, List.set_cons_succ]
      refine wpAnyH_take (S := S) (i := 50) (v := .bool false) rfl (by kernel_rfl) (by kernel_rfl) (by kernel_rfl) (fun _ _ _ h => h) (Or.inl ⟨by kernel_rfl, fun _ _ => by kernel_rfl⟩) hS ?_
      try simp only [Act.put, List.getElem_toArray, List.getElem_cons_succ, List.getElem_cons_zero, List.setIfInBounds_toArray, List.set_cons_zero, List.set_cons_succ]
      refine wpAnyH_done (by kernel_rfl) ?_ _
      -- region 18 end
      obtain ⟨w10, hw10⟩ : ∃ w10, w10 = v3 := ⟨_, rfl⟩
      have g10 := gr
      rw [← hw10] at g10 ⊢
      clear hw10
      have HB10 := Lib.hid (HB7.out.gr g10)
      have HL10 := Lib.hid (HL7.out.gr g10)
      have hgb10 := Lib.hid (g10.get hgb7.out)
      have HX10 := Lib.hid (HX7.out.gr g10)
      have gT := g7.trans g10
      clear HB7 HL7 hgb7 HX7 g7 g10 HST HSD hS gr gr0
      have hlr := within_range n2 (n := 4) (by decide)
      obtain ⟨lm, hlm⟩ : ∃ lm : Nat, within n2 4 = lm := ⟨(within n2 4).toNat, by omega⟩
      rw [hlm] at hlr
      have hwi : ∀ w : World, Calls Try.prog 19 #[.int .i64 n2, .int .i64 4] w fun e w' => e = .returned (.int .i64 lm) ∧ w = w' := fun w => hlm ▸ within_any n2 4 w (by decide)
      have HWI := Lib.hid hwi; clear hwi hlm
      obtain ⟨hlr0, hlr1⟩ := hlr
      go_wp2_with fail
      go_region_held3 (fun _ : World => True) (trivial) (first | (go_at_call 19; refine (HWI.out _).mono ?_; rintro e w11 ⟨rfl, rfl⟩) | (go_at_call 58; refine (limit_any (bm0 4) F bb lm _ (HB10.out.gr (Gr.drew _))).mono ?_; rintro e w11 ⟨rfl, hb11, st11⟩))
      obtain ⟨m2, hm2⟩ : ∃ m2, m2 = { bm0 4 with left := (lm : Int) } := ⟨_, rfl⟩
      have h2d : m2.down = false := by rw [hm2]; rfl
      have h2l : m2.left = lm := by rw [hm2]
      have h2u : ∀ j, j ≤ 3 → upF m2 [true, true, true, true] j = true := fun j hj => by
        rw [hm2]
        have : j = 0 ∨ j = 1 ∨ j = 2 ∨ j = 3 := by omega
        rcases this with rfl | rfl | rfl | rfl <;> rfl
      have h2p : ∀ j, (m2.d j).pend.length = 0 := fun j => by
        rw [hm2]
        show ((List.replicate 4 dm0).getD j dm0).pend.length = 0
        have hd : (List.replicate 4 dm0).getD j dm0 = dm0 := by
          match j with
          | 0 => rfl
          | 1 => rfl
          | 2 => rfl
          | 3 => rfl
          | k + 4 => rfl
        rw [hd]
        rfl
      have h2n : m2.ds.length = 4 := by rw [hm2]; rfl
      rw [← hm2] at hb11
      have HB11 := Lib.hid hb11; clear hb11
      have hdr := Gr.drew w10
      have HL11 := Lib.hid ((HL10.out.gr hdr).st (HB10.out.gr hdr) st11)
      have HX11 := Lib.hid ((HX10.out.gr hdr).st (HB10.out.gr hdr) st11)
      have hgb11 := Lib.hid (st11.keepB (HB10.out.gr hdr) (hdr.get hgb10.out) bty_geom)
      have hs11 := st11.since (gT.trans hdr) HF.out
      clear HB10 HL10 HX10 hgb10 st11 gT hm2 hdr
      obtain ⟨y0, y1, y2⟩ := box3 hgb11.out
      have hrows : RowsAt (w11.alloc (.cells #[.slice (some ⟨xg, 0, none⟩) 32 32, .slice (some ⟨xg, 0, none⟩) 32 32, .slice (some ⟨xg, 0, none⟩) 32 32] 43)) (.slice (some ⟨w11.heap.size, 0, none⟩) 3 3) [X, X, X] :=
        rows_lit (cap := 3) (vs := [.slice (some ⟨xg, 0, none⟩) 32 32, .slice (some ⟨xg, 0, none⟩) 32 32, .slice (some ⟨xg, 0, none⟩) 32 32]) (heap_alloc_new w11 _) rfl (by show 3 ≤ 8; decide) (fun i hi => by
          have hx := HX11.out.gr (Gr.alloc w11 (.cells #[.slice (some ⟨xg, 0, none⟩) 32 32, .slice (some ⟨xg, 0, none⟩) 32 32, .slice (some ⟨xg, 0, none⟩) 32 32] 43))
          have : i = 0 ∨ i = 1 ∨ i = 2 := by have : i < 3 := hi; omega
          rcases this with rfl | rfl | rfl <;> exact hx)
      have HROWS := Lib.hid hrows; clear hrows
      have hsec : ∀ i, i < [X, X, X].length → ([X, X, X].getD i []).length = 32 := fun i hi => by
        have : i = 0 ∨ i = 1 ∨ i = 2 := by have : i < 3 := hi; omega
        rcases this with rfl | rfl | rfl <;> exact HXL.out
      have HSEC := Lib.hid hsec; clear hsec
      obtain ⟨Y, hY⟩ : ∃ Y, Y = fillR 5 4 2 0 [X, X, X] := ⟨_, rfl⟩
      have hwl := sw_limit (a := 36 + 0) (X := Y) h2d h2l (by omega) (fun j hj => h2u j (by omega)) 4 (by omega)
      obtain ⟨m3, hm3⟩ : ∃ m3, m3 = (stepTo (swF [true, true, true, true] (36 + 0) Y) m2 4).2 := ⟨_, rfl⟩
      have hal : Alike m2 m3 := by rw [hm3]; exact stepTo_alike (swF_alike _ _ _) m2 4
      have h3c : Calm m3 := fun j => by
        have := sw_pend [true, true, true, true] (36 + 0) Y m2 j 4
        rw [← hm3, h2p] at this
        omega
      have h3d : m3.down = true := by rw [hm3]; exact hwl.2
      have h3u : ∀ j, j ≤ 3 → upF m3 [true, true, true, true] j = true := fun j hj => by rw [hal.up]; exact h2u j hj
      have h3n : m3.ds.length = 4 := by rw [hal.1, h2n]
      have hfl : (stepTo (flF [true, true, true, true]) m3 m3.ds.length).1 = 6 := fl_down h3d (h3u 0 (by omega)) (by omega)
      have HWL := Lib.hid hwl.1; clear hwl
      have H2P := Lib.hid h2p; clear h2p h2u h2d h2l h2n hal
      have H3U := Lib.hid h3u; clear h3u
      have HFL := Lib.hid hfl; clear hfl
      go_wp2_with fail
      refine (swrite_good m2 [true, true, true, true] F 5 4 2 0 bb [X, X, X] _ _ _ (HB11.out.gr (Gr.alloc _ _)) ((HL11.out.gr (Gr.alloc _ _)).bools rfl (by decide)) hG (by decide) (fun j => by rw [H2P.out]; decide) HROWS.out (by simp) HSEC.out).mono ?_
      rintro e w12 ⟨rfl, F12, hb12, st12⟩
      rw [show ((4 : Int)).toNat = 4 from rfl, show ((0 : Nat) : Int) = 0 from rfl, ← hY] at hb12 ⊢
      rw [HWL.out]
      rw [← hm3] at hb12
      have HB12 := Lib.hid hb12; clear hb12
      have hga := Gr.alloc w11 (.cells #[.slice (some ⟨xg, 0, none⟩) 32 32, .slice (some ⟨xg, 0, none⟩) 32 32, .slice (some ⟨xg, 0, none⟩) 32 32] 43)
      have HL12 := Lib.hid ((HL11.out.gr hga).st (HB11.out.gr hga) st12)
      have hgb12 := Lib.hid (st12.keepB (HB11.out.gr hga) (hga.get hgb11.out) bty_geom)
      have hs12 := st12.since (hs11.1.trans hga) hs11.2
      clear HB11 HL11 HX11 hgb11 st12 hs11 hga y0 y1 y2 HROWS hm3 hY
      obtain ⟨y0, y1, y2⟩ := box3 hgb12.out
      go_wp2_with fail
      refine (sread_down m3 [true, true, true, true] F12 5 4 2 0 bb _ _ HB12.out (HL12.out.bools rfl (by decide)) hG (by decide) h3d h3c (H3U.out 0 (by decide))).mono ?_
      rintro e w13 ⟨rfl, hg13⟩
      replace y0 := hg13.cell y0
      replace y1 := hg13.cell y1
      replace y2 := hg13.cell y2
      go_wp2_with fail
      refine (sone_down m3 [true, true, true, true] F12 5 4 2 0 bb _ _ (HB12.out.gr hg13) ((HL12.out.gr hg13).bools rfl (by decide)) hG (by decide) (by decide) h3d h3c (H3U.out _ (by decide))).mono ?_
      rintro e w14 ⟨rfl, hg14⟩
      go_wp2_with fail
      refine (sflush_any m3 [true, true, true, true] F12 bb _ _ (HB12.out.gr (hg13.trans hg14)) ((HL12.out.gr (hg13.trans hg14)).bools rfl (by decide)) h3c (by omega)).mono ?_
      rintro e w15 ⟨rfl, F15, hb15, st15⟩
      rw [HFL.out]
      go_wp2_with fail
      refine (wakes14 _).mono ?_
      rintro e w16 ⟨rfl, hg16⟩
      go_wp2
      go_ret
      exact ⟨rfl, (st15.since (hs12.1.trans (hg13.trans hg14)) hs12.2).1.trans hg16⟩
end Go.Proofs.Ytoalnkhedebpbaa
