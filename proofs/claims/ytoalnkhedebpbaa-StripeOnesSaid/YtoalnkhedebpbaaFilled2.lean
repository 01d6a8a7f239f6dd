/- wattlelaw14.Filled: what it answers. -/
import Derived.Test.YtoalnkhedebpbaaLive
namespace Go.Proofs.Ytoalnkhedebpbaa
open Go.RowKit

/-- What stands at a place of a bench that is filled. -/
def rowG (L D C : Int) (l : List Int) (r d : Nat) : List UInt8 := (fillR L D C r (sectsF (rowL l r) (D - (L - 4)).toNat)).getD d []
theorem sectsF_len (l : List Int) (n : Nat) : ∀ i, i < (sectsF l n).length → ((sectsF l n).getD i []).length = 32 := fun i hi => by
  rw [sectsF_length] at hi
  rw [sectsF_get l hi]
  exact secF_length _
def filledM (L D C : Int) (n : Nat) (l : List Int) : BM := stdM n (fstage (fun _ => D.toNat) (rowG L D C l) 16 0)
theorem RowsAt.at {w : World} {b off n cap : Nat} {ls : List (List UInt8)} (h : RowsAt w (.slice (some ⟨b, off, none⟩) n cap) ls) {i : Nat} (hi : i < ls.length) : ∃ a k c, w.cell? ⟨b, off + i, none⟩ = some (.slice a k c) ∧ BytesAt w (.slice a k c) (ls.getD i []) := by
  rcases h.cases with ⟨h0, _⟩ | ⟨b', off', c', us, e, _, _, _, hc, hb⟩
  · rw [h0] at hi; simp at hi
  · injection e with e1 e2 e3
    injection e1 with e1
    injection e1 with e1 e4 e5
    subst e1; subst e4
    obtain ⟨a, k, c, hs⟩ := (hb i hi).sl
    exact ⟨a, k, c, by rw [hc i hi, hs], hs ▸ hb i hi⟩
theorem RowsAt.some {w : World} {v : Value} {ls : List (List UInt8)} (h : RowsAt w v ls) (h0 : 0 < ls.length) : ∃ b off cap, v = .slice (some ⟨b, off, none⟩) ls.length cap := by
  rcases h.cases with ⟨h1, _⟩ | ⟨b, off, c, us, e, _⟩
  · rw [h1] at h0; simp at h0
  · exact ⟨b, off, c, e⟩
set_option maxRecDepth 100000 in
set_option maxHeartbeats 4000000 in
theorem filled14_any (L D C : Int) (n : Nat) (l : List Int) (v : Value) (w : World) (h : goodG L D C = true) (hn : D ≤ n) (hn8 : n ≤ 8) (hv : IntsIn w v l) :
    Calls Try.prog 22 #[gv L D C, .int .i64 n, v] w fun e w' => ∃ bb F, e = .returned (bp bb) ∧ BenchAt w' F bb (filledM L D C n l) ∧ (∀ k, F k → w.heap.size ≤ k) ∧ Gr w w' := by
  obtain ⟨hL1, hL2, hD1, hD2, hC1, hC2, hw⟩ := goodG_bds h
  have HG := Lib.hid h; clear h
  obtain ⟨DN, hDN⟩ : ∃ DN : Nat, D = DN := ⟨D.toNat, by omega⟩
  subst hDN
  obtain ⟨W, hW⟩ : ∃ W : Nat, (DN : Int) - (L - 4) = W := ⟨((DN : Int) - (L - 4)).toNat, by omega⟩
  have hW8 : W ≤ 8 := by omega
  have HV := Lib.hid hv
  obtain ⟨a, cap, rfl, hlc, hcm, hcells⟩ := hv
  clear hcells
  obtain ⟨m, hm⟩ : ∃ m, m = l.length := ⟨_, rfl⟩
  rw [← hm] at hlc HV ⊢
  have HM := Lib.hid hm; clear hm
  have hmc : (m : Int) ≤ (cap : Int) := by omega
  have hcap : (cap : Int) ≤ 9223372036854775807 := by unfold maxLen at hcm; omega
  clear hlc hcm
  obtain ⟨G, hG⟩ : ∃ G, G = rowG L DN C l := ⟨_, rfl⟩
  have HFM : Hid (filledM L DN C n l = stdM n (fstage (fun _ => DN) G 16 0)) := Lib.hid (by rw [hG]; rfl)
  have HGD : Hid (∀ r d, G r d = (fillR L DN C r (sectsF (rowL l r) W)).getD d []) := Lib.hid (fun r d => by rw [hG]; unfold rowG; rw [show ((DN : Int) - (L - 4)).toNat = W from by omega])
  clear hG
  rw [HFM.out]
  clear HFM
  have hD1' : DN ≤ n := by omega
  go_enter Try.func22, Try.ntmps22
  go_wp2_with fail
  refine (bnew_any n _ (by omega) hn8).mono ?_
  rintro e w1 ⟨rfl, ⟨F0, hb0, hF0⟩, hg1⟩
  have hgb0 := hg1.get (heap_alloc_new w (.cells #[.int .i64 L, .int .i64 DN, .int .i64 C] 23))
  have HGB := Lib.hid hgb0; clear hgb0
  have hws : w.heap.size < w1.heap.size := heap_lt HGB.out
  have hF1 : ∀ k, F0 k → w.heap.size < k := fun k hk => by have := hF0 k hk; simp at this; omega
  rw [stdM_zero, ← fstage_zero (fun _ => DN) G] at hb0
  have hgw : Gr w w1 := (Gr.alloc w _).trans hg1
  have HB := Lib.hid hb0; clear hb0
  have HF := Lib.hid hF1; clear hF1 hF0 hg1
  have hbn : (w.alloc (.cells #[.int .i64 L, .int .i64 DN, .int .i64 C] 23)).heap.size = w.heap.size + 1 := by simp
  rw [hbn] at HB
  clear hbn
  go_wp2_with fail
  go_loopw [9] (fun i wr => ∃ (r : Nat) (F : Nat → Prop), r ≤ 16 ∧ i = .int .i64 r ∧ Hid (BenchAt wr F (w.heap.size + 1) (stdM n (fstage (fun _ => DN) G r 0))) ∧ Hid (∀ k, F k → w.heap.size < k) ∧ Hid (wr.heap[w.heap.size]? = some (.cells #[.int .i64 L, .int .i64 DN, .int .i64 C] 23)) ∧ Gr w wr) (fun i _ => 16 - (intOf i).toNat)
  case atStart => exact ⟨0, F0, by omega, rfl, HB, HF, HGB, hgw⟩
  case round =>
    obtain ⟨r, F, hr, rfl, hb, hF, hgb, hgr⟩ := hrel
    by_cases hlt : r < 16
    · obtain ⟨c0, c1, c2⟩ := box3 hgb.out
      obtain ⟨j, hj⟩ : ∃ j, j = min r m := ⟨_, rfl⟩
      have hmin : (if m < r then (m : Int) else (r : Int)) = (j : Int) := by split <;> omega
      have h0 : (0 : Int) ≤ (j : Int) := by omega
      have h1 : (j : Int) ≤ (m : Int) := by omega
      have htl := HV.out.tail HM.out r
      rw [← hj] at htl
      unfold tailV at htl
      clear hj
      go_wp2_with fail
      by_cases hcj : cap = j
      case' pos =>
        obtain rfl : j = cap := hcj.symm
        rw [if_pos rfl, Nat.sub_self] at htl
        have HT := Lib.hid htl; clear htl hcj
        have g0 := hgr
        go_region_held3 (fun wx : World => wx.cell? ⟨w.heap.size, 0, none⟩ = some (.int .i64 L) ∧ wx.cell? ⟨w.heap.size, 1, none⟩ = some (.int .i64 (DN : Int)) ∧ wx.cell? ⟨w.heap.size, 2, none⟩ = some (.int .i64 C)) (first | exact ⟨c0, c1, c2⟩ | exact ⟨d0, d1, d2⟩ | exact ⟨x0, x1, x2⟩ | exact ⟨y0, y1, y2⟩) (first | (go_at_call 54; refine (rwidth_good L DN C _ HG.out).mono ?_; rintro e w4 ⟨rfl, hg4⟩; rw [hW]; have g4 := (Gr.drew wr).trans hg4; have d0 := g4.cell c0; have d1 := g4.cell c1; have d2 := g4.cell c2) | (go_at_call 53; refine (sects_any (rowL l r) W _ _ (HT.out.gr (g0.trans g4)) hW8).mono ?_; rintro e w5 ⟨x, rfl, hx, hg5⟩; have x0 := hg5.cell d0; have x1 := hg5.cell d1; have x2 := hg5.cell d2; have HX := Lib.hid hx; clear hx) | (go_at_call 41; refine (rfill_good L DN C r (sectsF (rowL l r) W) _ _ HG.out (by omega) (by omega) HX.out (by rw [sectsF_length]; omega) (sectsF_len _ _)).mono ?_; rintro e w6 ⟨y, rfl, hy, hg6⟩; have y0 := hg6.cell x0; have y1 := hg6.cell x1; have y2 := hg6.cell x2; have HY := Lib.hid hy; clear hy))
      case' neg =>
        rw [if_neg hcj] at htl
        have HT := Lib.hid htl; clear htl
        have g0 := hgr
        go_region_held3 (fun wx : World => wx.cell? ⟨w.heap.size, 0, none⟩ = some (.int .i64 L) ∧ wx.cell? ⟨w.heap.size, 1, none⟩ = some (.int .i64 (DN : Int)) ∧ wx.cell? ⟨w.heap.size, 2, none⟩ = some (.int .i64 C)) (first | exact ⟨c0, c1, c2⟩ | exact ⟨d0, d1, d2⟩ | exact ⟨x0, x1, x2⟩ | exact ⟨y0, y1, y2⟩) (first | (go_at_call 54; refine (rwidth_good L DN C _ HG.out).mono ?_; rintro e w4 ⟨rfl, hg4⟩; rw [hW]; have g4 := (Gr.drew wr).trans hg4; have d0 := g4.cell c0; have d1 := g4.cell c1; have d2 := g4.cell c2) | (go_at_call 53; refine (sects_any (rowL l r) W _ _ (HT.out.gr (g0.trans g4)) hW8).mono ?_; rintro e w5 ⟨x, rfl, hx, hg5⟩; have x0 := hg5.cell d0; have x1 := hg5.cell d1; have x2 := hg5.cell d2; have HX := Lib.hid hx; clear hx) | (go_at_call 41; refine (rfill_good L DN C r (sectsF (rowL l r) W) _ _ HG.out (by omega) (by omega) HX.out (by rw [sectsF_length]; omega) (sectsF_len _ _)).mono ?_; rintro e w6 ⟨y, rfl, hy, hg6⟩; have y0 := hg6.cell x0; have y1 := hg6.cell x1; have y2 := hg6.cell x2; have HY := Lib.hid hy; clear hy))
      all_goals
        have hlen : (fillR L DN C r (sectsF (rowL l r) W)).length = DN := by rw [fillR_length]; omega
        obtain ⟨yb, yo, yc, rfl⟩ := HY.out.some (by omega)
        have hsec : ∀ d, d < DN → (G r d).length = 32 := fun d hd => by
          rw [HGD.out]
          exact fillR_sec HG.out _ (by rw [sectsF_length]; omega) (sectsF_len _ _) (by omega)
        rw [hlen] at HY ⊢
        have HLEN := Lib.hid hlen; clear hlen
        have HSEC := Lib.hid hsec; clear hsec
        have g6 : Gr wr w6 := (g4.trans hg5).trans hg6
        have hb6 := Lib.hid (hb.out.gr g6)
        have hgb6 := Lib.hid (g6.get hgb.out)
        have hgr6 := hgr.trans g6
        clear c0 c1 c2 d0 d1 d2 x0 x1 x2 y0 y1 y2 HX HT hb hgb hgr hg4 hg5 hg6 g4 g6 g0
        go_wp2_with fail
        obtain ⟨wo, rfl⟩ : ∃ wo : World, wo = wr := ⟨_, rfl⟩
        go_loopw [12] (fun i wi => ∃ (d : Nat) (F : Nat → Prop), d ≤ DN ∧ i = .int .i64 d ∧ Hid (BenchAt wi F (w.heap.size + 1) (stdM n (fstage (fun _ => DN) G r d))) ∧ Hid (∀ k, F k → w.heap.size < k) ∧ Hid (wi.heap[w.heap.size]? = some (.cells #[.int .i64 L, .int .i64 DN, .int .i64 C] 23)) ∧ Hid (RowsAt wi (.slice (some ⟨yb, yo, none⟩) DN yc) (fillR L DN C r (sectsF (rowL l r) W))) ∧ Gr w wi) (fun i _ => DN - (intOf i).toNat)
        case atStart => exact ⟨0, F, by omega, rfl, hb6, hF, hgb6, HY, hgr6⟩
        case round =>
          obtain ⟨d, F2, hd, rfl, hb2, hF2, hgb2, hy2, hgr2⟩ := hrel
          by_cases hdlt : d < DN
          · obtain ⟨a3, k3, c3, cy, hby⟩ := hy2.out.at (i := d) (by rw [HLEN.out]; exact hdlt)
            rw [← HGD.out] at hby
            have HBY := Lib.hid hby; clear hby
            have hdn : d < n := by omega
            go_wp2_with fail
            have e36 : (36 : Int) + (r : Int) = ((36 + r : Nat) : Int) := by omega
            rw [e36]; clear e36
            refine (bdamage_ok (stdM n (fstage (fun _ => DN) G r d)) F2 (w.heap.size + 1) d (36 + r) (G r d) _ _ hb2.out (by rw [stdM_len]; exact hdn) (by rw [stdM_d _ hdn]) (by rw [stdM_d _ hdn]; unfold mayF; simp; omega) HBY.out (HSEC.out d hdlt)).mono ?_
            rintro e w8 ⟨rfl, F3, hb3, st3⟩
            rw [stdM_set _ _ _ hdn, fstage_step (Dn := fun _ => DN) hdlt] at hb3
            have hlw := heap_lt hgb2.out
            have hF3 : ∀ k, F3 k → w.heap.size < k := fun k hk => by
              rcases st3.2 k hk with e | e
              · exact hF2.out k e
              · omega
            have hgb3 := Lib.hid ((st3.1.block w.heap.size hlw (fun e => by have := hF2.out _ e; omega)).trans hgb2.out)
            have hy3 := Lib.hid (hy2.out.st hb2.out st3)
            have hgr3 : Gr w w8 := (st3.since hgr2 (fun k hk => Nat.le_of_lt (hF2.out k hk))).1
            have HB3 := Lib.hid hb3; clear hb3 st3
            have HF3 := Lib.hid hF3; clear hF3
            go_wp2
            go_roundw
            case rel => exact ⟨d + 1, F3, by omega, by go_num, HB3, HF3, hgb3, hy3, hgr3⟩
            case measure => simp [intOf]; omega
          · obtain rfl : d = DN := by omega
            have hb4 : Hid (BenchAt wr F2 (w.heap.size + 1) (stdM n (fstage (fun _ => d) G (r + 1) 0))) := Lib.hid (by rw [← fstage_next (fun _ => d) G r]; exact hb2.out)
            go_wp2
            go_roundw
            case rel => exact ⟨r + 1, F2, by omega, by go_num, hb4, hF2, hgb2, hgr2⟩
            case measure => simp [intOf]; omega
    · obtain rfl : r = 16 := by omega
      go_wp2
      go_ret
      exact ⟨_, F, rfl, hb.out, fun k hk => Nat.le_of_lt (hF.out k hk), hgr⟩
end Go.Proofs.Ytoalnkhedebpbaa
