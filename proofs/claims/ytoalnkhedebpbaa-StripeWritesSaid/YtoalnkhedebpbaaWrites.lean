/- wattlelaw14.StripeWrites: it answers true. -/
import Derived.Test.YtoalnkhedebpbaaWrites0
namespace Go.Proofs.Ytoalnkhedebpbaa
open Go.RowKit

theorem filled_rd {L D C : Int} (h : goodG L D C = true) {n : Nat} (hn : D ≤ n) (l : List Int) {r d : Nat} (hr : r < 16) (hd : (d : Int) < D) : rd ((filledM L D C n l).d d) (36 + r) = (fillR L D C r (sectsF (rowL l r) (D - (L - 4)).toNat)).getD d [] := by
  refine (filled_on h hn l (List.replicate n true) hr).rows d hd ?_
  unfold filledM
  rw [stdM_up (by omega)]
  have : d < n := by omega
  simp [this]
set_option maxRecDepth 100000 in
set_option maxHeartbeats 12000000 in
theorem writes_walk (n alive fail r count : Int) (l q : List Int) (v u : Value) (w : World) (hn : -9223372036854775808 ≤ n) (hn' : n ≤ 9223372036854775807) (hv : IntsIn w v l) (hu : IntsIn w u q) :
    Calls Try.prog 11 #[.int .i64 n, v, u, .int .i64 alive, .int .i64 fail, .int .i64 r, .int .i64 count] w fun e w' => e = .returned (.bool true) ∧ Gr w w' := by
  have HV := Lib.hid hv
  obtain ⟨va, vc, rfl, hc1, hc2, hc3⟩ := hv
  clear hc1 hc2 hc3
  have HU := Lib.hid hu
  obtain ⟨ua, uc, rfl, hc1, hc2, hc3⟩ := hu
  clear hc1 hc2 hc3
  go_enter Try.func11, Try.ntmps11
  go_wp2_with fail
  refine (good_any n _ hn hn').mono ?_
  rintro e w1 ⟨L, D, C, hG, rfl, hg1⟩
  obtain ⟨hL1, hL2, hD1, hD2, hC1, hC2, hw⟩ := goodG_bds hG
  have HG := Lib.hid hG; clear hG
  obtain ⟨DN, hDN⟩ : ∃ DN : Nat, D = DN := ⟨D.toNat, by omega⟩
  subst hDN
  go_wp2_with fail
  have gA : Gr w (w1.alloc (.cells #[.int .i64 L, .int .i64 DN, .int .i64 C] 23)) := hg1.trans (Gr.alloc _ _)
  have hgb0 := heap_alloc_new w1 (.cells #[.int .i64 L, .int .i64 DN, .int .i64 C] 23)
  refine (filled14_any L DN C DN l _ _ HG.out (by omega) (by omega) (HV.out.gr gA)).mono ?_
  rintro e w2 ⟨bb, F, rfl, hb, hF, hg2⟩
  have hgb := Lib.hid (hg2.get hgb0); clear hgb0
  have hF2 : Hid (∀ k, F k → w1.heap.size < k) := Lib.hid fun k hk => by have := hF k hk; simp at this; omega
  have HB := Lib.hid hb; clear hb hF
  have g2 : Gr w w2 := gA.trans hg2
  have h1s := hg1.size
  clear gA hg2
  obtain ⟨c0, c1, c2⟩ := box3 hgb.out
  obtain ⟨W, hW⟩ : ∃ W : Nat, ((DN : Int) - (L - 4)).toNat = W := ⟨_, rfl⟩
  have hWi : (DN : Int) - (L - 4) = W := by omega
  have hW1 : 0 < W := by omega
  have hW8 : W < 8 := by omega
  obtain ⟨m, hm⟩ : ∃ m, m = filledM L DN C DN l := ⟨_, rfl⟩
  have hmf : Free m := by rw [hm]; exact ⟨rfl, rfl⟩
  have hmc : ∀ j, (m.d j).pend.length = 0 := fun j => by
    rw [hm]; unfold filledM
    by_cases h : j < DN
    · rw [stdM_d _ h]; rfl
    · simp [stdM, BM.d, h, dm0]
  have hmr : ∀ d s : Nat, d < DN → s < 16 → rd (m.d d) (36 + s) = (fillR L DN C s (sectsF (rowL l s) W)).getD d [] := fun d s hd hs => by
    rw [hm, ← hW]; exact filled_rd HG.out (Int.le_refl _) l hs (by omega)
  have hml : m.ds.length = DN := by rw [hm]; exact stdM_len _ _
  rw [← hm] at HB
  have HW := Lib.hid hW; clear hW
  have HWI := Lib.hid hWi; clear hWi
  have HMF := Lib.hid hmf; clear hmf
  have HMC := Lib.hid hmc; clear hmc
  have HMR := Lib.hid hmr; clear hmr
  have HML := Lib.hid hml; clear hml hm
  go_wp2_with fail
  refine (live_any alive DN _ (by omega) (by omega)).mono ?_
  rintro e w3 ⟨lb, rfl, hlv, hlb, hg3⟩
  have hll := liveF_length alive DN
  obtain ⟨lv, hlve⟩ : ∃ lv, lv = liveF alive DN := ⟨_, rfl⟩
  rw [← hlve] at hlv hll
  have HLV := Lib.hid hlv; clear hlv hlve
  have HLL := Lib.hid hll; clear hll
  have b0 := hg3.cell c0
  have b1 := hg3.cell c1
  have b2 := hg3.cell c2
  have HB3 := Lib.hid (HB.out.gr hg3)
  have hgb3 := Lib.hid (hg3.get hgb.out)
  have g3 := g2.trans hg3
  clear HB hgb hg3 c0 c1 c2 g2 hlb
  go_wp2_with fail
  refine (within_any fail 3 _ (by decide)).mono ?_
  rintro e w4 ⟨rfl, rfl⟩
  go_upto_if 46 with fail
  go_cut [] (fun wx => ∃ (m4 : BM) (F4 : Nat → Prop), BenchAt wx F4 bb m4 ∧ OwnB wx lb lv ∧ wx.heap[w1.heap.size]? = some (.cells #[.int .i64 L, .int .i64 DN, .int .i64 C] 23 (0, 0)) ∧ Gr w wx ∧ (∀ k, F4 k → w.heap.size ≤ k) ∧ (∀ d s : Nat, d < DN → s < 16 → (m4.d d).failed = false → rd (m4.d d) (36 + s) = (fillR L DN C s (sectsF (rowL l s) W)).getD d []) ∧ m4.ds.length = DN ∧ Free m4 ∧ (∀ j, (m4.d j).pend.length = 0))
  case first =>
    by_cases hf0 : within fail 3 = 0
    · have bf0 : (within fail 3 == 0) = true := beq_iff_eq.2 hf0
      go_wp2_with fail
      refine (within_pos fail (DN : Int) _ (by omega) (by omega)).mono ?_
      rintro e w4 ⟨p, p0, p1, -, rfl, rfl⟩
      obtain ⟨fn, rfl⟩ : ∃ fn : Nat, p = fn := ⟨p.toNat, by omega⟩
      have hfN : fn < DN := by omega
      go_wp2_with fail
      refine (bfail_ok m F bb fn _ HB3.out (by rw [HML.out]; exact hfN)).mono ?_
      rintro e w4 ⟨rfl, F4, hb4, st4⟩
      go_wp2
      go_meet
      case rel =>
        have hs4 := st4.since g3 (fun k hk => by have := hF2.out k hk; omega)
        refine ⟨m.set fn dfail, F4, hb4, HLV.out.st HB3.out st4, st4.keepB HB3.out hgb3.out bty_geom, hs4.1, hs4.2, fun d s hd hs hfd => ?_, by rw [BM.set_len, HML.out], HMF.out, fun j => ?_⟩
        · rw [BM.set_d _ _ (by rw [HML.out]; exact hfN)] at hfd ⊢
          split at hfd
          · exact absurd hfd (by decide)
          · rename_i e; rw [if_neg e]; exact HMR.out d s hd hs
        · rw [BM.set_d _ _ (by rw [HML.out]; exact hfN)]
          split
          · rfl
          · exact HMC.out j
    · have bf0 : (within fail 3 == 0) = false := beq_eq_false_iff_ne.2 hf0
      go_wp2
      go_meet
      case rel => exact ⟨m, F, HB3.out, HLV.out, hgb3.out, g3, fun k hk => by have := hF2.out k hk; omega, fun d s hd hs _ => HMR.out d s hd hs, HML.out, HMF.out, HMC.out⟩
  case rest =>
    obtain ⟨m4, F4, hb4, hlv4, hgbx, g4, hF4, hm4r, hm4l, hm4f, hm4p⟩ := hcut
    obtain ⟨w4, hw4⟩ : ∃ w4, w4 = wc := ⟨_, rfl⟩
    rw [← hw4] at hb4 hlv4 hgbx g4 ⊢
    clear hw4
    have HB4 := Lib.hid hb4; clear hb4
    have HLV4 := Lib.hid hlv4; clear hlv4
    have hgb4 := Lib.hid hgbx; clear hgbx
    have HM4R := Lib.hid hm4r; clear hm4r
    have HM4L := Lib.hid hm4l; clear hm4l
    have HM4F := Lib.hid hm4f; clear hm4f
    have HM4P := Lib.hid hm4p; clear hm4p
    have HF4 := Lib.hid hF4; clear hF4
    clear b0 b1 b2 HB3 HLV hgb3 g3 HMR HML HMF HMC
    obtain ⟨b0, b1, b2⟩ := box3 hgb4.out
    go_wp2_with fail
    refine (within_pos r 18 _ (by omega) (by omega)).mono ?_
    rintro e w6 ⟨z, z0, z1, -, rfl, rfl⟩
    obtain ⟨rr, hrr⟩ : ∃ rr, z - 1 = rr := ⟨_, rfl⟩
    have hqw : IntKind.i64.wrap (z - 1) = rr := (IntWalk.i64_in _ (by omega)).trans hrr
    replace z0 : -1 ≤ rr := by omega
    replace z1 : rr ≤ 16 := by omega
    clear hrr
    go_wp2_with fail
    refine (rwidth_good L DN C _ HG.out).mono ?_
    rintro e w5 ⟨rfl, hg5⟩
    rw [HWI.out]
    have HB5 := Lib.hid (HB4.out.gr hg5)
    have HLV5 := Lib.hid (HLV4.out.gr hg5)
    have hgb5 := Lib.hid (hg5.get hgb4.out)
    have g5 := g4.trans hg5
    clear b0 b1 b2 HB4 HLV4 hgb4 g4 hg5
    go_upto_if 60 with fail
    go_cut [18] (fun s18 wx => ∃ cn : Nat, cn ≤ 8 ∧ s18 = .int .i64 cn ∧ w5 = wx)
    case first =>
      by_cases h7 : count.tmod 7 = 6
      · have b7 : (count.tmod 7 == 6) = true := beq_iff_eq.2 h7
        go_wp2_with fail
        refine (within_pos count 9 _ (by omega) (by omega)).mono ?_
        rintro e w6 ⟨p, p0, p1, -, rfl, rfl⟩
        obtain ⟨cn, rfl⟩ : ∃ cn : Nat, p = cn := ⟨p.toNat, by omega⟩
        go_wp2
        go_meet
        case rel => exact ⟨cn, by omega, rfl, rfl⟩
      · have b7 : (count.tmod 7 == 6) = false := beq_eq_false_iff_ne.2 h7
        go_wp2
        go_meet
        case rel => exact ⟨W, by omega, rfl, rfl⟩
    case rest =>
      obtain ⟨cn, hcn, rfl, rfl⟩ := hcut
      go_wp2_with fail
      refine (sects_any q cn _ _ (HU.out.gr g5) hcn).mono ?_
      rintro e w6 ⟨x, rfl, hx, hg6⟩
      have hXl := sectsF_length q cn
      have hXs := sectsF_len q cn
      obtain ⟨X, hX⟩ : ∃ X, X = sectsF q cn := ⟨_, rfl⟩
      rw [← hX] at hx hXl hXs
      obtain ⟨xa, xc, rfl⟩ := hx.shape
      rw [hXl] at hx ⊢
      have HX := Lib.hid hx; clear hx hX
      have HXL := Lib.hid hXl; clear hXl
      have HXS := Lib.hid hXs; clear hXs
      have HB6 := Lib.hid (HB5.out.gr hg6)
      have HLV6 := Lib.hid (HLV5.out.gr hg6)
      have hgb6 := Lib.hid (hg6.get hgb5.out)
      have g6 := g5.trans hg6
      clear HB5 HLV5 hgb5 g5 hg6
      obtain ⟨b0, b1, b2⟩ := box3 hgb6.out
      rcases Classical.em ((rr < 0 ∨ 16 ≤ rr) ∨ (cn : Int) ≠ (DN : Int) - (L - 4)) with hbad | hok
      · have hpz : pendTo m4 m4.ds.length = 0 := pendTo_zero HM4P.out _
        have HPZ := Lib.hid hpz; clear hpz
        go_wp2_with fail
        refine (rfill_bad L DN C rr cn xa xc _ HG.out hbad).mono ?_
        rintro e w7 ⟨rfl, hg7⟩
        replace b0 := hg7.cell b0
        replace b1 := hg7.cell b1
        replace b2 := hg7.cell b2
        go_wp2_with fail
        refine (swrite_bad L DN C rr cn xa xc bb _ _ HG.out hbad).mono ?_
        rintro e w8 ⟨rfl, hg8⟩
        go_wp2_with fail
        refine (bpending_any m4 F4 bb _ (HB6.out.gr (hg7.trans hg8)) (fun j => by rw [HM4P.out]; omega) (by rw [HM4L.out]; omega)).mono ?_
        rintro e w9 ⟨rfl, rfl⟩
        rw [HPZ.out]
        go_wp2_with fail
        refine (wakes14 _).mono ?_
        rintro e w10 ⟨rfl, hg10⟩
        go_wp2
        go_ret
        exact ⟨rfl, ((g6.trans hg7).trans hg8).trans hg10⟩
      · obtain ⟨rn, rfl⟩ : ∃ rn : Nat, rr = rn := ⟨rr.toNat, by omega⟩
        have r16 : rn < 16 := by omega
        obtain rfl : cn = W := by have := HWI.out; omega
        clear hok hcn z0 z1
        have h1 := (sw_free HM4F.out lv (36 + rn) (fillR L DN C rn X) DN)
        obtain ⟨m1, hm1⟩ : ∃ m1, m1 = (stepTo (swF lv (36 + rn) (fillR L DN C rn X)) m4 DN).2 := ⟨_, rfl⟩
        have hal : Alike m4 m1 := by rw [hm1]; exact wrM_alike m4 lv _ _ _
        rw [← hm1] at h1
        obtain ⟨h1a, h1b, h1c⟩ := h1
        obtain ⟨f, hf⟩ : ∃ f, f = upF m4 lv := ⟨_, rfl⟩
        rw [← hf] at h1c
        have hup1 : upF m1 lv = f := by rw [hf]; funext d; exact hal.up lv d
        have hm1l : m1.ds.length = DN := by rw [hal.1, HM4L.out]
        have hm1p : ∀ j, j < DN → (m1.d j).pend.length = if f j then 1 else 0 := fun j hj => by
          rw [h1c j]
          by_cases c : f j = true
          · rw [if_pos ⟨hj, c⟩, if_pos c]; simp only [DM.push, List.length_append, HM4P.out, List.length_cons, List.length_nil]
          · rw [if_neg (fun h => c h.2), if_neg c]; exact HM4P.out j
        have hm1q : ∀ j, ¬ (j < DN ∧ f j = true) → (m1.d j).pend.length = 0 := fun j h => by rw [h1c j, if_neg h]; exact HM4P.out j
        have hpt : pendTo m1 DN + ((List.range DN).filter fun d => !f d).length = DN := pendTo_up hm1p DN (Nat.le_refl _)
        have hm1c : Calm m1 := fun j => by
          by_cases c : j < DN ∧ f j = true
          · rw [hm1p j c.1]; split <;> decide
          · rw [hm1q j c]; decide
        have hm1r : ∀ d : Nat, d < DN → (m1.d d).failed = false → rd (m1.d d) (36 + rn) = if f d then (fillR L DN C rn X).getD d [] else (fillR L DN C rn (sectsF (rowL l rn) cn)).getD d [] := fun d hd hfd => by
          rw [h1c d] at hfd ⊢
          by_cases c : f d = true
          · rw [if_pos ⟨hd, c⟩, if_pos c, rd_push, if_pos rfl]
          · rw [if_neg (fun h => c h.2)] at hfd ⊢
            rw [if_neg c]; exact HM4R.out d rn hd r16 hfd
        have H1A := Lib.hid h1a; clear h1a
        have H1B := Lib.hid h1b; clear h1b h1c hal
        have HUP1 := Lib.hid hup1; clear hup1 hf
        have HM1L := Lib.hid hm1l; clear hm1l
        have HM1P := Lib.hid hm1p; clear hm1p
        have HM1Q := Lib.hid hm1q; clear hm1q
        have HPT := Lib.hid hpt; clear hpt
        have HM1C := Lib.hid hm1c; clear hm1c
        have HM1R := Lib.hid hm1r; clear hm1r
        have HM1 := Lib.hid hm1; clear hm1
        have hYl : (fillR L DN C rn X).length = DN := by rw [fillR_length]; omega
        obtain ⟨Y, hY⟩ : ∃ Y, Y = fillR L DN C rn X := ⟨_, rfl⟩
        rw [← hY] at H1A HM1R HM1 hYl
        have HY := Lib.hid hY; clear hY
        have HYL := Lib.hid hYl; clear hYl
        go_wp2_with fail
        refine (rfill_good L DN C rn X _ _ HG.out (by omega) (by omega) HX.out (by rw [HXL.out, HWI.out]) HXS.out).mono ?_
        rintro e w7 ⟨y, rfl, hy, hg7⟩
        rw [← HY.out] at hy
        obtain ⟨yb, yo, yc, rfl⟩ := hy.some (by rw [HYL.out]; omega)
        rw [HYL.out] at hy ⊢
        have HYY := Lib.hid hy; clear hy
        replace b0 := hg7.cell b0
        replace b1 := hg7.cell b1
        replace b2 := hg7.cell b2
        have HB7 := Lib.hid (HB6.out.gr hg7)
        have HLV7 := Lib.hid (HLV6.out.gr hg7)
        have hgb7 := Lib.hid (hg7.get hgb6.out)
        have HX7 := Lib.hid (HX.out.gr hg7)
        have g7 := g6.trans hg7
        clear HB6 HLV6 hgb6 HX g6 hg7
        go_wp2_with fail
        refine (swrite_good m4 lv F4 L DN C rn bb X _ _ _ HB7.out (HLV7.out.bools HLL.out (by omega)) HG.out r16 (fun j => by rw [HM4P.out]; omega) HX7.out (by rw [HXL.out, HWI.out]) HXS.out).mono ?_
        rintro e w8 ⟨rfl, F8, hb8, st8⟩
        rw [show (DN : Int).toNat = DN from by omega, ← HY.out] at hb8 ⊢
        rw [H1A.out]
        rw [← HM1.out] at hb8
        have HB8 := Lib.hid hb8; clear hb8
        have HLV8 := Lib.hid (HLV7.out.st HB7.out st8)
        have HYY8 := Lib.hid (HYY.out.st HB7.out st8)
        have hgb8 := Lib.hid (st8.keepB HB7.out hgb7.out bty_geom)
        have HS8 := Lib.hid (st8.since g7 HF4.out)
        clear HB7 HLV7 HYY hgb7 HX7 st8 g7 b0 b1 b2 HF4
        obtain ⟨b0, b1, b2⟩ := box3 hgb8.out
        go_wp2_with fail
        refine (lost_any m1 lv F8 L DN C bb DN _ _ HB8.out (HLV8.out.bools HLL.out (by omega)) rfl (by omega) (by omega) (by rw [HM1L.out]; omega) (by rw [HLL.out]; omega)).mono ?_
        rintro e w9 ⟨mp, rfl, hmp, -, hg9⟩
        rw [HUP1.out] at hmp
        have hmp2 := hmp
        unfold mapObj at hmp2
        obtain ⟨es, hes⟩ : ∃ es, es = (entsFrom 0 (lostEs f DN)).toArray := ⟨_, rfl⟩
        have hesz : es.size = ((List.range DN).filter fun d => !f d).length := by rw [hes, ← lostEs_len]; simp [entsFrom_length]
        rw [lostEs_len, ← hes] at hmp2
        have HMP := Lib.hid hmp; clear hmp
        have HB9 := Lib.hid (HB8.out.gr hg9)
        have HLV9 := Lib.hid (HLV8.out.gr hg9)
        have hgb9 := Lib.hid (hg9.get hgb8.out)
        have HYY9 := Lib.hid (HYY8.out.gr hg9)
        have g9 := HS8.out.1.trans hg9
        clear HB8 HLV8 hgb8 HYY8 hg9 b0 b1 b2
        obtain ⟨b0, b1, b2⟩ := box3 hgb9.out
        obtain ⟨lo, hlo⟩ : ∃ lo : Nat, ((List.range DN).filter fun d => !f d).length = lo := ⟨_, rfl⟩
        have hpt := HPT.out
        rw [hlo] at hpt hmp2 hesz
        obtain ⟨pe, hpe⟩ : ∃ pe : Nat, pendTo m1 DN = pe := ⟨_, rfl⟩
        rw [hpe] at hpt
        have HPE := Lib.hid hpe; clear hpe hlo HPT
        have hsub : IntKind.i64.wrap ((DN : Int) - (lo : Int)) = (pe : Int) := by rw [IntWalk.i64_in _ (by omega)]; omega
        have hnee : ((pe : Int) != (pe : Int)) = false := by simp
        have hlen : (Builtin.len_ #[52] 3 #[.map (some mp)]).run Try.prog w9.drew = .ok (.int .i64 lo) w9.drew := by
          have := run_len_map (P := Try.prog) w9.drew 52 3 mp es lo (by kernel_rfl) hmp2
          rw [hesz] at this
          exact this
        go_wp2_with fail
        go_region_held3 (fun wx : World => wx.cell? ⟨w1.heap.size, 1, none⟩ = some (.int .i64 DN) ∧ (Builtin.len_ #[52] 3 #[.map (some mp)]).run Try.prog wx = .ok (.int .i64 lo) wx) (first | exact ⟨b1, hlen⟩) (first | (go_at_call 44; refine (bpending_any m1 F8 bb _ (HB9.out.gr (Gr.drew _)) HM1C.out (by rw [HM1L.out]; omega)).mono ?_; rintro e w10 ⟨rfl, rfl⟩; rw [HM1L.out, HPE.out]))
        obtain ⟨wL, hwL⟩ : ∃ wL, wL = w9.drew := ⟨_, rfl⟩
        have gD : Gr w9 wL := hwL ▸ Gr.drew _
        rw [← hwL]
        have HBL := Lib.hid (HB9.out.gr gD)
        have HLVL := Lib.hid (HLV9.out.gr gD)
        have hgbL := Lib.hid (gD.get hgb9.out)
        have HYYL := Lib.hid (HYY9.out.gr gD)
        have HMPL := Lib.hid (gD.get HMP.out)
        have gL := g9.trans gD
        clear hlen hwL HB9 HLV9 hgb9 HYY9 HMP hmp2 hesz hes b0 b1 b2 hsub hnee gD g9 hpt
        go_wp2_with fail
        go_loopw [24] (fun i wr => ∃ k : Nat, k ≤ DN ∧ i = .int .i64 k ∧ Gr wL wr) (fun i _ => DN - (intOf i).toNat)
        case atStart => exact ⟨0, by omega, rfl, Gr.refl _⟩
        case round =>
          obtain ⟨k, hk, rfl, hgr⟩ := hrel
          obtain ⟨y0, y1, y2⟩ := box3 (hgr.get hgbL.out)
          by_cases hlt : k < DN
          · have hfd : (decide (k < m1.ds.length) && (m1.d k).failed) = (m1.d k).failed := by rw [decide_eq_true (by rw [HM1L.out]; exact hlt)]; rfl
            obtain ⟨fl, hfl⟩ : ∃ fl, fl = (m1.d k).failed := ⟨_, rfl⟩
            have HFD := Lib.hid (hfd.trans hfl.symm); clear hfd
            cases fl with
            | true =>
              clear hfl
              go_wp2_with fail
              refine (bfailed_any m1 F8 bb k _ (HBL.out.gr hgr)).mono ?_
              rintro e w11 ⟨rfl, rfl⟩
              rw [HFD.out]
              go_wp2
              go_roundw
              case rel => exact ⟨k + 1, by omega, by go_num, hgr⟩
              case measure => simp [intOf]; omega
            | false =>
              have hrd := HM1R.out k hlt hfl.symm
              have hrw : rwE m1 k ((36 + rn : Nat) : Int) = 0 := rwE_ok H1B.out.1 (by rw [HM1L.out]; exact hlt) hfl.symm (by omega)
              have HRW := Lib.hid hrw; clear hrw
              obtain ⟨ya, yn, ycc, cy, hyk⟩ := (HYYL.out.gr hgr).at (i := k) (by rw [HYL.out]; exact hlt)
              have HYK := Lib.hid hyk; clear hyk
              have hget := lostEs_get f hlt
              have hmpr := hgr.get HMPL.out
              obtain ⟨t, ht⟩ : ∃ t, t = f k := ⟨_, rfl⟩
              rw [← ht] at hget hrd
              have HRD := Lib.hid hrd; clear hrd
              have HGET := Lib.hid hget; clear hget
              have HMR := Lib.hid hmpr; clear hmpr hfl ht
              have HGV := Lib.hid (HV.out.gr (gL.trans hgr))
              go_wp2_with fail
              refine (bfailed_any m1 F8 bb k _ (HBL.out.gr hgr)).mono ?_
              rintro e w11 ⟨rfl, rfl⟩
              rw [HFD.out]
              clear HFD
              go_upto_if 122 with (first | ((with_reducible apply wpL_lookup mapIB int64t zeroB); rfl; rfl; exact HMR.out; exact HGET.out))
              simp only [Act.put, List.setIfInBounds_toArray, List.set_cons_zero, List.set_cons_succ]
              go_cut [25] (fun s25 wx => BytesAt wx s25 (if t then Y.getD k [] else (fillR L DN C rn (sectsF (rowL l rn) cn)).getD k []) ∧ Gr wr wx)
              case first =>
                cases t with
                | true =>
                  go_wp2_with fail
                  go_meet
                  case rel => exact ⟨HYK.out, Gr.refl _⟩
                | false =>
                  have ho : ((sectsF (rowL l rn) cn).length : Int) = (DN : Int) - (L - 4) := by rw [sectsF_length, HWI.out]
                  go_wp2_with fail
                  go_region_held3 (fun wx : World => wx.cell? ⟨w1.heap.size, 0, none⟩ = some (.int .i64 L) ∧ wx.cell? ⟨w1.heap.size, 1, none⟩ = some (.int .i64 DN) ∧ wx.cell? ⟨w1.heap.size, 2, none⟩ = some (.int .i64 C)) (first | exact ⟨y0, y1, y2⟩ | exact ⟨d0, d1, d2⟩ | exact ⟨x0, x1, x2⟩) (first | (go_at_call 36; refine (data_any L DN C rn l _ _ HG.out (HGV.out.gr (Gr.drew _))).mono ?_; rintro e w12 ⟨x, rfl, hx, hg12⟩; rw [HW.out] at hx; have d0 := ((Gr.drew _).trans hg12).cell y0; have d1 := ((Gr.drew _).trans hg12).cell y1; have d2 := ((Gr.drew _).trans hg12).cell y2; have HXO := Lib.hid hx; clear hx) | (go_at_call 41; refine (rfill_good L DN C rn (sectsF (rowL l rn) cn) _ _ HG.out (by omega) (by omega) HXO.out ho (sectsF_len _ _)).mono ?_; rintro e w13 ⟨xo, rfl, hxo, hg13⟩; have x0 := hg13.cell d0; have x1 := hg13.cell d1; have x2 := hg13.cell d2; have HXP := Lib.hid hxo; clear hxo))
                  have hol : (fillR L DN C rn (sectsF (rowL l rn) cn)).length = DN := by rw [fillR_length]; omega
                  obtain ⟨ob, oo, oc, rfl⟩ := HXP.out.some (by rw [hol]; omega)
                  rw [hol] at HXP ⊢
                  obtain ⟨za, zn, zc, cz, hz⟩ := HXP.out.at (i := k) (by rw [hol]; exact hlt)
                  go_wp2_with fail
                  go_meet
                  case rel => exact ⟨hz, ((Gr.drew _).trans hg12).trans hg13⟩
              case rest =>
                obtain ⟨hwt, hgc⟩ := hcut
                obtain ⟨WV, hWV⟩ : ∃ WV, WV = (if t = true then Y.getD k [] else (fillR L DN C rn (sectsF (rowL l rn) cn)).getD k []) := ⟨_, rfl⟩
                have hrd := HRD.out
                rw [← hWV] at hwt hrd
                clear hWV HRD HGET HMR HGV y0 y1 y2 cy HYK
                obtain ⟨wa, wn, wcc, rfl⟩ := hwt.sl
                have HWT := Lib.hid hwt; clear hwt
                have HRD := Lib.hid hrd; clear hrd
                have e36 : IntKind.i64.wrap ((36 : Int) + (rn : Int)) = ((36 + rn : Nat) : Int) := (IntWalk.i64_in _ (by omega)).trans (by omega)
                go_wp2_with fail
                refine (bread_any m1 F8 bb k (36 + rn) _ (HBL.out.gr (hgr.trans hgc)) HM1C.out).mono ?_
                rintro e w14 ⟨yv, rfl, -, hyv, hg14⟩
                replace hyv := hyv HRW.out
                rw [HRW.out]
                rw [HRD.out] at hyv
                obtain ⟨ra, rnn, rc, rfl⟩ := hyv.sl
                have HYV := Lib.hid hyv; clear hyv
                go_wp2_with fail
                refine (same_any WV WV _ _ _ HYV.out (HWT.out.gr hg14)).mono ?_
                rintro e w15 ⟨rfl, hg15⟩
                rw [show sameB WV WV = true from decide_eq_true rfl]
                go_wp2
                go_roundw
                case rel => exact ⟨k + 1, by omega, by go_num, ((hgr.trans hgc).trans hg14).trans hg15⟩
                case measure => simp [intOf]; omega
          · obtain rfl : k = DN := by omega
            have h2 := (fl_free H1B.out.1 lv m1.ds.length)
            have h2a := h2.1
            obtain ⟨m2, hm2⟩ : ∃ m2, m2 = (stepTo (flF lv) m1 m1.ds.length).2 := ⟨_, rfl⟩
            rw [← hm2] at h2
            have hm2l : m2.ds.length = k := by rw [hm2]; exact (flM_alike m1 lv).1.trans HM1L.out
            have hm2z : ∀ j, (m2.d j).pend.length = 0 := fun j => by
              rw [h2.2.2.2.2 j, HUP1.out, HM1L.out]
              by_cases c : j < k ∧ f j = true
              · rw [if_pos c]; rfl
              · rw [if_neg c]; exact HM1Q.out j c
            have hpz : pendTo m2 m2.ds.length = 0 := pendTo_zero hm2z _
            have HPZ := Lib.hid hpz; clear hpz
            have H2A := Lib.hid h2a; clear h2a h2
            have HM2 := Lib.hid hm2; clear hm2
            have HM2L := Lib.hid hm2l; clear hm2l
            have HM2Z := Lib.hid hm2z; clear hm2z
            have HBR := Lib.hid (HBL.out.gr hgr)
            go_wp2_with fail
            refine (sflush_any m1 lv F8 bb _ _ HBR.out ((HLVL.out.gr hgr).bools HLL.out (by omega)) HM1C.out (by rw [HM1L.out]; omega)).mono ?_
            rintro e w11 ⟨rfl, F11, hb11, st11⟩
            rw [H2A.out]
            rw [← HM2.out] at hb11
            have HB11 := Lib.hid hb11; clear hb11
            go_wp2_with fail
            refine (bpending_any m2 F11 bb _ HB11.out (fun j => by rw [HM2Z.out]; omega) (by rw [HM2L.out]; omega)).mono ?_
            rintro e w12 ⟨rfl, rfl⟩
            rw [HPZ.out]
            go_wp2_with fail
            refine (wakes14 _).mono ?_
            rintro e w13 ⟨rfl, hg13⟩
            go_wp2
            go_ret
            exact ⟨rfl, (st11.since (gL.trans hgr) HS8.out.2).1.trans hg13⟩
end Go.Proofs.Ytoalnkhedebpbaa
