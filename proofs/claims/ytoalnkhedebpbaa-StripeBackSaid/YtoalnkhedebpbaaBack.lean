/- wattlelaw14.StripeBack: it answers true. -/
import Derived.Test.YtoalnkhedebpbaaBack0
namespace Go.Proofs.Ytoalnkhedebpbaa
open Go.RowKit

set_option maxRecDepth 100000 in
set_option maxHeartbeats 12000000 in
theorem back_walk (n r a b : Int) (l q : List Int) (v u : Value) (w : World) (hn : -9223372036854775808 ≤ n) (hn' : n ≤ 9223372036854775807) (hv : IntsIn w v l) (hu : IntsIn w u q) :
    Calls Try.prog 9 #[.int .i64 n, v, u, .int .i64 r, .int .i64 a, .int .i64 b] w fun e w' => e = .returned (.bool true) ∧ Gr w w' := by
  have HV := Lib.hid hv
  obtain ⟨va, vc, rfl, hc1, hc2, hc3⟩ := hv
  clear hc1 hc2 hc3
  have HU := Lib.hid hu
  obtain ⟨ua, uc, rfl, hc1, hc2, hc3⟩ := hu
  clear hc1 hc2 hc3
  go_enter Try.func9, Try.ntmps9
  go_wp2_with fail
  refine (good_any n _ hn hn').mono ?_
  rintro e w1 ⟨L, D, C, hG, rfl, hg1⟩
  obtain ⟨hL1, hL2, hD1, hD2, hC1, hC2, hw⟩ := goodG_bds hG
  have HG := Lib.hid hG; clear hG
  obtain ⟨DN, hDN⟩ : ∃ DN : Nat, D = DN := ⟨D.toNat, by omega⟩
  subst hDN
  go_wp2_with fail
  have gA : Gr w (w1.alloc (.cells #[.int .i64 L, .int .i64 DN, .int .i64 C] 23)) := hg1.trans (Gr.alloc _ _)
  have hgb0 := heap_alloc_new w1 (.cells #[.int .i64 L, .int .i64 DN, .int .i64 C] 23)
  refine (filled14_any L DN C DN l _ _ HG.out (by omega) (by omega) (HV.out.gr gA)).mono ?_
  rintro e w2 ⟨bb, F, rfl, hb, hF, hg2⟩
  have hgb := Lib.hid (hg2.get hgb0); clear hgb0
  have hF2 : Hid (∀ k, F k → w1.heap.size < k) := Lib.hid fun k hk => by have := hF k hk; simp at this; omega
  have HB := Lib.hid hb; clear hb hF
  have g2 : Gr w w2 := gA.trans hg2
  clear gA hg2 hn hn'
  obtain ⟨c0, c1, c2⟩ := box3 hgb.out
  obtain ⟨m, hm⟩ : ∃ m, m = filledM L DN C DN l := ⟨_, rfl⟩
  have hmf : Free m := by rw [hm]; exact ⟨rfl, rfl⟩
  have hmc : ∀ j, (m.d j).pend.length = 0 := fun j => by
    rw [hm]; unfold filledM
    by_cases h : j < DN
    · rw [stdM_d _ h]; rfl
    · simp [stdM, BM.d, h, dm0]
  have hon : ∀ lv r, r < 16 → OnDisks m lv L DN C r (sectsF (rowL l r) ((DN : Int) - (L - 4)).toNat) := fun lv r hr => by rw [hm]; exact filled_on HG.out (Int.le_refl _) l lv hr
  have hup : ∀ (lv : List Bool) (d : Nat), lv.length = DN → d < DN → lv.getD d false = true → upF m lv d = true := fun lv d e hd hl => by
    rw [hm]; unfold filledM; rw [stdM_up hd, hl, e, decide_eq_true hd]; rfl
  have hml : m.ds.length = DN := by rw [hm]; exact stdM_len _ _
  rw [← hm] at HB
  have HMF := Lib.hid hmf; clear hmf
  have HMC := Lib.hid hmc; clear hmc
  have HON := Lib.hid hon; clear hon
  have HUP := Lib.hid hup; clear hup
  have HML := Lib.hid hml; clear hml hm
  go_wp2_with fail
  refine (live_any 0 DN _ (by omega) (by omega)).mono ?_
  rintro e w3 ⟨lb, rfl, hlv, hlb, hg3⟩
  rw [liveF_zero] at hlv
  have HLV := Lib.hid hlv; clear hlv
  obtain ⟨W, hW⟩ : ∃ W : Nat, (DN : Int) - (L - 4) = W := ⟨((DN : Int) - (L - 4)).toNat, by omega⟩
  have hWn : ((DN : Int) - (L - 4)).toNat = W := by omega
  have hW1 : 0 < W := by omega
  have hW8 : W < 8 := by omega
  have HWN := Lib.hid hWn; clear hWn
  rw [HWN.out] at HON
  have b0 := hg3.cell c0
  have b1 := hg3.cell c1
  have b2 := hg3.cell c2
  go_wp2_with fail
  refine (within_pos r 16 _ (by omega) (by omega)).mono ?_
  rintro e w4 ⟨p, p0, p1, -, rfl, rfl⟩
  obtain ⟨rn, rfl⟩ : ∃ rn : Nat, p = rn := ⟨p.toNat, by omega⟩
  have r16 : rn < 16 := by omega
  go_wp2_with fail
  refine (rwidth_good L DN C _ HG.out).mono ?_
  rintro e w4 ⟨rfl, hg4⟩
  rw [hW]
  have HWI := Lib.hid hW; clear hW
  have g34 := hg3.trans hg4
  go_wp2_with fail
  refine (sects_any q W _ _ (HU.out.gr (g2.trans g34)) (by omega)).mono ?_
  rintro e w5 ⟨x, rfl, hx, hg5⟩
  obtain ⟨X, hX⟩ : ∃ X, X = sectsF q W := ⟨_, rfl⟩
  have hXl : X.length = W := by rw [hX, sectsF_length]
  have hXs : ∀ i, i < X.length → (X.getD i []).length = 32 := by rw [hX]; exact sectsF_len _ _
  rw [← hX] at hx
  obtain ⟨xb, xo, xc, rfl⟩ := hx.some (by omega)
  rw [hXl] at hx ⊢
  have HXL := Lib.hid hXl; clear hXl
  have HXS := Lib.hid hXs; clear hXs hX
  have HX := Lib.hid hx; clear hx
  have g25 : Gr w2 w5 := g34.trans hg5
  have HB5 := Lib.hid (HB.out.gr g25)
  have HLV5 := Lib.hid (HLV.out.gr (hg4.trans hg5))
  have hgb5 := Lib.hid (g25.get hgb.out)
  have g5 := g2.trans g25
  clear b0 b1 b2 c0 c1 c2 HB HLV hgb g34 hg3 hg4 hg5 g25 p0 p1
  obtain ⟨b0, b1, b2⟩ := box3 hgb5.out
  obtain ⟨lv, hlve⟩ : ∃ lv, lv = List.replicate DN true := ⟨_, rfl⟩
  have hll : lv.length = DN := by rw [hlve]; simp
  have hlt : ∀ d, d < DN → lv.getD d false = true := fun d hd => by rw [hlve]; simp [hd]
  rw [← hlve] at HLV5
  have HLL := Lib.hid hll; clear hll
  have HLT := Lib.hid hlt; clear hlt hlve
  have h1 := (sw_free HMF.out lv (36 + rn) (fillR L DN C rn X) DN).1
  have hw1 := (sw_free HMF.out lv (36 + rn) (fillR L DN C rn X) DN).2.1
  have H1 := Lib.hid h1; clear h1
  have HW1 := Lib.hid hw1; clear hw1
  go_wp2_with fail
  refine (swrite_good m lv F L DN C rn bb X _ _ _ HB5.out (HLV5.out.bools HLL.out (by omega)) HG.out r16 (fun j => by rw [HMC.out]; omega) HX.out (by rw [HXL.out, HWI.out]) HXS.out).mono ?_
  rintro e w6 ⟨rfl, F6, hb6, st6⟩
  rw [show (DN : Int).toNat = DN from by omega] at hb6 ⊢
  rw [H1.out]
  obtain ⟨m1, hm1⟩ : ∃ m1, m1 = wrM m lv (36 + rn) (fillR L DN C rn X) DN := ⟨_, rfl⟩
  rw [show (stepTo (swF lv (36 + rn) (fillR L DN C rn X)) m DN).2 = m1 from hm1.symm] at hb6 HW1
  have hm1l : m1.ds.length = DN := by rw [hm1, (wrM_alike m lv _ _ _).1, HML.out]
  have hm1p : ∀ j, (m1.d j).pend.length ≤ 8 := fun j => by
    have := wrM_pend m lv (36 + rn) (fillR L DN C rn X) DN j
    rw [← hm1, HMC.out] at this
    omega
  have HB6 := Lib.hid hb6; clear hb6
  have HLV6 := Lib.hid (HLV5.out.st HB5.out st6)
  have HX6 := Lib.hid (HX.out.st HB5.out st6)
  have hgb6 := Lib.hid (st6.keepB HB5.out hgb5.out bty_geom)
  have hs6 := st6.since g5 (fun k hk => by have := hF2.out k hk; have := hg1.size; omega)
  have HM1L := Lib.hid hm1l; clear hm1l
  have HM1P := Lib.hid hm1p; clear hm1p
  have HM1 := Lib.hid hm1; clear hm1
  have h2 := (fl_free HW1.out.1 lv m1.ds.length)
  have H2 := Lib.hid h2; clear h2 b0 b1 b2 st6
  go_wp2_with fail
  refine (sflush_any m1 lv F6 bb _ _ HB6.out (HLV6.out.bools HLL.out (by omega)) (fun j => by have := HM1P.out j; omega) (by rw [HM1L.out]; omega)).mono ?_
  rintro e w7 ⟨rfl, F7, hb7, st7⟩
  rw [H2.out.1]
  obtain ⟨m2, hm2⟩ : ∃ m2, m2 = flM m1 lv := ⟨_, rfl⟩
  rw [show (stepTo (flF lv) m1 m1.ds.length).2 = m2 from hm2.symm] at hb7 H2
  have hon2 : ∀ s, s < 16 → OnDisks m2 lv L DN C s (if s = rn then X else sectsF (rowL l s) W) := fun s hs => by
    rw [hm2, HM1.out]
    by_cases e : s = rn
    · rw [if_pos e, e]
      have := OnDisks.written (m := m) (l := lv) (L := L) (D := DN) (C := C) (r := rn) (data := X) HMF.out (by rw [HXL.out, HWI.out]) HXS.out
      rw [show (DN : Int).toNat = DN from by omega] at this
      exact this
    · rw [if_neg e]
      have := OnDisks.other (data' := X) HMF.out (HON.out lv s hs) (Ne.symm e)
      rw [show (DN : Int).toNat = DN from by omega] at this
      exact this
  have hal : Alike m m2 := by rw [hm2, HM1.out]; exact (wrM_alike m lv _ _ _).trans (flM_alike _ lv)
  have hup2 : ∀ d, d < DN → upF m2 lv d = true := fun d hd => by rw [hal.up]; exact HUP.out lv d HLL.out hd (HLT.out d hd)
  have hm2l : m2.ds.length = DN := by rw [hal.1, HML.out]
  have hm2d : m2.down = false := H2.out.2.1
  have hm2p : ∀ j, (m2.d j).pend.length ≤ 8 := fun j => by
    have := flM_pend m1 lv j
    rw [← hm2] at this
    exact Nat.le_trans this (HM1P.out j)
  have HB7 := Lib.hid hb7; clear hb7
  have HLV7 := Lib.hid (HLV6.out.st HB6.out st7)
  have HX7 := Lib.hid (HX6.out.st HB6.out st7)
  have hgb7 := Lib.hid (st7.keepB HB6.out hgb6.out bty_geom)
  have hs7 := st7.since hs6.1 hs6.2
  have HON2 := Lib.hid hon2; clear hon2
  have HUP2 := Lib.hid hup2; clear hup2
  have HM2L := Lib.hid hm2l; clear hm2l
  have HM2D := Lib.hid hm2d; clear hm2d
  have HM2P := Lib.hid hm2p; clear hm2p hal hm2
  have HS7 := Lib.hid hs7; clear hs7 hs6 st7 HB6 HLV6 HX6 hgb6 H2 HW1 HM1 HM1L HM1P HB5 HLV5 HX hgb5 g5 g2 H1 HMF HMC HON HUP HML
  obtain ⟨c0, c1, c2⟩ := box3 hgb7.out
  go_wp2_with fail
  refine (within_pos a (DN : Int) _ (by omega) (by omega)).mono ?_
  rintro e w8 ⟨p, p0, p1, -, rfl, rfl⟩
  obtain ⟨an, rfl⟩ : ∃ an : Nat, p = an := ⟨p.toNat, by omega⟩
  have ha8 : an < DN := by omega
  go_wp2_with fail
  refine (bfail_ok m2 F7 bb an _ HB7.out (by rw [HM2L.out]; exact ha8)).mono ?_
  rintro e w8 ⟨rfl, F8, hb8, st8⟩
  obtain ⟨m3, hm3⟩ : ∃ m3, m3 = m2.set an dfail := ⟨_, rfl⟩
  rw [← hm3] at hb8
  have hon3 : ∀ s, s < 16 → OnDisks m3 lv L DN C s (if s = rn then X else sectsF (rowL l s) W) := fun s hs => by
    rw [hm3]; exact (HON2.out s hs).fail (by rw [HM2L.out]; exact ha8)
  have hup3 : ∀ d, d < DN → d ≠ an → upF m3 lv d = true := fun d hd hne => by
    rw [hm3, fail_up (by rw [HM2L.out]; exact ha8), HUP2.out d hd, decide_eq_true hne]; rfl
  have hm3l : m3.ds.length = DN := by rw [hm3, BM.set_len, HM2L.out]
  have hm3d : m3.down = false := by rw [hm3]; exact HM2D.out
  have hm3p : ∀ j, (m3.d j).pend.length ≤ 8 := fun j => by
    rw [hm3, BM.set_d _ _ (by rw [HM2L.out]; exact ha8)]
    split
    · simp [dfail]
    · exact HM2P.out j
  have HB8 := Lib.hid hb8; clear hb8
  have HLV8 := Lib.hid (HLV7.out.st HB7.out st8)
  have HX8 := Lib.hid (HX7.out.st HB7.out st8)
  have hgb8 := Lib.hid (st8.keepB HB7.out hgb7.out bty_geom)
  have HS8 := Lib.hid (st8.since HS7.out.1 HS7.out.2)
  have HON3 := Lib.hid hon3; clear hon3
  have HUP3 := Lib.hid hup3; clear hup3
  have HM3L := Lib.hid hm3l; clear hm3l
  have HM3D := Lib.hid hm3d; clear hm3d
  have HM3P := Lib.hid hm3p; clear hm3p hm3
  clear c0 c1 c2 st8 HB7 HLV7 HX7 hgb7 HS7 HON2 HUP2 HM2L HM2D HM2P p0 p1
  obtain ⟨c0, c1, c2⟩ := box3 hgb8.out
  by_cases h6 : L = 6
  case' pos =>
    have hb6 : (L == 6) = true := beq_iff_eq.2 h6
    go_wp2_with fail
    refine (within_pos b (DN : Int) _ (by omega) (by omega)).mono ?_
    rintro e w9 ⟨p, p0, p1, -, rfl, rfl⟩
    obtain ⟨bn, rfl⟩ : ∃ bn : Nat, p = bn := ⟨p.toNat, by omega⟩
    have hb8 : bn < DN := by omega
    go_wp2_with fail
    refine (bfail_ok m3 F8 bb bn _ HB8.out (by rw [HM3L.out]; exact hb8)).mono ?_
    rintro e w9 ⟨rfl, F9, hb9, st9⟩
    obtain ⟨m4, hm4⟩ : ∃ m4, m4 = m3.set bn dfail := ⟨_, rfl⟩
    rw [← hm4] at hb9
    have hon4 : ∀ s, s < 16 → OnDisks m4 lv L DN C s (if s = rn then X else sectsF (rowL l s) W) := fun s hs => by
      rw [hm4]; exact (HON3.out s hs).fail (by rw [HM3L.out]; exact hb8)
    have hln : (lostN m4 lv DN : Int) ≤ L - 4 := by
      have := lostN_two (m := m4) (l := lv) (D := DN) an bn (fun d hd ha hb => by
        rw [hm4, fail_up (by rw [HM3L.out]; exact hb8), HUP3.out d hd ha, decide_eq_true hb]; rfl)
      omega
    have hm4d : m4.down = false := by rw [hm4]; exact HM3D.out
    have hm4c : Calm m4 := fun j => by
      rw [hm4, BM.set_d _ _ (by rw [HM3L.out]; exact hb8)]
      split
      · simp [dfail]
      · exact Nat.le_trans (HM3P.out j) (by decide)
    have HB9 := Lib.hid hb9; clear hb9
    have HLV9 := Lib.hid (HLV8.out.st HB8.out st9)
    have HX9 := Lib.hid (HX8.out.st HB8.out st9)
    have hgb9 := Lib.hid (st9.keepB HB8.out hgb8.out bty_geom)
    have HS9 := Lib.hid (st9.since HS8.out.1 HS8.out.2)
    clear st9 p0 p1 hb8 hb6 hm4
  case' neg =>
    have hb6 : (L == 6) = false := beq_eq_false_iff_ne.2 h6
    go_wp2_with fail
    obtain ⟨m4, hm4⟩ : ∃ m4, m4 = m3 := ⟨_, rfl⟩
    obtain ⟨w9, hw9⟩ : ∃ w9, w9 = w8 := ⟨_, rfl⟩
    obtain ⟨F9, hF9⟩ : ∃ F9, F9 = F8 := ⟨_, rfl⟩
    have hon4 : ∀ s, s < 16 → OnDisks m4 lv L DN C s (if s = rn then X else sectsF (rowL l s) W) := fun s hs => by rw [hm4]; exact HON3.out s hs
    have hln : (lostN m4 lv DN : Int) ≤ L - 4 := by
      have := lostN_one (m := m4) (l := lv) (D := DN) an (fun d hd ha => by rw [hm4]; exact HUP3.out d hd ha)
      omega
    have hm4d : m4.down = false := by rw [hm4]; exact HM3D.out
    have hm4c : Calm m4 := fun j => by rw [hm4]; exact Nat.le_trans (HM3P.out j) (by decide)
    rw [← hw9]
    rw [← hm4, ← hw9, ← hF9] at HB8
    rw [← hw9] at HLV8 HX8 hgb8 HS8
    rw [← hF9] at HS8
    have HB9 := HB8
    have HLV9 := HLV8
    have HX9 := HX8
    have hgb9 := hgb8
    have HS9 := HS8
    clear hb6 hm4 hw9 hF9
  all_goals
    have HON4 := Lib.hid hon4; clear hon4
    have HLN := Lib.hid hln; clear hln
    have HM4D := Lib.hid hm4d; clear hm4d
    have HM4C := Lib.hid hm4c; clear hm4c
    clear c0 c1 c2 HB8 HLV8 HX8 hgb8 HS8 HON3 HUP3 HM3L HM3D HM3P h6 ha8
    go_wp2_with fail
    go_loopw [17] (fun i wr => ∃ s : Nat, s ≤ 16 ∧ i = .int .i64 s ∧ Gr w9 wr) (fun i _ => 16 - (intOf i).toNat)
    case atStart => exact ⟨0, by omega, rfl, Gr.refl _⟩
    case round =>
      obtain ⟨s, hs16, rfl, hgr⟩ := hrel
      obtain ⟨y0, y1, y2⟩ := box3 (hgr.get hgb9.out)
      by_cases hlt : s < 16
      · skip
        go_wp2_with fail
        refine (data_any L DN C s l _ _ HG.out (HV.out.gr (HS9.out.1.trans hgr))).mono ?_
        rintro e w10 ⟨x0, rfl, hx0, hg10⟩
        rw [HWN.out] at hx0
        obtain ⟨x0b, x0o, x0c, rfl⟩ := hx0.some (by rw [sectsF_length]; omega)
        rw [sectsF_length] at hx0 ⊢
        have HX0 := Lib.hid hx0; clear hx0
        have hone := HON4.out s hlt
        have hlost := hone.lost HG.out
        rw [show (DN : Int).toNat = DN from by omega, decide_eq_false (by have := HLN.out; omega)] at hlost
        have htake := hone.take HG.out (by rw [show (DN : Int).toNat = DN from by omega]; exact HLN.out)
        rw [show (DN : Int).toNat = DN from by omega] at htake
        have HLO := Lib.hid hlost; clear hlost
        have HTK := Lib.hid htake; clear htake hone
        replace y0 := hg10.cell y0
        replace y1 := hg10.cell y1
        replace y2 := hg10.cell y2
        by_cases hs : s = rn
        case' pos =>
          have hbs : ((s : Int) == (rn : Int)) = true := by rw [hs]; simp
          rw [if_pos hs] at HTK
          clear hs
          go_wp2_with fail
          refine (sread_ok m4 lv F9 L DN C s bb _ _ (HB9.out.gr (hgr.trans hg10)) ((HLV9.out.gr (hgr.trans hg10)).bools HLL.out (by omega)) HG.out hlt HM4D.out HM4C.out).mono ?_
          rintro e w11 ⟨x1, rfl, hx1, -, hg11⟩
          rw [show (DN : Int).toNat = DN from by omega] at hx1 ⊢
          replace hx1 := hx1 HLO.out
          rw [HLO.out, show lostE false = 0 from rfl]
          rw [HTK.out] at hx1
          obtain ⟨x1b, x1o, x1c, rfl⟩ := hx1.some (by rw [HXL.out]; omega)
          rw [HXL.out] at hx1 ⊢
          have HX1 := Lib.hid hx1; clear hx1
          go_wp2_with fail
          refine (same14_eq X _ _ _ HX1.out (HX9.out.gr ((hgr.trans hg10).trans hg11)) (by rw [HXL.out]; omega)).mono ?_
          rintro e w12 ⟨rfl, hg12⟩
        case' neg =>
          have hbs : ((s : Int) == (rn : Int)) = false := by rw [beq_eq_false_iff_ne]; omega
          rw [if_neg hs] at HTK
          clear hs
          go_wp2_with fail
          refine (sread_ok m4 lv F9 L DN C s bb _ _ (HB9.out.gr (hgr.trans hg10)) ((HLV9.out.gr (hgr.trans hg10)).bools HLL.out (by omega)) HG.out hlt HM4D.out HM4C.out).mono ?_
          rintro e w11 ⟨x1, rfl, hx1, -, hg11⟩
          rw [show (DN : Int).toNat = DN from by omega] at hx1 ⊢
          replace hx1 := hx1 HLO.out
          rw [HLO.out, show lostE false = 0 from rfl]
          rw [HTK.out] at hx1
          obtain ⟨x1b, x1o, x1c, rfl⟩ := hx1.some (by rw [sectsF_length]; omega)
          rw [sectsF_length] at hx1 ⊢
          have HX1 := Lib.hid hx1; clear hx1
          go_wp2_with fail
          refine (same14_eq (sectsF (rowL l s) W) _ _ _ HX1.out (HX0.out.gr hg11) (by rw [sectsF_length]; omega)).mono ?_
          rintro e w12 ⟨rfl, hg12⟩
        all_goals
          go_wp2
          go_roundw
        all_goals first | exact ⟨s + 1, by omega, by go_num, ((hgr.trans hg10).trans hg11).trans hg12⟩ | (simp [intOf]; omega)
      · obtain rfl : s = 16 := by omega
        go_wp2_with fail
        refine (wakes14 _).mono ?_
        rintro e w10 ⟨rfl, hg10⟩
        go_wp2
        go_ret
        exact ⟨rfl, HS9.out.1.trans (hgr.trans hg10)⟩
end Go.Proofs.Ytoalnkhedebpbaa
