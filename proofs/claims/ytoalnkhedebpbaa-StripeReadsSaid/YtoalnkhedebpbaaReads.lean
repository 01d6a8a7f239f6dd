/- wattlelaw14.StripeReads: it answers true. -/
import Derived.Test.YtoalnkhedebpbaaLost
import Derived.Test.YtoalnkhedebpbaaOnes
import Derived.Deep.DeepCutAuto
namespace Go.Proofs.Ytoalnkhedebpbaa
open Go.RowKit

set_option maxRecDepth 100000 in
set_option maxHeartbeats 12000000 in
theorem reads_walk (n disks alive fail r at' : Int) (l : List Int) (v : Value) (w : World) (hn : -9223372036854775808 ≤ n) (hn' : n ≤ 9223372036854775807) (hv : IntsIn w v l) :
    Calls Try.prog 5 #[.int .i64 n, .int .i64 disks, v, .int .i64 alive, .int .i64 fail, .int .i64 r, .int .i64 at'] w fun e w' => e = .returned (.bool true) ∧ Gr w w' := by
  have HV := Lib.hid hv
  obtain ⟨a, cap, rfl, hc1, hc2, hc3⟩ := hv
  clear hc1 hc2 hc3
  go_enter Try.func5, Try.ntmps5
  go_wp2_with fail
  refine (good_any n _ hn hn').mono ?_
  rintro e w1 ⟨L, D, C, hG, rfl, hg1⟩
  obtain ⟨hL1, hL2, hD1, hD2, hC1, hC2, hw⟩ := goodG_bds hG
  have HG := Lib.hid hG; clear hG
  obtain ⟨DN, hDN⟩ : ∃ DN : Nat, D = DN := ⟨D.toNat, by omega⟩
  subst hDN
  have gA : Gr w (w1.alloc (.cells #[.int .i64 L, .int .i64 DN, .int .i64 C] 23)) := hg1.trans (Gr.alloc _ _)
  have hgb0 := heap_alloc_new w1 (.cells #[.int .i64 L, .int .i64 DN, .int .i64 C] 23)
  obtain ⟨c0, c1, c2⟩ := box3 hgb0
  have hkr := within_range disks (n := 2) (by decide)
  obtain ⟨k, hk⟩ : ∃ k : Nat, within disks 2 = k := ⟨(within disks 2).toNat, by omega⟩
  have hwi : ∀ w : World, Calls Try.prog 19 #[.int .i64 disks, .int .i64 2] w fun e w' => e = .returned (.int .i64 k) ∧ w = w' := fun w => hk ▸ within_any disks 2 w (by decide)
  have hsum : IntKind.i64.wrap ((DN : Int) + (k : Int)) = (DN : Int) + (k : Int) := IntWalk.i64_in _ (by omega)
  obtain ⟨N, hN⟩ : ∃ N : Nat, (if (8 : Int) < (DN : Int) + (k : Int) then (8 : Int) else (DN : Int) + (k : Int)) = N := ⟨(if (8 : Int) < (DN : Int) + (k : Int) then (8 : Int) else (DN : Int) + (k : Int)).toNat, by split <;> omega⟩
  have hN1 : DN ≤ N := by split at hN <;> omega
  have hN2 : N ≤ 8 := by split at hN <;> omega
  have HWI := Lib.hid hwi; clear hwi hk hkr
  go_wp2_with fail
  go_region_held3 (fun wx : World => wx.cell? ⟨w1.heap.size, 1, none⟩ = some (.int .i64 DN)) (first | exact c1) (first | (go_at_call 19; refine (HWI.out _).mono ?_; rintro e w2 ⟨rfl, rfl⟩))
  obtain ⟨wA, hwA⟩ : ∃ wA, wA = (w1.alloc (.cells #[.int .i64 L, .int .i64 DN, .int .i64 C] 23)).drew := ⟨_, rfl⟩
  have gB : Gr w wA := hwA ▸ gA.trans (Gr.drew _)
  have hgb1 : wA.heap[w1.heap.size]? = some (.cells #[.int .i64 L, .int .i64 DN, .int .i64 C] 23 (0, 0)) := hwA ▸ (Gr.drew _).get hgb0
  have hsz : w1.heap.size < wA.heap.size := heap_lt hgb1
  rw [← hwA]
  clear hwA hsum hN HWI c0 c1 c2 hgb0 gA
  obtain ⟨c0, c1, c2⟩ := box3 hgb1
  go_wp2_with fail
  refine (filled14_any L DN C N l _ _ HG.out (by omega) (by omega) (HV.out.gr gB)).mono ?_
  rintro e w2 ⟨bb, F, rfl, hb, hF, hg2⟩
  have hgb := Lib.hid (hg2.get hgb1); clear hgb1
  have hF2 : Hid (∀ k, F k → w1.heap.size < k) := Lib.hid fun k hk => by have := hF k hk; omega
  have HB := Lib.hid hb; clear hb hF hsz
  have g2 : Gr w w2 := gB.trans hg2
  have h1s := hg1.size
  clear gB hg2 c0 c1 c2
  obtain ⟨c0, c1, c2⟩ := box3 hgb.out
  obtain ⟨m, hm⟩ : ∃ m, m = filledM L DN C N l := ⟨_, rfl⟩
  have hmd : m.down = false := by rw [hm]; rfl
  have hmc : Calm m := by rw [hm]; exact stdM_calm _ _
  have hon : ∀ lv r, r < 16 → OnDisks m lv L DN C r (sectsF (rowL l r) ((DN : Int) - (L - 4)).toNat) := fun lv r hr => by rw [hm]; exact filled_on HG.out (by omega) l lv hr
  have hml : m.ds.length = N := by rw [hm]; exact stdM_len _ _
  rw [← hm] at HB
  have HMD := Lib.hid hmd; clear hmd
  have HMC := Lib.hid hmc; clear hmc
  have HON := Lib.hid hon; clear hon
  have HML := Lib.hid hml; clear hml hm
  go_wp2_with fail
  refine (live_any alive N _ (by omega) (by omega)).mono ?_
  rintro e w3 ⟨lb, rfl, hlv, hlb, hg3⟩
  have hll := liveF_length alive N
  obtain ⟨lv, hlve⟩ : ∃ lv, lv = liveF alive N := ⟨_, rfl⟩
  rw [← hlve] at hlv hll
  have HLV := Lib.hid hlv; clear hlv hlve
  have HLL := Lib.hid hll; clear hll
  have b0 := hg3.cell c0
  have b1 := hg3.cell c1
  have b2 := hg3.cell c2
  obtain ⟨W, hW⟩ : ∃ W : Nat, ((DN : Int) - (L - 4)).toNat = W := ⟨_, rfl⟩
  have hWi : (DN : Int) - (L - 4) = W := by omega
  have hW1 : 0 < W := by omega
  have hW8 : W < 8 := by omega
  rw [hW] at HON
  have HW := Lib.hid hW; clear hW
  have HWI := Lib.hid hWi; clear hWi
  have HB3 := Lib.hid (HB.out.gr hg3)
  have hgb3 := Lib.hid (hg3.get hgb.out)
  have g3 := g2.trans hg3
  clear HB hgb hg3 c0 c1 c2 g2 hlb
  go_wp2_with fail
  refine (within_any fail 3 _ (by decide)).mono ?_
  rintro e w4 ⟨rfl, rfl⟩
  go_upto_if 47 with fail
  go_cut [] (fun wx => ∃ (m4 : BM) (F4 : Nat → Prop), BenchAt wx F4 bb m4 ∧ OwnB wx lb lv ∧ wx.heap[w1.heap.size]? = some (.cells #[.int .i64 L, .int .i64 DN, .int .i64 C] 23 (0, 0)) ∧ Gr w wx ∧ (∀ s : Nat, s < 16 → OnDisks m4 lv L DN C s (sectsF (rowL l s) W)) ∧ m4.ds.length = N ∧ m4.down = false ∧ Calm m4)
  case first =>
    by_cases hf0 : within fail 3 = 0
    · have bf0 : (within fail 3 == 0) = true := beq_iff_eq.2 hf0
      go_wp2_with fail
      refine (within_pos fail (N : Int) _ (by omega) (by omega)).mono ?_
      rintro e w4 ⟨p, p0, p1, -, rfl, rfl⟩
      obtain ⟨fn, rfl⟩ : ∃ fn : Nat, p = fn := ⟨p.toNat, by omega⟩
      have hfN : fn < N := by omega
      go_wp2_with fail
      refine (bfail_ok m F bb fn _ HB3.out (by rw [HML.out]; exact hfN)).mono ?_
      rintro e w4 ⟨rfl, F4, hb4, st4⟩
      go_wp2
      go_meet
      case rel =>
        refine ⟨m.set fn dfail, F4, hb4, HLV.out.st HB3.out st4, st4.keepB HB3.out hgb3.out bty_geom, (st4.since g3 (fun k hk => by have := hF2.out k hk; omega)).1, fun s hs => (HON.out lv s hs).fail (by rw [HML.out]; exact hfN), by rw [BM.set_len, HML.out], HMD.out, fun j => ?_⟩
        rw [BM.set_d _ _ (by rw [HML.out]; exact hfN)]
        split
        · simp [dfail]
        · exact HMC.out j
    · have bf0 : (within fail 3 == 0) = false := beq_eq_false_iff_ne.2 hf0
      go_wp2
      go_meet
      case rel => exact ⟨m, F, HB3.out, HLV.out, hgb3.out, g3, HON.out lv, HML.out, HMD.out, HMC.out⟩
  case rest =>
    obtain ⟨m4, F4, hb4, hlv4, hgbx, g4, hon4, hm4l, hm4d, hm4c⟩ := hcut
    obtain ⟨w4, hw4⟩ : ∃ w4, w4 = wc := ⟨_, rfl⟩
    rw [← hw4] at hb4 hlv4 hgbx g4 ⊢
    clear hw4
    have HB4 := Lib.hid hb4; clear hb4
    have HLV4 := Lib.hid hlv4; clear hlv4
    have hgb4 := Lib.hid hgbx; clear hgbx
    have HON4 := Lib.hid hon4; clear hon4
    have HM4L := Lib.hid hm4l; clear hm4l
    have HM4D := Lib.hid hm4d; clear hm4d
    have HM4C := Lib.hid hm4c; clear hm4c
    clear b0 b1 b2 HB3 HLV hgb3 g3 HON HML HMD HMC
    obtain ⟨b0, b1, b2⟩ := box3 hgb4.out
    go_wp2_with fail
    refine (lost_any m4 lv F4 L DN C bb DN _ _ HB4.out (HLV4.out.bools HLL.out (by omega)) rfl (by omega) (by omega) (by rw [HM4L.out]; omega) (by rw [HLL.out]; omega)).mono ?_
    rintro e w5 ⟨mp, rfl, hmp, -, hg5⟩
    obtain ⟨f, hf⟩ : ∃ f, f = upF m4 lv := ⟨_, rfl⟩
    rw [← hf] at hmp
    obtain ⟨cnt, hcnt⟩ : ∃ cnt : Nat, cnt = lostN m4 lv DN := ⟨_, rfl⟩
    have hcf : ((List.range DN).filter fun d => !f d).length = cnt := by rw [hcnt, hf]; rfl
    have HLO : Hid (∀ s : Nat, s < 16 → lostR L DN C s (seen m4 lv DN (36 + s)) = decide (L - 4 < (cnt : Int)) ∧ ((cnt : Int) ≤ L - 4 → takeR L DN C s (seen m4 lv DN (36 + s)) = sectsF (rowL l s) W)) := Lib.hid fun s hs => by
      have h1 := (HON4.out s hs).lost HG.out
      have h2 := (HON4.out s hs).take HG.out
      rw [show (DN : Int).toNat = DN from by omega, ← hcnt] at h1 h2
      exact ⟨h1, h2⟩
    have HONE : Hid (∀ s : Nat, s < 16 → ∀ k : Nat, k < W → oneLost m4 lv L DN C (numOf L DN C s k) = (!f (dskOf L DN C s k).toNat && decide (L - 4 < (cnt : Int))) ∧ (oneLost m4 lv L DN C (numOf L DN C s k) = false → oneV m4 lv L DN C (numOf L DN C s k) = (sectsF (rowL l s) W).getD k [])) := Lib.hid fun s hs k hk => by
      have h1 := (HON4.out s hs).one (k := k) HG.out (by have := HWI.out; omega)
      rw [show (DN : Int).toNat = DN from by omega, ← hcnt, ← hf] at h1
      exact h1
    have HCF := Lib.hid hcf; clear hcf hcnt hf HON4
    have HMP := Lib.hid hmp; clear hmp
    have HB5 := Lib.hid (HB4.out.gr hg5)
    have HLV5 := Lib.hid (HLV4.out.gr hg5)
    have hgb5 := Lib.hid (hg5.get hgb4.out)
    have g5 := g4.trans hg5
    clear b0 b1 b2 HB4 HLV4 hgb4 g4 hg5
    go_wp2_with fail
    refine (within_pos r 18 _ (by omega) (by omega)).mono ?_
    rintro e w6 ⟨q, q0, q1, -, rfl, rfl⟩
    obtain ⟨b0, b1, b2⟩ := box3 hgb5.out
    have hqw : IntKind.i64.wrap (q - 1) = q - 1 := IntWalk.i64_in _ (by omega)
    rcases Classical.em (0 ≤ q - 1 ∧ q - 1 < 16) with hr | hr
    case' inl =>
      obtain ⟨rn, hrn⟩ : ∃ rn : Nat, q - 1 = rn := ⟨(q - 1).toNat, by omega⟩
      have r16 : rn < 16 := by omega
      have dlo : decide ((rn : Int) < 0) = false := decide_eq_false (by omega)
      have dhi : decide (16 ≤ (rn : Int)) = false := decide_eq_false (by omega)
      replace hqw := hqw.trans hrn
      clear hrn hr q0 q1
      obtain ⟨hlo, htk⟩ := HLO.out rn r16
      by_cases hcan : (cnt : Int) ≤ L - 4
      case' pos =>
        rw [decide_eq_false (by omega)] at hlo
        replace htk := htk hcan
        have HLR := Lib.hid hlo; clear hlo
        have HTK := Lib.hid htk; clear htk
        have hdc : decide ((cnt : Int) ≤ L - 4) = true := decide_eq_true hcan
        clear hcan
        go_wp2_with fail
        refine (sread_ok m4 lv F4 L DN C rn bb _ _ HB5.out (HLV5.out.bools HLL.out (by omega)) HG.out r16 HM4D.out HM4C.out).mono ?_
        rintro e w7 ⟨x, rfl, hx, -, hg7⟩
        rw [show (DN : Int).toNat = DN from by omega] at hx ⊢
        replace hx := hx HLR.out
        rw [HLR.out, show lostE false = 0 from rfl]
        rw [HTK.out] at hx
        obtain ⟨xb, xo, xc, rfl⟩ := hx.some (by rw [sectsF_length]; omega)
        rw [sectsF_length] at hx ⊢
        have HX := Lib.hid hx; clear hx
        have hmp7 := hg7.get HMP.out
        replace b0 := hg7.cell b0
        replace b1 := hg7.cell b1
        replace b2 := hg7.cell b2
        go_wp2_with fail
        refine (can_any f L DN C rn mp _ HG.out r16 (by rw [show (DN : Int).toNat = DN from by omega]; exact hmp7)).mono ?_
        rintro e w8 ⟨rfl, hg8⟩
        rw [show (DN : Int).toNat = DN from by omega, HCF.out, hdc]
        replace b0 := hg8.cell b0
        replace b1 := hg8.cell b1
        replace b2 := hg8.cell b2
        go_wp2_with fail
        refine (data_any L DN C rn l _ _ HG.out (HV.out.gr ((g5.trans hg7).trans hg8))).mono ?_
        rintro e w9 ⟨x0, rfl, hx0, hg9⟩
        rw [HW.out] at hx0
        go_wp2_with fail
        refine (same14_eq (sectsF (rowL l rn) W) _ _ _ (HX.out.gr (hg8.trans hg9)) hx0 (by rw [sectsF_length]; omega)).mono ?_
        rintro e wT ⟨rfl, hgT⟩
        have gT := ((hg7.trans hg8).trans hg9).trans hgT
        clear hx0 hmp7 HX HTK HLR hg7 hg8 hg9 hgT b0 b1 b2 dlo dhi hqw r16
        obtain ⟨b0, b1, b2⟩ := box3 (gT.get hgb5.out)
      case' neg =>
        rw [decide_eq_true (by omega)] at hlo
        have HLR := Lib.hid hlo; clear hlo
        have hdc : decide ((cnt : Int) ≤ L - 4) = false := decide_eq_false hcan
        clear hcan htk
        go_wp2_with fail
        refine (sread_ok m4 lv F4 L DN C rn bb _ _ HB5.out (HLV5.out.bools HLL.out (by omega)) HG.out r16 HM4D.out HM4C.out).mono ?_
        rintro e w7 ⟨x, rfl, -, hx, hg7⟩
        rw [show (DN : Int).toNat = DN from by omega] at hx ⊢
        obtain rfl := hx HLR.out
        rw [HLR.out, show lostE true = 7 from rfl]
        have hmp7 := hg7.get HMP.out
        replace b0 := hg7.cell b0
        replace b1 := hg7.cell b1
        replace b2 := hg7.cell b2
        go_wp2_with fail
        refine (can_any f L DN C rn mp _ HG.out r16 (by rw [show (DN : Int).toNat = DN from by omega]; exact hmp7)).mono ?_
        rintro e wT ⟨rfl, hgT⟩
        rw [show (DN : Int).toNat = DN from by omega, HCF.out, hdc]
        have gT := hg7.trans hgT
        clear hmp7 HLR hg7 hgT b0 b1 b2 dlo dhi hqw r16
        obtain ⟨b0, b1, b2⟩ := box3 (gT.get hgb5.out)
    case' inr =>
      by_cases hlt : q - 1 < 0
      case' pos =>
        have dlo : decide (q - 1 < 0) = true := decide_eq_true hlt
      case' neg =>
        have dlo : decide (q - 1 < 0) = false := decide_eq_false hlt
        have dhi : decide (16 ≤ q - 1) = true := decide_eq_true (by omega)
      all_goals
        go_wp2_with fail
        refine (sread_row m4 F4 L DN C (q - 1) bb _ _ HB5.out HG.out (by omega)).mono ?_
        rintro e wT ⟨rfl, gT⟩
        clear b0 b1 b2
        obtain ⟨b0, b1, b2⟩ := box3 (gT.get hgb5.out)
    all_goals
      have HB6 := Lib.hid (HB5.out.gr gT)
      have HLV6 := Lib.hid (HLV5.out.gr gT)
      have HMP6 := Lib.hid (gT.get HMP.out)
      have hgb6 := Lib.hid (gT.get hgb5.out)
      have g6 := g5.trans gT
      clear HB5 HLV5 HMP hgb5 g5 gT HLO
      have hcw : IntKind.i64.wrap ((W : Int) * 16 + 2) = (W : Int) * 16 + 2 := IntWalk.i64_in _ (by omega)
      go_wp2_with fail
      refine (rcapacity_good L DN C _ HG.out).mono ?_
      rintro e w6 ⟨rfl, hg6⟩
      rw [HWI.out]
      replace b0 := hg6.cell b0
      replace b1 := hg6.cell b1
      replace b2 := hg6.cell b2
      go_wp2_with fail
      refine (within_pos at' ((W : Int) * 16 + 2) _ (by omega) (by omega)).mono ?_
      rintro e w7 ⟨q2, p0, p1, -, rfl, rfl⟩
      obtain ⟨z, hz⟩ : ∃ z, q2 - 1 = z := ⟨_, rfl⟩
      have hzw : IntKind.i64.wrap (q2 - 1) = z := (IntWalk.i64_in _ (by omega)).trans hz
      have z0 : -1 ≤ z := by omega
      have z1 : z ≤ (W : Int) * 16 := by omega
      clear hz p0 p1 hcw
      have HB7 := Lib.hid (HB6.out.gr hg6)
      have HLV7 := Lib.hid (HLV6.out.gr hg6)
      have HMP7 := Lib.hid (hg6.get HMP6.out)
      have hgb7 := Lib.hid (hg6.get hgb6.out)
      have g7 := g6.trans hg6
      clear HB6 HLV6 HMP6 hgb6 g6 hg6
      rcases Classical.em (0 ≤ z ∧ z < (W : Int) * 16) with hz | hz
      case' inr =>
        go_wp2_with fail
        refine (sone_none m4 F4 L DN C z bb _ _ HB7.out HG.out (by rw [HWI.out]; omega)).mono ?_
        rintro e w8 ⟨rfl, hg8⟩
        replace b0 := hg8.cell b0
        replace b1 := hg8.cell b1
        replace b2 := hg8.cell b2
        have hrof : ∀ w : World, Calls Try.prog 38 #[gv L DN C, .int .i64 z] w fun e w' => e = .returned (.tuple #[.int .i64 0, .int .i64 0, .bool false]) ∧ Gr w w' := fun w => by
          by_cases h : z < 0
          · exact rof_low L DN C z w HG.out h
          · exact rof_high L DN C z w HG.out (by rw [HWI.out]; omega)
        go_wp2_with fail
        refine (hrof _).mono ?_
        rintro e w9 ⟨rfl, hg9⟩
        clear hrof
        go_wp2_with fail
        refine (wakes14 _).mono ?_
        rintro e w10 ⟨rfl, hg10⟩
        go_wp2
        go_ret
        exact ⟨rfl, ((g7.trans hg8).trans hg9).trans hg10⟩
      case' inl =>
        obtain ⟨z0, z1⟩ := hz
        obtain ⟨-, -, -, -, -, -, -, -, -, r0, r1, k0, k1⟩ := of_bds HG.out z0 (by rw [HWI.out]; exact z1)
        obtain ⟨sn, hsn⟩ : ∃ sn : Nat, rowOf L DN C z = sn := ⟨(rowOf L DN C z).toNat, by omega⟩
        obtain ⟨cn, hcn⟩ : ∃ cn : Nat, colOf L DN C z = cn := ⟨(colOf L DN C z).toNat, by omega⟩
        have s16 : sn < 16 := by omega
        have cW : cn < W := by have := HWI.out; omega
        have hnum : numOf L DN C sn cn = z := by rw [← hsn, ← hcn]; exact num_row.resolve_right (fun h => h HG.out)
        obtain ⟨o1, o2⟩ := HONE.out sn s16 cn cW
        rw [hnum] at o1 o2
        obtain ⟨d0, d1⟩ := dskOf_bds HG.out sn cn
        obtain ⟨o, ho⟩ : ∃ o : Nat, dskOf L DN C sn cn = o := ⟨(dskOf L DN C sn cn).toNat, by omega⟩
        rw [ho, show ((o : Int)).toNat = o from by omega] at o1
        have hget := lostEs_get f (d := o) (k := DN) (by omega)
        obtain ⟨t, ht⟩ : ∃ t, t = f o := ⟨_, rfl⟩
        rw [← ht] at hget o1
        have hrof : ∀ w : World, Calls Try.prog 38 #[gv L DN C, .int .i64 z] w fun e w' => e = .returned (.tuple #[.int .i64 o, .int .i64 sn, .bool true]) ∧ Gr w w' := fun w => by
          have := rof_good L DN C z w HG.out z0 (by rw [HWI.out]; exact z1)
          rw [hsn, hcn, ho] at this
          exact this
        have HROF := Lib.hid hrof; clear hrof
        have HGET := Lib.hid hget; clear hget
        have HO2 := Lib.hid o2; clear o2
        have HINJ : Hid (∀ i : Nat, i ≠ cn → numOf L DN C sn i ≠ z) := Lib.hid fun i hi e => hi (by have := num_inj (by omega) (e.trans hnum.symm); omega)
        have HNUM := Lib.hid hnum; clear hnum
        clear r0 r1 k0 k1 hsn hcn d0 d1 ho ht HONE
        rcases Classical.em (t = false ∧ L - 4 < (cnt : Int)) with hbad | hbad
        case' inl =>
          obtain ⟨rfl, hb⟩ := hbad
          rw [decide_eq_true hb] at o1
          replace o1 : oneLost m4 lv L DN C z = true := o1
          have O1 := Lib.hid o1; clear o1
          go_wp2_with fail
          refine (sone_ok m4 lv F4 L DN C z bb _ _ HB7.out (HLV7.out.bools HLL.out (by omega)) HG.out z0 (by rw [HWI.out]; exact z1) HM4D.out HM4C.out).mono ?_
          rintro e w8 ⟨y, rfl, -, hy, hg8⟩
          obtain rfl := hy O1.out
          rw [O1.out, show lostE true = 7 from rfl]
          have hmp8 := hg8.get HMP7.out
          replace b0 := hg8.cell b0
          replace b1 := hg8.cell b1
          replace b2 := hg8.cell b2
          go_wp2_with fail
          refine (HROF.out _).mono ?_
          rintro e w9 ⟨rfl, hg9⟩
          replace b0 := hg9.cell b0
          replace b1 := hg9.cell b1
          replace b2 := hg9.cell b2
          replace hmp8 := hg9.get hmp8
          have HM8 := Lib.hid hmp8; clear hmp8
          go_wp2_with (first | ((with_reducible apply wpL_lookup mapIB int64t zeroB); rfl; rfl; exact HM8.out; exact HGET.out))
          refine (can_any f L DN C sn mp _ HG.out s16 (by rw [show (DN : Int).toNat = DN from by omega]; exact HM8.out)).mono ?_
          rintro e w10 ⟨rfl, hg10⟩
          rw [show (DN : Int).toNat = DN from by omega, HCF.out, decide_eq_false (show ¬ (cnt : Int) ≤ L - 4 from by omega)]
          go_wp2_with fail
          refine (wakes14 _).mono ?_
          rintro e w11 ⟨rfl, hg11⟩
          go_wp2
          go_ret
          exact ⟨rfl, (((g7.trans hg8).trans hg9).trans hg10).trans hg11⟩
        case' inr =>
          have o1' : oneLost m4 lv L DN C z = false := by
            rw [o1]
            cases t with
            | true => rfl
            | false => rw [decide_eq_false (fun h => hbad ⟨rfl, h⟩)]; rfl
          have hy0 := HO2.out o1'
          have O1 := Lib.hid o1'; clear o1' o1
          go_wp2_with fail
          refine (sone_ok m4 lv F4 L DN C z bb _ _ HB7.out (HLV7.out.bools HLL.out (by omega)) HG.out z0 (by rw [HWI.out]; exact z1) HM4D.out HM4C.out).mono ?_
          rintro e w8 ⟨y, rfl, hy, -, hg8⟩
          replace hy := hy O1.out
          rw [O1.out, show lostE false = 0 from rfl]
          rw [hy0] at hy
          obtain ⟨ya, yn, yc, hys⟩ := hy.sl
          subst hys
          have HY := Lib.hid hy; clear hy hy0
          have hmp8 := hg8.get HMP7.out
          replace b0 := hg8.cell b0
          replace b1 := hg8.cell b1
          replace b2 := hg8.cell b2
          go_wp2_with fail
          refine (HROF.out _).mono ?_
          rintro e w9 ⟨rfl, hg9⟩
          replace b0 := hg9.cell b0
          replace b1 := hg9.cell b1
          replace b2 := hg9.cell b2
          replace hmp8 := hg9.get hmp8
          have HM8 := Lib.hid hmp8; clear hmp8
          cases t
          case' false =>
            have hcl : (cnt : Int) ≤ L - 4 := by
              rcases Int.lt_or_le (L - 4) (cnt : Int) with h | h
              · exact absurd h (fun h => hbad ⟨Eq.refl false, h⟩)
              · exact h
            go_wp2_with (first | ((with_reducible apply wpL_lookup mapIB int64t zeroB); rfl; rfl; exact HM8.out; exact HGET.out))
            refine (can_any f L DN C sn mp _ HG.out s16 (by rw [show (DN : Int).toNat = DN from by omega]; exact HM8.out)).mono ?_
            rintro e w10 ⟨rfl, hg10⟩
            rw [show (DN : Int).toNat = DN from by omega, HCF.out, decide_eq_true hcl]
            replace b0 := hg10.cell b0
            replace b1 := hg10.cell b1
            replace b2 := hg10.cell b2
            have hgx := hg9.trans hg10
            clear hg9 hg10
          case' true =>
            have hgx := hg9
            clear hg9
          all_goals
            go_wp2_with (first | ((with_reducible apply wpL_lookup mapIB int64t zeroB); rfl; rfl; exact HM8.out; exact HGET.out))
            refine (rnumbers_good L DN C sn _ HG.out (by omega) (by omega)).mono ?_
            rintro e wn ⟨nv, rfl, hnv, hgn⟩
            obtain ⟨nb, no, nc, rfl, -⟩ := ints_cells hnv (by rw [numsOf_length, HW.out]; omega)
            rw [numsOf_length, HW.out] at hnv ⊢
            have HNV := Lib.hid hnv; clear hnv
            have hgb9 := Lib.hid ((hg8.trans (hgx.trans hgn)).get hgb7.out)
            have HY9 := Lib.hid (HY.out.gr (hgx.trans hgn))
            have g9 := g7.trans (hg8.trans (hgx.trans hgn))
            clear HY HM8 HGET HROF hgb7 HB7 HLV7 HMP7 g7 hg8 hgx hgn O1 HO2 b0 b1 b2
            go_wp2_with fail
            go_loop [25, 163] (fun kk i => ∃ j : Nat, j ≤ W ∧ i = .int .i64 j ∧ kk = .int .i64 (if cn < j then cn else 0 : Nat)) (fun _ i => W - (intOf i).toNat)
            case atStart => exact ⟨0, by omega, rfl, rfl⟩
            case round =>
              obtain ⟨j, hj, rfl, rfl⟩ := hrel
              by_cases hlt : j < W
              · have cnn := IntsCells HNV.out (i := j) (by rw [numsOf_length, HW.out]; exact hlt)
                rw [numsOf_get (by rw [HW.out]; exact hlt)] at cnn
                by_cases hjc : j = cn
                · rw [hjc, HNUM.out] at cnn
                  have hbe : (z == z) = true := by simp
                  rw [hjc]
                  go_wp2
                  go_round
                  case rel => exact ⟨cn + 1, by omega, by go_num, by rw [if_pos (by omega)]⟩
                  case measure => simp [intOf]; omega
                · have hbe : (numOf L DN C sn j == z) = false := beq_eq_false_iff_ne.2 (HINJ.out j hjc)
                  go_wp2
                  go_round
                  case rel => exact ⟨j + 1, by omega, by go_num, by by_cases c : cn < j; rw [if_pos c, if_pos (by omega)]; rw [if_neg c, if_neg (by omega)]⟩
                  case measure => simp [intOf]; omega
              · obtain rfl : j = W := by omega
                rw [if_pos cW]
                obtain ⟨b0, b1, b2⟩ := box3 hgb9.out
                go_wp2_with fail
                refine (data_any L DN C sn l _ _ HG.out (HV.out.gr g9)).mono ?_
                rintro e w10 ⟨x0, rfl, hx0, hg10⟩
                rw [HW.out] at hx0
                obtain ⟨xb, xo, xcp, rfl⟩ := hx0.some (by rw [sectsF_length]; omega)
                obtain ⟨xa, xn, xcc, cx, hxk⟩ := hx0.at (i := cn) (by rw [sectsF_length]; exact cW)
                rw [sectsF_length] at hx0 ⊢
                have HXK := Lib.hid hxk; clear hxk hx0
                go_wp2_with fail
                refine (same_any _ _ _ _ _ (HY9.out.gr hg10) HXK.out).mono ?_
                rintro e w11 ⟨rfl, hg11⟩
                rw [show sameB ((sectsF (rowL l sn) j).getD cn []) ((sectsF (rowL l sn) j).getD cn []) = true from decide_eq_true rfl]
                go_wp2_with fail
                refine (wakes14 _).mono ?_
                rintro e w12 ⟨rfl, hg12⟩
                go_wp2
                go_ret
                exact ⟨rfl, ((g9.trans hg10).trans hg11).trans hg12⟩
end Go.Proofs.Ytoalnkhedebpbaa
