/- wattlelaw14.StripeOnes: it answers true. -/
import Derived.Test.YtoalnkhedebpbaaH
import Derived.Test.YtoalnkhedebpbaaP
namespace Go.Proofs.Ytoalnkhedebpbaa
open Go.RowKit

theorem filled_on {L D C : Int} (h : goodG L D C = true) {n : Nat} (hn : D ≤ n) (l : List Int) (lv : List Bool) {r : Nat} (hr : r < 16) : OnDisks (filledM L D C n l) lv L D C r (sectsF (rowL l r) (D - (L - 4)).toNat) := by
  obtain ⟨hL1, hL2, hD1, hD2, hC1, hC2, hw⟩ := goodG_bds h
  refine ⟨by rw [sectsF_length]; omega, sectsF_len _ _, fun d hd _ => ?_⟩
  unfold filledM
  rw [stdM_d _ (by omega), rd_none rfl]
  show fstage (fun _ => D.toNat) (rowG L D C l) 16 0 d (36 + r) = _
  unfold fstage
  rw [if_pos ⟨by omega, by show d < D.toNat; omega, .inl (by omega)⟩, show 36 + r - 36 = r from by omega]
  rfl
theorem one_own {m : BM} {l : List Bool} {L D C : Int} {r k : Nat} (hg : goodG L D C = true) (hk : (k : Int) < D - (L - 4)) (hu : upF m l (dskOf L D C r k).toNat = true) :
    oneLost m l L D C (numOf L D C r k) = false ∧ oneV m l L D C (numOf L D C r k) = rd (m.d (dskOf L D C r k).toNat) (36 + r) := by
  obtain ⟨er, ek⟩ := row_num (r := r) hg (show (0 : Int) ≤ k by omega) hk
  have ed : dOf L D C (numOf L D C r k) = (dskOf L D C r k).toNat := by unfold dOf; rw [er, ek]
  unfold oneLost oneV
  rw [ed, hu, er]
  exact ⟨rfl, rfl⟩
theorem St.keepB {w w' : World} {F F' : Nat → Prop} {bb k : Nat} {m : BM} {cs : Array Value} {t : TypeId} {fr : Nat × Nat} (st : St F w F' w') (b : BenchAt w F bb m) (hk : w.heap[k]? = some (.cells cs t fr)) (ht : ¬ bty t) : w'.heap[k]? = some (.cells cs t fr) :=
  (st.1.block k (heap_lt hk) (fun hf => by
    obtain ⟨cs', t', fr', e, hb⟩ := b.typed k hf
    rw [hk] at e
    injection e with e
    injection e with _ e2 _
    exact ht (e2 ▸ hb))).trans hk
theorem bty_geom : ¬ bty 23 := by unfold bty; decide
theorem OwnB.st {w w' : World} {F F' : Nat → Prop} {bb g : Nat} {m : BM} {l : List Bool} (h : OwnB w g l) (b : BenchAt w F bb m) (st : St F w F' w') : OwnB w' g l := st.keepB b h bty_bool
theorem IntsCells {w : World} {b off n cap : Nat} {zs : List Int} (h : SlAt w 3 (.slice (some ⟨b, off, none⟩) n cap) (ints zs)) {i : Nat} (hi : i < zs.length) : w.cell? ⟨b, off + i, none⟩ = some (.int .i64 (zs.getD i 0)) := by
  obtain ⟨b', off', cap', e, hc⟩ := ints_cells h (by omega)
  injection e with e1 e2 e3
  injection e1 with e1
  injection e1 with e1 e4 e5
  subst e1; subst e4
  exact hc i hi
set_option maxRecDepth 100000 in
set_option maxHeartbeats 12000000 in
theorem ones_walk (n lose r spoil : Int) (l : List Int) (v : Value) (w : World) (hn : -9223372036854775808 ≤ n) (hn' : n ≤ 9223372036854775807) (hv : IntsIn w v l) :
    Calls Try.prog 4 #[.int .i64 n, v, .int .i64 lose, .int .i64 r, .int .i64 spoil] w fun e w' => e = .returned (.bool true) ∧ Gr w w' := by
  have HV := Lib.hid hv
  obtain ⟨a, cap, rfl, hc1, hc2, hc3⟩ := hv
  clear hc1 hc2 hc3
  go_enter Try.func4, Try.ntmps4
  go_wp2_with fail
  refine (good_any n _ hn hn').mono ?_
  rintro e w1 ⟨L, D, C, hG, rfl, hg1⟩
  obtain ⟨hL1, hL2, hD1, hD2, hC1, hC2, hw⟩ := goodG_bds hG
  have HG := Lib.hid hG; clear hG
  obtain ⟨DN, hDN⟩ : ∃ DN : Nat, D = DN := ⟨D.toNat, by omega⟩
  subst hDN
  go_wp2_with fail
  have gA : Gr w (w1.alloc (.cells #[.int .i64 L, .int .i64 DN, .int .i64 C] 23)) := hg1.trans (Gr.alloc _ _)
  have hgb0 := heap_alloc_new w1 (.cells #[.int .i64 L, .int .i64 DN, .int .i64 C] 23)
  refine (filled14_any L DN C DN l _ _ HG.out (by omega) (by omega) (HV.out.gr gA)).mono ?_
  rintro e w2 ⟨bb, F, rfl, hb, hF, hg2⟩
  have hgb := Lib.hid (hg2.get hgb0); clear hgb0
  have hF2 : Hid (∀ k, F k → w1.heap.size < k) := Lib.hid fun k hk => by have := hF k hk; simp at this; omega
  have HB := Lib.hid hb; clear hb hF
  have g2 : Gr w w2 := gA.trans hg2
  clear gA hg2 hn hn'
  obtain ⟨c0, c1, c2⟩ := box3 hgb.out
  obtain ⟨m, hm⟩ : ∃ m, m = filledM L DN C DN l := ⟨_, rfl⟩
  have hmd : m.down = false := by rw [hm]; rfl
  have hmc : Calm m := by rw [hm]; exact stdM_calm _ _
  have hon : ∀ lv r, r < 16 → OnDisks m lv L DN C r (sectsF (rowL l r) ((DN : Int) - (L - 4)).toNat) := fun lv r hr => by rw [hm]; exact filled_on HG.out (Int.le_refl _) l lv hr
  have hup : ∀ (lv : List Bool) (d : Nat), lv.length = DN → d < DN → lv.getD d false = true → upF m lv d = true := fun lv d e hd hl => by
    rw [hm]; unfold filledM; rw [stdM_up hd, hl, e, decide_eq_true hd]; rfl
  have hml : m.ds.length = DN := by rw [hm]; exact stdM_len _ _
  have hmp : ∀ d, (m.d d).pend = [] ∧ (m.d d).failed = false := fun d => by
    rw [hm]; unfold filledM
    by_cases h : d < DN
    · rw [stdM_d _ h]; exact ⟨rfl, rfl⟩
    · simp [stdM, BM.d, h, dm0]
  rw [← hm] at HB
  have HMD := Lib.hid hmd; clear hmd
  have HMC := Lib.hid hmc; clear hmc
  have HON := Lib.hid hon; clear hon
  have HUP := Lib.hid hup; clear hup
  have HML := Lib.hid hml; clear hml
  have HMP := Lib.hid hmp; clear hmp hm
  go_wp2_with fail
  refine (live_any 0 DN _ (by omega) (by omega)).mono ?_
  rintro e w3 ⟨lb, rfl, hlv, hlb, hg3⟩
  rw [liveF_zero] at hlv
  have HLV := Lib.hid hlv; clear hlv
  have b0 := hg3.cell c0
  have b1 := hg3.cell c1
  have b2 := hg3.cell c2
  have e2D : IntKind.i64.wrap (2 * (DN : Int)) = 2 * (DN : Int) := IntWalk.i64_in _ (by omega)
  go_wp2_with fail
  refine (within_pos lose (2 * (DN : Int)) _ (by omega) (by omega)).mono ?_
  rintro e w4 ⟨p, p0, p1, -, rfl, rfl⟩
  obtain ⟨t, rfl⟩ : ∃ t : Nat, p = t := ⟨p.toNat, by omega⟩
  clear e2D
  by_cases ht : t < DN
  case' pos =>
    have dt : decide ((t : Int) < (DN : Int)) = true := by simpa using ht
    obtain ⟨ct, ft⟩ := HLV.out.cell (i := t) (by simp; omega)
    go_wp2_with fail
    obtain ⟨lv, hlve⟩ : ∃ lv, lv = (List.replicate DN true).set t false := ⟨_, rfl⟩
    obtain ⟨wv, hwv⟩ : ∃ wv, wv = w3.setCell ⟨lb, t, none⟩ (Value.bool false) := ⟨_, rfl⟩
    have hlv2 := HLV.out.set (i := t) false
    have gv2 : Gr w2 (w3.setCell ⟨lb, t, none⟩ (Value.bool false)) := OwnB.grset hg3 HLV.out hlb
    rw [← hlve, ← hwv] at hlv2
    rw [← hwv] at gv2 ⊢
    have hll : lv.length = DN := by rw [hlve]; simp
    have hlt : ∀ d, d < DN → d ≠ t → lv.getD d false = true := fun d hd hne => by rw [hlve, getD_set_ne (Ne.symm hne)]; simp [hd]
    clear ct ft hlve hwv dt
  case' neg =>
    have dt : decide ((t : Int) < (DN : Int)) = false := by simpa using ht
    go_wp2_with fail
    obtain ⟨lv, hlve⟩ : ∃ lv, lv = List.replicate DN true := ⟨_, rfl⟩
    obtain ⟨wv, hwv⟩ : ∃ wv, wv = w3 := ⟨_, rfl⟩
    have hlv2 := HLV.out
    have gv2 := hg3
    rw [← hlve, ← hwv] at hlv2
    rw [← hwv] at gv2 ⊢
    have hll : lv.length = DN := by rw [hlve]; simp
    have hlt : ∀ d, d < DN → d ≠ t → lv.getD d false = true := fun d hd _ => by rw [hlve]; simp [hd]
    clear hlve hwv dt
  all_goals
    clear ht hlb hg3 b0 b1 b2 HLV p0 p1
    have HLV := Lib.hid hlv2; clear hlv2
    have HLL := Lib.hid hll; clear hll
    have HLT := Lib.hid hlt; clear hlt
    refine (within_pos r 16 _ (by omega) (by omega)).mono ?_
    rintro e w5 ⟨q, q0, q1, -, rfl, rfl⟩
    obtain ⟨rn, rfl⟩ : ∃ rn : Nat, q = rn := ⟨q.toNat, by omega⟩
    have r16 : rn < 16 := by omega
    obtain ⟨W, hW⟩ : ∃ W : Nat, ((DN : Int) - (L - 4)).toNat = W := ⟨_, rfl⟩
    have hWi : (DN : Int) - (L - 4) = W := by omega
    have hW1 : 0 < W := by omega
    have hW8 : W < 8 := by omega
    have hon := HON.out lv rn r16
    have hln : lostN m lv DN ≤ 1 := lostN_one t (fun d hd hne => HUP.out lv d HLL.out hd (HLT.out d hd hne))
    have hnl : decide (L - 4 < (lostN m lv (DN : Int).toNat : Int)) = false := by
      rw [show (DN : Int).toNat = DN from by omega]
      exact decide_eq_false (by omega)
    have HLO := Lib.hid ((hon.lost HG.out).trans hnl)
    have HTK := Lib.hid (hon.take' HG.out HLO.out)
    have HONE : Hid (∀ k : Nat, k < W → oneLost m lv L DN C (numOf L DN C rn k) = false ∧ oneV m lv L DN C (numOf L DN C rn k) = (sectsF (rowL l rn) W).getD k []) := Lib.hid fun k hk => by
      obtain ⟨a1, a2⟩ := hon.one (k := k) HG.out (by omega)
      rw [hnl, Bool.and_false] at a1
      rw [hW] at a2
      exact ⟨a1, a2 a1⟩
    have HROW : Hid (∀ k : Nat, k < W → upF m lv (dskOf L DN C rn k).toNat = true → rd (m.d (dskOf L DN C rn k).toNat) (36 + rn) = (sectsF (rowL l rn) W).getD k []) := Lib.hid fun k hk hu => by
      obtain ⟨d0, d1⟩ := dskOf_bds HG.out rn k
      rw [hon.rows _ (by omega) hu, fillR_data HG.out rn hon.len (by omega), hW]
    rw [hW] at HTK
    clear hon hln hnl
    obtain ⟨X, hX⟩ : ∃ X, X = sectsF (rowL l rn) W := ⟨_, rfl⟩
    have hXl : X.length = W := by rw [hX, sectsF_length]
    rw [← hX] at HTK HONE HROW
    have HXL := Lib.hid hXl; clear hXl hX
    have HW := Lib.hid hW; clear hW
    have HWI := Lib.hid hWi; clear hWi
    have v0 := gv2.cell c0
    have v1 := gv2.cell c1
    have v2 := gv2.cell c2
    clear c0 c1 c2
    have HBV := Lib.hid (HB.out.gr gv2)
    go_wp2_with fail
    refine (sread_ok m lv F L DN C rn bb _ _ HBV.out (HLV.out.bools HLL.out (by omega)) HG.out r16 HMD.out HMC.out).mono ?_
    rintro e w6 ⟨x, rfl, hx, -, hg6⟩
    replace hx := hx HLO.out
    rw [HLO.out, show lostE false = 0 from rfl]
    rw [HTK.out] at hx
    obtain ⟨xb, xo, xc, rfl⟩ := hx.some (by have := HXL.out; omega)
    rw [HXL.out] at hx ⊢
    have HX := Lib.hid hx; clear hx
    have x0 := hg6.cell v0
    have x1 := hg6.cell v1
    have x2 := hg6.cell v2
    go_wp2_with fail
    refine (rnumbers_good L DN C rn _ HG.out (by omega) (by omega)).mono ?_
    rintro e w7 ⟨nv, rfl, hnv, hg7⟩
    obtain ⟨nb, no, nc, rfl, -⟩ := ints_cells hnv (by rw [numsOf_length, HW.out]; omega)
    rw [numsOf_length, HW.out] at hnv ⊢
    have HNV := Lib.hid hnv; clear hnv
    clear v0 v1 v2 x0 x1 x2
    go_wp2_with fail
    have g67 := hg6.trans hg7
    have hgb7 := Lib.hid (g67.get (gv2.get hgb.out))
    have HB7 := Lib.hid (HBV.out.gr g67)
    have HLV7 := Lib.hid (HLV.out.gr g67)
    have HX7 := Lib.hid (HX.out.gr hg7)
    have g7 := (g2.trans gv2).trans g67
    clear hgb HBV HLV HX g67 gv2 hg6 hg7 HB
    go_loopw [76] (fun i wr => ∃ k : Nat, k ≤ W ∧ i = .int .i64 k ∧ Gr w7 wr) (fun i _ => W - (intOf i).toNat)
    case atStart => exact ⟨0, by omega, rfl, Gr.refl _⟩
    case round =>
      obtain ⟨k, hk, rfl, hgr⟩ := hrel
      obtain ⟨y0, y1, y2⟩ := box3 (hgr.get hgb7.out)
      by_cases hlt : k < W
      · have cn := IntsCells (HNV.out.gr hgr) (i := k) (by rw [numsOf_length, HW.out]; exact hlt)
        rw [numsOf_get (by rw [HW.out]; exact hlt)] at cn
        obtain ⟨ho1, ho2⟩ := HONE.out k hlt
        have HO1 := Lib.hid ho1; clear ho1
        have HO2 := Lib.hid ho2; clear ho2
        have hnb := num_lt (r := rn) HG.out (by omega) (by omega) (show (0 : Int) ≤ k by omega) (by have := HWI.out; omega)
        obtain ⟨z, hz⟩ : ∃ z, z = numOf L DN C rn k := ⟨_, rfl⟩
        rw [← hz] at cn HO1 HO2 hnb
        have HZ := Lib.hid hz; clear hz
        have HNB := Lib.hid hnb; clear hnb
        go_wp2_with fail
        refine (sone_ok m lv F L DN C z bb _ _ (HB7.out.gr hgr) ((HLV7.out.gr hgr).bools HLL.out (by omega)) HG.out HNB.out.1 HNB.out.2 HMD.out HMC.out).mono ?_
        rintro e w8 ⟨y, rfl, hy, -, hg8⟩
        replace hy := hy HO1.out
        rw [HO1.out, show lostE false = 0 from rfl]
        rw [HO2.out] at hy
        obtain ⟨ya, yn, yc, hys⟩ := hy.sl
        subst hys
        have HY := Lib.hid hy; clear hy
        obtain ⟨xa, xn, xcc, cx, hxk⟩ := (HX7.out.gr (hgr.trans hg8)).at (i := k) (by rw [HXL.out]; exact hlt)
        have HXK := Lib.hid hxk; clear hxk
        have y0' := hg8.cell y0
        have y1' := hg8.cell y1
        have y2' := hg8.cell y2
        clear y0 y1 y2
        go_wp2_with fail
        refine (same_any (X.getD k []) (X.getD k []) _ _ _ HY.out HXK.out).mono ?_
        rintro e w9 ⟨rfl, hg9⟩
        rw [show sameB (X.getD k []) (X.getD k []) = true from decide_eq_true rfl]
        go_wp2
        go_roundw
        case rel => exact ⟨k + 1, by omega, by go_num, (hgr.trans hg8).trans hg9⟩
        case measure => simp [intOf]; omega
      · obtain rfl : k = W := by omega
        go_wp2_with fail
        refine (within_pos spoil (DN : Int) _ (by omega) (by omega)).mono ?_
        rintro e w8 ⟨p, p0, p1, -, rfl, rfl⟩
        obtain ⟨d, rfl⟩ : ∃ d : Nat, p = d := ⟨p.toNat, by omega⟩
        have hdD : d < DN := by omega
        go_wp2_with fail
        refine (sector_any _ _).mono ?_
        rintro e w8 ⟨sx, rfl, hsx, hg8⟩
        obtain ⟨sa, sn, sc, hss⟩ := hsx.sl
        subst hss
        have HSX := Lib.hid hsx; clear hsx
        have HB8 := Lib.hid (HB7.out.gr (hgr.trans hg8))
        have hgb8 := Lib.hid ((hgr.trans hg8).get hgb7.out)
        have HLV8 := Lib.hid (HLV7.out.gr (hgr.trans hg8))
        have HNV8 := Lib.hid (HNV.out.gr (hgr.trans hg8))
        have HX8 := Lib.hid (HX7.out.gr (hgr.trans hg8))
        have g8 := g7.trans (hgr.trans hg8)
        clear y0 y1 y2 hgb7 HB7 HLV7 HX7 HNV g7 hgr hg8 p0 p1 hk hlt
        go_wp2_with fail
        have e36 : (36 : Int) + (rn : Int) = ((36 + rn : Nat) : Int) := by omega
        rw [e36]; clear e36
        refine (bdamage_ok m F bb d (36 + rn) _ _ _ HB8.out (by rw [HML.out]; exact hdD) (HMP.out d).1 (by unfold mayF; rw [(HMP.out d).2]; simp; omega) HSX.out (secF_length _)).mono ?_
        rintro e w9 ⟨rfl, F3, hb3, st⟩
        have hgb9 := Lib.hid (st.keepB HB8.out hgb8.out bty_geom)
        have HLV9 := Lib.hid (HLV8.out.st HB8.out st)
        have HNV9 := Lib.hid (SlAt.keep HNV8.out st.1 HB8.out.typed bty_int)
        have HX9 := Lib.hid (HX8.out.st HB8.out st)
        have g9 : Gr w w9 := (st.since g8 (fun k hk => by have := hF2.out k hk; have := hg1.size; omega)).1
        obtain ⟨m2, hm2⟩ : ∃ m2, m2 = m.set d ((m.d d).put (36 + rn) (secF (wrap64 (wrap64 (spoil * 5) + 2)))) := ⟨_, rfl⟩
        have h2d : m2.down = false := by rw [hm2]; exact HMD.out
        have h2j : ∀ j, j ≠ d → m2.d j = m.d j := fun j hj => by rw [hm2, BM.set_d _ _ (by rw [HML.out]; exact hdD), if_neg hj]
        have h2c : Calm m2 := fun j => by
          by_cases e : j = d
          · subst e; rw [hm2, BM.set_d _ _ (by rw [HML.out]; exact hdD), if_pos rfl]; exact HMC.out j
          · rw [h2j j e]; exact HMC.out j
        have h2u : ∀ j, upF m2 lv j = upF m lv j := fun j => by rw [hm2]; exact upF_set rfl
        rw [← hm2] at hb3
        have HB9 := Lib.hid hb3; clear hb3 st hm2
        have H2D := Lib.hid h2d; clear h2d
        have H2C := Lib.hid h2c; clear h2c
        have H2J := Lib.hid h2j; clear h2j
        have H2U := Lib.hid h2u; clear h2u
        clear HB8 hgb8 HLV8 HNV8 HX8 g8 HMD HMC HONE HTK HLO
        go_wp2_with fail
        go_loopw [116] (fun i wr => ∃ j : Nat, j ≤ k ∧ i = .int .i64 j ∧ Gr w9 wr) (fun i _ => k - (intOf i).toNat)
        case atStart => exact ⟨0, by omega, rfl, Gr.refl _⟩
        case round =>
          obtain ⟨j, hj, rfl, hgr⟩ := hrel
          obtain ⟨y0, y1, y2⟩ := box3 (hgr.get hgb9.out)
          by_cases hlt : j < k
          · have cn := IntsCells (HNV9.out.gr hgr) (i := j) (by rw [numsOf_length, HW.out]; exact hlt)
            rw [numsOf_get (by rw [HW.out]; exact hlt)] at cn
            have hnb := num_lt (r := rn) HG.out (by omega) (by omega) (show (0 : Int) ≤ j by omega) (by have := HWI.out; omega)
            have hown : ∀ u, upF m2 lv (dskOf L DN C rn j).toNat = u → u = true → oneLost m2 lv L DN C (numOf L DN C rn j) = false ∧ oneV m2 lv L DN C (numOf L DN C rn j) = rd (m2.d (dskOf L DN C rn j).toNat) (36 + rn) := fun u e e2 => one_own HG.out (by have := HWI.out; omega) (e.trans e2)
            obtain ⟨z, hz⟩ : ∃ z, z = numOf L DN C rn j := ⟨_, rfl⟩
            rw [← hz] at cn hnb hown
            have hrow := HROW.out j hlt
            obtain ⟨d0, d1⟩ := dskOf_bds HG.out rn j
            obtain ⟨o, ho⟩ : ∃ o : Nat, dskOf L DN C rn j = o := ⟨(dskOf L DN C rn j).toNat, by omega⟩
            rw [ho] at hown hrow d1
            have hoD : o < DN := by omega
            have HO := Lib.hid ho; clear ho
            have HOWN := Lib.hid hown; clear hown
            have HZ := Lib.hid hz; clear hz
            have HRW := Lib.hid hrow; clear hrow
            have HNB := Lib.hid hnb; clear hnb d0 d1
            obtain ⟨co, -⟩ := (HLV9.out.gr hgr).cell (i := o) (by rw [HLL.out]; exact hoD)
            go_wp2_with fail
            refine (rdisk_good L DN C rn j _ HG.out (by omega) (by omega) (by omega) (by have := HWI.out; omega)).mono ?_
            rintro e w10 ⟨rfl, hg10⟩
            rw [HO.out]
            replace co := hg10.cell co
            replace y0 := hg10.cell y0
            replace y1 := hg10.cell y1
            replace y2 := hg10.cell y2
            by_cases hod : o = d
            · subst hod
              have hbe : ((o : Int) == (o : Int)) = true := by simp
              go_wp2
              go_roundw
              case rel => exact ⟨j + 1, by omega, by go_num, hgr.trans hg10⟩
              case measure => simp [intOf]; omega
            · have hbe : ((o : Int) == (d : Int)) = false := by simp; omega
              by_cases hlo : lv.getD o false = true
              · rw [hlo] at co
                obtain ⟨ho1, ho2⟩ := HOWN.out _ rfl (by
                  rw [show ((o : Int)).toNat = o from by omega, H2U.out]
                  exact HUP.out lv o HLL.out hoD hlo)
                rw [show ((o : Int)).toNat = o from by omega, H2J.out o hod] at ho2
                have hro := HRW.out (by
                  rw [show ((o : Int)).toNat = o from by omega]
                  exact HUP.out lv o HLL.out hoD hlo)
                rw [show ((o : Int)).toNat = o from by omega] at hro
                have HO1 := Lib.hid ho1; clear ho1
                have HO2 := Lib.hid (ho2.trans hro); clear ho2 hro hlo hod
                go_wp2_with fail
                refine (sone_ok m2 lv F3 L DN C z bb _ _ (HB9.out.gr (hgr.trans hg10)) ((HLV9.out.gr (hgr.trans hg10)).bools HLL.out (by omega)) HG.out HNB.out.1 HNB.out.2 H2D.out H2C.out).mono ?_
                rintro e w11 ⟨y, rfl, hy, -, hg11⟩
                replace hy := hy HO1.out
                rw [HO1.out, show lostE false = 0 from rfl]
                rw [HO2.out] at hy
                obtain ⟨ya, yn, yc, hys⟩ := hy.sl
                subst hys
                have HY := Lib.hid hy; clear hy
                obtain ⟨xa, xn, xcc, cx, hxk⟩ := (HX9.out.gr ((hgr.trans hg10).trans hg11)).at (i := j) (by rw [HXL.out]; exact hlt)
                have HXK := Lib.hid hxk; clear hxk
                go_wp2_with fail
                refine (same_any (X.getD j []) (X.getD j []) _ _ _ HY.out HXK.out).mono ?_
                rintro e w12 ⟨rfl, hg12⟩
                rw [show sameB (X.getD j []) (X.getD j []) = true from decide_eq_true rfl]
                go_wp2
                go_roundw
                case rel => exact ⟨j + 1, by omega, by go_num, ((hgr.trans hg10).trans hg11).trans hg12⟩
                case measure => simp [intOf]; omega
              · rw [show lv.getD o false = false from by simpa using hlo] at co
                clear hlo hod
                go_wp2
                go_roundw
                case rel => exact ⟨j + 1, by omega, by go_num, hgr.trans hg10⟩
                case measure => simp [intOf]; omega
          · obtain rfl : j = k := by omega
            go_wp2_with fail
            refine (wakes14 _).mono ?_
            rintro e w10 ⟨rfl, hg10⟩
            go_wp2
            go_ret
            exact ⟨rfl, g9.trans (hgr.trans hg10)⟩
end Go.Proofs.Ytoalnkhedebpbaa
