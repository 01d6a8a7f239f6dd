/- bench.Write: what it does. -/
import Derived.Test.YtoalnkhedebpbaaW2
namespace Go.Proofs.Ytoalnkhedebpbaa
open Go.RowKit

theorem DStep.since {w w1 w2 : World} {b : Nat} {g g' : Option Nat} (st : DStep w1 b g w2 g') (hg : Gr w w1) (hb : w.heap.size ≤ b) (hgb : ∀ x, g = some x → w.heap.size ≤ x) : Gr w w2 :=
  ⟨st.os.trans hg.os, st.tape.trans hg.tape, st.output.trans hg.output, Nat.le_trans hg.size st.size, fun k hk => (st.block k (Nat.lt_of_lt_of_le hk hg.size) (by omega) (fun e => by have := hgb k e; omega)).trans (hg.block k hk)⟩
theorem cntM_ds (m : BM) : (cntM m).ds = m.ds := by unfold cntM; split <;> rfl
set_option maxRecDepth 100000 in
set_option maxHeartbeats 2000000 in
theorem bwrite_any (m : BM) (F : Nat → Prop) (bb i a : Nat) (x : List UInt8) (u : Value) (w : World) (h : BenchAt w F bb m) (hi : i < m.ds.length) (ha : a < 52) (hp : (m.d i).pend.length ≤ 1048575) (hx : BytesAt w u x) (hl : x.length = 32) :
    Calls Try.prog 99 #[bp bb, .int .i64 i, .int .i64 a, u] w fun e w' => e = .returned (.int .i64 (m.wr i a x).1) ∧ ∃ F', BenchAt w' F' bb (m.wr i a x).2 ∧ St F w F' w' := by
  have H := Lib.hid h
  have HI := Lib.hid hi
  obtain ⟨lb, cap, b, g, c3, ci, hd, _⟩ := h.at hi
  have HD := Lib.hid hd; clear hd
  have HX := Lib.hid hx
  have HL := Lib.hid hl
  obtain ⟨ua, ucap, hu⟩ := hx.shape
  rw [hl] at hu
  subst hu
  clear h hx hl
  cases hdn : m.down with
  | true =>
    have hm : mayB m i = 6 := by unfold mayB isB; rw [hdn]; simp [hi]
    have hw : m.wr i a x = (6, m) := by unfold BM.wr; rw [hdn]; rfl
    rw [hw]
    have HM := Lib.hid hm; clear hm hw hdn
    clear hi
    go_enter Try.func99, Try.ntmps99
    go_wp2_with fail
    refine (bmay_any m F bb i _ H.out).mono ?_
    rintro e w1 ⟨rfl, rfl⟩
    rw [HM.out]
    go_wp2
    go_ret
    exact ⟨rfl, F, H.out, St.refl F _⟩
  | false =>
    have hm : mayB m i = 0 := by unfold mayB isB; rw [hdn]; simp [hi]
    have HM := Lib.hid hm; clear hm
    have HDN := Lib.hid hdn; clear hdn
    cases hf : (m.d i).failed with
    | true =>
      have hw : m.wr i a x = (5, m) := by unfold BM.wr; rw [HDN.out, hf]; rfl
      have hmf : mayF (m.d i) a = 5 := by unfold mayF; rw [hf]; rfl
      rw [hw]
      have HMF := Lib.hid hmf; clear hmf hw hf hi
      go_enter Try.func99, Try.ntmps99
      go_wp2_with fail
      refine (bmay_any m F bb i _ H.out).mono ?_
      rintro e w1 ⟨rfl, rfl⟩
      rw [HM.out]
      go_wp2_with fail
      refine (dclone_any (m.d i) b g _ HD.out (by omega)).mono ?_
      rintro e w2 ⟨g2, rfl, hd2, hgb2, hgr2⟩
      go_wp2_with fail
      refine (dwrite_bad (m.d i) a _ g2 _ _ hd2 (by rw [HMF.out]; decide)).mono ?_
      rintro e w3 ⟨rfl, hgr3⟩
      rw [HMF.out]
      go_wp2
      go_ret
      exact ⟨rfl, F, H.out.gr (hgr2.trans hgr3), St.gr (hgr2.trans hgr3)⟩
    | false =>
      have hmf : mayF (m.d i) a = 0 := by unfold mayF; rw [hf]; simp; omega
      have HMF := Lib.hid hmf; clear hmf
      by_cases h0 : m.left = 0
      · have hw : m.wr i a x = (6, cntM m) := by unfold BM.wr cntM; rw [HDN.out, hf, h0]; rfl
        have hb0 : decide (m.left ≠ 0) = false := by simp [h0]
        rw [hw]
        have HB0 := Lib.hid hb0; clear hb0 hw h0 hf hi
        go_enter Try.func99, Try.ntmps99
        go_wp2_with fail
        refine (bmay_any m F bb i _ H.out).mono ?_
        rintro e w1 ⟨rfl, rfl⟩
        rw [HM.out]
        go_wp2_with fail
        refine (dclone_any (m.d i) b g _ HD.out (by omega)).mono ?_
        rintro e w2 ⟨g2, rfl, hd2, hgb2, hgr2⟩
        go_wp2_with fail
        refine (dwrite_ok (m.d i) a x _ g2 _ _ hd2 HMF.out (HX.out.gr hgr2) HL.out (by omega)).mono ?_
        rintro e w3 ⟨rfl, g3, st3, _⟩
        have hgr3 := st3.since hgr2 (Nat.le_refl _) hgb2
        clear st3 hd2
        go_wp2_with fail
        refine (count_any m F bb _ (H.out.gr hgr3)).mono ?_
        rintro e w4 ⟨rfl, hb4, st4⟩
        rw [HB0.out]
        have HB4 := Lib.hid hb4; clear hb4
        go_wp2
        go_ret
        exact ⟨rfl, F, HB4.out, (St.gr hgr3).trans st4⟩
      · have hw : m.wr i a x = (0, { cntM m with ds := m.ds.set i ((m.d i).push a x) }) := by unfold BM.wr cntM; rw [HDN.out, hf, if_neg h0, if_neg h0]; rfl
        have hb0 : decide (m.left ≠ 0) = true := by simp [h0]
        rw [hw]
        have HB0 := Lib.hid hb0; clear hb0 hw h0 hf
        have hci : (cntM m).d i = m.d i := by unfold BM.d; rw [cntM_ds]
        have hcl : i < (cntM m).ds.length := by rw [cntM_ds]; exact hi
        have HCI := Lib.hid hci; clear hci
        have HCL := Lib.hid hcl; clear hcl hi
        go_enter Try.func99, Try.ntmps99
        go_wp2_with fail
        refine (bmay_any m F bb i _ H.out).mono ?_
        rintro e w1 ⟨rfl, rfl⟩
        rw [HM.out]
        go_wp2_with fail
        refine (dclone_any (m.d i) b g _ HD.out (by omega)).mono ?_
        rintro e w2 ⟨g2, rfl, hd2, hgb2, hgr2⟩
        go_wp2_with fail
        refine (dwrite_ok (m.d i) a x _ g2 _ _ hd2 HMF.out (HX.out.gr hgr2) HL.out (by omega)).mono ?_
        rintro e w3 ⟨rfl, g3, st3, _⟩
        have hgr3 := st3.since hgr2 (Nat.le_refl _) hgb2
        have hx3 := HX.out.gr hgr3
        clear st3 hd2
        go_wp2_with fail
        have hb3 := H.out.gr hgr3
        refine (count_any m F bb _ hb3).mono ?_
        rintro e w4 ⟨rfl, hb4, st4⟩
        rw [HB0.out]
        have hx4 := hx3.st hb3 st4
        clear hb3 hx3 c3 ci
        obtain ⟨lb4, cap4, b4, g4, c34, ci4, hd4, hst4⟩ := hb4.at HCL.out
        rw [HCI.out] at hd4
        have HD4 := Lib.hid hd4; clear hd4
        have HST4 := Lib.hid hst4; clear hst4
        have HX4 := Lib.hid hx4; clear hx4
        have ST := Lib.hid ((St.gr hgr3).trans st4); clear st4 hb4
        have hln : (cntM m).ds.length = m.ds.length := by rw [cntM_ds]
        have hIi : (i : Int) < (cntM m).ds.length := by have := HCL.out; omega
        go_wp2_with fail
        refine (dwrite_ok (m.d i) a x b4 g4 _ _ HD4.out HMF.out HX4.out HL.out (by omega)).mono ?_
        rintro e w5 ⟨rfl, g5, st5, hd5⟩
        obtain ⟨F5, hb5, st5'⟩ := HST4.out w5 g5 _ st5 hd5
        rw [cntM_ds] at hb5
        have HB5 := Lib.hid hb5; clear hb5 st5 hd5
        go_wp2
        go_ret
        exact ⟨rfl, F5, HB5.out, ST.out.trans st5'⟩
end Go.Proofs.Ytoalnkhedebpbaa
