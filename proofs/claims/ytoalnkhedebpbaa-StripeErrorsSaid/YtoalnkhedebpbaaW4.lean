/- stripe.Write: what it does. -/
import Derived.Test.YtoalnkhedebpbaaW3
namespace Go.Proofs.Ytoalnkhedebpbaa
open Go.RowKit

theorem wr_pend (m : BM) (i a : Nat) (x : List UInt8) (j : Nat) : ((m.wr i a x).2.d j).pend.length ≤ (m.d j).pend.length + 1 := by
  unfold BM.wr
  split
  · exact Nat.le_succ _
  · split
    · exact Nat.le_succ _
    · split
      · exact Nat.le_succ _
      · show ((m.set i ((m.d i).push a x)).d j).pend.length ≤ _
        by_cases hi : i < m.ds.length
        · rw [BM.set_d m _ hi]
          split
          · rename_i e; subst e; simp [DM.push]
          · exact Nat.le_succ _
        · rw [show m.set i ((m.d i).push a x) = m from by unfold BM.set; rw [List.set_eq_of_length_le (by omega)]]
          exact Nat.le_succ _
theorem sw_pend (l : List Bool) (a : Nat) (X : List (List UInt8)) (m : BM) (j : Nat) : ∀ k, ((stepTo (swF l a X) m k).2.d j).pend.length ≤ (m.d j).pend.length + k
  | 0 => Nat.le_refl _
  | k + 1 => by
    have ih := sw_pend l a X m j k
    unfold stepTo
    split
    · unfold swF
      split
      · have := wr_pend (stepTo (swF l a X) m k).2 k a (X.getD k []) j
        unfold swF at this ih
        omega
      · unfold swF at ih; exact Nat.le_succ_of_le ih
    · omega
theorem BoolsAt.st {w w' : World} {F F' : Nat → Prop} {bb : Nat} {m : BM} {v : Value} {l : List Bool} (h : BoolsAt w v l) (b : BenchAt w F bb m) (k : St F w F' w') : BoolsAt w' v l := SlAt.keep h k.1 b.typed bty_bool
set_option maxRecDepth 100000 in
set_option maxHeartbeats 2000000 in
theorem swrite_good (m : BM) (l : List Bool) (F : Nat → Prop) (L D C : Int) (r bb : Nat) (data : List (List UInt8)) (v u : Value) (w : World) (h : BenchAt w F bb m) (hv : BoolsAt w v l) (hg : goodG L D C = true) (hr : r < 16) (hp : ∀ j, (m.d j).pend.length ≤ 1000000)
    (hu : RowsAt w u data) (hd : (data.length : Int) = D - (L - 4)) (hs : ∀ i, i < data.length → (data.getD i []).length = 32) :
    Calls Try.prog 55 #[bp bb, v, gv L D C, .int .i64 r, u] w fun e w' => e = .returned (.int .i64 (stepTo (swF l (36 + r) (fillR L D C r data)) m D.toNat).1) ∧ ∃ F', BenchAt w' F' bb (stepTo (swF l (36 + r) (fillR L D C r data)) m D.toNat).2 ∧ St F w F' w' := by
  obtain ⟨hL1, hL2, hD1, hD2, hC1, hC2, _⟩ := goodG_bds hg
  obtain ⟨va, vcap, rfl⟩ := hv.shape
  obtain ⟨DN, hDN⟩ : ∃ DN : Nat, D = DN := ⟨D.toNat, by omega⟩
  subst hDN
  rw [show (DN : Int).toNat = DN from by omega]
  have hXs : ∀ d, d < DN → ((fillR L DN C r data).getD d []).length = 32 := fun d hdd => fillR_sec hg r hd hs (by omega)
  have hXl : (fillR L DN C r data).length = DN := by rw [fillR_length]; omega
  obtain ⟨X, hX⟩ : ∃ X, X = fillR L DN C r data := ⟨_, rfl⟩
  rw [← hX] at hXs hXl ⊢
  have HXE := Lib.hid hX; clear hX
  have HXS := Lib.hid hXs; clear hXs
  have HXL := Lib.hid hXl; clear hXl
  have HV := Lib.hid hv; clear hv
  have HG := Lib.hid hg; clear hg
  have HU := Lib.hid hu; clear hu
  have HD := Lib.hid hd; clear hd
  have HS := Lib.hid hs; clear hs
  have H := Lib.hid h; clear h
  have HP := Lib.hid hp; clear hp
  go_enter Try.func55, Try.ntmps55
  go_wp2_with fail
  refine (fill_good L DN C r data _ _ HG.out (by omega) (by omega) (HU.out.gr (Gr.alloc _ _)) HD.out HS.out).mono ?_
  rintro e w1 ⟨x, rfl, hx, hg1⟩
  have g1 : Gr w w1 := (Gr.alloc _ _).trans hg1
  rw [← HXE.out] at hx
  obtain ⟨xb, xo, xc, rfl⟩ := hx.some (by have := HXL.out; omega)
  rw [HXL.out] at hx ⊢
  have HX := Lib.hid hx; clear hx
  have hB1 := Lib.hid (H.out.gr g1)
  have hV1 := Lib.hid (HV.out.gr g1)
  have hST := Lib.hid (St.gr (F := F) g1)
  go_wp2_with fail
  go_loopw [27] (fun i wr => ∃ (k : Nat) (F' : Nat → Prop), k ≤ DN ∧ i = .int .i64 k ∧ Hid ((stepTo (swF l (36 + r) X) m k).1 = 0) ∧ Hid (BenchAt wr F' bb (stepTo (swF l (36 + r) X) m k).2) ∧ Hid (BoolsAt wr (.slice va l.length vcap) l) ∧ Hid (RowsAt wr (.slice (some ⟨xb, xo, none⟩) DN xc) X) ∧ Hid (St F w F' wr)) (fun i _ => DN - (intOf i).toNat)
  case atStart => exact ⟨0, F, by omega, rfl, Lib.hid rfl, hB1, hV1, HX, hST⟩
  case round =>
    obtain ⟨k, F', hk, rfl, h0, hb, hvv, hxx, hst⟩ := hrel
    by_cases hlt : k < DN
    · have hpk : ((stepTo (swF l (36 + r) X) m k).2.d k).pend.length ≤ 1048575 := by
        have := sw_pend l (36 + r) X m k k
        have := HP.out k
        omega
      have hok := stepTo_ok h0.out
      obtain ⟨M, hM⟩ : ∃ M, M = (stepTo (swF l (36 + r) X) m k).2 := ⟨_, rfl⟩
      rw [← hM] at hb hpk hok
      obtain ⟨xa, xn, xcc, cx, hxk⟩ := hxx.out.at (i := k) (by rw [HXL.out]; exact hlt)
      have hxl := HXS.out k hlt
      have HXK := Lib.hid hxk; clear hxk
      have HXLK := Lib.hid hxl; clear hxl
      have HPK := Lib.hid hpk; clear hpk
      have HOK := Lib.hid hok; clear hok
      have HM := Lib.hid hM; clear hM
      go_wp2_with fail
      refine (up_any M l F' bb k _ _ hb.out hvv.out).mono ?_
      rintro e w3 ⟨rfl, rfl⟩
      obtain ⟨t, ht⟩ : ∃ t, t = upF M l k := ⟨_, rfl⟩
      rw [← ht]
      cases t with
      | false =>
        have hnx : stepTo (swF l (36 + r) X) m (k + 1) = (0, M) := by rw [HOK.out]; unfold swF; rw [← ht]; rfl
        have HNX := Lib.hid hnx; clear hnx ht
        go_wp2
        go_roundw
        case rel => exact ⟨k + 1, F', by omega, by go_num, Lib.hid (by rw [HNX.out]), Lib.hid (by rw [HNX.out]; exact hb.out), hvv, hxx, hst⟩
        case measure => simp [intOf]; omega
      | true =>
        have hul := upF_lt ht.symm
        have hnx : stepTo (swF l (36 + r) X) m (k + 1) = M.wr k (36 + r) (X.getD k []) := by rw [HOK.out]; unfold swF; rw [← ht]; rfl
        have HNX := Lib.hid hnx; clear hnx ht
        have HUL := Lib.hid hul.1; clear hul
        go_wp2_with fail
        have e36 : (36 : Int) + (r : Int) = ((36 + r : Nat) : Int) := by omega
        rw [e36]; clear e36
        refine (bwrite_any M F' bb k (36 + r) (X.getD k []) _ _ hb.out HUL.out (by omega) HPK.out HXK.out HXLK.out).mono ?_
        rintro e w4 ⟨rfl, F4, hb4, st4⟩
        rw [← HNX.out]
        rw [← HNX.out] at hb4
        have HB4 := Lib.hid hb4; clear hb4
        have hV4 := Lib.hid (hvv.out.st hb.out st4)
        have hX4 := Lib.hid (hxx.out.st hb.out st4)
        have hST4 := Lib.hid (hst.out.trans st4)
        clear st4
        by_cases hz : (stepTo (swF l (36 + r) X) m (k + 1)).1 = 0
        · have HZ := Lib.hid hz
          rw [hz]
          clear hz
          go_wp2
          go_roundw
          case rel => exact ⟨k + 1, F4, by omega, by go_num, HZ, HB4, hV4, hX4, hST4⟩
          case measure => simp [intOf]; omega
        · have hend := stepTo_err hz DN (by omega)
          have hbz : ((stepTo (swF l (36 + r) X) m (k + 1)).1 != 0) = true := by simpa using hz
          have HEND := Lib.hid hend; clear hend
          obtain ⟨z, hzz⟩ : ∃ z, z = (stepTo (swF l (36 + r) X) m (k + 1)).1 := ⟨_, rfl⟩
          rw [← hzz] at hbz ⊢
          have HZZ := Lib.hid hzz; clear hz hzz
          go_wp2
          go_ret
          rw [HEND.out, ← HZZ.out]
          exact ⟨rfl, F4, HB4.out, hST4.out⟩
    · obtain rfl : k = DN := by omega
      go_wp2
      go_ret
      rw [h0.out]
      exact ⟨rfl, F', hb.out, hst.out⟩
end Go.Proofs.Ytoalnkhedebpbaa
