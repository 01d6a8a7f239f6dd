/- bench.Flush, stripe.Flush; how many writes are pending; the counter's words. -/
import Derived.Test.YtoalnkhedebpbaaW5
namespace Go.Proofs.Ytoalnkhedebpbaa
open Go.RowKit

set_option maxRecDepth 100000 in
set_option maxHeartbeats 1000000 in
theorem bflush_any (m : BM) (F : Nat → Prop) (bb i : Nat) (w : World) (h : BenchAt w F bb m) (hi : i < m.ds.length) (hp : (m.d i).pend.length ≤ 1048576) :
    Calls Try.prog 96 #[bp bb, .int .i64 i] w fun e w' => e = .returned (.int .i64 (m.fl i).1) ∧ ∃ F', BenchAt w' F' bb (m.fl i).2 ∧ St F w F' w' := by
  have H := Lib.hid h
  obtain ⟨lb, cap, b, g, c3, ci, hd, hst⟩ := h.at hi
  have HD := Lib.hid hd; clear hd
  have HST := Lib.hid hst; clear hst
  clear h
  cases hdn : m.down with
  | true =>
    have hm : mayB m i = 6 := by unfold mayB isB; rw [hdn]; simp [hi]
    have hw : m.fl i = (6, m) := by unfold BM.fl; rw [hdn]; rfl
    rw [hw]
    have HM := Lib.hid hm; clear hm hw hdn hi
    go_enter Try.func96, Try.ntmps96
    go_wp2_with fail
    refine (bmay_any m F bb i _ H.out).mono ?_
    rintro e w1 ⟨rfl, rfl⟩
    rw [HM.out]
    go_wp2
    go_ret
    exact ⟨rfl, F, H.out, St.refl F _⟩
  | false =>
    have hm : mayB m i = 0 := by unfold mayB isB; rw [hdn]; simp [hi]
    have HM := Lib.hid hm; clear hm
    cases hf : (m.d i).failed with
    | true =>
      have hw : m.fl i = (5, m) := by unfold BM.fl; rw [hdn, hf]; rfl
      rw [hw]
      have HF := Lib.hid hf
      clear hw hf hdn
      go_enter Try.func96, Try.ntmps96
      go_wp2_with fail
      refine (bmay_any m F bb i _ H.out).mono ?_
      rintro e w1 ⟨rfl, rfl⟩
      rw [HM.out]
      go_wp2_with fail
      refine (dflush_bad (m.d i) b g _ HD.out HF.out).mono ?_
      rintro e w1 ⟨rfl, rfl⟩
      go_wp2
      go_ret
      exact ⟨rfl, F, H.out, St.refl F _⟩
    | false =>
      have hw : m.fl i = (0, m.set i (m.d i).flush) := by unfold BM.fl; rw [hdn, hf]; rfl
      rw [hw]
      have HF := Lib.hid hf
      have HP := Lib.hid hp
      clear hw hf hdn hp
      go_enter Try.func96, Try.ntmps96
      go_wp2_with fail
      refine (bmay_any m F bb i _ H.out).mono ?_
      rintro e w1 ⟨rfl, rfl⟩
      rw [HM.out]
      go_wp2_with fail
      refine (dflush_ok (m.d i) b g _ HD.out HF.out HP.out).mono ?_
      rintro e w1 ⟨rfl, hs, hd⟩
      have HR := Lib.hid (HST.out w1 none _ hs hd)
      clear hs hd
      go_wp2
      go_ret
      exact ⟨rfl, HR.out⟩
theorem fl_pend (m : BM) (i j : Nat) : ((m.fl i).2.d j).pend.length ≤ (m.d j).pend.length := by
  unfold BM.fl
  split
  · exact Nat.le_refl _
  · split
    · exact Nat.le_refl _
    · show ((m.set i (m.d i).flush).d j).pend.length ≤ _
      by_cases hi : i < m.ds.length
      · rw [BM.set_d m _ hi]
        split
        · simp [DM.flush]
        · exact Nat.le_refl _
      · rw [show m.set i (m.d i).flush = m from by unfold BM.set; rw [List.set_eq_of_length_le (by omega)]]
        exact Nat.le_refl _
theorem flF_pend (l : List Bool) (m : BM) (j : Nat) : ∀ k, ((stepTo (flF l) m k).2.d j).pend.length ≤ (m.d j).pend.length
  | 0 => Nat.le_refl _
  | k + 1 => by
    have ih := flF_pend l m j k
    unfold stepTo
    split
    · generalize (stepTo (flF l) m k).2 = M at *
      unfold flF
      split
      · exact Nat.le_trans (fl_pend M k j) ih
      · exact ih
    · exact ih
set_option maxRecDepth 100000 in
set_option maxHeartbeats 1000000 in
theorem sflush_any (m : BM) (l : List Bool) (F : Nat → Prop) (bb : Nat) (v : Value) (w : World) (h : BenchAt w F bb m) (hv : BoolsAt w v l) (hp : ∀ j, (m.d j).pend.length ≤ 1048576) (hn : m.ds.length ≤ 8) :
    Calls Try.prog 56 #[bp bb, v] w fun e w' => e = .returned (.int .i64 (stepTo (flF l) m m.ds.length).1) ∧ ∃ F', BenchAt w' F' bb (stepTo (flF l) m m.ds.length).2 ∧ St F w F' w' := by
  obtain ⟨va, vcap, rfl⟩ := hv.shape
  obtain ⟨n, hnn⟩ : ∃ n, n = m.ds.length := ⟨_, rfl⟩
  rw [← hnn] at hn ⊢
  have HN := Lib.hid hnn; clear hnn
  have HV := Lib.hid hv; clear hv
  have H := Lib.hid h; clear h
  have HP := Lib.hid hp; clear hp
  have hS0 : Hid (St F w F w) := Lib.hid (St.refl F w)
  go_enter Try.func56, Try.ntmps56
  go_wp2_with fail
  refine (blen_any m F bb _ H.out).mono ?_
  rintro e w1 ⟨rfl, rfl⟩
  rw [← HN.out]
  go_wp2_with fail
  go_loopw [9] (fun i wr => ∃ (k : Nat) (F' : Nat → Prop), k ≤ n ∧ i = .int .i64 k ∧ Hid ((stepTo (flF l) m k).1 = 0) ∧ Hid (BenchAt wr F' bb (stepTo (flF l) m k).2) ∧ Hid (BoolsAt wr (.slice va l.length vcap) l) ∧ Hid (St F w F' wr)) (fun i _ => n - (intOf i).toNat)
  case atStart => exact ⟨0, F, by omega, rfl, Lib.hid rfl, H, HV, hS0⟩
  case round =>
    obtain ⟨k, F', hk, rfl, h0, hb, hvv, hst⟩ := hrel
    by_cases hlt : k < n
    · have hpk := Nat.le_trans (flF_pend l m k k) (HP.out k)
      have hok := stepTo_ok h0.out
      obtain ⟨M, hM⟩ : ∃ M, M = (stepTo (flF l) m k).2 := ⟨_, rfl⟩
      rw [← hM] at hb hpk hok
      have HPK := Lib.hid hpk; clear hpk
      have HOK := Lib.hid hok; clear hok hM
      go_wp2_with fail
      refine (up_any M l F' bb k _ _ hb.out hvv.out).mono ?_
      rintro e w3 ⟨rfl, rfl⟩
      obtain ⟨t, ht⟩ : ∃ t, t = upF M l k := ⟨_, rfl⟩
      rw [← ht]
      cases t with
      | false =>
        have hnx : stepTo (flF l) m (k + 1) = (0, M) := by rw [HOK.out]; unfold flF; rw [← ht]; rfl
        have HNX := Lib.hid hnx; clear hnx ht
        go_wp2
        go_roundw
        case rel => exact ⟨k + 1, F', by omega, by go_num, Lib.hid (by rw [HNX.out]), Lib.hid (by rw [HNX.out]; exact hb.out), hvv, hst⟩
        case measure => simp [intOf]; omega
      | true =>
        have hul := upF_lt ht.symm
        have hnx : stepTo (flF l) m (k + 1) = M.fl k := by rw [HOK.out]; unfold flF; rw [← ht]; rfl
        have HNX := Lib.hid hnx; clear hnx ht
        have HUL := Lib.hid hul.1; clear hul
        go_wp2_with fail
        refine (bflush_any M F' bb k _ hb.out HUL.out HPK.out).mono ?_
        rintro e w4 ⟨rfl, F4, hb4, st4⟩
        rw [← HNX.out]
        rw [← HNX.out] at hb4
        have HB4 := Lib.hid hb4; clear hb4
        have hV4 := Lib.hid (hvv.out.st hb.out st4)
        have hST4 := Lib.hid (hst.out.trans st4)
        clear st4
        by_cases hz : (stepTo (flF l) m (k + 1)).1 = 0
        · have HZ := Lib.hid hz
          rw [hz]
          clear hz
          go_wp2
          go_roundw
          case rel => exact ⟨k + 1, F4, by omega, by go_num, HZ, HB4, hV4, hST4⟩
          case measure => simp [intOf]; omega
        · have hend := stepTo_err hz n (by omega)
          have hbz : ((stepTo (flF l) m (k + 1)).1 != 0) = true := by simpa using hz
          have HEND := Lib.hid hend; clear hend
          obtain ⟨z, hzz⟩ : ∃ z, z = (stepTo (flF l) m (k + 1)).1 := ⟨_, rfl⟩
          rw [← hzz] at hbz ⊢
          have HZZ := Lib.hid hzz; clear hz hzz
          go_wp2
          go_ret
          rw [HEND.out, ← HZZ.out]
          exact ⟨rfl, F4, HB4.out, hST4.out⟩
    · obtain rfl : k = n := by omega
      go_wp2
      go_ret
      rw [h0.out]
      exact ⟨rfl, F', hb.out, hst.out⟩
set_option maxRecDepth 100000 in
theorem dpending_any (d : DM) (b : Nat) (g : Option Nat) (w : World) (h : DiskAt w b g d) :
    Calls Try.prog 92 #[.pointer (some ⟨b, 0, none⟩)] w fun e w' => e = .returned (.int .i64 d.pend.length) ∧ w = w' := by
  obtain ⟨cs, pv, h1, h2, h3, h4, h5, h6, h7, h8, h9⟩ := h
  have c5 := cell_blk h1 h5
  have hpv : ∃ a cap, pv = .slice a d.pend.length cap := by
    rcases h7.2 with ⟨rfl, e⟩ | ⟨gg, cap, cur, rfl, _⟩
    · exact ⟨none, 0, by rw [e]⟩
    · exact ⟨_, cap, rfl⟩
  obtain ⟨a, cap, rfl⟩ := hpv
  clear h1 h2 h3 h4 h5 h6 h7 h8 h9
  go_enter Try.func92, Try.ntmps92
  go_wp2
  go_ret
  exact ⟨rfl, rfl⟩
def pendTo (m : BM) : Nat → Nat
  | 0 => 0
  | k + 1 => pendTo m k + (m.d k).pend.length
theorem pendTo_le {m : BM} (h : Calm m) : ∀ k, pendTo m k ≤ k * 1048576
  | 0 => Nat.le_refl _
  | k + 1 => by
    have := pendTo_le h k
    have := h k
    show pendTo m k + _ ≤ _
    omega
set_option maxRecDepth 100000 in
set_option maxHeartbeats 1000000 in
theorem bpending_any (m : BM) (F : Nat → Prop) (bb : Nat) (w : World) (h : BenchAt w F bb m) (hc : Calm m) (hn : m.ds.length ≤ 8) :
    Calls Try.prog 44 #[bp bb] w fun e w' => e = .returned (.int .i64 (pendTo m m.ds.length)) ∧ w = w' := by
  have H := Lib.hid h
  obtain ⟨a, cap, c3, _⟩ := h.head
  obtain ⟨n, hnn⟩ : ∃ n, n = m.ds.length := ⟨_, rfl⟩
  rw [← hnn] at hn c3 ⊢
  have HN := Lib.hid hnn; clear hnn h
  have HLE : Hid (∀ k, pendTo m k ≤ k * 1048576) := Lib.hid (pendTo_le hc)
  clear hc
  go_enter Try.func44, Try.ntmps44
  go_wp2_with fail
  go_loop [3, 11] (fun s i => ∃ k : Nat, k ≤ n ∧ i = .int .i64 k ∧ s = .int .i64 (pendTo m k)) (fun _ i => n - (intOf i).toNat)
  case atStart => exact ⟨0, by omega, rfl, rfl⟩
  case round =>
    obtain ⟨k, hk, rfl, rfl⟩ := hrel
    by_cases hlt : k < n
    · obtain ⟨lb, cap2, b, g, c32, ci, hd, _⟩ := H.out.at (i := k) (by rw [← HN.out]; exact hlt)
      rw [← HN.out] at c32
      have hcc := c3.symm.trans c32
      obtain ⟨rfl, rfl⟩ : a = some ⟨lb, 0, none⟩ ∧ cap = cap2 := by
        have := Option.some.inj hcc
        injection this with e1 e2 e3
        exact ⟨e1, e3⟩
      have HD := Lib.hid hd; clear hd hcc c32
      have hle := HLE.out k
      have hle2 := HLE.out (k + 1)
      have hsu : pendTo m (k + 1) = pendTo m k + (m.d k).pend.length := rfl
      obtain ⟨p, hp⟩ : ∃ p, p = pendTo m k := ⟨_, rfl⟩
      obtain ⟨q, hq⟩ : ∃ q, q = (m.d k).pend.length := ⟨_, rfl⟩
      rw [← hp] at hle hsu ⊢
      rw [← hq] at hsu
      rw [hsu] at hle2
      have hp1 : (p : Int) ≤ 8388608 := by omega
      have hq1 : (q : Int) ≤ 9437184 := by omega
      have HSU := Lib.hid hsu; clear hsu hle hle2
      have HQ := Lib.hid hq; clear hq hp
      go_wp2_with fail
      refine (dpending_any (m.d k) b g _ HD.out).mono ?_
      rintro e w1 ⟨rfl, rfl⟩
      rw [← HQ.out]
      go_wp2
      go_round
      case rel => exact ⟨k + 1, by omega, by go_num, by rw [HSU.out]; go_num⟩
      case measure => simp [intOf]; omega
    · obtain rfl : k = n := by omega
      go_wp2
      go_ret
      exact ⟨rfl, rfl⟩
set_option maxRecDepth 100000 in
theorem writes_any (m : BM) (F : Nat → Prop) (bb : Nat) (w : World) (h : BenchAt w F bb m) :
    Calls Try.prog 57 #[bp bb] w fun e w' => e = .returned (.int .i64 m.writes) ∧ w = w' := by
  obtain ⟨a, cap, c3, c2, c1, c0⟩ := h.head
  clear h
  go_enter Try.func57, Try.ntmps57
  go_wp2
  go_ret
  exact ⟨rfl, rfl⟩
set_option maxRecDepth 100000 in
theorem down_any (m : BM) (F : Nat → Prop) (bb : Nat) (w : World) (h : BenchAt w F bb m) :
    Calls Try.prog 65 #[bp bb] w fun e w' => e = .returned (.bool m.down) ∧ w = w' := by
  obtain ⟨a, cap, c3, c2, c1, c0⟩ := h.head
  clear h
  go_enter Try.func65, Try.ntmps65
  go_wp2
  go_ret
  exact ⟨rfl, rfl⟩
set_option maxRecDepth 100000 in
theorem limit_any (m : BM) (F : Nat → Prop) (bb n : Nat) (w : World) (h : BenchAt w F bb m) :
    Calls Try.prog 58 #[bp bb, .int .i64 n] w fun e w' => e = .returned (.tuple #[]) ∧ BenchAt w' F bb { m with left := n } ∧ St F w F w' := by
  obtain ⟨lv, h1, h2⟩ := h.ctr
  have c1 := cell_blk (off := 1) (v := .int .i64 m.left) h1 rfl
  have f1 : w.frozen? ⟨bb, 1, none⟩ = false := by simp [World.frozen?, h1]
  have H1 := Lib.hid h1; clear h1
  have H2 := Lib.hid h2; clear h2 h
  have hn : (-1 : Int) < (n : Int) := by omega
  go_enter Try.func58, Try.ntmps58
  go_wp2
  go_end0
  rw [setCell_putB H1.out]
  exact ⟨rfl, H2.out m.writes n m.down⟩
end Go.Proofs.Ytoalnkhedebpbaa
