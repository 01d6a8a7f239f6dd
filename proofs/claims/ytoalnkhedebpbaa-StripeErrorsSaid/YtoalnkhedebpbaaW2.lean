/- disk.Write that is refused; bench's counter, Write: what they do. -/
import Derived.Test.YtoalnkhedebpbaaW
namespace Go.Proofs.Ytoalnkhedebpbaa
open Go.RowKit

set_option maxRecDepth 100000 in
set_option maxHeartbeats 1000000 in
theorem dput_bad (d : DM) (at' : Int) (b : Nat) (g : Option Nat) (u : Value) (w : World) (h : DiskAt w b g d) (hm : mayF d at' ≠ 0) :
    Calls Try.prog 112 #[.pointer (some ⟨b, 0, none⟩), .int .i64 at', u] w fun e w' => e = .returned (.tuple #[.agg (vw 0).toArray, .int .i64 (mayF d at')]) ∧ Gr w w' := by
  obtain ⟨V, hV⟩ : ∃ V, V = vw 0 := ⟨_, rfl⟩
  have hV1 := vw_one 0
  have hVl := vw_length 0
  rw [← hV] at hV1 hVl ⊢
  obtain ⟨Z, hZ⟩ : ∃ Z, Z = zw := ⟨_, rfl⟩
  have hZ1 := z122
  have hZs := zw_size
  rw [← hZ] at hZ1 hZs
  have HV1 := Lib.hid hV1; clear hV1
  have HVL := Lib.hid hVl; clear hVl
  have HZ1 := Lib.hid hZ1; clear hZ1
  have HZS := Lib.hid hZs; clear hZs
  have H := Lib.hid h; clear h
  have HV := Lib.hid hV; clear hV hZ
  obtain ⟨z, hz⟩ : ∃ z, z = mayF d at' := ⟨_, rfl⟩
  have hb : (z != 0) = true := by rw [hz]; simpa using hm
  rw [← hz]
  have HM := Lib.hid hz; clear hm hz
  go_enter Try.func112, Try.ntmps112
  go_wp2_with (first | ((with_reducible apply wpL_alloc HZ1.out)))
  refine (dmay_any d at' b g _ (H.out.gr (Gr.alloc _ _))).mono ?_
  rintro e w1 ⟨rfl, rfl⟩
  rw [← HM.out]
  go_wp2_with (first
    | ((with_reducible apply wpL_storeNew (w0 := w) (vs := V)); rfl; go_must (rw [HVL.out]; exact inf122); exact HV1.out; rfl; (rw [HV.out]; rfl); go_must (rw [HVL.out]; exact HZS.out.symm)))
  refine bodyPost_ret (results_cell_tmpW rfl _ _ w.heap.size _ _ _ V rfl (heap_alloc_new w _) HVL.out (fun j _ => by simp)) rfl ?_
  exact ⟨rfl, Gr.alloc _ _⟩
set_option maxRecDepth 100000 in
set_option maxHeartbeats 1000000 in
theorem dwrite_bad (d : DM) (at' : Int) (b : Nat) (g : Option Nat) (u : Value) (w : World) (h : DiskAt w b g d) (hm : mayF d at' ≠ 0) :
    Calls Try.prog 127 #[.pointer (some ⟨b, 0, none⟩), .int .i64 at', u] w fun e w' => e = .returned (.int .i64 (mayF d at')) ∧ Gr w w' := by
  have hput := dput_bad d at' b g u w h hm
  obtain ⟨V, hV⟩ : ∃ V, V = vw 0 := ⟨_, rfl⟩
  have hV1 := vw_one 0
  have hVl := vw_length 0
  rw [← hV] at hV1 hVl hput
  obtain ⟨Z, hZ⟩ : ∃ Z, Z = zw := ⟨_, rfl⟩
  have hZ1 := z122
  have hZs := zw_size
  rw [← hZ] at hZ1 hZs
  have HV1 := Lib.hid hV1; clear hV1
  have HVL := Lib.hid hVl; clear hVl
  have HZ1 := Lib.hid hZ1; clear hZ1
  have HZS := Lib.hid hZs; clear hZs
  clear hV hZ h
  obtain ⟨z, hz⟩ : ∃ z, z = mayF d at' := ⟨_, rfl⟩
  have hb : (z == 0) = false := by rw [hz]; simpa using hm
  rw [← hz] at hput ⊢
  clear hm hz
  have HPUT := Lib.hid hput; clear hput
  go_enter Try.func127, Try.ntmps127
  go_wp2_with fail
  refine HPUT.out.mono ?_
  rintro e w1 ⟨rfl, g1⟩
  go_wp2_with (first
    | ((with_reducible apply wpL_alloc HZ1.out))
    | ((with_reducible apply wpL_storeNew (w0 := w1) (vs := V)); rfl; go_must (rw [HVL.out]; exact inf122); exact HV1.out; rfl; rfl; go_must (rw [HVL.out]; exact HZS.out.symm)))
  go_ret
  exact ⟨rfl, g1.trans (Gr.alloc _ _)⟩
/-- The counter of a bench. -/
theorem BenchAt.ctr {w : World} {F : Nat → Prop} {bb : Nat} {m : BM} (h : BenchAt w F bb m) : ∃ lv, w.heap[bb]? = some (.cells #[.int .i64 m.writes, .int .i64 m.left, .bool m.down, lv] 88 (0, 0)) ∧
    ∀ (a l : Int) (dn : Bool), BenchAt (putB w bb (.cells #[.int .i64 a, .int .i64 l, .bool dn, lv] 88 (0, 0))) F bb { m with writes := a, left := l, down := dn } ∧ St F w F (putB w bb (.cells #[.int .i64 a, .int .i64 l, .bool dn, lv] 88 (0, 0))) := by
  obtain ⟨lv, bs, gs, h1, h2, h3, h4, h5, h6, h7, h8, h9, h10, h11, h12⟩ := h
  have hlt := heap_lt h1
  refine ⟨lv, h1, fun a l dn => ?_⟩
  have kp : Keep (fun k => k = bb) w (putB w bb (.cells #[.int .i64 a, .int .i64 l, .bool dn, lv] 88 (0, 0))) := ⟨rfl, rfl, rfl, by simp, fun k _ hk => putB_get_other w hk _⟩
  refine ⟨⟨lv, bs, gs, putB_get_self hlt _, own_keep h2 kp (fun x hx => ?_), h3, h4, fun i hi => (h5 i hi).keep kp ?_ (fun x hx => ?_), h6, h7, h8, h9, h10, h11, fun k hk => ?_⟩, ⟨⟨rfl, rfl, rfl, by simp, fun k _ hk => putB_get_other w (fun e => hk (by rw [e]; exact h8)) _⟩, fun k hk => .inl hk⟩⟩
  · obtain ⟨cs, fr, e⟩ := own_row h2 x hx
    exact type_ne e h1 (by decide)
  · obtain ⟨cs, e⟩ := (h5 i hi).blk
    exact type_ne e h1 (by decide)
  · obtain ⟨cs, e⟩ := (h5 i hi).pblk x hx
    exact type_ne e h1 (by decide)
  · by_cases e : k = bb
    · subst e
      exact ⟨_, _, _, putB_get_self hlt _, .inl rfl⟩
    · obtain ⟨cs, t, fr, e2, e3⟩ := h12 k hk
      exact ⟨cs, t, fr, (putB_get_other w e _).trans e2, e3⟩
/-- What the counter says, and how it stands then. -/
def cntM (m : BM) : BM := if m.left = 0 then { m with down := true } else { m with writes := wrap64 (m.writes + 1), left := if 0 < m.left then wrap64 (m.left - 1) else m.left }
set_option maxRecDepth 100000 in
set_option maxHeartbeats 1000000 in
theorem count_any (m : BM) (F : Nat → Prop) (bb : Nat) (w : World) (h : BenchAt w F bb m) :
    Calls Try.prog 128 #[bp bb] w fun e w' => e = .returned (.bool (decide (m.left ≠ 0))) ∧ BenchAt w' F bb (cntM m) ∧ St F w F w' := by
  obtain ⟨lv, h1, h2⟩ := h.ctr
  have hlt := heap_lt h1
  have c0 := cell_blk (off := 0) (v := .int .i64 m.writes) h1 rfl
  have c1 := cell_blk (off := 1) (v := .int .i64 m.left) h1 rfl
  have c2 := cell_blk (off := 2) (v := .bool m.down) h1 rfl
  have f0 : w.frozen? ⟨bb, 0, none⟩ = false := by simp [World.frozen?, h1]
  have f1 : w.frozen? ⟨bb, 1, none⟩ = false := by simp [World.frozen?, h1]
  have f2 : w.frozen? ⟨bb, 2, none⟩ = false := by simp [World.frozen?, h1]
  have H1 := Lib.hid h1; clear h1
  have H2 := Lib.hid h2; clear h2 h
  obtain ⟨wr, hwr⟩ : ∃ x, x = m.writes := ⟨_, rfl⟩
  obtain ⟨lf, hlf⟩ : ∃ x, x = m.left := ⟨_, rfl⟩
  rw [← hwr] at c0
  rw [← hlf] at c1 ⊢
  have HWR := Lib.hid hwr; clear hwr
  have HLF := Lib.hid hlf; clear hlf
  by_cases h0 : lf = 0
  · have hm : cntM m = { m with down := true } := by unfold cntM; rw [← HLF.out, if_pos h0]
    have hd : decide (lf ≠ 0) = false := by simp [h0]
    have hb : (lf == 0) = true := by simp [h0]
    rw [hm, hd]
    clear hm hd h0
    go_enter Try.func128, Try.ntmps128
    go_wp2
    go_ret
    rw [setCell_putB H1.out]
    exact ⟨rfl, H2.out m.writes m.left true⟩
  · have hd : decide (lf ≠ 0) = true := by simp [h0]
    have hb : (lf == 0) = false := by simp [h0]
    rw [hd]
    clear hd
    by_cases hp : 0 < lf
    · have hm : cntM m = { m with writes := wrap64 (wr + 1), left := wrap64 (lf - 1) } := by unfold cntM; rw [← HLF.out, ← HWR.out, if_neg h0, if_pos hp]
      have dp : decide (0 < lf) = true := decide_eq_true hp
      rw [hm]
      clear hm h0 hp
      go_enter Try.func128, Try.ntmps128
      go_wp2
      go_ret
      rw [setCell_putB H1.out, setCell_putB (putB_get_self hlt _), putB_putB]
      have := H2.out (wrap64 (wr + 1)) (wrap64 (lf - 1)) m.down
      exact ⟨rfl, this⟩
    · have hm : cntM m = { m with writes := wrap64 (wr + 1), left := lf } := by unfold cntM; rw [← HLF.out, ← HWR.out, if_neg h0, if_neg hp]
      have dp : decide (0 < lf) = false := decide_eq_false hp
      rw [hm]
      clear hm h0 hp
      go_enter Try.func128, Try.ntmps128
      go_wp2
      go_ret
      rw [setCell_putB H1.out]
      have := H2.out (wrap64 (wr + 1)) lf m.down
      rw [HLF.out] at this ⊢
      exact ⟨rfl, this⟩
end Go.Proofs.Ytoalnkhedebpbaa
