/- What row.Fill, wattleref01.Fill, stripe.Write refuse; plainly: what is pending, what stands behind a writing. -/
import Derived.Test.YtoalnkhedebpbaaLost
import Derived.Test.YtoalnkhedebpbaaOnes
import Derived.Deep.DeepCutAuto
namespace Go.Proofs.Ytoalnkhedebpbaa
open Go.RowKit

set_option maxRecDepth 100000 in
set_option maxHeartbeats 400000 in
theorem rin_bad (L D C r : Int) (w : World) (h : goodG L D C = true) (hr : r < 0 ∨ 16 ≤ r) :
    Calls Try.prog 79 #[gv L D C, .int .i64 r] w fun e w' => e = .returned (.bool false) ∧ Gr w w' := by
  have H := Lib.hid h; clear h
  rcases hr with hr | hr
  · have d0 : decide (0 ≤ r) = false := decide_eq_false (by omega)
    go_enter Try.func79, Try.ntmps79
    go_wp2_with fail
    refine (rcheck_good L D C _ H.out).mono ?_
    rintro e w1 ⟨rfl, hg⟩
    go_wp2
    go_ret
    exact ⟨rfl, (Gr.alloc w _).trans hg⟩
  · have d0 : decide (0 ≤ r) = true := decide_eq_true (by omega)
    have d1 : decide (r < 16) = false := decide_eq_false (by omega)
    go_enter Try.func79, Try.ntmps79
    go_wp2_with fail
    refine (rcheck_good L D C _ H.out).mono ?_
    rintro e w1 ⟨rfl, hg⟩
    go_wp2
    go_ret
    exact ⟨rfl, (Gr.alloc w _).trans hg⟩
set_option maxRecDepth 100000 in
set_option maxHeartbeats 400000 in
theorem rfill_bad (L D C r : Int) (n : Nat) (a : Option Addr) (cap : Nat) (w : World) (h : goodG L D C = true) (hb : (r < 0 ∨ 16 ≤ r) ∨ (n : Int) ≠ D - (L - 4)) :
    Calls Try.prog 41 #[gv L D C, .int .i64 r, .slice a n cap] w fun e w' => e = .returned (.tuple #[.slice none 0 0, .bool false]) ∧ Gr w w' := by
  have H := Lib.hid h; clear h
  rcases Classical.em (r < 0 ∨ 16 ≤ r) with hr | hr
  · go_enter Try.func41, Try.ntmps41
    go_wp2_with fail
    refine (rin_bad L D C r _ H.out hr).mono ?_
    rintro e w1 ⟨rfl, hg⟩
    go_wp2
    go_ret2
    exact ⟨rfl, (Gr.alloc w _).trans hg⟩
  · have dne : ((n : Int) != D - (L - 4)) = true := by simpa using hb.resolve_left hr
    go_enter Try.func41, Try.ntmps41
    go_wp2_with fail
    refine (rin_good L D C r _ H.out (by omega) (by omega)).mono ?_
    rintro e w1 ⟨rfl, hg⟩
    obtain ⟨c0, c1, c2⟩ := box3 (hg.get (heap_alloc_new w _))
    go_wp2_with fail
    refine (rwidth_good L D C _ H.out).mono ?_
    rintro e w2 ⟨rfl, hg2⟩
    go_wp2
    go_ret2
    exact ⟨rfl, ((Gr.alloc w _).trans hg).trans hg2⟩
set_option maxRecDepth 100000 in
set_option maxHeartbeats 400000 in
theorem fill_bad (L D C r : Int) (n : Nat) (a : Option Addr) (cap : Nat) (w : World) (h : goodG L D C = true) (hb : (r < 0 ∨ 16 ≤ r) ∨ (n : Int) ≠ D - (L - 4)) :
    Calls Try.prog 87 #[gv L D C, .int .i64 r, .slice a n cap] w fun e w' => e = .returned (.tuple #[.slice none 0 0, .bool false]) ∧ Gr w w' := by
  have H := Lib.hid h; clear h
  rcases Classical.em (r < 0 ∨ 16 ≤ r) with hr | hr
  · have hd : (decide (0 ≤ r) && decide (r < 16)) = false := by
      rcases hr with hr | hr
      · rw [decide_eq_false (by omega)]; rfl
      · rw [decide_eq_false (show ¬ r < 16 from by omega), Bool.and_false]
    go_enter Try.func87, Try.ntmps87
    go_wp2_with fail
    refine (rowin_good L D C r _ H.out).mono ?_
    rintro e w1 ⟨rfl, hg⟩
    rw [hd]
    go_wp2
    go_ret2
    exact ⟨rfl, (Gr.alloc w _).trans hg⟩
  · have dne : ((n : Int) != D - (L - 4)) = true := by simpa using hb.resolve_left hr
    go_enter Try.func87, Try.ntmps87
    go_wp2_with fail
    refine (rowin_good L D C r _ H.out).mono ?_
    rintro e w1 ⟨rfl, hg⟩
    rw [decide_eq_true (show 0 ≤ r from by omega), decide_eq_true (show r < 16 from by omega)]
    obtain ⟨c0, c1, c2⟩ := box3 (hg.get (heap_alloc_new w _))
    go_wp2_with fail
    refine (width_good L D C _ H.out).mono ?_
    rintro e w2 ⟨rfl, hg2⟩
    go_wp2
    go_ret2
    exact ⟨rfl, ((Gr.alloc w _).trans hg).trans hg2⟩
set_option maxRecDepth 100000 in
set_option maxHeartbeats 400000 in
theorem swrite_bad (L D C r : Int) (n : Nat) (a : Option Addr) (cap bb : Nat) (v : Value) (w : World) (h : goodG L D C = true) (hb : (r < 0 ∨ 16 ≤ r) ∨ (n : Int) ≠ D - (L - 4)) :
    Calls Try.prog 55 #[bp bb, v, gv L D C, .int .i64 r, .slice a n cap] w fun e w' => e = .returned (.int .i64 1) ∧ Gr w w' := by
  go_enter Try.func55, Try.ntmps55
  go_wp2_with fail
  refine (fill_bad L D C r n a cap _ h hb).mono ?_
  rintro e w1 ⟨rfl, hg⟩
  go_wp2
  go_ret
  exact ⟨rfl, (Gr.alloc w _).trans hg⟩
theorem pendTo_zero {m : BM} (h : ∀ j, (m.d j).pend.length = 0) : ∀ k, pendTo m k = 0
  | 0 => rfl
  | k + 1 => by unfold pendTo; rw [pendTo_zero h k, h]
/-- After a row's writing: one write for each disk that can be asked. -/
theorem pendTo_up {m : BM} {f : Nat → Bool} {n : Nat} (h : ∀ j, j < n → (m.d j).pend.length = if f j then 1 else 0) : ∀ k, k ≤ n → pendTo m k + ((List.range k).filter fun d => !f d).length = k
  | 0, _ => rfl
  | k + 1, hk => by
    have ih := pendTo_up h k (by omega)
    unfold pendTo
    rw [List.range_succ, List.filter_append, List.length_append, h k (by omega), List.filter_cons]
    cases f k <;> simp <;> omega
theorem lostEs_len (f : Nat → Bool) (k : Nat) : (lostEs f k).length = ((List.range k).filter fun d => !f d).length := by unfold lostEs; rw [List.length_map]
end Go.Proofs.Ytoalnkhedebpbaa
