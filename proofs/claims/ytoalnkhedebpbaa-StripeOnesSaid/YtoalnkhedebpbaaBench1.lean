/- bench: Len, is, may, Failed, Read: what they answer. -/
import Derived.Test.YtoalnkhedebpbaaBench0
namespace Go.Proofs.Ytoalnkhedebpbaa
open Go.RowKit

/-- A pointer to a bench. -/
abbrev bp (bb : Nat) : Value := .pointer (some ⟨bb, 0, none⟩)
def isB (m : BM) (d : Int) : Bool := decide (0 ≤ d) && decide (d < m.ds.length)
def mayB (m : BM) (d : Int) : Int := if isB m d then (if m.down then 6 else 0) else 1
set_option maxRecDepth 100000 in
theorem blen_any (m : BM) (F : Nat → Prop) (bb : Nat) (w : World) (h : BenchAt w F bb m) :
    Calls Try.prog 85 #[bp bb] w fun e w' => e = .returned (.int .i64 m.ds.length) ∧ w = w' := by
  obtain ⟨a, cap, c3, _⟩ := h.head
  clear h
  go_enter Try.func85, Try.ntmps85
  go_wp2
  go_ret
  exact ⟨rfl, rfl⟩
set_option maxRecDepth 100000 in
theorem is_any (m : BM) (F : Nat → Prop) (bb : Nat) (d : Int) (w : World) (h : BenchAt w F bb m) :
    Calls Try.prog 81 #[bp bb, .int .i64 d] w fun e w' => e = .returned (.bool (isB m d)) ∧ w = w' := by
  obtain ⟨a, cap, c3, _⟩ := h.head
  clear h
  by_cases h0 : 0 ≤ d
  · have hm : isB m d = decide (d < m.ds.length) := by unfold isB; rw [decide_eq_true h0]; rfl
    rw [hm]
    have d0 : decide (0 ≤ d) = true := decide_eq_true h0
    clear h0 hm
    go_enter Try.func81, Try.ntmps81
    go_wp2
    go_ret
    exact ⟨rfl, rfl⟩
  · have hm : isB m d = false := by unfold isB; rw [decide_eq_false h0]; rfl
    rw [hm]
    have d0 : decide (0 ≤ d) = false := decide_eq_false h0
    clear h0 hm
    go_enter Try.func81, Try.ntmps81
    go_wp2
    go_ret
    exact ⟨rfl, rfl⟩
set_option maxRecDepth 100000 in
theorem bmay_any (m : BM) (F : Nat → Prop) (bb : Nat) (d : Int) (w : World) (h : BenchAt w F bb m) :
    Calls Try.prog 101 #[bp bb, .int .i64 d] w fun e w' => e = .returned (.int .i64 (mayB m d)) ∧ w = w' := by
  have H := Lib.hid h
  obtain ⟨a, cap, c3, c2, _⟩ := h.head
  clear h
  by_cases hi : isB m d = true
  · cases hd : m.down
    · have hm : mayB m d = 0 := by unfold mayB; rw [hi, hd]; rfl
      rw [hd] at c2
      rw [hm]; clear hm hd
      have HI := Lib.hid hi; clear hi
      go_enter Try.func101, Try.ntmps101
      go_wp2_with fail
      refine (is_any m F bb d _ H.out).mono ?_
      rintro e w1 ⟨rfl, rfl⟩
      rw [HI.out]
      go_wp2
      go_ret
      exact ⟨rfl, rfl⟩
    · have hm : mayB m d = 6 := by unfold mayB; rw [hi, hd]; rfl
      rw [hd] at c2
      rw [hm]; clear hm hd
      have HI := Lib.hid hi; clear hi
      go_enter Try.func101, Try.ntmps101
      go_wp2_with fail
      refine (is_any m F bb d _ H.out).mono ?_
      rintro e w1 ⟨rfl, rfl⟩
      rw [HI.out]
      go_wp2
      go_ret
      exact ⟨rfl, rfl⟩
  · have hi' : isB m d = false := by simpa using hi
    have hm : mayB m d = 1 := by unfold mayB; rw [hi']; rfl
    rw [hm]; clear hm hi
    have HI := Lib.hid hi'; clear hi'
    go_enter Try.func101, Try.ntmps101
    go_wp2_with fail
    refine (is_any m F bb d _ H.out).mono ?_
    rintro e w1 ⟨rfl, rfl⟩
    rw [HI.out]
    go_wp2
    go_ret
    exact ⟨rfl, rfl⟩
set_option maxRecDepth 100000 in
set_option maxHeartbeats 400000 in
theorem bfailed_any (m : BM) (F : Nat → Prop) (bb i : Nat) (w : World) (h : BenchAt w F bb m) :
    Calls Try.prog 59 #[bp bb, .int .i64 i] w fun e w' => e = .returned (.bool (decide (i < m.ds.length) && (m.d i).failed)) ∧ w = w' := by
  have H := Lib.hid h
  by_cases hi : i < m.ds.length
  · have his : isB m i = true := by unfold isB; simp [hi]
    have hr : (decide (i < m.ds.length) && (m.d i).failed) = (m.d i).failed := by simp [hi]
    rw [hr]; clear hr
    obtain ⟨lb, cap, b, g, c3, ci, hd, _⟩ := h.at hi
    obtain ⟨x, hx⟩ : ∃ x, x = m.d i := ⟨_, rfl⟩
    rw [← hx] at hd ⊢
    clear hx
    have HD := Lib.hid hd
    have HI := Lib.hid his
    clear h his hd
    go_enter Try.func59, Try.ntmps59
    go_wp2_with fail
    refine (is_any m F bb i _ H.out).mono ?_
    rintro e w1 ⟨rfl, rfl⟩
    rw [HI.out]
    go_wp2_with fail
    refine (dfailed_any _ b g _ HD.out).mono ?_
    rintro e w1 ⟨rfl, rfl⟩
    go_wp2
    go_ret
    exact ⟨rfl, rfl⟩
  · have his : isB m i = false := by unfold isB; simp [hi]
    have hr : (decide (i < m.ds.length) && (m.d i).failed) = false := by simp [hi]
    rw [hr]; clear hr
    have HI := Lib.hid his
    clear h his hi
    go_enter Try.func59, Try.ntmps59
    go_wp2_with fail
    refine (is_any m F bb i _ H.out).mono ?_
    rintro e w1 ⟨rfl, rfl⟩
    rw [HI.out]
    go_wp2
    go_ret
    exact ⟨rfl, rfl⟩
/-- What stands against a read or a write of a disk. -/
def rwE (m : BM) (i : Nat) (at' : Int) : Int := if mayB m i = 0 then mayF (m.d i) at' else mayB m i
set_option maxRecDepth 100000 in
set_option maxHeartbeats 400000 in
theorem bread_any (m : BM) (F : Nat → Prop) (bb i at' : Nat) (w : World) (h : BenchAt w F bb m) (hp : ∀ j, (m.d j).pend.length ≤ 1048576) :
    Calls Try.prog 60 #[bp bb, .int .i64 i, .int .i64 at'] w fun e w' => ∃ r, e = .returned (.tuple #[r, .int .i64 (rwE m i at')]) ∧ (rwE m i at' ≠ 0 → r = .slice none 0 0) ∧ (rwE m i at' = 0 → BytesAt w' r (rd (m.d i) at')) ∧ Gr w w' := by
  have H := Lib.hid h
  by_cases hm : mayB m i = 0
  · have hi : i < m.ds.length := by
      unfold mayB isB at hm
      by_cases hi : i < m.ds.length
      · exact hi
      · simp [hi] at hm
    have he : rwE m i at' = mayF (m.d i) at' := by unfold rwE; rw [if_pos hm]
    rw [he]
    obtain ⟨lb, cap, b, g, c3, ci, hd, _⟩ := h.at hi
    replace hp := hp i
    clear he
    obtain ⟨x, hx⟩ : ∃ x, x = m.d i := ⟨_, rfl⟩
    rw [← hx] at hd hp ⊢
    clear hx
    have HD := Lib.hid hd
    have HM := Lib.hid hm
    have HP := Lib.hid hp
    clear h hm hd hp
    by_cases hf : mayF x at' = 0
    · rw [hf]
      have HF := Lib.hid hf; clear hf
      go_enter Try.func60, Try.ntmps60
      go_wp2_with fail
      refine (bmay_any m F bb i _ H.out).mono ?_
      rintro e w1 ⟨rfl, rfl⟩
      rw [HM.out]
      go_wp2_with fail
      refine (dread_ok _ at' b g _ HD.out HF.out HP.out).mono ?_
      rintro e w1 ⟨r, rfl, hr, hg⟩
      go_wp2
      go_ret2
      exact ⟨r, rfl, fun e => absurd rfl e, fun _ => hr, hg⟩
    · have HF := Lib.hid hf; clear hf
      go_enter Try.func60, Try.ntmps60
      go_wp2_with fail
      refine (bmay_any m F bb i _ H.out).mono ?_
      rintro e w1 ⟨rfl, rfl⟩
      rw [HM.out]
      go_wp2_with fail
      refine (dread_bad _ at' b g _ HD.out HF.out).mono ?_
      rintro e w1 ⟨rfl, rfl⟩
      go_wp2
      go_ret2
      exact ⟨_, rfl, fun _ => rfl, fun e => absurd e HF.out, Gr.refl _⟩
  · have he : rwE m i at' = mayB m i := by unfold rwE; rw [if_neg hm]
    rw [he]
    have hb : (mayB m i != 0) = true := by simpa using hm
    obtain ⟨z, hz⟩ : ∃ z, z = mayB m i := ⟨_, rfl⟩
    rw [← hz] at hb hm ⊢
    have HZ := Lib.hid hz
    have HM := Lib.hid hm
    clear h hm he hp hz
    go_enter Try.func60, Try.ntmps60
    go_wp2_with fail
    refine (bmay_any m F bb i _ H.out).mono ?_
    rintro e w1 ⟨rfl, rfl⟩
    rw [← HZ.out]
    go_wp2
    go_ret2
    exact ⟨_, rfl, fun _ => rfl, fun e => absurd e HM.out, Gr.refl _⟩
end Go.Proofs.Ytoalnkhedebpbaa
