/- slices.ContainsFunc over rows of bytes; erase.fits, row.sectors: what they answer. -/
import Derived.Test.YtoalnkhedebpbaaSum
namespace Go.Proofs.Ytoalnkhedebpbaa
open Go.RowKit

def notSec (x : List UInt8) : Bool := decide (x.length ≠ 32)
def unfit (size : Nat) (x : List UInt8) : Bool := decide (0 < x.length ∧ x.length ≠ size)
set_option maxRecDepth 100000 in
theorem secf_any (x : List UInt8) (u : Value) (w : World) (h : BytesAt w u x) :
    Calls Try.prog 139 #[u] w fun e w' => e = .returned (.bool (notSec x)) ∧ w = w' := by
  obtain ⟨a, cap, rfl⟩ := h.shape
  clear h
  go_enter Try.func139, Try.ntmps139
  go_wp2
  go_ret
  refine ⟨ret_bool ?_, rfl⟩
  unfold notSec
  by_cases h : x.length = 32
  · rw [h]; simp
  · rw [decide_eq_true h, bne_iff_ne]; omega
set_option maxRecDepth 100000 in
theorem fitf_any (size : Nat) (x : List UInt8) (u : Value) (sb : Nat) (w : World) (h : BytesAt w u x) (hs : w.cell? ⟨sb, 0, none⟩ = some (.int .i64 (size : Int))) :
    Calls Try.prog 143 #[u, .pointer (some ⟨sb, 0, none⟩)] w fun e w' => e = .returned (.bool (unfit size x)) ∧ w = w' := by
  obtain ⟨a, cap, rfl⟩ := h.shape
  clear h
  by_cases h0 : 0 < x.length
  · have d0 : decide (0 < x.length) = true := by simpa using h0
    go_enter Try.func143, Try.ntmps143
    go_wp2
    go_ret
    refine ⟨ret_bool ?_, rfl⟩
    unfold unfit
    by_cases h : x.length = size
    · rw [h]; simp
    · rw [decide_eq_true ⟨h0, h⟩, bne_iff_ne]; omega
  · have d0 : decide (0 < x.length) = false := by simpa using h0
    go_enter Try.func143, Try.ntmps143
    go_wp2
    go_ret
    refine ⟨ret_bool ?_, rfl⟩
    unfold unfit
    rw [decide_eq_false (fun h => h0 h.1)]

set_option maxRecDepth 100000 in
set_option maxHeartbeats 1000000 in
theorem idxfS_cons (ps : List (List UInt8)) (b off cap : Nat) (vs : List Value) (w : World) (hl : ps.length ≤ 9223372036854775807)
    (hc : ∀ i, i < ps.length → w.cell? ⟨b, off + i, none⟩ = some (vs.getD i undef)) (hb : ∀ i, i < ps.length → BytesAt w (vs.getD i undef) (ps.getD i [])) :
    Calls Try.prog 146 #[.slice (some ⟨b, off, none⟩) ps.length cap, .func (.func 139) #[] #[]] w fun e w' => ∃ z : Int, e = .returned (.int .i64 z) ∧ decide (0 ≤ z) = ps.any notSec ∧ w = w' := by
  have HC := Lib.hid hc; clear hc
  have HB := Lib.hid hb; clear hb
  go_enter Try.func146, Try.ntmps146
  go_wp2
  go_loopw [8] (fun i wr => ∃ k : Nat, k ≤ ps.length ∧ i = .int .i64 k ∧ Hid (∀ j, j < k → notSec (ps.getD j []) = false) ∧ w = wr) (fun i _ => ps.length - (intOf i).toNat)
  case atStart => exact ⟨0, Nat.zero_le _, rfl, fun _ h => by omega, rfl⟩
  case round =>
    obtain ⟨k, hk, rfl, hne, rfl⟩ := hrel
    by_cases hlt : k < ps.length
    · have ck := HC.out k hlt
      obtain ⟨u, hu⟩ : ∃ u, u = vs.getD k undef := ⟨_, rfl⟩
      rw [← hu] at ck
      have hbk := HB.out k hlt
      rw [← hu] at hbk
      have hmm : ps.getD k [] ∈ ps := by rw [List.getD_eq_getElem?_getD, List.getElem?_eq_getElem hlt]; simp
      obtain ⟨x, hx⟩ : ∃ x, x = ps.getD k [] := ⟨_, rfl⟩
      rw [← hx] at hbk hmm
      have HM := Lib.hid hmm; clear hmm
      have HX := Lib.hid hx; clear hx
      obtain ⟨ak, capk, hsh⟩ := hbk.shape
      have HBK := Lib.hid hbk; clear hbk
      clear hu
      subst hsh
      go_wp2_with fail
      refine (secf_any x _ _ HBK.out).mono ?_
      rintro e w1 ⟨rfl, rfl⟩
      cases hp : notSec x
      · have HP := Lib.hid hp; clear hp
        go_wp2
        go_roundw
        case rel => exact ⟨k + 1, by omega, by go_num, fun j hj => by
          by_cases e : j = k
          · subst e; rw [← HX.out]; exact HP.out
          · exact hne.out j (by omega), trivial⟩
        case measure => simp [intOf]; omega
      · have HP := Lib.hid hp; clear hp
        go_wp2
        go_ret
        refine ⟨k, rfl, ?_, rfl⟩
        rw [List.any_eq_true.2 ⟨_, HM.out, HP.out⟩]; simp
    · go_wp2
      go_ret
      refine ⟨-1, rfl, ?_, rfl⟩
      have : ps.any notSec = false := by
        rw [List.any_eq_false]
        intro x hx
        obtain ⟨j, hj, rfl⟩ := List.getElem_of_mem hx
        have := hne.out j (by omega)
        rw [List.getD_eq_getElem?_getD, List.getElem?_eq_getElem hj] at this
        simpa using this
      rw [this]; rfl
set_option maxRecDepth 100000 in
set_option maxHeartbeats 1000000 in
theorem hasS_any (ps : List (List UInt8)) (v : Value) (w : World) (h : RowsAt w v ps) :
    Calls Try.prog 138 #[v, .func (.func 139) #[] #[]] w fun e w' => e = .returned (.bool (ps.any notSec)) ∧ w = w' := by
  rcases h.cases with ⟨rfl, a, cap, rfl⟩ | ⟨b, off, cap, vs, rfl, hl, _, _, hc, hb⟩
  · have hi : Calls Try.prog 146 #[.slice a 0 cap, .func (.func 139) #[] #[]] w fun e w' => e = .returned (.int .i64 (-1)) ∧ w = w' := by
      clear h
      go_enter Try.func146, Try.ntmps146
      go_wp2
      refine wp_loop_once ?_
      go_wp2
      go_ret
      exact ⟨rfl, rfl⟩
    have HI := Lib.hid hi; clear hi h
    go_enter Try.func138, Try.ntmps138
    go_wp2_with fail
    refine HI.out.mono ?_
    rintro e w1 ⟨rfl, rfl⟩
    go_wp2
    go_ret
    exact ⟨rfl, rfl⟩
  · have HI := Lib.hid (idxfS_cons ps b off cap vs w hl hc hb)
    clear h hc hb
    go_enter Try.func138, Try.ntmps138
    go_wp2_with fail
    refine HI.out.mono ?_
    rintro e w1 ⟨z, rfl, hz, rfl⟩
    have HZ := Lib.hid hz; clear hz
    go_wp2
    go_ret
    exact ⟨ret_bool HZ.out, rfl⟩

set_option maxRecDepth 100000 in
set_option maxHeartbeats 1000000 in
theorem idxfF_cons (ps : List (List UInt8)) (b off cap : Nat) (vs : List Value) (w : World) (size sb : Nat) (hs : w.cell? ⟨sb, 0, none⟩ = some (.int .i64 (size : Int))) (hl : ps.length ≤ 9223372036854775807)
    (hc : ∀ i, i < ps.length → w.cell? ⟨b, off + i, none⟩ = some (vs.getD i undef)) (hb : ∀ i, i < ps.length → BytesAt w (vs.getD i undef) (ps.getD i [])) :
    Calls Try.prog 146 #[.slice (some ⟨b, off, none⟩) ps.length cap, .func (.func 143) #[] #[.pointer (some ⟨sb, 0, none⟩)]] w fun e w' => ∃ z : Int, e = .returned (.int .i64 z) ∧ decide (0 ≤ z) = ps.any (unfit size) ∧ w = w' := by
  have HC := Lib.hid hc; clear hc
  have HB := Lib.hid hb; clear hb
  have HS := Lib.hid hs; clear hs
  go_enter Try.func146, Try.ntmps146
  go_wp2
  go_loopw [8] (fun i wr => ∃ k : Nat, k ≤ ps.length ∧ i = .int .i64 k ∧ Hid (∀ j, j < k → (unfit size) (ps.getD j []) = false) ∧ w = wr) (fun i _ => ps.length - (intOf i).toNat)
  case atStart => exact ⟨0, Nat.zero_le _, rfl, fun _ h => by omega, rfl⟩
  case round =>
    obtain ⟨k, hk, rfl, hne, rfl⟩ := hrel
    by_cases hlt : k < ps.length
    · have ck := HC.out k hlt
      obtain ⟨u, hu⟩ : ∃ u, u = vs.getD k undef := ⟨_, rfl⟩
      rw [← hu] at ck
      have hbk := HB.out k hlt
      rw [← hu] at hbk
      have hmm : ps.getD k [] ∈ ps := by rw [List.getD_eq_getElem?_getD, List.getElem?_eq_getElem hlt]; simp
      obtain ⟨x, hx⟩ : ∃ x, x = ps.getD k [] := ⟨_, rfl⟩
      rw [← hx] at hbk hmm
      have HM := Lib.hid hmm; clear hmm
      have HX := Lib.hid hx; clear hx
      obtain ⟨ak, capk, hsh⟩ := hbk.shape
      have HBK := Lib.hid hbk; clear hbk
      clear hu
      subst hsh
      go_wp2_with fail
      refine (fitf_any size x _ sb _ HBK.out HS.out).mono ?_
      rintro e w1 ⟨rfl, rfl⟩
      cases hp : (unfit size) x
      · have HP := Lib.hid hp; clear hp
        go_wp2
        go_roundw
        case rel => exact ⟨k + 1, by omega, by go_num, fun j hj => by
          by_cases e : j = k
          · subst e; rw [← HX.out]; exact HP.out
          · exact hne.out j (by omega), trivial⟩
        case measure => simp [intOf]; omega
      · have HP := Lib.hid hp; clear hp
        go_wp2
        go_ret
        refine ⟨k, rfl, ?_, rfl⟩
        rw [List.any_eq_true.2 ⟨_, HM.out, HP.out⟩]; simp
    · go_wp2
      go_ret
      refine ⟨-1, rfl, ?_, rfl⟩
      have : ps.any (unfit size) = false := by
        rw [List.any_eq_false]
        intro x hx
        obtain ⟨j, hj, rfl⟩ := List.getElem_of_mem hx
        have := hne.out j (by omega)
        rw [List.getD_eq_getElem?_getD, List.getElem?_eq_getElem hj] at this
        simpa using this
      rw [this]; rfl
set_option maxRecDepth 100000 in
set_option maxHeartbeats 1000000 in
theorem hasF_any (ps : List (List UInt8)) (v : Value) (w : World) (size sb : Nat) (hs : w.cell? ⟨sb, 0, none⟩ = some (.int .i64 (size : Int))) (h : RowsAt w v ps) :
    Calls Try.prog 138 #[v, .func (.func 143) #[] #[.pointer (some ⟨sb, 0, none⟩)]] w fun e w' => e = .returned (.bool (ps.any (unfit size))) ∧ w = w' := by
  rcases h.cases with ⟨rfl, a, cap, rfl⟩ | ⟨b, off, cap, vs, rfl, hl, _, _, hc, hb⟩
  · have hi : Calls Try.prog 146 #[.slice a 0 cap, .func (.func 143) #[] #[.pointer (some ⟨sb, 0, none⟩)]] w fun e w' => e = .returned (.int .i64 (-1)) ∧ w = w' := by
      clear h
      go_enter Try.func146, Try.ntmps146
      go_wp2
      refine wp_loop_once ?_
      go_wp2
      go_ret
      exact ⟨rfl, rfl⟩
    have HI := Lib.hid hi; clear hi h
    go_enter Try.func138, Try.ntmps138
    go_wp2_with fail
    refine HI.out.mono ?_
    rintro e w1 ⟨rfl, rfl⟩
    go_wp2
    go_ret
    exact ⟨rfl, rfl⟩
  · have HI := Lib.hid (idxfF_cons ps b off cap vs w size sb hs hl hc hb)
    clear h hc hb
    go_enter Try.func138, Try.ntmps138
    go_wp2_with fail
    refine HI.out.mono ?_
    rintro e w1 ⟨z, rfl, hz, rfl⟩
    have HZ := Lib.hid hz; clear hz
    go_wp2
    go_ret
    exact ⟨ret_bool HZ.out, rfl⟩

set_option maxRecDepth 100000 in
set_option maxHeartbeats 400000 in
theorem sectors_any (ps : List (List UInt8)) (v : Value) (w : World) (h : RowsAt w v ps) :
    Calls Try.prog 116 #[v] w fun e w' => e = .returned (.bool (!ps.any notSec)) ∧ w = w' := by
  obtain ⟨a, cap, hv⟩ := h.shape
  subst hv
  have H := Lib.hid h; clear h
  go_enter Try.func116, Try.ntmps116
  go_wp2_with fail
  refine (hasS_any ps _ _ H.out).mono ?_
  rintro e w1 ⟨rfl, rfl⟩
  go_wp2
  go_ret
  exact ⟨rfl, rfl⟩
set_option maxRecDepth 100000 in
set_option maxHeartbeats 400000 in
theorem fits_any (size : Nat) (ps : List (List UInt8)) (v : Value) (w : World) (h : RowsAt w v ps) :
    Calls Try.prog 132 #[.int .i64 (size : Int), v] w fun e w' => e = .returned (.bool (!ps.any (unfit size))) ∧ Gr w w' := by
  obtain ⟨a, cap, hv⟩ := h.shape
  subst hv
  have H := Lib.hid h; clear h
  have hmf : ∀ (fn : Fn) (first cap : Array Value) (w : World), (Instr.makeFunc fn first cap).run Try.prog w = .ok (.func fn first cap) w := fun _ _ _ _ => rfl
  go_enter Try.func132, Try.ntmps132
  go_wp2_with fail
  refine (hasF_any ps _ _ size _ (cell_new w _ _ _ rfl) (H.out.gr (Gr.alloc w _))).mono ?_
  rintro e w1 ⟨rfl, rfl⟩
  go_wp2
  go_ret
  exact ⟨rfl, Gr.alloc w _⟩
end Go.Proofs.Ytoalnkhedebpbaa
