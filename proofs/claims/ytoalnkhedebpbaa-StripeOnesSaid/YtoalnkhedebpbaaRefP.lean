/- wattleref01.alike, P: what they answer for rows of one length. -/
import Derived.Test.YtoalnkhedebpbaaSecs
namespace Go.Proofs.Ytoalnkhedebpbaa
open Go.RowKit

set_option maxRecDepth 100000 in
set_option maxHeartbeats 1000000 in
theorem alike_ok (ps : List (List UInt8)) (n : Nat) (v : Value) (w : World) (h : RowsAt w v ps) (h0 : 0 < ps.length) (hl : ps.length ≤ 8) (hs : ∀ i, i < ps.length → (ps.getD i []).length = n) :
    Calls Try.prog 120 #[v] w fun e w' => e = .returned (.bool true) ∧ Gr w w' := by
  rcases h.cases with ⟨rfl, _⟩ | ⟨b, off, cap, vs, rfl, _, hb0, hvl, hc, hb⟩
  · simp at h0
  have hcell : ∀ i, i < ps.length → ∃ a c, w.cell? ⟨b, off + i, none⟩ = some (.slice a n c) := fun i hi => by
    obtain ⟨a, c, e⟩ := (hb i hi).shape
    rw [hs i hi] at e
    exact ⟨a, c, by rw [hc i hi, e]⟩
  have HC := Lib.hid hcell
  obtain ⟨m, hm⟩ : ∃ m, m = ps.length := ⟨_, rfl⟩
  rw [← hm] at HC h0 hl ⊢
  clear hcell hc hb hvl hs h hm
  obtain ⟨a0, k0, hc0⟩ := HC.out 0 h0
  rw [Nat.add_zero] at hc0
  have hd : ((n : Int) != (n : Int)) = false := by simp
  have hgt : decide ((m : Int) > 0) = true := by rw [decide_eq_true_iff]; omega
  go_enter Try.func120, Try.ntmps120
  go_wp2
  go_loopw [7] (fun i wr => ∃ k : Nat, k ≤ m ∧ i = .int .i64 k ∧ Gr w wr) (fun i _ => m - (intOf i).toNat)
  case atStart => exact ⟨0, by omega, rfl, Gr.refl _⟩
  case round =>
    obtain ⟨k, hk, rfl, hg⟩ := hrel
    by_cases hlt : k < m
    · obtain ⟨a, c, ck0⟩ := HC.out k hlt
      have ck := hg.cell ck0
      have c00 := hg.cell hc0
      go_wp2
      go_roundw
      case rel => exact ⟨k + 1, by omega, by go_num, hg⟩
      case measure => simp [intOf]; omega
    · obtain rfl : k = m := by omega
      go_wp2
      go_ret
      exact ⟨rfl, hg⟩
end Go.Proofs.Ytoalnkhedebpbaa
