/- wattleplay.Sector: what it answers. -/
import Derived.Test.YtoalnkhedebpbaaBench3
import Derived.Test.YtoalnkhedebpbaaRef0
namespace Go.Proofs.Ytoalnkhedebpbaa
open Go.RowKit

def secI (n : Int) (k : Nat) : Int := wrap64 (n + wrap64 ((k : Int) * bits BinOp.or IntKind.i64 (wrap64 (n.tdiv 7)) 1)) % 256
def secF (n : Int) : List UInt8 := if within n 11 == 10 then zeros 32 else (List.range 32).map fun k : Nat => UInt8.ofNat (secI n k).toNat
theorem secF_length (n : Int) : (secF n).length = 32 := by
  unfold secF
  split
  · exact zeros_length 32
  · simp
def secTo (n : Int) (k : Nat) : List Value := (List.range 32).map fun j : Nat => Value.int .u8 (if j < k then secI n j else 0)
theorem secTo_length (n : Int) (k : Nat) : (secTo n k).length = 32 := by simp [secTo]
theorem secTo_set (n : Int) (k : Nat) (_h : k < 32) : (secTo n k).set k (.int .u8 (secI n k)) = secTo n (k + 1) := by
  apply List.ext_getElem?
  intro j
  unfold secTo
  rw [List.getElem?_set]
  by_cases hj : j < 32
  · by_cases e : k = j
    · subst e; simp [hj]
    · have h1 : (j < k + 1) ↔ (j < k) := by omega
      simp [e, hj, h1]
  · have e : ¬ k = j := by omega
    simp [e, hj]
theorem bv_of {z : Int} (h0 : 0 ≤ z) (h1 : z < 256) : bv (UInt8.ofNat z.toNat) = .int .u8 z := by
  unfold bv
  congr 1
  rw [UInt8.toNat_ofNat']
  have : z.toNat % 2 ^ 8 = z.toNat := Nat.mod_eq_of_lt (by omega)
  omega
theorem secTo_end (n : Int) (h : (within n 11 == 10) = false) : secTo n 32 = (secF n).map bv := by
  unfold secTo secF
  rw [h, if_neg (by decide), List.map_map]
  apply List.map_congr_left
  intro j hj
  have := List.mem_range.1 hj
  rw [if_pos this]
  exact (bv_of (Int.emod_nonneg _ (by decide)) (Int.emod_lt_of_pos _ (by decide))).symm
theorem secTo_zero (n : Int) : (secTo n 0).toArray = zrow (.int .u8 0) 32 := by
  rfl
set_option maxRecDepth 100000 in
set_option maxHeartbeats 1000000 in
theorem sector_any (n : Int) (w : World) :
    Calls Try.prog 29 #[.int .i64 n] w fun e w' => ∃ r, e = .returned r ∧ BytesAt w' r (secF n) ∧ Gr w w' := by
  go_enter Try.func29, Try.ntmps29
  go_wp2_with ((with_reducible apply wpL_make1 (n := 32) slU8 infU8 rfl (by decide)); rfl; rfl; decide)
  refine (within_any n 11 _ (by decide)).mono ?_
  rintro e w1 ⟨rfl, rfl⟩
  obtain ⟨t, ht⟩ : ∃ t, (within n 11 == 10) = t := ⟨_, rfl⟩
  cases t with
  | true =>
    have HF : Hid (secF n = zeros 32) := Lib.hid (by unfold secF; rw [ht]; rfl)
    go_wp2
    go_ret
    rw [HF.out]
    exact ⟨_, rfl, BytesAt.zeros (heap_alloc_new w _) (by decide), Gr.alloc _ _⟩
  | false =>
    have HE := Lib.hid (secTo_end n ht)
    go_wp2
    go_loopw [12] (fun i wr => ∃ k : Nat, k ≤ 32 ∧ i = .int .i64 k ∧ Hid (wr.heap[w.heap.size]? = some (.cells (secTo n k).toArray 5 (0, 0))) ∧ Gr w wr) (fun i _ => 32 - (intOf i).toNat)
    case atStart => exact ⟨0, by omega, rfl, Lib.hid (by rw [secTo_zero]; exact heap_alloc_new w _), Gr.alloc _ _⟩
    case round =>
      obtain ⟨k, hk, rfl, hv, hg⟩ := hrel
      by_cases hlt : k < 32
      · have hu : ∃ u, wr.cell? ⟨w.heap.size, k, none⟩ = some u := ⟨_, cell_blk (v := (secTo n k)[k]'(by rw [secTo_length]; exact hlt)) hv.out (by simp)⟩
        obtain ⟨u, hu⟩ := hu
        have hf : wr.frozen? ⟨w.heap.size, k, none⟩ = false := by simp [World.frozen?, hv.out]
        go_wp2
        go_roundw
        case rel =>
          refine ⟨k + 1, by omega, by go_num, Lib.hid ?_, ?_⟩
          · rw [setCell_putB hv.out, putB_get_self (heap_lt hv.out), ← secTo_set n k hlt]
            rw [List.setIfInBounds_toArray]
            rfl
          · rw [setCell_putB hv.out]
            exact below_putB hg (Nat.le_refl _) _
        case measure => simp [intOf]; omega
      · obtain rfl : k = 32 := by omega
        rw [HE.out] at hv
        have HL := Lib.hid (secF_length n)
        go_wp2
        go_ret
        exact ⟨_, rfl, BytesAt.lit hv.out HL.out (by decide), hg⟩
end Go.Proofs.Ytoalnkhedebpbaa
