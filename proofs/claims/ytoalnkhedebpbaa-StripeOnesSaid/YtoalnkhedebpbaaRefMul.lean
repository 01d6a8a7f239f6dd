/- wattleref01.Mul: the product of the field. -/
import Derived.Test.YtoalnkhedebpbaaRefP
namespace Go.Proofs.Ytoalnkhedebpbaa
open Go.RowKit

def shr (b : UInt8) (k : Nat) : UInt8 := UInt8.ofNat (b.toNat / 2 ^ k)
theorem shr_toNat (b : UInt8) (k : Nat) : (shr b k).toNat = b.toNat / 2 ^ k := by
  unfold shr
  rw [UInt8.toNat_ofNat']
  have := b.toNat_lt
  exact Nat.mod_eq_of_lt (Nat.lt_of_le_of_lt (Nat.div_le_self _ _) this)
theorem shr_succ (b : UInt8) (k : Nat) : shr b k >>> 1 = shr b (k + 1) := by
  apply UInt8.toNat_inj.1
  rw [shr1, shr_toNat, shr_toNat, Nat.pow_succ, Nat.div_div_eq_div_mul]
theorem xor285_all : ((List.range 256).all fun a => decide (a < 128) || decide (bits .xor .i64 ((a : Int) * 2) 285 = ((dbl (UInt8.ofNat a)).toNat : Int))) = true := by decide +kernel
theorem xor285 (a : UInt8) (h : 128 ≤ a.toNat) : bits .xor .i64 ((a.toNat : Int) * 2) 285 = ((dbl a).toNat : Int) := by
  have := List.all_eq_true.1 xor285_all a.toNat (List.mem_range.2 a.toNat_lt)
  simp only [Bool.or_eq_true, decide_eq_true_eq] at this
  rcases this with h1 | h1
  · omega
  · simpa using h1
theorem dbl_low (a : UInt8) (h : a.toNat < 128) : ((dbl a).toNat : Int) = (a.toNat : Int) * 2 := by
  unfold dbl
  rw [if_neg (by omega), shl1]
  omega
theorem bits_xor_i64 (a b : UInt8) : bits .xor .i64 (a.toNat : Int) (b.toNat : Int) = ((a ^^^ b).toNat : Int) := by
  unfold bits
  have ha := a.toNat_lt
  have hb := b.toNat_lt
  have e : ∀ x : UInt8, (BitVec.ofInt (IntKind.i64.bits) (x.toNat : Int)).toNat = x.toNat := by
    intro x
    have hx := x.toNat_lt
    simp [IntKind.bits]
  simp only [BitVec.toNat_xor, e, UInt8.toNat_xor]
  have := Nat.xor_lt_two_pow (n := 8) ha hb
  exact IntWalk.i64_in _ (by omega)
set_option maxRecDepth 100000 in
set_option maxHeartbeats 1000000 in
theorem refmul_any (a0 b0 : UInt8) (w : World) :
    Calls Try.prog 122 #[.int .u8 (a0.toNat : Int), .int .u8 (b0.toNat : Int)] w fun e w' => e = .returned (.int .u8 ((gmul a0 b0).toNat : Int)) ∧ w = w' := by
  have hb0 := b0.toNat_lt
  have ha0 := a0.toNat_lt
  go_enter Try.func122, Try.ntmps122
  go_wp2
  go_loopw [5, 6, 7] (fun x z i wr => ∃ a o : UInt8, ∃ k : Nat, x = .int .i64 (a.toNat : Int) ∧ z = .int .i64 (o.toNat : Int) ∧ i = .int .i64 k ∧ k ≤ 8 ∧ Hid (mulN (8 - k) a (shr b0 k) o = gmul a0 b0) ∧ w = wr) (fun _ _ i _ => 8 - (intOf i).toNat)
  case atStart =>
    refine ⟨a0, 0, 0, rfl, rfl, rfl, by omega, Lib.hid ?_, rfl⟩
    have e : shr b0 0 = b0 := UInt8.toNat_inj.1 (by rw [shr_toNat]; simp)
    rw [e]; rfl
  case round =>
    obtain ⟨a, o, k, rfl, rfl, rfl, hk, hm, rfl⟩ := hrel
    have ha := a.toNat_lt
    have ho := o.toNat_lt
    by_cases hlt : k < 8
    · have hstep : mulN (8 - (k + 1)) (dbl a) (shr b0 (k + 1)) (if (shr b0 k).toNat % 2 = 1 then o ^^^ a else o) = gmul a0 b0 := by
        have h1 := hm.out
        have e : 8 - k = (8 - (k + 1)) + 1 := by omega
        rw [e, mulN, shr_succ] at h1
        exact h1
      have hbit : bits BinOp.and IntKind.u8 ((b0.toNat : Int) / 2 ^ k) 1 = (((shr b0 k).toNat % 2 : Nat) : Int) := by
        have := bits_and1_u8 (shr b0 k)
        rw [← this, shr_toNat]
        congr 1
      have hx := bits_xor_i64 o a
      by_cases hb : (shr b0 k).toNat % 2 = 1
      · rw [if_pos hb] at hstep
        have c1 : (bits BinOp.and IntKind.u8 ((b0.toNat : Int) / 2 ^ k) 1 == 1) = true := by rw [hbit, hb]; rfl
        have HS := Lib.hid hstep; clear hstep hbit hb
        by_cases h8 : 128 ≤ a.toNat
        · have hy := xor285 a h8
          go_wp2
          go_roundw
          case rel => exact ⟨dbl a, o ^^^ a, k + 1, rfl, rfl, by go_num, by omega, HS, trivial⟩
          case measure => simp [intOf]; omega
        · have hy := Lib.hid (dbl_low a (by omega))
          go_wp2
          go_roundw
          case rel => exact ⟨dbl a, o ^^^ a, k + 1, by rw [hy.out], rfl, by go_num, by omega, HS, trivial⟩
          case measure => simp [intOf]; omega
      · rw [if_neg hb] at hstep
        have c1 : (bits BinOp.and IntKind.u8 ((b0.toNat : Int) / 2 ^ k) 1 == 1) = false := by
          have : (shr b0 k).toNat % 2 = 0 := by omega
          rw [hbit, this]; rfl
        have HS := Lib.hid hstep; clear hstep hbit hb
        by_cases h8 : 128 ≤ a.toNat
        · have hy := xor285 a h8
          go_wp2
          go_roundw
          case rel => exact ⟨dbl a, o, k + 1, rfl, rfl, by go_num, by omega, HS, trivial⟩
          case measure => simp [intOf]; omega
        · have hy := Lib.hid (dbl_low a (by omega))
          go_wp2
          go_roundw
          case rel => exact ⟨dbl a, o, k + 1, by rw [hy.out], rfl, by go_num, by omega, HS, trivial⟩
          case measure => simp [intOf]; omega
    · obtain rfl : k = 8 := by omega
      have hf : o = gmul a0 b0 := hm.out
      have HF := Lib.hid hf
      clear hf hm
      go_wp2
      go_ret
      exact ⟨ret_b (by rw [← HF.out]), rfl⟩
theorem gmul2_all : ((List.range 256).all fun a => gmul (UInt8.ofNat a) 2 == dbl (UInt8.ofNat a)) = true := by decide +kernel
theorem gmul2 (a : UInt8) : gmul a 2 = dbl a := by
  have := List.all_eq_true.1 gmul2_all a.toNat (List.mem_range.2 a.toNat_lt)
  simpa using this
set_option maxRecDepth 100000 in
set_option maxHeartbeats 1000000 in
theorem refpow_lt (m : Nat) (w : World) (hm : m < 255) :
    Calls Try.prog 121 #[.int .i64 m] w fun e w' => e = .returned (.int .u8 ((gpow m).toNat : Int)) ∧ w = w' := by
  have h1 : (m : Int).tmod 255 = m := by rw [Int.tmod_eq_emod_of_nonneg (by omega)]; omega
  have d0 : decide ((m : Int) < 0) = false := by rw [decide_eq_false_iff_not]; omega
  go_enter Try.func121, Try.ntmps121
  go_wp2
  go_loopw [0, 3] (fun x z wr => ∃ k j : Nat, x = .int .i64 j ∧ z = .int .u8 ((gpow k).toNat : Int) ∧ k + j = m ∧ w = wr) (fun x _ _ => (intOf x).toNat)
  case atStart => exact ⟨0, m, rfl, rfl, by omega, rfl⟩
  case round =>
    obtain ⟨k, j, rfl, rfl, hkj, rfl⟩ := hrel
    by_cases hlt : 0 < j
    · obtain ⟨i, rfl⟩ : ∃ i, j = i + 1 := ⟨j - 1, by omega⟩
      have HG := Lib.hid (gmul2 (gpow k))
      go_wp2_with fail
      refine (refmul_any (gpow k) 2 _).mono ?_
      rintro e w1 ⟨rfl, rfl⟩
      rw [HG.out]
      go_wp2
      go_roundw
      case rel => exact ⟨k + 1, i, by go_num, rfl, by omega, trivial⟩
      case measure => simp [intOf]
    · obtain rfl : j = 0 := by omega
      obtain rfl : k = m := by omega
      go_wp2
      go_ret
      exact ⟨rfl, rfl⟩
end Go.Proofs.Ytoalnkhedebpbaa
