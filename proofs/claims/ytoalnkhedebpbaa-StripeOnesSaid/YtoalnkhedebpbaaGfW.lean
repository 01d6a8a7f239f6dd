/- gf.double, Mul, Pow, Log, Inv: what they answer. -/
import Derived.Test.YtoalnkhedebpbaaBytes
import Derived.Test.YtoalnkhedebpbaaGf
namespace Go.Proofs.Ytoalnkhedebpbaa
open Go.RowKit

theorem ret_b {x : Int} {b : UInt8} (h : x = (b.toNat : Int)) : Ending.returned (.int .u8 x) = .returned (.int .u8 (b.toNat : Int)) := by rw [h]
theorem ret_b' {a b : UInt8} (h : a = b) : Ending.returned (.int .u8 (a.toNat : Int)) = .returned (.int .u8 (b.toNat : Int)) := by rw [h]
set_option maxRecDepth 100000 in
theorem double_any (a : UInt8) (w : World) :
    Calls Try.prog 147 #[.int .u8 (a.toNat : Int)] w fun e w' => e = .returned (.int .u8 ((dbl a).toNat : Int)) ∧ w = w' := by
  have h := a.toNat_lt
  have e1 : ((a <<< 1).toNat : Int) = (a.toNat : Int) * 2 % 256 := by rw [shl1]; omega
  by_cases hb : 128 ≤ a.toNat
  · have hd : dbl a = (a <<< 1) ^^^ 29 := by unfold dbl; rw [if_pos hb]
    have hx := bits_xor_u8 (a <<< 1) 29
    rw [← hd, e1] at hx
    have HX := Lib.hid hx; clear hx hd
    have E1 := Lib.hid e1; clear e1
    go_enter Try.func147, Try.ntmps147
    go_wp2
    go_ret
    exact ⟨ret_b HX.out, rfl⟩
  · have hd : dbl a = (a <<< 1) := by unfold dbl; rw [if_neg hb]
    rw [← hd] at e1
    have E1 := Lib.hid e1; clear e1 hd
    go_enter Try.func147, Try.ntmps147
    go_wp2
    go_ret
    exact ⟨ret_b (by rw [E1.out]; omega), rfl⟩
set_option maxRecDepth 100000 in
set_option maxHeartbeats 400000 in
theorem mul_any (a0 b0 : UInt8) (w : World) :
    Calls Try.prog 149 #[.int .u8 (a0.toNat : Int), .int .u8 (b0.toNat : Int)] w fun e w' => e = .returned (.int .u8 ((gmul a0 b0).toNat : Int)) ∧ w = w' := by
  have hb0 := b0.toNat_lt
  go_enter Try.func149, Try.ntmps149
  go_wp2
  go_loopw [0, 1, 5] (fun x y z wr => ∃ a b o : UInt8, ∃ n : Nat, x = .int .u8 (a.toNat : Int) ∧ y = .int .u8 (b.toNat : Int) ∧ z = .int .u8 (o.toNat : Int) ∧ b.toNat < 2 ^ n ∧ Hid (mulN n a b o = gmul a0 b0) ∧ w = wr) (fun _ y _ _ => (intOf y).toNat)
  case atStart => exact ⟨a0, b0, 0, 8, rfl, rfl, rfl, hb0, rfl, rfl⟩
  case round =>
    obtain ⟨a, b, o, n, rfl, rfl, rfl, hbn, hm, rfl⟩ := hrel
    have h2 := b.toNat_lt
    have hbn' := Lib.hid hbn; clear hbn
    by_cases hz : 0 < b.toNat
    · obtain ⟨n, rfl⟩ : ∃ m, n = m + 1 := by
        cases n with
        | zero => have := hbn'.out; omega
        | succ m => exact ⟨m, rfl⟩
      have hs : ((b >>> 1).toNat : Int) = (b.toNat : Int) / 2 := by rw [shr1]; omega
      have HS := Lib.hid hs; clear hs
      have hn : (b >>> 1).toNat < 2 ^ n := by
        rw [shr1]; have h := hbn'.out; rw [Nat.pow_succ] at h; omega
      have HN := Lib.hid hn; clear hn
      have hmu : mulN n (dbl a) (b >>> 1) (if b.toNat % 2 = 1 then o ^^^ a else o) = gmul a0 b0 := hm.out
      have HM := Lib.hid hmu; clear hmu
      by_cases hp : b.toNat % 2 = 1
      · have hp1 : (bits BinOp.and IntKind.u8 (b.toNat : Int) 1 == 1) = true := by rw [bits_and1_u8]; simp [hp]
        have hx := bits_xor_u8 o a
        have HM2 := HM.out; rw [if_pos hp] at HM2
        have HM3 := Lib.hid HM2; clear HM2 hp
        go_wp2_with fail
        refine (double_any a _).mono ?_
        rintro e w1 ⟨rfl, rfl⟩
        go_wp2
        go_roundw
        case rel => exact ⟨dbl a, b >>> 1, o ^^^ a, n, rfl, by rw [HS.out], rfl, HN.out, HM3.out, trivial⟩
        case measure => simp [intOf]; omega
      · have hp1 : (bits BinOp.and IntKind.u8 (b.toNat : Int) 1 == 1) = false := by rw [bits_and1_u8]; simp; omega
        have HM2 := HM.out; rw [if_neg hp] at HM2
        have HM3 := Lib.hid HM2; clear HM2 hp
        go_wp2_with fail
        refine (double_any a _).mono ?_
        rintro e w1 ⟨rfl, rfl⟩
        go_wp2
        go_roundw
        case rel => exact ⟨dbl a, b >>> 1, o, n, rfl, by rw [HS.out], rfl, HN.out, HM3.out, trivial⟩
        case measure => simp [intOf]; omega
    · go_wp2
      go_ret
      have hb : b = 0 := UInt8.toNat_inj.1 (by simp; omega)
      exact ⟨ret_b' (by rw [← hm.out, hb, mulN_zero]), rfl⟩
set_option maxRecDepth 100000 in
set_option maxHeartbeats 400000 in
theorem pow_lt (m : Nat) (w : World) (hm5 : m < 255) :
    Calls Try.prog 142 #[.int .i64 (m : Int)] w fun e w' => e = .returned (.int .u8 ((gpow m).toNat : Int)) ∧ w = w' := by
  have f0 : (m : Int) % 255 = m := by omega
  have f1 : ((m : Int) + 255) % 255 = m := by omega
  go_enter Try.func142, Try.ntmps142
  go_wp2
  rw [f0, f1]
  clear f0 f1
  go_loopw [3, 8] (fun x i wr => ∃ k : Nat, k ≤ m ∧ i = .int .i64 k ∧ x = .int .u8 ((gpow k).toNat : Int) ∧ w = wr) (fun _ i _ => m - (intOf i).toNat)
  case atStart => exact ⟨0, Nat.zero_le _, rfl, rfl, rfl⟩
  case round =>
    obtain ⟨k, hk, rfl, rfl, rfl⟩ := hrel
    by_cases hlt : k < m
    · go_wp2_with fail
      refine (double_any (gpow k) _).mono ?_
      rintro e w1 ⟨rfl, rfl⟩
      go_wp2
      go_roundw
      case rel => exact ⟨k + 1, by omega, by go_num, rfl, trivial⟩
      case measure => simp [intOf]; omega
    · obtain rfl : k = m := by omega
      go_wp2
      go_ret
      exact ⟨rfl, rfl⟩
set_option maxRecDepth 100000 in
set_option maxHeartbeats 400000 in
theorem pow_255 (w : World) :
    Calls Try.prog 142 #[.int .i64 255] w fun e w' => e = .returned (.int .u8 ((gpow 0).toNat : Int)) ∧ w = w' := by
  go_enter Try.func142, Try.ntmps142
  go_wp2
  refine wp_loop_once ?_
  go_wp2
  go_ret
  exact ⟨rfl, rfl⟩
theorem pow_any (n : Nat) (w : World) (hn : n ≤ 255) :
    Calls Try.prog 142 #[.int .i64 (n : Int)] w fun e w' => e = .returned (.int .u8 ((gpow (n % 255)).toNat : Int)) ∧ w = w' := by
  by_cases h : n = 255
  · subst h; exact pow_255 w
  · rw [show n % 255 = n from by omega]; exact pow_lt n w (by omega)
theorem glog_some {a : UInt8} {n : Nat} (hn : n < 255) (h : gpow n = a) (hl : ∀ j, j < n → gpow j ≠ a) : glog a = some n := by
  unfold glog
  rw [List.find?_range_eq_some]
  exact ⟨by simp [h], by simpa using hn, fun j hj => by simpa using hl j hj⟩
set_option maxRecDepth 100000 in
set_option maxHeartbeats 400000 in
theorem log_any (a : UInt8) (m : Nat) (hm : m < 255) (hp : gpow m = a) (w : World) :
    Calls Try.prog 148 #[.int .u8 (a.toNat : Int)] w fun e w' => ∃ n : Nat, n < 255 ∧ glog a = some n ∧ e = .returned (.int .i64 n) ∧ w = w' := by
  have HP := Lib.hid hp; clear hp
  go_enter Try.func148, Try.ntmps148
  go_wp2
  go_loopw [3, 5] (fun x i wr => ∃ k : Nat, k ≤ m ∧ i = .int .i64 k ∧ x = .int .u8 ((gpow k).toNat : Int) ∧ Hid (∀ j, j < k → gpow j ≠ a) ∧ w = wr) (fun _ i _ => m - (intOf i).toNat)
  case atStart => exact ⟨0, Nat.zero_le _, rfl, rfl, fun _ h => by omega, rfl⟩
  case round =>
    obtain ⟨k, hk, rfl, rfl, hne, rfl⟩ := hrel
    have hlt : (k : Int) < 255 := by omega
    by_cases he : gpow k = a
    · have hb : (((gpow k).toNat : Int) == (a.toNat : Int)) = true := by rw [he]; simp
      have HE := Lib.hid he; clear he
      go_wp2
      go_ret
      exact ⟨k, by omega, glog_some (by omega) HE.out hne.out, rfl, rfl⟩
    · have hb : (((gpow k).toNat : Int) == (a.toNat : Int)) = false := by
        rw [beq_eq_false_iff_ne]; exact fun h => he (bv_inj h)
      have HE := Lib.hid he; clear he
      have hkm : k < m := by
        rcases Nat.lt_or_ge k m with h | h
        · exact h
        · exact absurd HP.out (by rw [show m = k by omega]; exact HE.out)
      go_wp2_with fail
      refine (double_any (gpow k) _).mono ?_
      rintro e w1 ⟨rfl, rfl⟩
      go_wp2
      go_roundw
      case rel => exact ⟨k + 1, by omega, by go_num, rfl, fun j hj => by
        by_cases e : j = k
        · subst e; exact HE.out
        · exact hne.out j (by omega), trivial⟩
      case measure => simp [intOf]; omega
set_option maxRecDepth 100000 in
set_option maxHeartbeats 400000 in
theorem inv_any (a : UInt8) (m : Nat) (hm : m < 255) (hp : gpow m = a) (ha : a ≠ 0) (w : World) :
    Calls Try.prog 144 #[.int .u8 (a.toNat : Int)] w fun e w' => e = .returned (.int .u8 ((ginv a).toNat : Int)) ∧ w = w' := by
  have hb : ((a.toNat : Int) == 0) = false := by
    rw [beq_eq_false_iff_ne]; exact fun h => ha (UInt8.toNat_inj.1 (by simp; omega))
  have HA := Lib.hid ha; clear ha
  have HP := Lib.hid hp; clear hp
  go_enter Try.func144, Try.ntmps144
  go_wp2_with fail
  refine (log_any a m hm HP.out _).mono ?_
  rintro e w1 ⟨n, hn, hl, rfl, rfl⟩
  have HL := Lib.hid hl; clear hl
  obtain ⟨k, hk⟩ : ∃ k : Nat, (255 : Int) - n = k := ⟨255 - n, by omega⟩
  have hk2 : k ≤ 255 := by omega
  go_wp2_with fail
  have HK := Lib.hid hk; clear hk
  refine (pow_any k _ hk2).mono ?_
  rintro e w1 ⟨rfl, rfl⟩
  go_wp2
  go_ret
  refine ⟨ret_b' ?_, rfl⟩
  unfold ginv
  rw [if_neg HA.out, HL.out]
  have := HK.out
  simp only [show 255 - n = k from by omega]
end Go.Proofs.Ytoalnkhedebpbaa
