/- The field of bytes, plainly: doubling, products, powers, inverses. -/
import Derived.Test.YtoalnkhedebpbaaLawMem
namespace Go.Proofs.Ytoalnkhedebpbaa

def dbl (a : UInt8) : UInt8 := if 128 ≤ a.toNat then (a <<< 1) ^^^ 29 else a <<< 1
def mulN : Nat → UInt8 → UInt8 → UInt8 → UInt8
  | 0, _, _, o => o
  | n + 1, a, b, o => mulN n (dbl a) (b >>> 1) (if b.toNat % 2 = 1 then o ^^^ a else o)
def gmul (a b : UInt8) : UInt8 := mulN 8 a b 0
def gpow : Nat → UInt8
  | 0 => 1
  | n + 1 => dbl (gpow n)
def glog (a : UInt8) : Option Nat := (List.range 255).find? fun n => gpow n == a
def ginv (a : UInt8) : UInt8 := if a = 0 then 0 else match glog a with | some n => gpow ((255 - n) % 255) | none => 0

theorem shl1 (a : UInt8) : (a <<< 1).toNat = a.toNat * 2 % 256 := by
  rw [UInt8.toNat_shiftLeft]; simp [Nat.shiftLeft_eq]
theorem shr1 (a : UInt8) : (a >>> 1).toNat = a.toNat / 2 := by
  rw [UInt8.toNat_shiftRight]; simp [Nat.shiftRight_eq_div_pow]
theorem mulN_zero : ∀ (n : Nat) (a o : UInt8), mulN n a 0 o = o
  | 0, _, _ => rfl
  | n + 1, a, o => by
    unfold mulN
    have h : (0 : UInt8) >>> 1 = 0 := by decide
    rw [h]; simp; exact mulN_zero n _ _
theorem bits_xor_u8 (a b : UInt8) : bits .xor .u8 (a.toNat : Int) (b.toNat : Int) = ((a ^^^ b).toNat : Int) := by
  unfold bits
  have ha := a.toNat_lt
  have hb := b.toNat_lt
  have e : ∀ x : UInt8, (BitVec.ofInt (IntKind.u8.bits) (x.toNat : Int)).toNat = x.toNat := by
    intro x
    have hx := x.toNat_lt
    simp [IntKind.bits]
  simp only [BitVec.toNat_xor, e, UInt8.toNat_xor]
  rw [IntKind.wrap_u8]
  have := Nat.xor_lt_two_pow (n := 8) ha hb
  omega
theorem bits_and1_u8 (b : UInt8) : bits .and .u8 (b.toNat : Int) 1 = ((b.toNat % 2 : Nat) : Int) := by
  unfold bits
  have hb := b.toNat_lt
  have e : (BitVec.ofInt (IntKind.u8.bits) (b.toNat : Int)).toNat = b.toNat := by
    simp [IntKind.bits]
  have e1 : (BitVec.ofInt (IntKind.u8.bits) (1 : Int)).toNat = 1 := by decide
  simp only [BitVec.toNat_and, e, e1]
  rw [IntKind.wrap_u8, Nat.and_one_is_mod]
  omega

/-! Sums: doubling and products respect them. -/
theorem xor_shl (a b : UInt8) : (a ^^^ b) <<< 1 = (a <<< 1) ^^^ (b <<< 1) := by
  apply UInt8.toBitVec_inj.1
  simp [BitVec.shiftLeft_xor_distrib]
theorem xor_shr (a b : UInt8) : (a ^^^ b) >>> 1 = (a >>> 1) ^^^ (b >>> 1) := by
  apply UInt8.toBitVec_inj.1
  simp [BitVec.ushiftRight_xor_distrib]
theorem msb8 (a : UInt8) : (128 ≤ a.toNat) ↔ a.toNat.testBit 7 = true := by
  have h := a.toNat_lt
  rw [Nat.testBit_eq_decide_div_mod_eq]
  simp; omega
theorem msb_xor (a b : UInt8) : (128 ≤ (a ^^^ b).toNat) ↔ ¬ ((128 ≤ a.toNat) ↔ (128 ≤ b.toNat)) := by
  rw [msb8, msb8, msb8, UInt8.toNat_xor, Nat.testBit_xor]
  cases a.toNat.testBit 7 <;> cases b.toNat.testBit 7 <;> simp
theorem par_xor (a b : UInt8) : (a ^^^ b).toNat % 2 = 1 ↔ ¬ (a.toNat % 2 = 1 ↔ b.toNat % 2 = 1) := by
  have e : ∀ x : Nat, x % 2 = 1 ↔ x.testBit 0 = true := fun x => by simp
  rw [e, e, e, UInt8.toNat_xor, Nat.testBit_xor]
  cases a.toNat.testBit 0 <;> cases b.toNat.testBit 0 <;> simp
theorem xc (a b c : UInt8) : a ^^^ b ^^^ c = a ^^^ c ^^^ b := by rw [UInt8.xor_assoc, UInt8.xor_comm b c, ← UInt8.xor_assoc]
theorem x4 (a b c d : UInt8) : (a ^^^ b) ^^^ (c ^^^ d) = (a ^^^ c) ^^^ (b ^^^ d) := by
  rw [← UInt8.xor_assoc, xc a b c, UInt8.xor_assoc]
theorem dbl_xor (a b : UInt8) : dbl (a ^^^ b) = dbl a ^^^ dbl b := by
  unfold dbl
  rw [xor_shl]
  by_cases ha : 128 ≤ a.toNat <;> by_cases hb : 128 ≤ b.toNat <;> simp only [msb_xor, ha, hb, if_true, if_false, iff_self, not_true, not_false_eq_true, iff_false, iff_true]
  · rw [x4, UInt8.xor_self, UInt8.xor_zero]
  · rw [xc]
  · rw [UInt8.xor_assoc]
theorem mulN_xor_left : ∀ (n : Nat) (a a' b o o' : UInt8), mulN n (a ^^^ a') b (o ^^^ o') = mulN n a b o ^^^ mulN n a' b o'
  | 0, _, _, _, _, _ => rfl
  | n + 1, a, a', b, o, o' => by
    unfold mulN
    rw [dbl_xor]
    split
    · rw [x4]; exact mulN_xor_left n _ _ _ _ _
    · exact mulN_xor_left n _ _ _ _ _
theorem mulN_xor_right : ∀ (n : Nat) (a b b' o o' : UInt8), mulN n a (b ^^^ b') (o ^^^ o') = mulN n a b o ^^^ mulN n a b' o'
  | 0, _, _, _, _, _ => rfl
  | n + 1, a, b, b', o, o' => by
    unfold mulN
    rw [xor_shr, ← mulN_xor_right n]
    congr 1
    by_cases h1 : b.toNat % 2 = 1 <;> by_cases h2 : b'.toNat % 2 = 1 <;> simp only [par_xor, h1, h2, if_true, if_false, iff_self, not_true, not_false_eq_true, iff_false, iff_true]
    · rw [x4, UInt8.xor_self, UInt8.xor_zero]
    · rw [xc]
    · rw [UInt8.xor_assoc]
theorem gmul_xor_left (a a' b : UInt8) : gmul (a ^^^ a') b = gmul a b ^^^ gmul a' b := by
  unfold gmul
  rw [← mulN_xor_left]; rfl
theorem gmul_xor_right (a b b' : UInt8) : gmul a (b ^^^ b') = gmul a b ^^^ gmul a b' := by
  unfold gmul
  rw [← mulN_xor_right]; rfl
theorem gmul_zero_left (b : UInt8) : gmul 0 b = 0 := by
  have h := gmul_xor_left 0 0 b
  rw [UInt8.xor_self] at h
  rw [h, UInt8.xor_self]
theorem gmul_one (a : UInt8) : gmul a 1 = a := by
  unfold gmul mulN
  have h : (1 : UInt8) >>> 1 = 0 := by decide
  rw [h, mulN_zero]; simp
/-! Inverses of the numbers that are divided by. -/
def invs : List UInt8 := (List.range 8).map gpow ++ (List.range 8).flatMap fun j => (List.range j).map fun k => gpow j ^^^ gpow k
def invOk (c : UInt8) : Bool := (fun i => (List.range 256).all fun x => gmul (gmul (UInt8.ofNat x) c) i == UInt8.ofNat x) (ginv c)
theorem invs_ok : invs.all invOk = true := by decide +kernel
theorem inv_of {c : UInt8} (h : c ∈ invs) (x : UInt8) : gmul (gmul x c) (ginv c) = x := by
  have h1 := List.all_eq_true.1 invs_ok c h
  have h2 := List.all_eq_true.1 h1 x.toNat (List.mem_range.2 x.toNat_lt)
  simpa using h2
theorem inv_pow {k : Nat} (h : k < 8) (x : UInt8) : gmul (gmul x (gpow k)) (ginv (gpow k)) = x :=
  inv_of (List.mem_append_left _ (List.mem_map.2 ⟨k, List.mem_range.2 h, rfl⟩)) x
theorem inv_two {j k : Nat} (hj : j < 8) (hk : k < 8) (hne : j ≠ k) (x : UInt8) : gmul (gmul x (gpow j ^^^ gpow k)) (ginv (gpow j ^^^ gpow k)) = x := by
  rcases Nat.lt_or_gt_of_ne hne with h | h
  · rw [UInt8.xor_comm]
    exact inv_of (List.mem_append_right _ (List.mem_flatMap.2 ⟨k, List.mem_range.2 hk, List.mem_map.2 ⟨j, List.mem_range.2 h, rfl⟩⟩)) x
  · exact inv_of (List.mem_append_right _ (List.mem_flatMap.2 ⟨j, List.mem_range.2 hj, List.mem_map.2 ⟨k, List.mem_range.2 h, rfl⟩⟩)) x
end Go.Proofs.Ytoalnkhedebpbaa
