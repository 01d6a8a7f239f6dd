/- synd.Add, Scale: what they answer. -/
import Derived.Test.YtoalnkhedebpbaaGfW
namespace Go.Proofs.Ytoalnkhedebpbaa
open Go.RowKit

theorem slU8 : Try.prog.underlying 43 = some (.slice 5) := by kernel_rfl
theorem infU8 : (Try.prog.info? 5).map (fun i => (i.zero, i.size, i.bytes)) = some (some (.int .u8 0), 1, 1) := by kernel_rfl
def addB (x y : List UInt8) : List UInt8 := (List.range x.length).map fun k => x.getD k 0 ^^^ y.getD k 0
def scaleB (x : List UInt8) (f : UInt8) : List UInt8 := (List.range x.length).map fun k => gmul (x.getD k 0) f
@[simp] theorem addB_length (x y : List UInt8) : (addB x y).length = x.length := by simp [addB]
@[simp] theorem scaleB_length (x : List UInt8) (f : UInt8) : (scaleB x f).length = x.length := by simp [scaleB]
theorem bvs_snoc (f : Nat → UInt8) (k : Nat) : ((List.range k).map fun j => bv (f j)) ++ [bv (f k)] = (List.range (k + 1)).map fun j => bv (f j) := by
  simp [List.range_succ]
theorem BytesAt.own {w : World} {base n : Nat} {v : Value} {f : Nat → UInt8} (h : w.ownsRow base 5 1 v n ((List.range n).map fun j => bv (f j))) (hn : n ≤ 9223372036854775807) : BytesAt w v ((List.range n).map f) := by
  have := SlAt.own h hn
  unfold BytesAt
  rw [List.map_map]; exact this

set_option maxRecDepth 100000 in
set_option maxHeartbeats 800000 in
theorem add_cons (x y : List UInt8) (b off cap b2 off2 cap2 : Nat) (w : World) (hl : x.length ≤ 1048576) (h : x.length = y.length)
    (hc : ∀ i, i < x.length → w.cell? ⟨b, off + i, none⟩ = some (.int .u8 ((x.getD i 0).toNat : Int))) (hc2 : ∀ i, i < x.length → w.cell? ⟨b2, off2 + i, none⟩ = some (.int .u8 ((y.getD i 0).toNat : Int))) :
    Calls Try.prog 135 #[.slice (some ⟨b, off, none⟩) x.length cap, .slice (some ⟨b2, off2, none⟩) x.length cap2] w fun e w' => ∃ r, e = .returned r ∧ BytesAt w' r (addB x y) ∧ Gr w w' := by
  have HC := Lib.hid hc; clear hc
  have HC2 := Lib.hid hc2; clear hc2
  have HL := Lib.hid h; clear h
  have hn : ((x.length : Int) != (x.length : Int)) = false := by simp
  go_enter Try.func135, Try.ntmps135
  go_wp2
  go_loopw [5, 15] (fun v i wr => ∃ k : Nat, k ≤ x.length ∧ i = .int .i64 k ∧ wr.ownsRow w.heap.size 5 1 v k ((List.range k).map fun j => bv (x.getD j 0 ^^^ y.getD j 0)) ∧ Gr w wr) (fun _ i _ => x.length - (intOf i).toNat)
  case atStart => exact ⟨0, Nat.zero_le _, rfl, World.ownsRow_nil _ _ _ _, Gr.refl _⟩
  case round =>
    obtain ⟨k, hk, rfl, hown, hg⟩ := hrel
    have hsz := hg.size
    by_cases hlt : k < x.length
    · have c0 := hg.cell (HC.out k hlt)
      have c1 := hg.cell (HC2.out k hlt)
      have hx := bits_xor_u8 (x.getD k 0) (y.getD k 0)
      obtain ⟨z, hz⟩ : ∃ z : UInt8, z = x.getD k 0 ^^^ y.getD k 0 := ⟨_, rfl⟩
      rw [← hz] at hx
      have HZ := Lib.hid hz; clear hz
      obtain ⟨p, hp⟩ : ∃ p : Int, p = ((x.getD k 0).toNat : Int) := ⟨_, rfl⟩
      obtain ⟨q, hq⟩ : ∃ q : Int, q = ((y.getD k 0).toNat : Int) := ⟨_, rfl⟩
      rw [← hp] at c0 hx; rw [← hq] at c1 hx
      have HP := Lib.hid hp; clear hp
      have HQ := Lib.hid hq; clear hq
      go_wp2_with ((with_reducible apply wpL_append1 slU8 infU8 rfl (by decide)); rfl; rfl; exact hown.alloc _; exact cell_new _ _ _ _ rfl; rfl; omega; (simp; omega); (intro v' w4 hown' hgr))
      go_roundw
      case rel =>
        refine ⟨k + 1, by omega, by go_num, ?_, ?_⟩
        · rw [← bvs_snoc, ← HZ.out]; exact hown'
        · exact Below.grown (Below.alloc hg (by omega) _) hgr (by simp; omega) (fun j hj => (hown.lt j hj).1)
      case measure => simp [intOf]; omega
    · obtain rfl : k = x.length := by omega
      go_wp2
      go_ret
      exact ⟨_, rfl, BytesAt.own hown (by omega), hg⟩
set_option maxRecDepth 100000 in
set_option maxHeartbeats 400000 in
theorem add_nil (a a2 : Option Addr) (cap cap2 : Nat) (w : World) :
    Calls Try.prog 135 #[.slice a 0 cap, .slice a2 0 cap2] w fun e w' => ∃ r, e = .returned r ∧ BytesAt w' r [] ∧ Gr w w' := by
  go_enter Try.func135, Try.ntmps135
  go_wp2
  refine wp_loop_once ?_
  go_wp2
  go_ret
  exact ⟨_, rfl, .inl ⟨rfl, none, 0, rfl⟩, Gr.refl _⟩
theorem add_any (x y : List UInt8) (u v : Value) (w : World) (hx : BytesAt w u x) (hy : BytesAt w v y) (h : x.length = y.length) (hl : x.length ≤ 1048576) :
    Calls Try.prog 135 #[u, v] w fun e w' => ∃ r, e = .returned r ∧ BytesAt w' r (addB x y) ∧ Gr w w' := by
  rcases hx.cases with ⟨rfl, a, cap, rfl⟩ | ⟨b, off, cap, rfl, _, hb, hc⟩
  · have hy0 : y = [] := List.eq_nil_of_length_eq_zero h.symm
    subst hy0
    obtain ⟨a2, cap2, rfl⟩ := hy.shape
    exact add_nil a a2 cap cap2 w
  · rcases hy.cases with ⟨rfl, a2, cap2, rfl⟩ | ⟨b2, off2, cap2, rfl, _, hb2, hc2⟩
    · have hx0 : x = [] := List.eq_nil_of_length_eq_zero h
      subst hx0
      exact add_nil _ a2 cap cap2 w
    · rw [← h]
      exact add_cons x y b off cap b2 off2 cap2 w hl h hc (fun i hi => hc2 i (by omega))
set_option maxRecDepth 100000 in
set_option maxHeartbeats 800000 in
theorem scale_cons (x : List UInt8) (f : UInt8) (b off cap : Nat) (w : World) (hl : x.length ≤ 1048576)
    (hc : ∀ i, i < x.length → w.cell? ⟨b, off + i, none⟩ = some (.int .u8 ((x.getD i 0).toNat : Int))) :
    Calls Try.prog 145 #[.slice (some ⟨b, off, none⟩) x.length cap, .int .u8 (f.toNat : Int)] w fun e w' => ∃ r, e = .returned r ∧ BytesAt w' r (scaleB x f) ∧ Gr w w' := by
  have HC := Lib.hid hc; clear hc
  go_enter Try.func145, Try.ntmps145
  go_wp2
  go_loopw [5, 10] (fun v i wr => ∃ k : Nat, k ≤ x.length ∧ i = .int .i64 k ∧ wr.ownsRow w.heap.size 5 1 v k ((List.range k).map fun j => bv (gmul (x.getD j 0) f)) ∧ Gr w wr) (fun _ i _ => x.length - (intOf i).toNat)
  case atStart => exact ⟨0, Nat.zero_le _, rfl, World.ownsRow_nil _ _ _ _, Gr.refl _⟩
  case round =>
    obtain ⟨k, hk, rfl, hown, hg⟩ := hrel
    have hsz := hg.size
    by_cases hlt : k < x.length
    · have c0 := hg.cell (HC.out k hlt)
      obtain ⟨p, hp⟩ : ∃ p : UInt8, p = x.getD k 0 := ⟨_, rfl⟩
      rw [← hp] at c0
      have HP := Lib.hid hp; clear hp
      go_wp2_with fail
      refine (mul_any p f _).mono ?_
      rintro e w1 ⟨rfl, rfl⟩
      go_wp2_with ((with_reducible apply wpL_append1 slU8 infU8 rfl (by decide)); rfl; rfl; exact hown.alloc _; exact cell_new _ _ _ _ rfl; rfl; omega; (simp; omega); (intro v' w4 hown' hgr))
      go_roundw
      case rel =>
        refine ⟨k + 1, by omega, by go_num, ?_, ?_⟩
        · rw [← bvs_snoc, ← HP.out]; exact hown'
        · exact Below.grown (Below.alloc hg (by omega) _) hgr (by simp; omega) (fun j hj => (hown.lt j hj).1)
      case measure => simp [intOf]; omega
    · obtain rfl : k = x.length := by omega
      go_wp2
      go_ret
      exact ⟨_, rfl, BytesAt.own hown (by omega), hg⟩
set_option maxRecDepth 100000 in
set_option maxHeartbeats 400000 in
theorem scale_any (x : List UInt8) (f : UInt8) (u : Value) (w : World) (hx : BytesAt w u x) (hl : x.length ≤ 1048576) :
    Calls Try.prog 145 #[u, .int .u8 (f.toNat : Int)] w fun e w' => ∃ r, e = .returned r ∧ BytesAt w' r (scaleB x f) ∧ Gr w w' := by
  rcases hx.cases with ⟨rfl, a, cap, rfl⟩ | ⟨b, off, cap, rfl, _, hb, hc⟩
  · go_enter Try.func145, Try.ntmps145
    go_wp2
    refine wp_loop_once ?_
    go_wp2
    go_ret
    exact ⟨_, rfl, .inl ⟨rfl, none, 0, rfl⟩, Gr.refl _⟩
  · exact scale_cons x f b off cap w hl hc
end Go.Proofs.Ytoalnkhedebpbaa
