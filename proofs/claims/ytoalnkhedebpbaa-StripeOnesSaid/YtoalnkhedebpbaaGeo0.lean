/- slices.Index, slices.Contains over ints; geom.Check, Budget, Width, Capacity: what they answer. -/
import Derived.Test.YtoalnkhedebpbaaProg
import Derived.Test.YtoalnkhedebpbaaBase
namespace Go.Proofs.Ytoalnkhedebpbaa
open Go.RowKit

theorem int64t : Try.prog.underlying 3 = some (.int .i64) := by kernel_rfl
theorem mapII : Try.prog.underlying 25 = some (.map 3 3) := by kernel_rfl
theorem zeroInt (w : World) : (zeroValue 3).run Try.prog w = .ok (.int .i64 0) w := by kernel_rfl

def ints (zs : List Int) : List Value := zs.map (Value.int .i64)
/-- The first place of a number in a list; -1: none. -/
def idx (zs : List Int) (x : Int) : Int := match zs.findIdx? (· == x) with | some k => k | none => -1
theorem idx_at (zs : List Int) (x : Int) (k : Nat) (hk : k < zs.length) (hx : zs.getD k 0 = x) (hn : ∀ j, j < k → zs.getD j 0 ≠ x) : idx zs x = k := by
  have : zs.findIdx? (· == x) = some k := by
    rw [List.findIdx?_eq_some_iff_getElem]
    refine ⟨hk, by simpa [hk] using hx, fun j hj => ?_⟩
    have := hn j hj
    simpa [show j < zs.length from by omega] using this
  simp [idx, this]
theorem idx_none (zs : List Int) (x : Int) (hn : ∀ j, j < zs.length → zs.getD j 0 ≠ x) : idx zs x = -1 := by
  have : zs.findIdx? (· == x) = none := by
    rw [List.findIdx?_eq_none_iff]
    intro y hy
    obtain ⟨j, hj, rfl⟩ := List.getElem_of_mem hy
    have := hn j hj
    simpa [hj] using this
  simp [idx, this]

set_option maxHeartbeats 400000 in
theorem index_cons (zs : List Int) (b off cap : Nat) (cs : Array Value) (fr : Nat × Nat) (x : Int) (w : World) (hl : zs.length ≤ 9223372036854775807) (hb : w.heap[b]? = some (.cells cs 3 fr)) (hc : ∀ i, i < zs.length → cs[off + i]? = (ints zs)[i]?) :
    Calls Try.prog 86 #[.slice (some ⟨b, off, none⟩) zs.length cap, .int .i64 x] w fun e w' => e = .returned (.int .i64 (idx zs x)) ∧ w = w' := by
  have hcell : ∀ i, i < zs.length → w.cell? ⟨b, off + i, none⟩ = some (.int .i64 (zs.getD i 0)) := fun i hi => by
    rw [cell_of_row w b _ cs _ fr hb, hc i hi]; simp [ints, hi]
  clear hc hb
  have H := Lib.hid hcell; clear hcell
  go_enter Try.func86, Try.ntmps86
  go_wp2
  go_loop [8] (fun i => ∃ k : Nat, k ≤ zs.length ∧ i = .int .i64 k ∧ Hid (∀ j, j < k → zs.getD j 0 ≠ x)) (fun i => zs.length - (intOf i).toNat)
  case atStart => exact ⟨0, Nat.zero_le _, rfl, fun _ h => by omega⟩
  case round =>
    obtain ⟨k, hk, rfl, hne⟩ := hrel
    have hcl : k < zs.length → w.cell? ⟨b, off + k, none⟩ = some (.int .i64 (zs.getD k 0)) := fun h => H.out k h
    go_wp2
    · have hlt : k < zs.length := by assumption
      have hx : (x == zs[k]) = true := by assumption
      go_ret
      exact ⟨ret_i64 (idx_at zs x k hlt (by simp [hlt]; simpa using (beq_iff_eq.1 hx).symm) hne.out).symm, rfl⟩
    · have hlt : k < zs.length := by assumption
      have hx : (x == zs[k]) = false := by assumption
      go_round
      case rel => exact ⟨k + 1, by omega, by go_num, fun j hj => by
        by_cases e : j = k
        · subst e; simp [hlt]; simp at hx; exact fun h => hx h.symm
        · exact hne.out j (by omega)⟩
      case measure => simp [intOf]; omega
    · go_ret
      exact ⟨ret_i64 (idx_none zs x (fun j hj => hne.out j (by omega))).symm, rfl⟩
set_option maxHeartbeats 400000 in
theorem index_nil (a : Option Addr) (cap : Nat) (x : Int) (w : World) :
    Calls Try.prog 86 #[.slice a 0 cap, .int .i64 x] w fun e w' => e = .returned (.int .i64 (idx [] x)) ∧ w = w' := by
  go_enter Try.func86, Try.ntmps86
  go_wp2
  refine wp_loop_once ?_
  go_wp2
  go_ret
  exact ⟨rfl, rfl⟩
theorem index_any (zs : List Int) (v : Value) (x : Int) (w : World) (h : SlAt w 3 v (ints zs)) :
    Calls Try.prog 86 #[v, .int .i64 x] w fun e w' => e = .returned (.int .i64 (idx zs x)) ∧ w = w' := by
  have e : (ints zs).length = zs.length := by simp [ints]
  rcases h with ⟨hv, a, cap, rfl⟩ | ⟨b, off, cap, cs, fr, rfl, hb, hc, hl⟩
  · have : zs = [] := by simpa [ints] using hv
    subst this
    exact index_nil a cap x w
  · rw [e] at hl hc ⊢
    exact index_cons zs b off cap cs fr x w hl hb hc
theorem idx_range (zs : List Int) (x : Int) : -1 ≤ idx zs x ∧ idx zs x < zs.length := by
  unfold idx
  cases h : zs.findIdx? (· == x) with
  | none => simp; omega
  | some k =>
    rw [List.findIdx?_eq_some_iff_getElem] at h
    obtain ⟨hk, _⟩ := h
    simp; omega
set_option maxHeartbeats 400000 in
theorem contains_any (zs : List Int) (v : Value) (x : Int) (w : World) (h : SlAt w 3 v (ints zs)) :
    Calls Try.prog 108 #[v, .int .i64 x] w fun e w' => e = .returned (.bool (decide (0 ≤ idx zs x))) ∧ w = w' := by
  go_enter Try.func108, Try.ntmps108
  go_wp2_with fail
  refine (index_any zs v x w h).mono ?_
  rintro e w' ⟨rfl, rfl⟩
  go_wp2
  go_ret
  exact ⟨rfl, rfl⟩

theorem contains_yes (zs : List Int) (v : Value) (x : Int) (w : World) (h : SlAt w 3 v (ints zs)) (hx : 0 ≤ idx zs x) :
    Calls Try.prog 108 #[v, .int .i64 x] w fun e w' => e = .returned (.bool true) ∧ w = w' :=
  (contains_any zs v x w h).mono fun _ _ ⟨he, hw⟩ => ⟨by rw [he]; exact ret_bool (decide_eq_true hx), hw⟩
theorem grDone {w w' : World} (h : Gr w w') : Gr w w' := h

/-- May a geometry be? -/
def goodG (L D C : Int) : Bool := (L == 5 && decide (3 ≤ D) || L == 6 && decide (4 ≤ D)) && decide (D ≤ 8) && (C == 1 || C == 2 || C == 4)
abbrev gv (L D C : Int) : Value := .agg #[.int .i64 L, .int .i64 D, .int .i64 C]
theorem goodG_cases {L D C : Int} (h : goodG L D C = true) : (L = 5 ∧ 3 ≤ D ∨ L = 6 ∧ 4 ≤ D) ∧ D ≤ 8 ∧ (C = 1 ∨ C = 2 ∨ C = 4) := by
  simpa [goodG, and_assoc, or_assoc] using h


set_option maxRecDepth 100000 in
set_option maxHeartbeats 1000000 in
theorem check_good (L D C : Int) (w : World) (h : goodG L D C = true) :
    Calls Try.prog 76 #[gv L D C] w fun e w' => e = .returned (.int .i64 0) ∧ Gr w w' := by
  obtain ⟨h1, h2, h3⟩ := goodG_cases h
  clear h
  have d8 : decide (8 < D) = false := by simp; omega
  have d3 : decide (D < 3) = false := by simp; omega
  have d4 : L = 6 → decide (D < 4) = false := fun _ => by simp; omega
  rcases h1 with ⟨rfl, h1⟩ | ⟨rfl, h1⟩ <;> rcases h3 with rfl | rfl | rfl
  all_goals
    go_enter Try.func76, Try.ntmps76
    go_wp2_with (first | ((with_reducible refine wpL_makeMap ?_)) | ((with_reducible apply wpL_insert mapII int64t); rfl; rfl; rfl; first | exact heap_alloc_at _ _ _ (by simp) | exact putB_get_self (by simp) _) | ((with_reducible apply wpL_lookup mapII int64t zeroInt); rfl; rfl; exact (putB_get_self (by simp) _); first | exact (show _ = Value.int .i64 3 from rfl) | exact (show _ = Value.int .i64 4 from rfl)) | (go_at_call 108; refine (contains_yes [1, 2, 4] _ _ _ (SlAt.lit (ints [1, 2, 4]) (heap_alloc_at _ _ _ (by simp)) (by decide)) (by decide)).mono ?_; rintro e w1 ⟨rfl, rfl⟩))
    go_ret
    exact ⟨rfl, Below.alloc (below_putB (below_putB (Below.alloc (Below.alloc (Gr.refl w) (by simp) _) (by simp) _) (by simp) _) (by simp) _) (by simp <;> omega) _⟩
theorem check_zero (w : World) :
    Calls Try.prog 76 #[gv 0 0 0] w fun e w' => e = .returned (.int .i64 1) ∧ Gr w w' := by
  go_enter Try.func76, Try.ntmps76
  go_wp2_with (first | ((with_reducible refine wpL_makeMap ?_)) | ((with_reducible apply wpL_insert mapII int64t); rfl; rfl; rfl; first | exact heap_alloc_at _ _ _ (by simp) | exact putB_get_self (by simp) _) | ((with_reducible apply wpL_lookup (v := .int .i64 0) mapII int64t zeroInt); rfl; rfl; exact (putB_get_self (by simp) _); rfl))
  go_ret
  exact ⟨rfl, below_putB (below_putB (Below.alloc (Below.alloc (Gr.refl w) (by simp) _) (by simp) _) (by simp) _) (by simp <;> omega) _⟩
end Go.Proofs.Ytoalnkhedebpbaa
