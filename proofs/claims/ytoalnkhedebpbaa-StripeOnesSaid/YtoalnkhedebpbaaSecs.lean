/- wattleplay.Sectors: what it answers. -/
import Derived.Test.YtoalnkhedebpbaaSec
import Derived.Test.YtoalnkhedebpbaaStripe2
import Derived.DataElems
namespace Go.Proofs.Ytoalnkhedebpbaa
open Go.RowKit

def sectsF (l : List Int) (n : Nat) : List (List UInt8) := (List.range n).map fun i : Nat => secF (l.getD i (3 * (i : Int)))
theorem sectsF_length (l : List Int) (n : Nat) : (sectsF l n).length = n := by simp [sectsF]
theorem sectsF_get (l : List Int) {n i : Nat} (h : i < n) : (sectsF l n).getD i [] = secF (l.getD i (3 * (i : Int))) := by simp [sectsF, h]
theorem ints_shape {w : World} {v : Value} {zs : List Int} (h : SlAt w 3 v (ints zs)) : ∃ a cap, v = .slice a zs.length cap := by
  by_cases h0 : 0 < zs.length
  · obtain ⟨b, off, cap, rfl, _⟩ := ints_cells h h0
    exact ⟨_, cap, rfl⟩
  · have : zs = [] := List.eq_nil_of_length_eq_zero (by omega)
    subst this
    rcases h with ⟨_, a, cap, rfl⟩ | ⟨b, off, cap, cs, fr, rfl, _⟩
    · exact ⟨a, cap, rfl⟩
    · exact ⟨_, cap, rfl⟩
/-- Integers that came in, or a part of them. -/
def IntsIn (w : World) (v : Value) (zs : List Int) : Prop := ∃ a cap, v = .slice a zs.length cap ∧ zs.length ≤ cap ∧ cap ≤ maxLen ∧ ∀ i, i < zs.length → ∃ x, a = some x ∧ w.cell? (x.add i) = some (.int .i64 (zs.getD i 0))
theorem IntsIn.gr {w w' : World} {v : Value} {zs : List Int} (h : IntsIn w v zs) (g : Gr w w') : IntsIn w' v zs := by
  obtain ⟨a, cap, h1, h2, h3, h4⟩ := h
  refine ⟨a, cap, h1, h2, h3, fun i hi => ?_⟩
  obtain ⟨x, e, hc⟩ := h4 i hi
  exact ⟨x, e, g.cell hc⟩
theorem IntsIn.drop {w : World} {a : Option Addr} {n cap j : Nat} {zs : List Int} (h : IntsIn w (.slice a n cap) zs) (hj : j ≤ n) : IntsIn w (.slice (if cap = j then a else a.map (·.add j)) (n - j) (cap - j)) (zs.drop j) := by
  obtain ⟨a', cap', h1, h2, h3, h4⟩ := h
  injection h1 with e1 e2 e3
  subst e1; subst e2; subst e3
  refine ⟨_, _, by rw [List.length_drop], by rw [List.length_drop]; omega, by omega, fun i hi => ?_⟩
  rw [List.length_drop] at hi
  obtain ⟨x, e, hc⟩ := h4 (j + i) (by omega)
  rw [if_neg (by omega), e]
  refine ⟨x.add j, rfl, ?_⟩
  rw [Addr.add_add, hc]
  simp
set_option maxRecDepth 100000 in
set_option maxHeartbeats 1000000 in
theorem sects_any (l : List Int) (n : Nat) (v : Value) (w : World) (h : IntsIn w v l) (hn : n ≤ 8) :
    Calls Try.prog 53 #[v, .int .i64 n] w fun e w' => ∃ r, e = .returned r ∧ RowsAt w' r (sectsF l n) ∧ Gr w w' := by
  obtain ⟨a, cap, rfl, _, _, hc⟩ := h
  have HC := Lib.hid hc; clear hc
  obtain ⟨m, hm⟩ : ∃ m, m = l.length := ⟨_, rfl⟩
  rw [← hm] at HC ⊢
  have HM := Lib.hid hm; clear hm
  go_enter Try.func53, Try.ntmps53
  go_wp2
  go_loopw [5, 6] (fun v i wr => ∃ (k : Nat) (us : List Value), k ≤ n ∧ i = .int .i64 k ∧ us.length = k ∧ wr.ownsRow w.heap.size 43 1 v k us ∧ Hid (∀ j, j < k → BytesAt wr (us.getD j undef) (secF (l.getD j (3 * (j : Int))))) ∧ Gr w wr) (fun _ i _ => n - (intOf i).toNat)
  case atStart => exact ⟨0, [], by omega, rfl, rfl, World.ownsRow_nil _ _ _ _, Lib.hid (fun j hj => by omega), Gr.refl _⟩
  case round =>
    obtain ⟨k, us, hk, rfl, hul, hown, hrows, hg⟩ := hrel
    have hsz := hg.size
    by_cases hlt : k < n
    · by_cases hin : k < m
      · obtain ⟨xa, rfl, ck0⟩ := HC.out k hin
        have ck := hg.cell ck0
        have hz : l.getD k 0 = l.getD k (3 * (k : Int)) := by
          have := HM.out
          simp [show k < l.length from by omega]
        rw [hz] at ck
        obtain ⟨z, hz2⟩ : ∃ z, z = l.getD k (3 * (k : Int)) := ⟨_, rfl⟩
        rw [← hz2] at ck
        have HZ := Lib.hid hz2
        clear hz hz2 ck0
        go_wp2_with fail
        refine (sector_any z _).mono ?_
        rintro e w3 ⟨x, rfl, hx, hg3⟩
        obtain ⟨ax, nx, cx, hsx⟩ := hx.sl
        subst hsx
        have HX := Lib.hid hx; clear hx
        have hs3 := hg3.size
        go_wp2_with ((with_reducible apply wpL_append1 slRows infRows rfl (by decide)); rfl; rfl; exact (own_gr hown hg3).alloc _; exact cell_new _ _ _ _ rfl; rfl; omega; (simp; omega); (intro v' w4 hown' hgr))
        have o2 := (own_gr hown hg3).alloc (.cells #[.slice ax nx cx] 43)
        go_roundw
        case rel =>
          refine ⟨k + 1, us ++ [.slice ax nx cx], by omega, by go_num, by simp [hul], hown', Lib.hid ?_, ?_⟩
          · refine rows_snoc (f := fun j : Nat => secF (l.getD j (3 * (j : Int)))) hul (fun j hj => ?_) ?_
            · exact (((hrows.out j hj).gr hg3).gr (Gr.alloc _ _)).grown o2 hgr
            · refine BytesAt.grown ?_ o2 hgr
              show BytesAt _ _ (secF (l.getD k (3 * (k : Int))))
              rw [← HZ.out]
              exact HX.out.gr (Gr.alloc _ _)
          · exact Below.grown (Below.alloc (hg.trans hg3) (by omega) _) hgr (by simp; omega) (fun j hj => ((own_gr hown hg3).lt j hj).1)
        case measure => simp [intOf]; omega
      · have hz : 3 * (k : Int) = l.getD k (3 * (k : Int)) := by
          have := HM.out
          simp [show ¬ k < l.length from by omega]
        have HZ := Lib.hid hz; clear hz
        go_wp2_with fail
        refine (sector_any (3 * (k : Int)) _).mono ?_
        rintro e w3 ⟨x, rfl, hx, hg3⟩
        obtain ⟨ax, nx, cx, hsx⟩ := hx.sl
        subst hsx
        have HX := Lib.hid hx; clear hx
        have hs3 := hg3.size
        go_wp2_with ((with_reducible apply wpL_append1 slRows infRows rfl (by decide)); rfl; rfl; exact (own_gr hown hg3).alloc _; exact cell_new _ _ _ _ rfl; rfl; omega; (simp; omega); (intro v' w4 hown' hgr))
        have o2 := (own_gr hown hg3).alloc (.cells #[.slice ax nx cx] 43)
        go_roundw
        case rel =>
          refine ⟨k + 1, us ++ [.slice ax nx cx], by omega, by go_num, by simp [hul], hown', Lib.hid ?_, ?_⟩
          · refine rows_snoc (f := fun j : Nat => secF (l.getD j (3 * (j : Int)))) hul (fun j hj => ?_) ?_
            · exact (((hrows.out j hj).gr hg3).gr (Gr.alloc _ _)).grown o2 hgr
            · refine BytesAt.grown ?_ o2 hgr
              show BytesAt _ _ (secF (l.getD k (3 * (k : Int))))
              rw [← HZ.out]
              exact HX.out.gr (Gr.alloc _ _)
          · exact Below.grown (Below.alloc (hg.trans hg3) (by omega) _) hgr (by simp; omega) (fun j hj => ((own_gr hown hg3).lt j hj).1)
        case measure => simp [intOf]; omega
    · obtain rfl : k = n := by omega
      go_wp2
      go_ret
      refine ⟨_, rfl, ?_, hg⟩
      refine ⟨us, SlAt.own hown (by omega), by rw [sectsF_length]; exact hul, fun j hj => ?_⟩
      rw [sectsF_length] at hj
      rw [sectsF_get l hj]
      exact hrows.out j hj
end Go.Proofs.Ytoalnkhedebpbaa
