/- wattleplay.Live: what it answers. -/
import Derived.Test.YtoalnkhedebpbaaFilled
namespace Go.Proofs.Ytoalnkhedebpbaa
open Go.RowKit

/-- Bools in a block of one's own. -/
def OwnB (w : World) (g : Nat) (l : List Bool) : Prop := w.heap[g]? = some (.cells (l.map Value.bool).toArray 4 (0, 0))
theorem OwnB.bools {w : World} {g n : Nat} {l : List Bool} (h : OwnB w g l) (hn : l.length = n) (hl : n ≤ 9223372036854775807) : BoolsAt w (.slice (some ⟨g, 0, none⟩) n n) l := by
  have := SlAt.lit (cap := n) (l.map Value.bool) h (by simp; omega)
  rw [List.length_map, hn] at this
  exact this
theorem OwnB.gr {w w' : World} {g : Nat} {l : List Bool} (h : OwnB w g l) (k : Gr w w') : OwnB w' g l := k.get h
theorem OwnB.cell {w : World} {g : Nat} {l : List Bool} (h : OwnB w g l) {i : Nat} (hi : i < l.length) : w.cell? ⟨g, i, none⟩ = some (.bool (l.getD i false)) ∧ w.frozen? ⟨g, i, none⟩ = false := by
  refine ⟨cell_blk h (by simp [hi]), by unfold OwnB at h; simp [World.frozen?, h]⟩
theorem OwnB.set {w : World} {g i : Nat} {l : List Bool} (h : OwnB w g l) (b : Bool) : OwnB (w.setCell ⟨g, i, none⟩ (.bool b)) g (l.set i b) := by
  unfold OwnB at h ⊢
  rw [setCell_putB h, putB_get_self (heap_lt h)]
  simp
theorem OwnB.grset {w w' : World} {g i : Nat} {l : List Bool} {v : Value} (k : Gr w w') (h : OwnB w' g l) (hg : w.heap.size ≤ g) : Gr w (w'.setCell ⟨g, i, none⟩ v) := by
  unfold OwnB at h
  rw [setCell_putB h]
  exact below_putB k hg _
theorem slB : Try.prog.underlying 36 = some (.slice 4) := by kernel_rfl
theorem infB : (Try.prog.info? 4).map (fun i => (i.zero, i.size, i.bytes)) = some (some (.bool false), 1, 1) := by kernel_rfl
def liveTo (D k : Nat) : List Bool := List.replicate k true ++ List.replicate (D - k) false
theorem liveTo_set {D k : Nat} (h : k < D) : (liveTo D k).set k true = liveTo D (k + 1) := by
  unfold liveTo
  rw [List.set_append_right _ _ (by simp)]
  simp only [List.length_replicate, Nat.sub_self]
  obtain ⟨m, hm⟩ : ∃ m, D - k = m + 1 := ⟨D - k - 1, by omega⟩
  rw [hm, List.replicate_succ, List.set_cons_zero, show D - (k + 1) = m from by omega, List.replicate_succ', List.append_assoc]
  rfl
theorem liveTo_len {D k : Nat} (h : k ≤ D) : (liveTo D k).length = D := by simp [liveTo]; omega
set_option maxRecDepth 100000 in
set_option maxHeartbeats 2000000 in
theorem live_any (n : Int) (D : Nat) (w : World) (hD0 : 0 < D) (hD : D ≤ 8) :
    Calls Try.prog 23 #[.int .i64 n, .int .i64 D] w fun e w' => ∃ g, e = .returned (.slice (some ⟨g, 0, none⟩) D D) ∧ OwnB w' g (liveF n D) ∧ w.heap.size ≤ g ∧ Gr w w' := by
  obtain ⟨l1, hl1⟩ : ∃ l1, l1 = if 0 < within n 3 then (List.replicate D true).set (within (wrap64 (n.tdiv 3)) D).toNat false else List.replicate D true := ⟨_, rfl⟩
  have hlen1 : l1.length = D := by rw [hl1]; split <;> simp
  have hend : liveF n D = if within n 9 = 8 then l1.set (within (wrap64 (n.tdiv 27)) D).toNat false else l1 := by unfold liveF; rw [hl1]
  obtain ⟨i0, i1⟩ := within_range (wrap64 (n.tdiv 3)) (n := (D : Int)) (by omega)
  obtain ⟨j0, j1⟩ := within_range (wrap64 (n.tdiv 27)) (n := (D : Int)) (by omega)
  obtain ⟨i, hi⟩ : ∃ i : Nat, within (wrap64 (n.tdiv 3)) D = i := ⟨_, (Int.toNat_of_nonneg i0).symm⟩
  obtain ⟨j, hj⟩ : ∃ j : Nat, within (wrap64 (n.tdiv 27)) D = j := ⟨_, (Int.toNat_of_nonneg j0).symm⟩
  rw [hi] at i1 hl1
  rw [hj] at j1 hend
  have hi8 : i < D := by omega
  have hj8 : j < D := by omega
  have HL1 := Lib.hid hl1; clear hl1
  have HE := Lib.hid hend; clear hend
  have HI := Lib.hid hi; clear hi i0 i1
  have HJ := Lib.hid hj; clear hj j0 j1
  have HLN := Lib.hid hlen1; clear hlen1
  have HFULL : Hid (liveTo D D = List.replicate D true) := Lib.hid (by unfold liveTo; rw [Nat.sub_self]; simp)
  go_enter Try.func23, Try.ntmps23
  go_wp2_with ((with_reducible apply wpL_make1 (n := D) slB infB rfl (by decide)); rfl; rfl; omega)
  have h0 : Hid (OwnB (w.alloc (.cells (zrow (.bool false) D) 4)) w.heap.size (liveTo D 0)) := Lib.hid (by
    unfold OwnB liveTo
    rw [heap_alloc_new]
    simp [zrow])
  go_loopw [11] (fun k wr => ∃ t : Nat, t ≤ D ∧ k = .int .i64 t ∧ Hid (OwnB wr w.heap.size (liveTo D t)) ∧ Gr w wr) (fun k _ => D - (intOf k).toNat)
  case atStart => exact ⟨0, by omega, rfl, h0, Gr.alloc _ _⟩
  case round =>
    obtain ⟨t, ht, rfl, ho, hg⟩ := hrel
    by_cases hlt : t < D
    · obtain ⟨c0, f0⟩ := ho.out.cell (i := t) (by rw [liveTo_len ht]; exact hlt)
      go_wp2
      go_roundw
      case rel =>
        refine ⟨t + 1, by omega, by go_num, Lib.hid ?_, OwnB.grset hg ho.out (Nat.le_refl _)⟩
        rw [← liveTo_set hlt]
        exact ho.out.set true
      case measure => simp [intOf]; omega
    · obtain rfl : t = D := by omega
      rw [HFULL.out] at ho
      have hwi := within_range n (n := 9) (by decide)
      clear hlt ht HFULL h0
      have hpos : decide (0 < t) = true := decide_eq_true hD0
      obtain ⟨a3, ha3⟩ : ∃ a3, a3 = within n 3 := ⟨_, rfl⟩
      obtain ⟨a9, ha9⟩ : ∃ a9, a9 = within n 9 := ⟨_, rfl⟩
      rw [← ha3] at HL1
      rw [← ha9] at HE hwi
      have HA3 := Lib.hid ha3; clear ha3
      have HA9 := Lib.hid ha9; clear ha9
      obtain ⟨u0, hu0⟩ : ∃ u, wr.cell? ⟨w.heap.size, i, none⟩ = some u := ⟨_, (ho.out.cell (i := i) (by simp; omega)).1⟩
      have fi : wr.frozen? ⟨w.heap.size, i, none⟩ = false := (ho.out.cell (i := i) (by simp; omega)).2
      by_cases h3 : 0 < a3
      · have hs := Lib.hid (ho.out.set (i := i) false)
        rw [← show l1 = (List.replicate t true).set i false from by rw [HL1.out, if_pos h3]; rfl] at hs
        have d3 : decide (0 < a3) = true := decide_eq_true h3
        go_wp2_with fail
        refine (within_any n 3 _ (by decide)).mono ?_
        rintro e w1 ⟨rfl, rfl⟩
        rw [← HA3.out]
        go_wp2_with fail
        refine (within_any (wrap64 (n.tdiv 3)) (t : Int) _ (by omega)).mono ?_
        rintro e w1 ⟨rfl, rfl⟩
        rw [HI.out]
        go_wp2_with fail
        have hg1 : Gr w (wr.setCell ⟨w.heap.size, i, none⟩ (.bool false)) := OwnB.grset hg ho.out (Nat.le_refl _)
        obtain ⟨W1, hW1⟩ : ∃ W1, W1 = wr.setCell ⟨w.heap.size, i, none⟩ (Value.bool false) := ⟨_, rfl⟩
        rw [← hW1] at hs hg1 ⊢
        clear hW1 hu0 fi
        refine (within_any n 9 _ (by decide)).mono ?_
        rintro e w1 ⟨rfl, rfl⟩
        rw [← HA9.out]
        by_cases h9 : a9 = 8
        · have b9 : (a9 == 8) = true := beq_iff_eq.2 h9
          obtain ⟨u1, hu1⟩ : ∃ u, W1.cell? ⟨w.heap.size, j, none⟩ = some u := ⟨_, (hs.out.cell (i := j) (by have := HLN.out; omega)).1⟩
          have fj : W1.frozen? ⟨w.heap.size, j, none⟩ = false := (hs.out.cell (i := j) (by have := HLN.out; omega)).2
          go_wp2_with fail
          refine (within_any (wrap64 (n.tdiv 27)) (t : Int) _ (by omega)).mono ?_
          rintro e w1 ⟨rfl, rfl⟩
          rw [HJ.out]
          go_wp2
          go_ret
          exact ⟨_, rfl, by rw [HE.out, if_pos h9]; exact hs.out.set false, Nat.le_refl _, OwnB.grset hg1 hs.out (Nat.le_refl _)⟩
        · have b9 : (a9 == 8) = false := beq_eq_false_iff_ne.2 h9
          go_wp2
          go_ret
          exact ⟨_, rfl, by rw [HE.out, if_neg h9]; exact hs.out, Nat.le_refl _, hg1⟩
      · have hs : Hid (OwnB wr w.heap.size l1) := Lib.hid (by rw [HL1.out, if_neg h3]; exact ho.out)
        have d3 : decide (0 < a3) = false := decide_eq_false h3
        go_wp2_with fail
        refine (within_any n 3 _ (by decide)).mono ?_
        rintro e w1 ⟨rfl, rfl⟩
        rw [← HA3.out]
        go_wp2_with fail
        obtain ⟨W1, hW1⟩ : ∃ W1, W1 = wr := ⟨_, rfl⟩
        rw [← hW1] at hs hg ⊢
        have hg1 := hg
        clear hW1 hu0 fi
        refine (within_any n 9 _ (by decide)).mono ?_
        rintro e w1 ⟨rfl, rfl⟩
        rw [← HA9.out]
        by_cases h9 : a9 = 8
        · have b9 : (a9 == 8) = true := beq_iff_eq.2 h9
          obtain ⟨u1, hu1⟩ : ∃ u, W1.cell? ⟨w.heap.size, j, none⟩ = some u := ⟨_, (hs.out.cell (i := j) (by have := HLN.out; omega)).1⟩
          have fj : W1.frozen? ⟨w.heap.size, j, none⟩ = false := (hs.out.cell (i := j) (by have := HLN.out; omega)).2
          go_wp2_with fail
          refine (within_any (wrap64 (n.tdiv 27)) (t : Int) _ (by omega)).mono ?_
          rintro e w1 ⟨rfl, rfl⟩
          rw [HJ.out]
          go_wp2
          go_ret
          exact ⟨_, rfl, by rw [HE.out, if_pos h9]; exact hs.out.set false, Nat.le_refl _, OwnB.grset hg1 hs.out (Nat.le_refl _)⟩
        · have b9 : (a9 == 8) = false := beq_eq_false_iff_ne.2 h9
          go_wp2
          go_ret
          exact ⟨_, rfl, by rw [HE.out, if_neg h9]; exact hs.out, Nat.le_refl _, hg1⟩
end Go.Proofs.Ytoalnkhedebpbaa
