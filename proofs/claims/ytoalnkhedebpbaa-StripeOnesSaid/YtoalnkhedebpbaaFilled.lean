/- wattlelaw14: Data: what it answers; the tail of a slice. -/
import Derived.Test.YtoalnkhedebpbaaModel1
namespace Go.Proofs.Ytoalnkhedebpbaa
open Go.RowKit

/-- The numbers of a row's data. -/
def rowL (l : List Int) (r : Nat) : List Int := l.drop (min r l.length)
def tailV (a : Option Addr) (n cap j : Nat) : Value := .slice (if cap = j then a else a.map (·.add j)) (n - j) (cap - j)
theorem IntsIn.tail {w : World} {a : Option Addr} {n cap : Nat} {l : List Int} (h : IntsIn w (.slice a n cap) l) (hn : n = l.length) (r : Nat) : IntsIn w (tailV a n cap (min r n)) (rowL l r) := by
  unfold rowL tailV
  rw [← hn]
  exact h.drop (Nat.min_le_right _ _)
set_option maxRecDepth 100000 in
set_option maxHeartbeats 1000000 in
theorem data_any (L D C : Int) (r : Nat) (l : List Int) (v : Value) (w : World) (h : goodG L D C = true) (hv : IntsIn w v l) :
    Calls Try.prog 36 #[gv L D C, .int .i64 r, v] w fun e w' => ∃ x, e = .returned x ∧ RowsAt w' x (sectsF (rowL l r) (D - (L - 4)).toNat) ∧ Gr w w' := by
  obtain ⟨hL1, hL2, hD1, hD2, hC1, hC2, hw⟩ := goodG_bds h
  have H := Lib.hid h; clear h
  obtain ⟨W, hW⟩ : ∃ W : Nat, D - (L - 4) = W := ⟨(D - (L - 4)).toNat, by omega⟩
  have hW8 : W ≤ 8 := by omega
  have hWn : (D - (L - 4)).toNat = W := by omega
  rw [hWn]; clear hWn
  have HV := Lib.hid hv
  obtain ⟨a, cap, rfl, hlc, hcm, hcells⟩ := hv
  clear hcells
  obtain ⟨n, hn⟩ : ∃ n, n = l.length := ⟨_, rfl⟩
  rw [← hn] at hlc HV ⊢
  obtain ⟨j, hj⟩ : ∃ j, j = min r n := ⟨_, rfl⟩
  have hmin : (if n < r then (n : Int) else (r : Int)) = (j : Int) := by split <;> omega
  have h0 : (0 : Int) ≤ (j : Int) := by omega
  have h1 : (j : Int) ≤ (n : Int) := by omega
  have h2 : (n : Int) ≤ (cap : Int) := by omega
  have htl := HV.out.tail hn r
  rw [← hj] at htl
  unfold tailV at htl
  clear hn hj hcm hlc
  obtain ⟨c0, c1, c2⟩ := box3 (heap_alloc_new w (.cells #[.int .i64 L, .int .i64 D, .int .i64 C] 23))
  by_cases hcj : cap = j
  · rw [if_pos hcj, hcj, Nat.sub_self] at htl
    rw [hcj] at HV h2 ⊢
    have HT := Lib.hid htl; clear htl hcj
    go_enter Try.func36, Try.ntmps36
    go_wp2_with fail
    go_region_held3 (fun wx : World => wx.cell? ⟨w.heap.size, 0, none⟩ = some (.int .i64 L) ∧ wx.cell? ⟨w.heap.size, 1, none⟩ = some (.int .i64 D) ∧ wx.cell? ⟨w.heap.size, 2, none⟩ = some (.int .i64 C)) (first | exact ⟨c0, c1, c2⟩ | exact ⟨d0, d1, d2⟩ | exact ⟨x0, x1, x2⟩) (first | (go_at_call 54; refine (rwidth_good L D C _ H.out).mono ?_; rintro e w4 ⟨rfl, hg4⟩; rw [hW]; have g4 := ((Gr.alloc w _).trans (Gr.drew _)).trans hg4; have d0 := ((Gr.drew _).trans hg4).cell c0; have d1 := ((Gr.drew _).trans hg4).cell c1; have d2 := ((Gr.drew _).trans hg4).cell c2) | (go_at_call 53; refine (sects_any (rowL l r) W _ _ (HT.out.gr g4) hW8).mono ?_; rintro e w5 ⟨x, rfl, hx, hg5⟩; have x0 := hg5.cell d0; have x1 := hg5.cell d1; have x2 := hg5.cell d2; have HX := Lib.hid hx; clear hx))
    all_goals
      go_wp2
      go_ret
      exact ⟨_, rfl, HX.out, g4.trans hg5⟩
  · rw [if_neg hcj] at htl
    have HT := Lib.hid htl; clear htl
    go_enter Try.func36, Try.ntmps36
    go_wp2_with fail
    go_region_held3 (fun wx : World => wx.cell? ⟨w.heap.size, 0, none⟩ = some (.int .i64 L) ∧ wx.cell? ⟨w.heap.size, 1, none⟩ = some (.int .i64 D) ∧ wx.cell? ⟨w.heap.size, 2, none⟩ = some (.int .i64 C)) (first | exact ⟨c0, c1, c2⟩ | exact ⟨d0, d1, d2⟩ | exact ⟨x0, x1, x2⟩) (first | (go_at_call 54; refine (rwidth_good L D C _ H.out).mono ?_; rintro e w4 ⟨rfl, hg4⟩; rw [hW]; have g4 := ((Gr.alloc w _).trans (Gr.drew _)).trans hg4; have d0 := ((Gr.drew _).trans hg4).cell c0; have d1 := ((Gr.drew _).trans hg4).cell c1; have d2 := ((Gr.drew _).trans hg4).cell c2) | (go_at_call 53; refine (sects_any (rowL l r) W _ _ (HT.out.gr g4) hW8).mono ?_; rintro e w5 ⟨x, rfl, hx, hg5⟩; have x0 := hg5.cell d0; have x1 := hg5.cell d1; have x2 := hg5.cell d2; have HX := Lib.hid hx; clear hx))
    all_goals
      go_wp2
      go_ret
      exact ⟨_, rfl, HX.out, g4.trans hg5⟩
end Go.Proofs.Ytoalnkhedebpbaa
