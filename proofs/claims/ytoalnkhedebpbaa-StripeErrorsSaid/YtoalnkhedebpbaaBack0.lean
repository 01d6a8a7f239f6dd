/- wattlelaw14.Same at rows that are the same; plainly: rows that are written, disks that fail. -/
import Derived.Test.YtoalnkhedebpbaaW6
import Derived.Test.YtoalnkhedebpbaaOnes
namespace Go.Proofs.Ytoalnkhedebpbaa
open Go.RowKit

set_option maxRecDepth 100000 in
set_option maxHeartbeats 1000000 in
theorem same14_eq (xs : List (List UInt8)) (u v : Value) (w : World) (hu : RowsAt w u xs) (hv : RowsAt w v xs) (h8 : xs.length ≤ 8) :
    Calls Try.prog 35 #[u, v] w fun e w' => e = .returned (.bool true) ∧ Gr w w' := by
  by_cases h0 : xs.length = 0
  · obtain ⟨a, cap, rfl⟩ := hu.shape
    obtain ⟨a2, cap2, rfl⟩ := hv.shape
    rw [h0]
    clear hu hv h8 h0
    go_enter Try.func35, Try.ntmps35
    go_wp2_with fail
    refine wp_loop_once ?_
    go_wp2
    go_ret
    exact ⟨rfl, Gr.refl _⟩
  · obtain ⟨b, o, c, rfl⟩ := hu.some (by omega)
    obtain ⟨b2, o2, c2, rfl⟩ := hv.some (by omega)
    obtain ⟨n, hn⟩ : ∃ n, n = xs.length := ⟨_, rfl⟩
    rw [← hn] at hu hv h8 ⊢
    have HN := Lib.hid hn; clear hn
    have HU := Lib.hid hu; clear hu
    have HV := Lib.hid hv; clear hv h0
    go_enter Try.func35, Try.ntmps35
    go_wp2_with fail
    go_loopw [13] (fun i wr => ∃ k : Nat, k ≤ n ∧ i = .int .i64 k ∧ Gr w wr) (fun i _ => n - (intOf i).toNat)
    case atStart => exact ⟨0, by omega, rfl, Gr.refl _⟩
    case round =>
      obtain ⟨k, hk, rfl, hg⟩ := hrel
      by_cases hlt : k < n
      · obtain ⟨xa, xk, xc, cx, hx⟩ := (HU.out.gr hg).at (i := k) (by rw [← HN.out]; exact hlt)
        obtain ⟨ya, yk, yc, cy, hy⟩ := (HV.out.gr hg).at (i := k) (by rw [← HN.out]; exact hlt)
        have HX := Lib.hid hx; clear hx
        have HY := Lib.hid hy; clear hy
        go_wp2_with fail
        have k0 : (0 : Int) ≤ (k : Int) := by omega
        have k1 : (k : Int) < (n : Int) := by omega
        go_region_held3 (fun wx : World => wx.cell? ⟨b, o + k, none⟩ = some (.slice xa xk xc) ∧ wx.cell? ⟨b2, o2 + k, none⟩ = some (.slice ya yk yc)) (first | exact ⟨cx, cy⟩ | exact ⟨d0, d1⟩) (first | (go_at_call 27; refine (same_any (xs.getD k []) (xs.getD k []) _ _ _ (HX.out.gr (Gr.drew _)) (HY.out.gr (Gr.drew _))).mono ?_; rintro e w4 ⟨rfl, hww⟩; have g4 := (Gr.drew wr).trans hww; have d0 := g4.cell cx; have d1 := g4.cell cy; rw [show sameB (xs.getD k []) (xs.getD k []) = true from decide_eq_true rfl]))
        all_goals
          go_wp2
          go_roundw
        all_goals first | exact ⟨k + 1, by omega, by go_num, hg.trans g4⟩ | (simp [intOf]; omega)
      · obtain rfl : k = n := by omega
        go_wp2
        go_ret
        exact ⟨rfl, hg⟩
theorem OnDisks.mono {m m' : BM} {l l' : List Bool} {L D C : Int} {r : Nat} {data : List (List UInt8)} (h : OnDisks m l L D C r data) (hm : ∀ d : Nat, (d : Int) < D → upF m' l' d = true → upF m l d = true ∧ rd (m'.d d) (36 + r) = rd (m.d d) (36 + r)) : OnDisks m' l' L D C r data :=
  ⟨h.len, h.sec, fun d hd hu => by
    obtain ⟨a1, a2⟩ := hm d hd hu
    rw [a2]; exact h.rows d hd a1⟩
theorem fail_up {m : BM} {l : List Bool} {i d : Nat} (hi : i < m.ds.length) : upF (m.set i dfail) l d = (upF m l d && decide (d ≠ i)) := by
  unfold upF
  rw [BM.set_len, BM.set_d m _ hi]
  by_cases e : d = i
  · subst e
    rw [if_pos rfl]
    simp [dfail]
  · rw [if_neg e]; simp [e]
theorem OnDisks.fail {m : BM} {l : List Bool} {L D C : Int} {r i : Nat} {data : List (List UInt8)} (h : OnDisks m l L D C r data) (hi : i < m.ds.length) : OnDisks (m.set i dfail) l L D C r data :=
  h.mono fun d _ hu => by
    rw [fail_up hi] at hu
    have hu' : upF m l d = true ∧ d ≠ i := by simpa using hu
    refine ⟨hu'.1, ?_⟩
    rw [BM.set_d m _ hi, if_neg hu'.2]
/-- A row that is written, and flushed. -/
def wrM (m : BM) (l : List Bool) (a : Nat) (X : List (List UInt8)) (D : Nat) : BM := (stepTo (swF l a X) m D).2
def flM (m : BM) (l : List Bool) : BM := (stepTo (flF l) m m.ds.length).2
theorem wrM_rd {m : BM} (h : Free m) (l : List Bool) (a : Nat) (X : List (List UInt8)) (D j b : Nat) : rd ((wrM m l a X D).d j) b = if j < D ∧ upF m l j = true ∧ a = b then X.getD j [] else rd (m.d j) b := by
  unfold wrM
  rw [(sw_free h l a X D).2.2 j]
  by_cases c : j < D ∧ upF m l j = true
  · rw [if_pos c, rd_push]
    by_cases e : a = b
    · rw [if_pos e, if_pos ⟨c.1, c.2, e⟩]
    · rw [if_neg e, if_neg (fun c' => e c'.2.2)]
  · rw [if_neg c, if_neg (fun c' => c ⟨c'.1, c'.2.1⟩)]
theorem flM_rd {m : BM} (h : m.down = false) (l : List Bool) (j b : Nat) : rd ((flM m l).d j) b = rd (m.d j) b := by
  unfold flM
  rw [(fl_free h l _).2.2.2.2 j]
  split
  · exact rd_flush _ _
  · rfl
theorem wrM_alike (m : BM) (l : List Bool) (a : Nat) (X : List (List UInt8)) (D : Nat) : Alike m (wrM m l a X D) := stepTo_alike (swF_alike l a X) m D
theorem flM_alike (m : BM) (l : List Bool) : Alike m (flM m l) := stepTo_alike (flF_alike l) m _
theorem wrM_pend (m : BM) (l : List Bool) (a : Nat) (X : List (List UInt8)) (D j : Nat) : ((wrM m l a X D).d j).pend.length ≤ (m.d j).pend.length + D := sw_pend l a X m j D
theorem flM_pend (m : BM) (l : List Bool) (j : Nat) : ((flM m l).d j).pend.length ≤ (m.d j).pend.length := flF_pend l m j _
/-- Rows behind a row's writing, and flushing. -/
theorem OnDisks.written {m : BM} {l : List Bool} {L D C : Int} {r : Nat} {data : List (List UInt8)} (h : Free m) (hl : (data.length : Int) = D - (L - 4)) (hs : ∀ i, i < data.length → (data.getD i []).length = 32) :
    OnDisks (flM (wrM m l (36 + r) (fillR L D C r data) D.toNat) l) l L D C r data := by
  refine ⟨hl, hs, fun d hd hu => ?_⟩
  have hdn : (wrM m l (36 + r) (fillR L D C r data) D.toNat).down = false := (sw_free h l (36 + r) (fillR L D C r data) D.toNat).2.1.1
  rw [(flM_alike _ l).up, (wrM_alike m l _ _ _).up] at hu
  rw [flM_rd hdn, wrM_rd h, if_pos ⟨by omega, hu, rfl⟩]
theorem OnDisks.other {m : BM} {l : List Bool} {L D C : Int} {r s : Nat} {data data' : List (List UInt8)} (h : Free m) (ho : OnDisks m l L D C s data) (hne : r ≠ s) :
    OnDisks (flM (wrM m l (36 + r) (fillR L D C r data') D.toNat) l) l L D C s data := by
  refine ho.mono fun d hd hu => ?_
  have hdn : (wrM m l (36 + r) (fillR L D C r data') D.toNat).down = false := (sw_free h l (36 + r) (fillR L D C r data') D.toNat).2.1.1
  rw [(flM_alike _ l).up, (wrM_alike m l _ _ _).up] at hu
  refine ⟨hu, ?_⟩
  rw [flM_rd hdn, wrM_rd h, if_neg (fun c => hne (by omega))]
end Go.Proofs.Ytoalnkhedebpbaa
