/- wattleref01.P: the sum of rows of one length. -/
import Derived.Test.YtoalnkhedebpbaaRefMul
namespace Go.Proofs.Ytoalnkhedebpbaa
open Go.RowKit

/-- The first j bytes of v, then u's. -/
def mixTo (u v : List UInt8) (j : Nat) : List UInt8 := (List.range u.length).map fun i => if i < j then v.getD i 0 else u.getD i 0
theorem mixTo_length (u v : List UInt8) (j : Nat) : (mixTo u v j).length = u.length := by simp [mixTo]
theorem mixTo_zero (u v : List UInt8) : mixTo u v 0 = u := by
  apply getD_ext (mixTo_length u v 0)
  intro i hi
  rw [mixTo_length] at hi
  simp [mixTo, hi]
theorem mixTo_end (u v : List UInt8) (h : u.length = v.length) : mixTo u v u.length = v := by
  apply getD_ext (by rw [mixTo_length]; exact h)
  intro i hi
  rw [mixTo_length] at hi
  simp [mixTo, hi]
theorem mixTo_get (u v : List UInt8) (j i : Nat) (hi : i < u.length) : (mixTo u v j).getD i 0 = if i < j then v.getD i 0 else u.getD i 0 := by simp [mixTo, hi]
theorem mixTo_set (u v : List UInt8) (j : Nat) (hj : j < u.length) : (mixTo u v j).set j (v.getD j 0) = mixTo u v (j + 1) := by
  apply getD_ext (by rw [List.length_set, mixTo_length, mixTo_length])
  intro i hi
  rw [List.length_set, mixTo_length] at hi
  rw [mixTo_get u v (j + 1) i hi]
  by_cases e : j = i
  · subst e
    rw [getD_set_self (by rw [mixTo_length]; exact hj), if_pos (by omega)]
  · rw [getD_set_ne e, mixTo_get u v j i hi]
    have h1 : (i < j + 1) ↔ (i < j) := by omega
    simp only [h1]
/-- A byte is stored into a block of bytes. -/
theorem bytes_set {w : World} {g j : Nat} {x : List UInt8} {b : UInt8} (h : w.heap[g]? = some (.cells (x.map bv).toArray 5 (0, 0))) (_hj : j < x.length) :
    (w.setCell ⟨g, j, none⟩ (.int .u8 (b.toNat : Int))).heap[g]? = some (.cells ((x.set j b).map bv).toArray 5 (0, 0)) := by
  rw [setCell_putB h, putB_get_self (heap_lt h)]
  congr 2
  rw [List.setIfInBounds_toArray]
  congr 1
  rw [List.map_set]; rfl
theorem mr_get (f : Nat → UInt8) {n i : Nat} (h : i < n) : ((List.range n).map f).getD i 0 = f i := by simp [h]
theorem sum_one (ps : List (List UInt8)) (k i : Nat) (hi : i < (ps.getD 0 []).length) (hk : (ps.getD k []).length = (ps.getD 0 []).length) :
    (sumTo ones ps (k + 1)).getD i 0 = (sumTo ones ps k).getD i 0 ^^^ (ps.getD k []).getD i 0 := by
  have h1 := sumTo_length ones ps k
  show (addB (sumTo ones ps k) (scaleB (ps.getD k []) (ones k))).getD i 0 = _
  unfold addB
  rw [mr_get _ (by omega)]
  congr 1
  unfold scaleB
  rw [mr_get _ (by omega)]
  exact gmul_one _
set_option maxRecDepth 100000 in
set_option maxHeartbeats 1000000 in
theorem refP_ok (ps : List (List UInt8)) (n : Nat) (v : Value) (w : World) (h : RowsAt w v ps) (h0 : 0 < ps.length) (hl : ps.length ≤ 8) (hn : n ≤ 1048576) (hs : ∀ i, i < ps.length → (ps.getD i []).length = n) :
    Calls Try.prog 89 #[v] w fun e w' => ∃ r, e = .returned r ∧ BytesAt w' r (sumTo ones ps ps.length) ∧ Gr w w' := by
  rcases id h.cases with ⟨rfl, _⟩ | ⟨b, off, cap, vs, rfl, _, hb0, hvl, hc, hb⟩
  · simp at h0
  have hrow : ∀ i, i < ps.length → (∃ a c, w.cell? ⟨b, off + i, none⟩ = some (.slice a n c) ∧ BytesAt w (.slice a n c) (ps.getD i [])) := fun i hi => by
    obtain ⟨a, c, e⟩ := (hb i hi).shape
    rw [hs i hi] at e
    exact ⟨a, c, by rw [hc i hi, e], e ▸ hb i hi⟩
  have HR := Lib.hid hrow; clear hrow hc hb hvl
  have H := Lib.hid h; clear h
  have HS := Lib.hid hs; clear hs
  obtain ⟨m, hm⟩ : ∃ m, m = ps.length := ⟨_, rfl⟩
  have HM := Lib.hid hm
  obtain ⟨a0, k0, hc0, _⟩ := HR.out 0 h0
  rw [Nat.add_zero] at hc0
  rw [← hm] at h0 hl ⊢
  clear hm
  go_enter Try.func89, Try.ntmps89
  go_wp2_with fail
  have ha := alike_ok ps n (.slice (some ⟨b, off, none⟩) ps.length cap) w H.out (by have := HM.out; omega) (by have := HM.out; omega) HS.out
  rw [← HM.out] at ha
  refine ha.mono ?_
  rintro e w1 ⟨rfl, g1⟩
  clear ha
  have c1 := g1.cell hc0
  go_wp2_with ((with_reducible apply wpL_make1 (n := n) slU8 infU8 rfl (by decide)); rfl; rfl; exact hn)
  have hz : sumTo ones ps 0 = zeros n := by show zeros _ = _; rw [HS.out 0 (by have := HM.out; omega)]
  have hsl : ∀ k, (sumTo ones ps k).length = n := fun k => (sumTo_length ones ps k).trans (HS.out 0 (by have := HM.out; omega))
  have HSL := Lib.hid hsl; clear hsl
  have hV : (w1.alloc (.cells (zrow (.int .u8 0) n) 5)).heap[w1.heap.size]? = some (.cells ((sumTo ones ps 0).map bv).toArray 5 (0, 0)) := by
    rw [hz, heap_alloc_new]; simp [zeros, zrow, bv]
  have HV := Lib.hid hV; clear hV hz
  go_loopw [18] (fun i wr => ∃ k : Nat, k ≤ m ∧ i = .int .i64 k ∧ Hid (wr.heap[w1.heap.size]? = some (.cells ((sumTo ones ps k).map bv).toArray 5 (0, 0))) ∧ Gr w1 wr) (fun i _ => m - (intOf i).toNat)
  case atStart => exact ⟨0, by omega, rfl, HV, Gr.alloc _ _⟩
  case round =>
    obtain ⟨k, hk, rfl, hv, hg⟩ := hrel
    by_cases hlt : k < m
    · obtain ⟨a, c, ck0, hbk0⟩ := HR.out k (by have := HM.out; omega)
      have ck := (g1.trans hg).cell ck0
      have hkl := HS.out k (by have := HM.out; omega)
      have hcell : ∀ w', Gr w w' → ∀ j, j < n → ∃ bb oo, a = some ⟨bb, oo, none⟩ ∧ w'.cell? ⟨bb, oo + j, none⟩ = some (.int .u8 (((ps.getD k []).getD j 0).toNat : Int)) := fun w' gw j hj => by
        rcases hbk0.cases with ⟨e, _⟩ | ⟨bb, oo, cc, e, _, _, hcc⟩
        · rw [e] at hkl; simp at hkl; omega
        · injection e with e1 _ _
          exact ⟨bb, oo, e1, gw.cell (hcc j (by omega))⟩
      have HCL := Lib.hid hcell; clear hcell hbk0 ck0
      have HSO := Lib.hid (fun j (hj : j < n) => sum_one ps k j (by have := HS.out 0 (by have := HM.out; omega); omega) (by rw [hkl]; exact (HS.out 0 (by have := HM.out; omega)).symm))
      clear hkl
      go_wp2_with fail
      obtain ⟨wo, rfl⟩ : ∃ wo : World, wo = wr := ⟨_, rfl⟩
      have hv0 : Hid (wo.heap[w1.heap.size]? = some (.cells ((mixTo (sumTo ones ps k) (sumTo ones ps (k + 1)) 0).map bv).toArray 5 (0, 0))) := by rw [mixTo_zero]; exact hv
      go_loopw [24] (fun i wr => ∃ j : Nat, j ≤ n ∧ i = .int .i64 j ∧ Hid (wr.heap[w1.heap.size]? = some (.cells ((mixTo (sumTo ones ps k) (sumTo ones ps (k + 1)) j).map bv).toArray 5 (0, 0))) ∧ Gr w1 wr) (fun i _ => n - (intOf i).toNat)
      case atStart => exact ⟨0, by omega, rfl, hv0, hg⟩
      case round =>
        obtain ⟨j, hj, rfl, hvj, hgj⟩ := hrel
        by_cases hjl : j < n
        · obtain ⟨bb, oo, rfl, cj⟩ := HCL.out wr (g1.trans hgj) j hjl
          have hul : (sumTo ones ps k).length = n := HSL.out k
          have hmx := mixTo_get (sumTo ones ps k) (sumTo ones ps (k + 1)) j j (by omega)
          rw [if_neg (by omega)] at hmx
          have cu : wr.cell? ⟨w1.heap.size, j, none⟩ = some (.int .u8 (((sumTo ones ps k).getD j 0).toNat : Int)) := by
            refine cell_blk hvj.out ?_
            rw [← hmx]
            have : j < (mixTo (sumTo ones ps k) (sumTo ones ps (k + 1)) j).length := by rw [mixTo_length]; omega
            simp [this, bv]
          have fu : wr.frozen? ⟨w1.heap.size, j, none⟩ = false := by simp [World.frozen?, hvj.out]
          have hx := bits_xor_u8 ((sumTo ones ps k).getD j 0) ((ps.getD k []).getD j 0)
          rw [← HSO.out j hjl] at hx
          obtain ⟨p, hp⟩ : ∃ p : Int, p = (((sumTo ones ps k).getD j 0).toNat : Int) := ⟨_, rfl⟩
          obtain ⟨q, hq⟩ : ∃ q : Int, q = (((ps.getD k []).getD j 0).toNat : Int) := ⟨_, rfl⟩
          rw [← hp, ← hq] at hx
          rw [← hp] at cu; rw [← hq] at cj
          obtain ⟨z, hzz⟩ : ∃ z : UInt8, z = (sumTo ones ps (k + 1)).getD j 0 := ⟨_, rfl⟩
          rw [← hzz] at hx
          have HZZ := Lib.hid hzz
          have HUL := Lib.hid hul
          clear hzz hp hq hmx hul
          go_wp2
          go_roundw
          case rel =>
            refine ⟨j + 1, by omega, by go_num, Lib.hid ?_, ?_⟩
            · rw [← mixTo_set _ _ j (by rw [HUL.out]; exact hjl), ← HZZ.out]
              exact bytes_set hvj.out (by rw [mixTo_length, HUL.out]; exact hjl)
            · rw [setCell_putB hvj.out]
              exact below_putB hgj (Nat.le_refl _) _
          case measure => simp [intOf]; omega
        · obtain rfl : j = n := by omega
          have hfin : mixTo (sumTo ones ps k) (sumTo ones ps (k + 1)) j = sumTo ones ps (k + 1) := by
            have e := mixTo_end (sumTo ones ps k) (sumTo ones ps (k + 1)) (by rw [HSL.out, HSL.out])
            rw [HSL.out] at e
            exact e
          rw [hfin] at hvj
          clear hfin
          go_wp2
          go_roundw
          case rel => exact ⟨k + 1, by omega, by go_num, hvj, hgj⟩
          case measure => simp [intOf]; omega
    · obtain rfl : k = m := by omega
      have HL := Lib.hid (HSL.out k)
      go_wp2
      go_ret
      exact ⟨_, rfl, BytesAt.lit hv.out HL.out (by omega), g1.trans hg⟩
end Go.Proofs.Ytoalnkhedebpbaa
