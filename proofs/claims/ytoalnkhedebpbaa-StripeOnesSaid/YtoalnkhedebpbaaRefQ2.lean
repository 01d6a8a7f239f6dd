/- wattleref01.Q: the sum of rows of one length, each times a power. -/
import Derived.Test.YtoalnkhedebpbaaRefQ
namespace Go.Proofs.Ytoalnkhedebpbaa
open Go.RowKit

theorem sum_pow (ps : List (List UInt8)) (k i : Nat) (hi : i < (ps.getD 0 []).length) (hk : (ps.getD k []).length = (ps.getD 0 []).length) :
    (sumTo gpow ps (k + 1)).getD i 0 = (sumTo gpow ps k).getD i 0 ^^^ gmul ((ps.getD k []).getD i 0) (gpow k) := by
  have h1 := sumTo_length gpow ps k
  show (addB (sumTo gpow ps k) (scaleB (ps.getD k []) (gpow k))).getD i 0 = _
  unfold addB
  rw [mr_get _ (by omega)]
  congr 1
  unfold scaleB
  rw [mr_get _ (by omega)]
set_option maxRecDepth 100000 in
set_option maxHeartbeats 1000000 in
theorem refQ_ok (ps : List (List UInt8)) (n : Nat) (v : Value) (w : World) (h : RowsAt w v ps) (h0 : 0 < ps.length) (hl : ps.length ≤ 8) (hn : n ≤ 1048576) (hs : ∀ i, i < ps.length → (ps.getD i []).length = n) :
    Calls Try.prog 90 #[v] w fun e w' => ∃ r, e = .returned r ∧ BytesAt w' r (sumTo gpow ps ps.length) ∧ Gr w w' := by
  rcases id h.cases with ⟨rfl, _⟩ | ⟨b, off, cap, vs, rfl, _, hb0, hvl, hc, hb⟩
  · simp at h0
  have hrow : ∀ i, i < ps.length → (∃ a c, w.cell? ⟨b, off + i, none⟩ = some (.slice a n c) ∧ BytesAt w (.slice a n c) (ps.getD i [])) := fun i hi => by
    obtain ⟨a, c, e⟩ := (hb i hi).shape
    rw [hs i hi] at e
    exact ⟨a, c, by rw [hc i hi, e], e ▸ hb i hi⟩
  have HR := Lib.hid hrow; clear hrow hc hb hvl
  have H := Lib.hid h; clear h
  have HS := Lib.hid hs; clear hs
  obtain ⟨m, hm⟩ : ∃ m, m = ps.length := ⟨_, rfl⟩
  have HM := Lib.hid hm
  obtain ⟨a0, k0, hc0, _⟩ := HR.out 0 h0
  rw [Nat.add_zero] at hc0
  rw [← hm] at h0 hl ⊢
  clear hm
  go_enter Try.func90, Try.ntmps90
  go_wp2_with fail
  have ha := alike_ok ps n (.slice (some ⟨b, off, none⟩) ps.length cap) w H.out (by have := HM.out; omega) (by have := HM.out; omega) HS.out
  rw [← HM.out] at ha
  refine ha.mono ?_
  rintro e w1 ⟨rfl, g1⟩
  clear ha
  have c1 := g1.cell hc0
  go_wp2_with ((with_reducible apply wpL_make1 (n := n) slU8 infU8 rfl (by decide)); rfl; rfl; exact hn)
  have hz : sumTo gpow ps 0 = zeros n := by show zeros _ = _; rw [HS.out 0 (by have := HM.out; omega)]
  have hsl : ∀ k, (sumTo gpow ps k).length = n := fun k => (sumTo_length gpow ps k).trans (HS.out 0 (by have := HM.out; omega))
  have HSL := Lib.hid hsl; clear hsl
  have hV : (w1.alloc (.cells (zrow (.int .u8 0) n) 5)).heap[w1.heap.size]? = some (.cells ((sumTo gpow ps 0).map bv).toArray 5 (0, 0)) := by
    rw [hz, heap_alloc_new]; simp [zeros, zrow, bv]
  have HV := Lib.hid hV; clear hV hz
  go_loopw [19] (fun i wr => ∃ k : Nat, k ≤ m ∧ i = .int .i64 k ∧ Hid (wr.heap[w1.heap.size]? = some (.cells ((sumTo gpow ps k).map bv).toArray 5 (0, 0))) ∧ Gr w1 wr) (fun i _ => m - (intOf i).toNat)
  case atStart => exact ⟨0, by omega, rfl, HV, Gr.alloc _ _⟩
  case round =>
    obtain ⟨k, hk, rfl, hv, hg⟩ := hrel
    by_cases hlt : k < m
    · obtain ⟨a, c, ck0, hbk0⟩ := HR.out k (by have := HM.out; omega)
      have ck := (g1.trans hg).cell ck0
      have hkl := HS.out k (by have := HM.out; omega)
      have hcell : ∀ w', Gr w w' → ∀ j, j < n → ∃ bb oo, a = some ⟨bb, oo, none⟩ ∧ w'.cell? ⟨bb, oo + j, none⟩ = some (.int .u8 (((ps.getD k []).getD j 0).toNat : Int)) := fun w' gw j hj => by
        rcases hbk0.cases with ⟨e, _⟩ | ⟨bb, oo, cc, e, _, _, hcc⟩
        · rw [e] at hkl; simp at hkl; omega
        · injection e with e1 _ _
          exact ⟨bb, oo, e1, gw.cell (hcc j (by omega))⟩
      have HCL := Lib.hid hcell; clear hcell hbk0 ck0
      have HSO := Lib.hid (fun j (hj : j < n) => sum_pow ps k j (by have := HS.out 0 (by have := HM.out; omega); omega) (by rw [hkl]; exact (HS.out 0 (by have := HM.out; omega)).symm))
      clear hkl
      go_wp2_with fail
      refine (refpow_lt k _ (by omega)).mono ?_
      rintro e w5 ⟨rfl, rfl⟩
      go_wp2_with fail
      obtain ⟨wo, rfl⟩ : ∃ wo : World, wo = wr := ⟨_, rfl⟩
      have hv0 : Hid (wo.heap[w1.heap.size]? = some (.cells ((mixTo (sumTo gpow ps k) (sumTo gpow ps (k + 1)) 0).map bv).toArray 5 (0, 0))) := by rw [mixTo_zero]; exact hv
      go_loopw [28] (fun i wr => ∃ j : Nat, j ≤ n ∧ i = .int .i64 j ∧ Hid (wr.heap[w1.heap.size]? = some (.cells ((mixTo (sumTo gpow ps k) (sumTo gpow ps (k + 1)) j).map bv).toArray 5 (0, 0))) ∧ Gr w1 wr) (fun i _ => n - (intOf i).toNat)
      case atStart => exact ⟨0, by omega, rfl, hv0, hg⟩
      case round =>
        obtain ⟨j, hj, rfl, hvj, hgj⟩ := hrel
        by_cases hjl : j < n
        · obtain ⟨bb, oo, rfl, cj⟩ := HCL.out wr (g1.trans hgj) j hjl
          have hul : (sumTo gpow ps k).length = n := HSL.out k
          have hmx := mixTo_get (sumTo gpow ps k) (sumTo gpow ps (k + 1)) j j (by omega)
          rw [if_neg (by omega)] at hmx
          have cu : wr.cell? ⟨w1.heap.size, j, none⟩ = some (.int .u8 (((sumTo gpow ps k).getD j 0).toNat : Int)) := by
            refine cell_blk hvj.out ?_
            rw [← hmx]
            have : j < (mixTo (sumTo gpow ps k) (sumTo gpow ps (k + 1)) j).length := by rw [mixTo_length]; omega
            simp [this, bv]
          have fu : wr.frozen? ⟨w1.heap.size, j, none⟩ = false := by simp [World.frozen?, hvj.out]
          have hx := bits_xor_u8 ((sumTo gpow ps k).getD j 0) (gmul ((ps.getD k []).getD j 0) (gpow k))
          rw [← HSO.out j hjl] at hx
          obtain ⟨p, hp⟩ : ∃ p : Int, p = (((sumTo gpow ps k).getD j 0).toNat : Int) := ⟨_, rfl⟩
          obtain ⟨y, hy⟩ : ∃ y : UInt8, y = (ps.getD k []).getD j 0 := ⟨_, rfl⟩
          rw [← hy] at hx cj
          obtain ⟨q, hq⟩ : ∃ q : Int, q = ((gmul y (gpow k)).toNat : Int) := ⟨_, rfl⟩
          rw [← hp, ← hq] at hx
          rw [← hp] at cu
          have HQ := Lib.hid hq.symm
          obtain ⟨z, hzz⟩ : ∃ z : UInt8, z = (sumTo gpow ps (k + 1)).getD j 0 := ⟨_, rfl⟩
          rw [← hzz] at hx
          have HZZ := Lib.hid hzz
          have HUL := Lib.hid hul
          clear hzz hp hq hy hmx hul
          have HNW : Hid ((wr.setCell ⟨w1.heap.size, j, none⟩ (.int .u8 (z.toNat : Int))).heap[w1.heap.size]? = some (.cells ((mixTo (sumTo gpow ps k) (sumTo gpow ps (k + 1)) (j + 1)).map bv).toArray 5 (0, 0))) := Lib.hid (by
            rw [← mixTo_set _ _ j (by rw [HUL.out]; exact hjl), ← HZZ.out]
            exact bytes_set hvj.out (by rw [mixTo_length, HUL.out]; exact hjl))
          have HGW : Hid (Gr w1 (wr.setCell ⟨w1.heap.size, j, none⟩ (.int .u8 (z.toNat : Int)))) := Lib.hid (by
            rw [setCell_putB hvj.out]
            exact below_putB hgj (Nat.le_refl _) _)
          have cud := (Gr.drew wr).cell cu
          have fud : wr.drew.frozen? ⟨w1.heap.size, j, none⟩ = false := by simpa using fu
          go_wp2_with fail
          go_region_law (first | (go_simp; go_at_call 122; refine (refmul_any y (gpow k) _).mono ?_; rintro e w6 ⟨rfl, rfl⟩; rw [HQ.out]))
          all_goals (
            go_wp2
            go_roundw)
          all_goals first | exact ⟨j + 1, by omega, by go_num, HNW, Below.drew HGW.out⟩ | (simp [intOf]; omega)
        · obtain rfl : j = n := by omega
          have hfin : mixTo (sumTo gpow ps k) (sumTo gpow ps (k + 1)) j = sumTo gpow ps (k + 1) := by
            have e := mixTo_end (sumTo gpow ps k) (sumTo gpow ps (k + 1)) (by rw [HSL.out, HSL.out])
            rw [HSL.out] at e
            exact e
          rw [hfin] at hvj
          clear hfin
          go_wp2
          go_roundw
          case rel => exact ⟨k + 1, by omega, by go_num, hvj, hgj⟩
          case measure => simp [intOf]; omega
    · obtain rfl : k = m := by omega
      have HL := Lib.hid (HSL.out k)
      go_wp2
      go_ret
      exact ⟨_, rfl, BytesAt.lit hv.out HL.out (by omega), g1.trans hg⟩
end Go.Proofs.Ytoalnkhedebpbaa
