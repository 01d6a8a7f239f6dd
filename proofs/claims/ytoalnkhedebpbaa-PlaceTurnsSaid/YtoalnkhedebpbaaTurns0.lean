/- The walk of wattlelaw08.PlaceTurns. -/
import Derived.Test.YtoalnkhedebpbaaPlay1
import Derived.Test.YtoalnkhedebpbaaLawRange
namespace Go.Proofs.Ytoalnkhedebpbaa
open Go.RowKit

def esOf (D : Int) (s : Nat) : List (Int × Value) := (List.range s).map fun j : Nat => (D - 1 - j, .int .i64 1)
theorem mfind_none (k : Int) : ∀ (m : List (Int × Value)), (∀ p ∈ m, p.1 ≠ k) → mfind k m = none
  | [], _ => rfl
  | (k', v) :: r, h => by
    unfold mfind
    rw [if_neg (fun e => h (k', v) List.mem_cons_self e.symm), mfind_none k r (fun p hp => h p (List.mem_cons_of_mem _ hp))]
theorem mset_new (k : Int) (v : Value) : ∀ (m : List (Int × Value)), (∀ p ∈ m, p.1 ≠ k) → mset k v m = m ++ [(k, v)]
  | [], _ => rfl
  | (k', u) :: r, h => by
    unfold mset
    rw [if_neg (fun e => h (k', u) List.mem_cons_self e.symm), mset_new k v r (fun p hp => h p (List.mem_cons_of_mem _ hp))]; rfl
theorem esOf_ne (D : Int) (s : Nat) : ∀ p ∈ esOf D s, p.1 ≠ D - 1 - s := by
  intro p hp
  simp only [esOf, List.mem_map, List.mem_range] at hp
  obtain ⟨j, hj, rfl⟩ := hp
  simp; omega
theorem esOf_find (D : Int) (s : Nat) : mfind (D - 1 - s) (esOf D s) = none := mfind_none _ _ (esOf_ne D s)
theorem esOf_set (D : Int) (s : Nat) : mset (D - 1 - s) (.int .i64 1) (esOf D s) = esOf D (s + 1) := by
  rw [mset_new _ _ _ (esOf_ne D s)]; simp [esOf, List.range_succ]
theorem esOf_get {D : Int} {s i : Nat} {k : Int} {v : Value} (h : (esOf D s)[i]? = some (k, v)) : v = .int .i64 1 := by
  unfold esOf at h
  rw [List.getElem?_map] at h
  cases hr : (List.range s)[i]? with
  | none => rw [hr] at h; cases h
  | some j => rw [hr] at h; simp at h; exact h.2.symm
def seenOf (w : World) (r : Nat) : Array Nat := match w.heap[r]? with | some (.mapIter _ _ s _) => s | _ => #[]
theorem seenOf_at {w : World} {r m n : Nat} {s : Array Nat} (h : w.heap[r]? = some (itObj m n s)) : seenOf w r = s := by simp [seenOf, h, itObj]
theorem putB_drew_get {w w1 : World} (h : w1 = w ∨ w1 = w.drew) {r : Nat} (hr : r < w.heap.size) (o : Obj) : (putB w1 r o).heap[r]? = some o := by
  rcases h with rfl | rfl
  · exact putB_get_self hr o
  · exact putB_get_self (w := w.drew) hr o
theorem putB_drew_other {w w1 : World} (h : w1 = w ∨ w1 = w.drew) {r k : Nat} {o' : Obj} (hk : w.heap[k]? = some o') (hne : k ≠ r) (o : Obj) : (putB w1 r o).heap[k]? = some o' := by
  rcases h with rfl | rfl
  · exact (putB_get_other _ hne o).trans hk
  · exact (putB_get_other w.drew hne o).trans hk
theorem putB_drew_gr {w0 w w1 : World} (g : Gr w0 w) (h : w1 = w ∨ w1 = w.drew) {r : Nat} (hr : w0.heap.size ≤ r) (o : Obj) : Gr w0 (putB w1 r o) := by
  rcases h with rfl | rfl
  · exact below_putB g hr o
  · exact below_putB (Below.drew g) hr o
theorem parP_row (D : Int) (k : Nat) (C r : Int) (hC : 0 < C) (hk : (k : Int) < D) (h1 : C * k ≤ r) (h2 : r < C * k + C) : parP D C r = D - 1 - k := by
  have : r / C = k := by
    have h3 : r / C < k + 1 := Int.ediv_lt_of_lt_mul hC (by rw [Int.add_mul, Int.mul_comm]; omega)
    have h4 : (k : Int) ≤ r / C := Int.le_ediv_of_mul_le hC (by rw [Int.mul_comm]; exact h1)
    omega
  unfold parP
  rw [this, Int.emod_eq_of_lt (by omega) hk]

theorem turn_next {L D C n : Int} (hC : C = 1 ∨ C = 2 ∨ C = 4) (h : ¬ (n + 1) % C = 0) :
    dskOf L D C (rowOf L D C (n + 1)) (colOf L D C (n + 1)) = dskOf L D C (rowOf L D C n) (colOf L D C n) ∧ rowOf L D C (n + 1) = rowOf L D C n + 1 := by
  have hq : (n + 1) / C = n / C := by rcases hC with rfl | rfl | rfl <;> omega
  have hm : (n + 1) % C = n % C + 1 := by rcases hC with rfl | rfl | rfl <;> omega
  have hr : rowOf L D C (n + 1) = rowOf L D C n + 1 := by unfold rowOf; rw [hq, hm]; omega
  have hc : colOf L D C (n + 1) = colOf L D C n := by unfold colOf; rw [hq]
  refine ⟨?_, hr⟩
  have hd : rowOf L D C (n + 1) / C = rowOf L D C n / C := by
    rw [hr]; unfold rowOf
    generalize n / C / (D - (L - 4)) = q
    rcases hC with rfl | rfl | rfl <;> omega
  unfold dskOf parP
  rw [hd, hc]
theorem wakes08 (w : World) :
    Calls Try.prog 21 #[] w fun e w' => e = .returned (.bool true) ∧ Gr w w' := by
  go_enter Try.func21, Try.ntmps21
  go_wp2_with fail
  refine (of_good 5 3 1 0 _ (by decide) (by decide) (by decide)).mono ?_
  rintro e w1 ⟨rfl, hg⟩
  rw [show rowOf 5 3 1 0 = 0 from by decide, show dskOf 5 3 1 0 (colOf 5 3 1 0) = 0 from by decide]
  go_wp2
  go_ret
  exact ⟨rfl, hg⟩

set_option maxRecDepth 100000 in
set_option maxHeartbeats 12000000 in
theorem turns_any (n at_ : Int) (w : World) (hn : -9223372036854775808 ≤ n) (hn' : n ≤ 9223372036854775807) :
    Calls Try.prog 3 #[.int .i64 n, .int .i64 at_] w fun e w' => e = .returned (.bool true) ∧ Gr w w' := by
  go_enter Try.func3, Try.ntmps3
  go_wp2_with fail
  refine (good_any n _ hn hn').mono ?_
  rintro e w1 ⟨L, D, C, hG, rfl, hg⟩
  obtain ⟨hL1, hL2, hD1, hD2, hC1, hC2, hw⟩ := goodG_bds hG
  have hC := (goodG_cases hG).2.2
  have H := Lib.hid hG; clear hG
  have hwB := hg.size
  clear hn hn'
  rcases hC with rfl | rfl | rfl
  · go_wp2_with (with_reducible refine wpL_makeMap ?_)
    go_loopw [7] (fun i wr => ∃ k : Nat, (k : Int) ≤ D ∧ i = .int .i64 k ∧ Hid (wr.heap[w1.heap.size]? = some (.cells #[.int .i64 L, .int .i64 D, .int .i64 1] 23)) ∧ Hid (wr.heap[w1.heap.size + 1]? = some (mapObj (esOf D k))) ∧ Gr w wr) (fun i _ => 16 - (intOf i).toNat)
    case atStart => exact ⟨0, by omega, rfl, heap_alloc_lt (heap_alloc_new w1 _) _, heap_alloc_at _ _ _ (by simp), (hg.trans (Gr.alloc _ _)).trans (Gr.alloc _ _)⟩
    case round =>
      obtain ⟨k, hk, rfl, hgb, hmb, hgr⟩ := hrel
      obtain ⟨c0, c1, c2⟩ := box3 hgb.out
      by_cases hlt : (k : Int) < D
      · have d1 : decide ((k : Int) < D) = true := by simpa using hlt
        by_cases hc16 : (k : Int) < 16
        · have d2 : decide ((k : Int) < 16) = true := by simpa using hc16
          go_wp2_with fail
          refine (parity_good L D 1 _ _ H.out (by omega) (by omega)).mono ?_
          rintro e w2 ⟨rfl, hg2⟩
          rw [parP_row D k 1 _ (by omega) hlt (by omega) (by omega)]
          have hgb2 := hg2.get hgb.out
          obtain ⟨x0, x1, x2⟩ := box3 hgb2
          have hmb2 := Lib.hid (hg2.get hmb.out)
          replace hgr := hgr.trans hg2
          have hgb3 := Lib.hid hgb2; clear hgb2
          clear c0 c1 c2 hg2
          go_wp2
          go_loopw [10] (fun i wr => ∃ r : Nat, 1 * k ≤ r ∧ r ≤ 1 * k + 1 ∧ i = .int .i64 r ∧ Gr w2 wr) (fun i _ => 1 * k + 1 - (intOf i).toNat)
          case atStart => exact ⟨1 * k, by omega, by omega, by go_num, Gr.refl _⟩
          case round =>
            obtain ⟨r, hr1, hr2, rfl, hgi⟩ := hrel
            obtain ⟨y0, y1, y2⟩ := box3 (hgi.get hgb3.out)
            by_cases hlt2 : r < 1 * k + 1
            · go_wp2_with fail
              refine (parity_good L D 1 _ _ H.out (by omega) (by omega)).mono ?_
              rintro e w3 ⟨rfl, hg3⟩
              rw [parP_row D k 1 _ (by omega) hlt (by omega) (by omega)]
              go_wp2
              go_roundw
              case rel => exact ⟨r + 1, by omega, by omega, by go_num, hgi.trans hg3⟩
              case measure => simp [intOf]; omega
            · obtain rfl : r = 1 * k + 1 := by omega
              have hm3 := Lib.hid (hgi.get hmb2.out)
              have hs3 := Lib.hid (heap_lt hm3.out)
              go_wp2_with (first | ((with_reducible apply wpL_update mapII int64t); rfl; rfl; rfl; exact hm3.out) | ((with_reducible apply wpL_lookup (v := .int .i64 0) mapII int64t zeroInt); rfl; rfl; exact hm3.out; (rw [esOf_find]; rfl)))
              go_roundw
              case rel =>
                refine ⟨k + 1, by omega, by go_num, ?_, ?_, ?_⟩
                · have := hgi.get hgb3.out
                  exact (putB_get_other _ (by omega) _).trans this
                · have := putB_get_self hs3.out (mapObj (mset (D - 1 - k) (.int .i64 1) (esOf D k)))
                  rw [esOf_set] at this
                  rw [← esOf_set]
                  exact putB_get_self hs3.out _
                · exact below_putB (hgr.trans hgi) (by omega) _
              case measure => simp [intOf]; omega
        · have d2 : decide ((k : Int) < 16) = false := by simpa using hc16
          exfalso; omega
      · have d1 : decide ((k : Int) < D) = false := by simpa using hlt
        go_wp2_with (first | ((with_reducible apply wpL_range mapII); rfl; exact hmb.out))
        have hit := heap_alloc_new wr (itObj (w1.heap.size + 1) (esOf D k).length #[])
        have hgb4 := Lib.hid hgb.out
        have hwr := heap_lt hmb.out
        obtain ⟨wo, rfl⟩ : ∃ wo : World, wo = wr := ⟨_, rfl⟩
        go_loopw [] (fun wx => ∃ seen, Hid (wx.heap[wo.heap.size]? = some (itObj (w1.heap.size + 1) (esOf D k).length seen)) ∧ Hid (wx.heap[w1.heap.size]? = some (.cells #[.int .i64 L, .int .i64 D, .int .i64 1] 23)) ∧ Hid (wx.heap[w1.heap.size + 1]? = some (mapObj (esOf D k))) ∧ Gr w wx) (fun wx => leftN (esOf D k).length (seenOf wx wo.heap.size))
        case atStart => exact ⟨#[], hit, heap_alloc_lt hgb.out _, heap_alloc_lt hmb.out _, hgr.trans (Gr.alloc _ _)⟩
        case round =>
          obtain ⟨seen, hit2, hgb5, hmb5, hgr5⟩ := hrel
          obtain ⟨z0, z1, z2⟩ := box3 hgb5.out
          go_wp2_with (first | ((with_reducible apply wpL_next); rfl; exact hit2.out; exact hmb5.out; intro hall; rotate_left; (intro i ki vi wi hi hs hwi; obtain rfl := esOf_get hi; have hsz2 := heap_lt hit2.out; have hm6 := Lib.hid (putB_drew_other (r := wo.heap.size) hwi hmb5.out (by omega) (itObj (w1.heap.size + 1) (esOf D k).length (seen.push i))); have hg6 := Lib.hid (putB_drew_other (r := wo.heap.size) hwi hgb5.out (by omega) (itObj (w1.heap.size + 1) (esOf D k).length (seen.push i))); have hi6 := Lib.hid (putB_drew_get hwi hsz2 (itObj (w1.heap.size + 1) (esOf D k).length (seen.push i))); have hgr6 := putB_drew_gr hgr5 hwi (r := wo.heap.size) (by omega) (itObj (w1.heap.size + 1) (esOf D k).length (seen.push i)); have hI := Lib.hid hi; have hS := Lib.hid hs; clear hi hs)) | ((with_reducible apply wpL_entry); rfl; exact hi6.out; exact hm6.out; exact hI.out) | (go_at_call 19; refine (within_pos _ _ _ (by omega) (by omega)).mono ?_; rintro e w8 ⟨p, p0, p1, -, rfl, rfl⟩))
          · go_roundw
            case rel => exact ⟨seen.push i, hi6, hg6, hm6, hgr6⟩
            case measure =>
              rw [seenOf_at hi6.out, seenOf_at hit2.out]
              exact leftN_lt (List.getElem?_eq_some_iff.1 hI.out).1 hS.out
          · refine (of_good L D 1 p _ H.out p0 (by omega)).mono ?_
            rintro e w9 ⟨rfl, hg9⟩
            replace z0 := hg9.cell z0
            replace z1 := hg9.cell z1
            replace z2 := hg9.cell z2
            replace hgr5 := hgr5.trans hg9
            have HT := Lib.hid (turn_next (L := L) (D := D) (C := 1) (n := p) (by decide))
            by_cases hmod : (p + 1) % 1 = 0
            · have dm : ((p + 1) % 1 == 0) = true := beq_iff_eq.2 hmod
              have HM := Lib.hid hmod; clear hmod
              by_cases hlast : p + 1 < (D - (L - 4)) * 16
              · have dl : decide (p + 1 < (D - L + 4) * 16) = true := by simp; omega
                go_wp2_with fail
                refine (of_good L D 1 (p + 1) _ H.out (by omega) hlast).mono ?_
                rintro e w10 ⟨rfl, hg10⟩
                replace z2 := hg10.cell z2
                go_wp2_with fail
                refine (wakes08 _).mono ?_
                rintro e w11 ⟨rfl, hg11⟩
                go_wp2
                go_ret
                exact ⟨rfl, (hgr5.trans hg10).trans hg11⟩
              · have dl : decide (p + 1 < (D - L + 4) * 16) = false := by simp; omega
                go_wp2_with fail
                refine (of_high L D 1 (p + 1) _ H.out (by omega)).mono ?_
                rintro e w10 ⟨rfl, hg10⟩
                replace z2 := hg10.cell z2
                go_wp2_with fail
                refine (wakes08 _).mono ?_
                rintro e w11 ⟨rfl, hg11⟩
                go_wp2
                go_ret
                exact ⟨rfl, (hgr5.trans hg10).trans hg11⟩
            · have hlast : p + 1 < (D - (L - 4)) * 16 := by omega
              have dl : decide (p + 1 < (D - L + 4) * 16) = true := by simp; omega
              have dm : ((p + 1) % 1 == 0) = false := beq_eq_false_iff_ne.2 hmod
              have HX := Lib.hid (HT.out hmod)
              clear hmod
              go_wp2_with fail
              refine (of_good L D 1 (p + 1) _ H.out (by omega) hlast).mono ?_
              rintro e w10 ⟨rfl, hg10⟩
              replace z2 := hg10.cell z2
              rw [HX.out.1, HX.out.2]
              have br := of_bds H.out p0 (show p < (D - (L - 4)) * 16 by omega)
              have br1 : 0 ≤ rowOf L D 1 p := br.2.2.2.2.2.2.2.2.2.1
              have br2 : rowOf L D 1 p < 16 := br.2.2.2.2.2.2.2.2.2.2.1
              clear br
              go_wp2_with fail
              refine (wakes08 _).mono ?_
              rintro e w11 ⟨rfl, hg11⟩
              go_wp2
              go_ret
              exact ⟨rfl, (hgr5.trans hg10).trans hg11⟩
  · go_wp2_with (with_reducible refine wpL_makeMap ?_)
    go_loopw [7] (fun i wr => ∃ k : Nat, (k : Int) ≤ D ∧ i = .int .i64 k ∧ Hid (wr.heap[w1.heap.size]? = some (.cells #[.int .i64 L, .int .i64 D, .int .i64 2] 23)) ∧ Hid (wr.heap[w1.heap.size + 1]? = some (mapObj (esOf D k))) ∧ Gr w wr) (fun i _ => 16 - (intOf i).toNat)
    case atStart => exact ⟨0, by omega, rfl, heap_alloc_lt (heap_alloc_new w1 _) _, heap_alloc_at _ _ _ (by simp), (hg.trans (Gr.alloc _ _)).trans (Gr.alloc _ _)⟩
    case round =>
      obtain ⟨k, hk, rfl, hgb, hmb, hgr⟩ := hrel
      obtain ⟨c0, c1, c2⟩ := box3 hgb.out
      by_cases hlt : (k : Int) < D
      · have d1 : decide ((k : Int) < D) = true := by simpa using hlt
        by_cases hc16 : (k : Int) * 2 < 16
        · have d2 : decide ((k : Int) * 2 < 16) = true := by simpa using hc16
          go_wp2_with fail
          refine (parity_good L D 2 _ _ H.out (by omega) (by omega)).mono ?_
          rintro e w2 ⟨rfl, hg2⟩
          rw [parP_row D k 2 _ (by omega) hlt (by omega) (by omega)]
          have hgb2 := hg2.get hgb.out
          obtain ⟨x0, x1, x2⟩ := box3 hgb2
          have hmb2 := Lib.hid (hg2.get hmb.out)
          replace hgr := hgr.trans hg2
          have hgb3 := Lib.hid hgb2; clear hgb2
          clear c0 c1 c2 hg2
          go_wp2
          go_loopw [10] (fun i wr => ∃ r : Nat, 2 * k ≤ r ∧ r ≤ 2 * k + 2 ∧ i = .int .i64 r ∧ Gr w2 wr) (fun i _ => 2 * k + 2 - (intOf i).toNat)
          case atStart => exact ⟨2 * k, by omega, by omega, by go_num, Gr.refl _⟩
          case round =>
            obtain ⟨r, hr1, hr2, rfl, hgi⟩ := hrel
            obtain ⟨y0, y1, y2⟩ := box3 (hgi.get hgb3.out)
            by_cases hlt2 : r < 2 * k + 2
            · go_wp2_with fail
              refine (parity_good L D 2 _ _ H.out (by omega) (by omega)).mono ?_
              rintro e w3 ⟨rfl, hg3⟩
              rw [parP_row D k 2 _ (by omega) hlt (by omega) (by omega)]
              go_wp2
              go_roundw
              case rel => exact ⟨r + 1, by omega, by omega, by go_num, hgi.trans hg3⟩
              case measure => simp [intOf]; omega
            · obtain rfl : r = 2 * k + 2 := by omega
              have hm3 := Lib.hid (hgi.get hmb2.out)
              have hs3 := Lib.hid (heap_lt hm3.out)
              go_wp2_with (first | ((with_reducible apply wpL_update mapII int64t); rfl; rfl; rfl; exact hm3.out) | ((with_reducible apply wpL_lookup (v := .int .i64 0) mapII int64t zeroInt); rfl; rfl; exact hm3.out; (rw [esOf_find]; rfl)))
              go_roundw
              case rel =>
                refine ⟨k + 1, by omega, by go_num, ?_, ?_, ?_⟩
                · have := hgi.get hgb3.out
                  exact (putB_get_other _ (by omega) _).trans this
                · have := putB_get_self hs3.out (mapObj (mset (D - 1 - k) (.int .i64 1) (esOf D k)))
                  rw [esOf_set] at this
                  rw [← esOf_set]
                  exact putB_get_self hs3.out _
                · exact below_putB (hgr.trans hgi) (by omega) _
              case measure => simp [intOf]; omega
        · have d2 : decide ((k : Int) * 2 < 16) = false := by simpa using hc16
          exfalso; omega
      · have d1 : decide ((k : Int) < D) = false := by simpa using hlt
        go_wp2_with (first | ((with_reducible apply wpL_range mapII); rfl; exact hmb.out))
        have hit := heap_alloc_new wr (itObj (w1.heap.size + 1) (esOf D k).length #[])
        have hgb4 := Lib.hid hgb.out
        have hwr := heap_lt hmb.out
        obtain ⟨wo, rfl⟩ : ∃ wo : World, wo = wr := ⟨_, rfl⟩
        go_loopw [] (fun wx => ∃ seen, Hid (wx.heap[wo.heap.size]? = some (itObj (w1.heap.size + 1) (esOf D k).length seen)) ∧ Hid (wx.heap[w1.heap.size]? = some (.cells #[.int .i64 L, .int .i64 D, .int .i64 2] 23)) ∧ Hid (wx.heap[w1.heap.size + 1]? = some (mapObj (esOf D k))) ∧ Gr w wx) (fun wx => leftN (esOf D k).length (seenOf wx wo.heap.size))
        case atStart => exact ⟨#[], hit, heap_alloc_lt hgb.out _, heap_alloc_lt hmb.out _, hgr.trans (Gr.alloc _ _)⟩
        case round =>
          obtain ⟨seen, hit2, hgb5, hmb5, hgr5⟩ := hrel
          obtain ⟨z0, z1, z2⟩ := box3 hgb5.out
          go_wp2_with (first | ((with_reducible apply wpL_next); rfl; exact hit2.out; exact hmb5.out; intro hall; rotate_left; (intro i ki vi wi hi hs hwi; obtain rfl := esOf_get hi; have hsz2 := heap_lt hit2.out; have hm6 := Lib.hid (putB_drew_other (r := wo.heap.size) hwi hmb5.out (by omega) (itObj (w1.heap.size + 1) (esOf D k).length (seen.push i))); have hg6 := Lib.hid (putB_drew_other (r := wo.heap.size) hwi hgb5.out (by omega) (itObj (w1.heap.size + 1) (esOf D k).length (seen.push i))); have hi6 := Lib.hid (putB_drew_get hwi hsz2 (itObj (w1.heap.size + 1) (esOf D k).length (seen.push i))); have hgr6 := putB_drew_gr hgr5 hwi (r := wo.heap.size) (by omega) (itObj (w1.heap.size + 1) (esOf D k).length (seen.push i)); have hI := Lib.hid hi; have hS := Lib.hid hs; clear hi hs)) | ((with_reducible apply wpL_entry); rfl; exact hi6.out; exact hm6.out; exact hI.out) | (go_at_call 19; refine (within_pos _ _ _ (by omega) (by omega)).mono ?_; rintro e w8 ⟨p, p0, p1, -, rfl, rfl⟩))
          · go_roundw
            case rel => exact ⟨seen.push i, hi6, hg6, hm6, hgr6⟩
            case measure =>
              rw [seenOf_at hi6.out, seenOf_at hit2.out]
              exact leftN_lt (List.getElem?_eq_some_iff.1 hI.out).1 hS.out
          · refine (of_good L D 2 p _ H.out p0 (by omega)).mono ?_
            rintro e w9 ⟨rfl, hg9⟩
            replace z0 := hg9.cell z0
            replace z1 := hg9.cell z1
            replace z2 := hg9.cell z2
            replace hgr5 := hgr5.trans hg9
            have HT := Lib.hid (turn_next (L := L) (D := D) (C := 2) (n := p) (by decide))
            by_cases hmod : (p + 1) % 2 = 0
            · have dm : ((p + 1) % 2 == 0) = true := beq_iff_eq.2 hmod
              have HM := Lib.hid hmod; clear hmod
              by_cases hlast : p + 1 < (D - (L - 4)) * 16
              · have dl : decide (p + 1 < (D - L + 4) * 16) = true := by simp; omega
                go_wp2_with fail
                refine (of_good L D 2 (p + 1) _ H.out (by omega) hlast).mono ?_
                rintro e w10 ⟨rfl, hg10⟩
                replace z2 := hg10.cell z2
                go_wp2_with fail
                refine (wakes08 _).mono ?_
                rintro e w11 ⟨rfl, hg11⟩
                go_wp2
                go_ret
                exact ⟨rfl, (hgr5.trans hg10).trans hg11⟩
              · have dl : decide (p + 1 < (D - L + 4) * 16) = false := by simp; omega
                go_wp2_with fail
                refine (of_high L D 2 (p + 1) _ H.out (by omega)).mono ?_
                rintro e w10 ⟨rfl, hg10⟩
                replace z2 := hg10.cell z2
                go_wp2_with fail
                refine (wakes08 _).mono ?_
                rintro e w11 ⟨rfl, hg11⟩
                go_wp2
                go_ret
                exact ⟨rfl, (hgr5.trans hg10).trans hg11⟩
            · have hlast : p + 1 < (D - (L - 4)) * 16 := by omega
              have dl : decide (p + 1 < (D - L + 4) * 16) = true := by simp; omega
              have dm : ((p + 1) % 2 == 0) = false := beq_eq_false_iff_ne.2 hmod
              have HX := Lib.hid (HT.out hmod)
              clear hmod
              go_wp2_with fail
              refine (of_good L D 2 (p + 1) _ H.out (by omega) hlast).mono ?_
              rintro e w10 ⟨rfl, hg10⟩
              replace z2 := hg10.cell z2
              rw [HX.out.1, HX.out.2]
              have br := of_bds H.out p0 (show p < (D - (L - 4)) * 16 by omega)
              have br1 : 0 ≤ rowOf L D 2 p := br.2.2.2.2.2.2.2.2.2.1
              have br2 : rowOf L D 2 p < 16 := br.2.2.2.2.2.2.2.2.2.2.1
              clear br
              go_wp2_with fail
              refine (wakes08 _).mono ?_
              rintro e w11 ⟨rfl, hg11⟩
              go_wp2
              go_ret
              exact ⟨rfl, (hgr5.trans hg10).trans hg11⟩
  · go_wp2_with (with_reducible refine wpL_makeMap ?_)
    go_loopw [7] (fun i wr => ∃ k : Nat, (k : Int) ≤ D ∧ i = .int .i64 k ∧ Hid (wr.heap[w1.heap.size]? = some (.cells #[.int .i64 L, .int .i64 D, .int .i64 4] 23)) ∧ Hid (wr.heap[w1.heap.size + 1]? = some (mapObj (esOf D k))) ∧ Gr w wr) (fun i _ => 16 - (intOf i).toNat)
    case atStart => exact ⟨0, by omega, rfl, heap_alloc_lt (heap_alloc_new w1 _) _, heap_alloc_at _ _ _ (by simp), (hg.trans (Gr.alloc _ _)).trans (Gr.alloc _ _)⟩
    case round =>
      obtain ⟨k, hk, rfl, hgb, hmb, hgr⟩ := hrel
      obtain ⟨c0, c1, c2⟩ := box3 hgb.out
      by_cases hlt : (k : Int) < D
      · have d1 : decide ((k : Int) < D) = true := by simpa using hlt
        by_cases hc16 : (k : Int) * 4 < 16
        · have d2 : decide ((k : Int) * 4 < 16) = true := by simpa using hc16
          go_wp2_with fail
          refine (parity_good L D 4 _ _ H.out (by omega) (by omega)).mono ?_
          rintro e w2 ⟨rfl, hg2⟩
          rw [parP_row D k 4 _ (by omega) hlt (by omega) (by omega)]
          have hgb2 := hg2.get hgb.out
          obtain ⟨x0, x1, x2⟩ := box3 hgb2
          have hmb2 := Lib.hid (hg2.get hmb.out)
          replace hgr := hgr.trans hg2
          have hgb3 := Lib.hid hgb2; clear hgb2
          clear c0 c1 c2 hg2
          go_wp2
          go_loopw [10] (fun i wr => ∃ r : Nat, 4 * k ≤ r ∧ r ≤ 4 * k + 4 ∧ i = .int .i64 r ∧ Gr w2 wr) (fun i _ => 4 * k + 4 - (intOf i).toNat)
          case atStart => exact ⟨4 * k, by omega, by omega, by go_num, Gr.refl _⟩
          case round =>
            obtain ⟨r, hr1, hr2, rfl, hgi⟩ := hrel
            obtain ⟨y0, y1, y2⟩ := box3 (hgi.get hgb3.out)
            by_cases hlt2 : r < 4 * k + 4
            · go_wp2_with fail
              refine (parity_good L D 4 _ _ H.out (by omega) (by omega)).mono ?_
              rintro e w3 ⟨rfl, hg3⟩
              rw [parP_row D k 4 _ (by omega) hlt (by omega) (by omega)]
              go_wp2
              go_roundw
              case rel => exact ⟨r + 1, by omega, by omega, by go_num, hgi.trans hg3⟩
              case measure => simp [intOf]; omega
            · obtain rfl : r = 4 * k + 4 := by omega
              have hm3 := Lib.hid (hgi.get hmb2.out)
              have hs3 := Lib.hid (heap_lt hm3.out)
              go_wp2_with (first | ((with_reducible apply wpL_update mapII int64t); rfl; rfl; rfl; exact hm3.out) | ((with_reducible apply wpL_lookup (v := .int .i64 0) mapII int64t zeroInt); rfl; rfl; exact hm3.out; (rw [esOf_find]; rfl)))
              go_roundw
              case rel =>
                refine ⟨k + 1, by omega, by go_num, ?_, ?_, ?_⟩
                · have := hgi.get hgb3.out
                  exact (putB_get_other _ (by omega) _).trans this
                · have := putB_get_self hs3.out (mapObj (mset (D - 1 - k) (.int .i64 1) (esOf D k)))
                  rw [esOf_set] at this
                  rw [← esOf_set]
                  exact putB_get_self hs3.out _
                · exact below_putB (hgr.trans hgi) (by omega) _
              case measure => simp [intOf]; omega
        · have d2 : decide ((k : Int) * 4 < 16) = false := by simpa using hc16
          go_wp2_with (first | ((with_reducible apply wpL_range mapII); rfl; exact hmb.out))
          have hit := heap_alloc_new wr (itObj (w1.heap.size + 1) (esOf D k).length #[])
          have hgb4 := Lib.hid hgb.out
          have hwr := heap_lt hmb.out
          obtain ⟨wo, rfl⟩ : ∃ wo : World, wo = wr := ⟨_, rfl⟩
          go_loopw [] (fun wx => ∃ seen, Hid (wx.heap[wo.heap.size]? = some (itObj (w1.heap.size + 1) (esOf D k).length seen)) ∧ Hid (wx.heap[w1.heap.size]? = some (.cells #[.int .i64 L, .int .i64 D, .int .i64 4] 23)) ∧ Hid (wx.heap[w1.heap.size + 1]? = some (mapObj (esOf D k))) ∧ Gr w wx) (fun wx => leftN (esOf D k).length (seenOf wx wo.heap.size))
          case atStart => exact ⟨#[], hit, heap_alloc_lt hgb.out _, heap_alloc_lt hmb.out _, hgr.trans (Gr.alloc _ _)⟩
          case round =>
            obtain ⟨seen, hit2, hgb5, hmb5, hgr5⟩ := hrel
            obtain ⟨z0, z1, z2⟩ := box3 hgb5.out
            go_wp2_with (first | ((with_reducible apply wpL_next); rfl; exact hit2.out; exact hmb5.out; intro hall; rotate_left; (intro i ki vi wi hi hs hwi; obtain rfl := esOf_get hi; have hsz2 := heap_lt hit2.out; have hm6 := Lib.hid (putB_drew_other (r := wo.heap.size) hwi hmb5.out (by omega) (itObj (w1.heap.size + 1) (esOf D k).length (seen.push i))); have hg6 := Lib.hid (putB_drew_other (r := wo.heap.size) hwi hgb5.out (by omega) (itObj (w1.heap.size + 1) (esOf D k).length (seen.push i))); have hi6 := Lib.hid (putB_drew_get hwi hsz2 (itObj (w1.heap.size + 1) (esOf D k).length (seen.push i))); have hgr6 := putB_drew_gr hgr5 hwi (r := wo.heap.size) (by omega) (itObj (w1.heap.size + 1) (esOf D k).length (seen.push i)); have hI := Lib.hid hi; have hS := Lib.hid hs; clear hi hs)) | ((with_reducible apply wpL_entry); rfl; exact hi6.out; exact hm6.out; exact hI.out) | (go_at_call 19; refine (within_pos _ _ _ (by omega) (by omega)).mono ?_; rintro e w8 ⟨p, p0, p1, -, rfl, rfl⟩))
            · go_roundw
              case rel => exact ⟨seen.push i, hi6, hg6, hm6, hgr6⟩
              case measure =>
                rw [seenOf_at hi6.out, seenOf_at hit2.out]
                exact leftN_lt (List.getElem?_eq_some_iff.1 hI.out).1 hS.out
            · refine (of_good L D 4 p _ H.out p0 (by omega)).mono ?_
              rintro e w9 ⟨rfl, hg9⟩
              replace z0 := hg9.cell z0
              replace z1 := hg9.cell z1
              replace z2 := hg9.cell z2
              replace hgr5 := hgr5.trans hg9
              have HT := Lib.hid (turn_next (L := L) (D := D) (C := 4) (n := p) (by decide))
              by_cases hmod : (p + 1) % 4 = 0
              · have dm : ((p + 1) % 4 == 0) = true := beq_iff_eq.2 hmod
                have HM := Lib.hid hmod; clear hmod
                by_cases hlast : p + 1 < (D - (L - 4)) * 16
                · have dl : decide (p + 1 < (D - L + 4) * 16) = true := by simp; omega
                  go_wp2_with fail
                  refine (of_good L D 4 (p + 1) _ H.out (by omega) hlast).mono ?_
                  rintro e w10 ⟨rfl, hg10⟩
                  replace z2 := hg10.cell z2
                  go_wp2_with fail
                  refine (wakes08 _).mono ?_
                  rintro e w11 ⟨rfl, hg11⟩
                  go_wp2
                  go_ret
                  exact ⟨rfl, (hgr5.trans hg10).trans hg11⟩
                · have dl : decide (p + 1 < (D - L + 4) * 16) = false := by simp; omega
                  go_wp2_with fail
                  refine (of_high L D 4 (p + 1) _ H.out (by omega)).mono ?_
                  rintro e w10 ⟨rfl, hg10⟩
                  replace z2 := hg10.cell z2
                  go_wp2_with fail
                  refine (wakes08 _).mono ?_
                  rintro e w11 ⟨rfl, hg11⟩
                  go_wp2
                  go_ret
                  exact ⟨rfl, (hgr5.trans hg10).trans hg11⟩
              · have hlast : p + 1 < (D - (L - 4)) * 16 := by omega
                have dl : decide (p + 1 < (D - L + 4) * 16) = true := by simp; omega
                have dm : ((p + 1) % 4 == 0) = false := beq_eq_false_iff_ne.2 hmod
                have HX := Lib.hid (HT.out hmod)
                clear hmod
                go_wp2_with fail
                refine (of_good L D 4 (p + 1) _ H.out (by omega) hlast).mono ?_
                rintro e w10 ⟨rfl, hg10⟩
                replace z2 := hg10.cell z2
                rw [HX.out.1, HX.out.2]
                have br := of_bds H.out p0 (show p < (D - (L - 4)) * 16 by omega)
                have br1 : 0 ≤ rowOf L D 4 p := br.2.2.2.2.2.2.2.2.2.1
                have br2 : rowOf L D 4 p < 16 := br.2.2.2.2.2.2.2.2.2.2.1
                clear br
                go_wp2_with fail
                refine (wakes08 _).mono ?_
                rintro e w11 ⟨rfl, hg11⟩
                go_wp2
                go_ret
                exact ⟨rfl, (hgr5.trans hg10).trans hg11⟩
      · have d1 : decide ((k : Int) < D) = false := by simpa using hlt
        go_wp2_with (first | ((with_reducible apply wpL_range mapII); rfl; exact hmb.out))
        have hit := heap_alloc_new wr (itObj (w1.heap.size + 1) (esOf D k).length #[])
        have hgb4 := Lib.hid hgb.out
        have hwr := heap_lt hmb.out
        obtain ⟨wo, rfl⟩ : ∃ wo : World, wo = wr := ⟨_, rfl⟩
        go_loopw [] (fun wx => ∃ seen, Hid (wx.heap[wo.heap.size]? = some (itObj (w1.heap.size + 1) (esOf D k).length seen)) ∧ Hid (wx.heap[w1.heap.size]? = some (.cells #[.int .i64 L, .int .i64 D, .int .i64 4] 23)) ∧ Hid (wx.heap[w1.heap.size + 1]? = some (mapObj (esOf D k))) ∧ Gr w wx) (fun wx => leftN (esOf D k).length (seenOf wx wo.heap.size))
        case atStart => exact ⟨#[], hit, heap_alloc_lt hgb.out _, heap_alloc_lt hmb.out _, hgr.trans (Gr.alloc _ _)⟩
        case round =>
          obtain ⟨seen, hit2, hgb5, hmb5, hgr5⟩ := hrel
          obtain ⟨z0, z1, z2⟩ := box3 hgb5.out
          go_wp2_with (first | ((with_reducible apply wpL_next); rfl; exact hit2.out; exact hmb5.out; intro hall; rotate_left; (intro i ki vi wi hi hs hwi; obtain rfl := esOf_get hi; have hsz2 := heap_lt hit2.out; have hm6 := Lib.hid (putB_drew_other (r := wo.heap.size) hwi hmb5.out (by omega) (itObj (w1.heap.size + 1) (esOf D k).length (seen.push i))); have hg6 := Lib.hid (putB_drew_other (r := wo.heap.size) hwi hgb5.out (by omega) (itObj (w1.heap.size + 1) (esOf D k).length (seen.push i))); have hi6 := Lib.hid (putB_drew_get hwi hsz2 (itObj (w1.heap.size + 1) (esOf D k).length (seen.push i))); have hgr6 := putB_drew_gr hgr5 hwi (r := wo.heap.size) (by omega) (itObj (w1.heap.size + 1) (esOf D k).length (seen.push i)); have hI := Lib.hid hi; have hS := Lib.hid hs; clear hi hs)) | ((with_reducible apply wpL_entry); rfl; exact hi6.out; exact hm6.out; exact hI.out) | (go_at_call 19; refine (within_pos _ _ _ (by omega) (by omega)).mono ?_; rintro e w8 ⟨p, p0, p1, -, rfl, rfl⟩))
          · go_roundw
            case rel => exact ⟨seen.push i, hi6, hg6, hm6, hgr6⟩
            case measure =>
              rw [seenOf_at hi6.out, seenOf_at hit2.out]
              exact leftN_lt (List.getElem?_eq_some_iff.1 hI.out).1 hS.out
          · refine (of_good L D 4 p _ H.out p0 (by omega)).mono ?_
            rintro e w9 ⟨rfl, hg9⟩
            replace z0 := hg9.cell z0
            replace z1 := hg9.cell z1
            replace z2 := hg9.cell z2
            replace hgr5 := hgr5.trans hg9
            have HT := Lib.hid (turn_next (L := L) (D := D) (C := 4) (n := p) (by decide))
            by_cases hmod : (p + 1) % 4 = 0
            · have dm : ((p + 1) % 4 == 0) = true := beq_iff_eq.2 hmod
              have HM := Lib.hid hmod; clear hmod
              by_cases hlast : p + 1 < (D - (L - 4)) * 16
              · have dl : decide (p + 1 < (D - L + 4) * 16) = true := by simp; omega
                go_wp2_with fail
                refine (of_good L D 4 (p + 1) _ H.out (by omega) hlast).mono ?_
                rintro e w10 ⟨rfl, hg10⟩
                replace z2 := hg10.cell z2
                go_wp2_with fail
                refine (wakes08 _).mono ?_
                rintro e w11 ⟨rfl, hg11⟩
                go_wp2
                go_ret
                exact ⟨rfl, (hgr5.trans hg10).trans hg11⟩
              · have dl : decide (p + 1 < (D - L + 4) * 16) = false := by simp; omega
                go_wp2_with fail
                refine (of_high L D 4 (p + 1) _ H.out (by omega)).mono ?_
                rintro e w10 ⟨rfl, hg10⟩
                replace z2 := hg10.cell z2
                go_wp2_with fail
                refine (wakes08 _).mono ?_
                rintro e w11 ⟨rfl, hg11⟩
                go_wp2
                go_ret
                exact ⟨rfl, (hgr5.trans hg10).trans hg11⟩
            · have hlast : p + 1 < (D - (L - 4)) * 16 := by omega
              have dl : decide (p + 1 < (D - L + 4) * 16) = true := by simp; omega
              have dm : ((p + 1) % 4 == 0) = false := beq_eq_false_iff_ne.2 hmod
              have HX := Lib.hid (HT.out hmod)
              clear hmod
              go_wp2_with fail
              refine (of_good L D 4 (p + 1) _ H.out (by omega) hlast).mono ?_
              rintro e w10 ⟨rfl, hg10⟩
              replace z2 := hg10.cell z2
              rw [HX.out.1, HX.out.2]
              have br := of_bds H.out p0 (show p < (D - (L - 4)) * 16 by omega)
              have br1 : 0 ≤ rowOf L D 4 p := br.2.2.2.2.2.2.2.2.2.1
              have br2 : rowOf L D 4 p < 16 := br.2.2.2.2.2.2.2.2.2.2.1
              clear br
              go_wp2_with fail
              refine (wakes08 _).mono ?_
              rintro e w11 ⟨rfl, hg11⟩
              go_wp2
              go_ret
              exact ⟨rfl, (hgr5.trans hg10).trans hg11⟩
end Go.Proofs.Ytoalnkhedebpbaa
