/- (*Disk).Read: what it answers. -/
import Derived.Test.YtoalnkhedebpbaaDisk0
namespace Go.Proofs.Ytoalnkhedebpbaa
open Go.RowKit

theorem rd_nil {d : DM} (h : d.pend = []) (a : Nat) : rd d a = d.sec a := by unfold rd rdTo; rw [h]; rfl
set_option maxRecDepth 100000 in
set_option maxHeartbeats 800000 in
theorem dread_bad (d : DM) (at' : Int) (b : Nat) (g : Option Nat) (w : World) (h : DiskAt w b g d) (hm : mayF d at' ≠ 0) :
    Calls Try.prog 102 #[.pointer (some ⟨b, 0, none⟩), .int .i64 at'] w fun e w' => e = .returned (.tuple #[.slice none 0 0, .int .i64 (mayF d at')]) ∧ w = w' := by
  have H := Lib.hid h; clear h
  have hb : (mayF d at' != 0) = true := by simpa using hm
  obtain ⟨m, hmm⟩ : ∃ m, m = mayF d at' := ⟨_, rfl⟩
  rw [← hmm] at hb
  have HM := Lib.hid hmm; clear hmm hm
  go_enter Try.func102, Try.ntmps102
  go_wp2_with fail
  refine (dmay_any d at' b g _ H.out).mono ?_
  rintro e w1 ⟨rfl, rfl⟩
  rw [← HM.out]
  go_wp2
  go_ret2
  rw [← HM.out]
  exact ⟨rfl, rfl⟩
/-- The clone of an array's bytes. -/
theorem clone_arr (x : List UInt8) (k n : Nat) (t : TypeId) (fr : Nat × Nat) (w : World) (hk : w.heap[k]? = some (.cells (x.map bv).toArray t fr)) (hx : x.length = n) (hn : n ≤ 1048576) :
    Calls Try.prog 117 #[.slice (some ⟨k, 0, none⟩) n n] w fun e w' => ∃ r, e = .returned r ∧ BytesAt w' r x ∧ Gr w w' := by
  subst hx
  refine clone_some x ⟨k, 0, none⟩ x.length w hn (fun w' g j u hj => ?_)
  rw [addr_add0, Nat.zero_add, cell_of_row w' k _ _ _ _ (g.get hk)]
  simpa using hj
set_option maxRecDepth 100000 in
set_option maxHeartbeats 800000 in
theorem dread_ok (d : DM) (at' : Nat) (b : Nat) (g : Option Nat) (w : World) (h : DiskAt w b g d) (hm : mayF d at' = 0) (hlp : d.pend.length ≤ 1048576) :
    Calls Try.prog 102 #[.pointer (some ⟨b, 0, none⟩), .int .i64 at'] w fun e w' => ∃ r, e = .returned (.tuple #[r, .int .i64 0]) ∧ BytesAt w' r (rd d at') ∧ Gr w w' := by
  have ha : at' < 52 := by
    unfold mayF at hm
    split at hm
    · simp at hm
    · split at hm
      · simp at hm
      · omega
  have H := Lib.hid h
  obtain ⟨cs, pv, h1, h2, h3, h4, h5, h6, h7, h8, h9⟩ := h
  rcases h7.2 with ⟨rfl, hp0⟩ | ⟨gg, cap, cur, rfl, _, hgg, hcap, _, hcs, htk⟩
  · have hp : d.pend = [] := List.eq_nil_of_length_eq_zero hp0
    clear hp0
    have c5 := cell_blk h1 h5
    have hb0 := heap_lt h1
    have HB := Lib.hid h1; clear h1
    have HM := Lib.hid hm; clear hm
    have hl := h3 at' ha
    have H4 := Lib.hid (h4 at' ha); clear h4
    have HR := Lib.hid (rd_nil hp at'); clear hp
    rw [← HR.out] at H4 hl
    obtain ⟨x, hx⟩ : ∃ x, x = rd d at' := ⟨_, rfl⟩
    rw [← hx] at H4 hl ⊢
    have HL := Lib.hid hl
    clear hx hl
    clear h2 h3 h5 h6 h7 h8 h9
    go_enter Try.func102, Try.ntmps102
    go_wp2_with fail
    refine (dmay_any d at' b g _ H.out).mono ?_
    rintro e w1 ⟨rfl, rfl⟩
    rw [HM.out]
    go_wp2_with (first | ((with_reducible apply wpL_loadAgg (vs := x.map bv) und120); rfl; (rw [List.length_map, HL.out]; exact inf120); rfl; exact HB.out; exact fun j hj => H4.out j (by simpa [HL.out] using hj)) | ((with_reducible apply wpL_storeNew (w0 := w) (vs := x.map bv)); rfl; (rw [List.length_map, HL.out]; exact inf120); exact bvs_one x; rfl; rfl; (rw [List.length_map, HL.out]; rfl)))
    refine wp_loop_once ?_
    go_wp2_with fail
    refine (clone_arr x w.heap.size 32 _ _ _ (heap_alloc_new w _) HL.out (by decide)).mono ?_
    rintro e w2 ⟨r, rfl, hr, g2⟩
    go_wp2
    go_ret2
    exact ⟨r, rfl, hr, (Gr.alloc _ _).trans g2⟩
  · have c5 := cell_blk h1 h5
    have hb0 := heap_lt h1
    have hg0 := heap_lt hgg
    obtain ⟨n, hn⟩ : ∃ n, n = d.pend.length := ⟨_, rfl⟩
    have hcur : ∀ k, k < n → ∀ j, j < 33 → cur[k * 33 + j]? = (wvals (d.pend.getD k (0, [])))[j]? := fun k hk j hj => by
      rw [← pvals_get d.pend (fun x hx => (h9 x hx).2) k j (by omega) hj, ← htk, List.getElem?_take, if_pos (by omega)]
      simp
    have hpl : ∀ k, k < n → (d.pend.getD k (0, [])).2.length = 32 ∧ (d.pend.getD k (0, [])).1 < 52 := fun k hk => by
      have : d.pend.getD k (0, []) ∈ d.pend := by
        rw [List.getD_eq_getElem?_getD, List.getElem?_eq_getElem (by omega)]; simp
      exact ⟨(h9 _ this).2, (h9 _ this).1⟩
    have hrl := rdTo_len (h3 at' ha) h9
    have hl := h3 at' ha
    have H4 := Lib.hid (h4 at' ha); clear h4
    rw [← hn] at c5 hlp hcap
    have HB := Lib.hid h1; clear h1
    have HG := Lib.hid hgg; clear hgg
    have HM := Lib.hid hm; clear hm
    have HC := Lib.hid hcur; clear hcur
    have HPL := Lib.hid hpl; clear hpl
    have HRL := Lib.hid hrl; clear hrl
    have HL := Lib.hid hl; clear hl
    have HN := Lib.hid hn; clear hn
    clear h2 h3 h5 h6 h7 h8 h9 hcs htk
    go_enter Try.func102, Try.ntmps102
    go_wp2_with fail
    refine (dmay_any d at' b g _ H.out).mono ?_
    rintro e w1 ⟨rfl, rfl⟩
    rw [HM.out]
    go_wp2_with (first | ((with_reducible apply wpL_loadS (vs := (d.sec at').map bv)); (rw [List.length_map]; exact HL.out); rfl; exact HB.out; exact H4.out) | ((with_reducible apply wpL_storeNew (w0 := w) (vs := (d.sec at').map bv)); rfl; (rw [List.length_map, HL.out]; exact inf120); exact bvs_one _; rfl; rfl; (rw [List.length_map, HL.out]; rfl)))
    have hV : (w.alloc (.cells ((rdTo d at' 0).map bv).toArray 120)).heap[w.heap.size]? = some (.cells ((rdTo d at' 0).map bv).toArray 120 (0, 0)) := heap_alloc_new w _
    have HV := Lib.hid hV; clear hV
    go_loopw [27] (fun i wr => ∃ k : Nat, k ≤ n ∧ i = .int .i64 k ∧ Hid (wr.heap[w.heap.size]? = some (.cells ((rdTo d at' k).map bv).toArray 120 (0, 0))) ∧ Gr w wr) (fun i _ => n - (intOf i).toNat)
    case atStart => exact ⟨0, by omega, rfl, HV, Gr.alloc _ _⟩
    case round =>
      obtain ⟨k, hk, rfl, hvar, hg⟩ := hrel
      have hsz := hg.size
      have hvlt := heap_lt hvar.out
      by_cases hlt : k < n
      · obtain ⟨⟨p, x⟩, hpx⟩ : ∃ px : Nat × List UInt8, px = d.pend.getD k (0, []) := ⟨_, rfl⟩
        have hpl := HPL.out k hlt
        have hck := HC.out k hlt
        rw [← hpx] at hpl hck
        have hs := rdTo_succ (d := d) (a := at') (k := k) (by have := HN.out; omega)
        rw [← hpx] at hs
        obtain ⟨hxl, hp52⟩ := hpl
        simp only at hxl hp52 hs
        have HXL := Lib.hid hxl; clear hxl
        have HCK := Lib.hid hck; clear hck
        have HS := Lib.hid hs; clear hs
        have HGr := Lib.hid (hg.get HG.out)
        clear hpx
        have hwl := wvals_length (x := (p, x)) HXL.out
        obtain ⟨wv, hwv⟩ : ∃ wv, wv = wvals (p, x) := ⟨_, rfl⟩
        have hw1 := wvals_one (p, x)
        rw [← hwv] at hwl hw1 HCK
        have HWL := Lib.hid hwl; clear hwl
        have HWV := Lib.hid hwv; clear hwv
        have HW1 := Lib.hid hw1; clear hw1
        have hl0 : (wr.alloc (.cells wv.toArray 122)).cell? ⟨wr.heap.size, 0, none⟩ = some (.int .i64 p) := by
          rw [cell_of_row _ _ _ _ _ _ (heap_alloc_new wr _), HWV.out]; rfl
        have hl1 : ∀ j, j < 32 → wv.toArray[1 + j]? = (x.map bv)[j]? := fun j _ => by rw [HWV.out, Nat.add_comm]; simp [wvals]
        have HL1 := Lib.hid hl1; clear hl1
        by_cases hpa : p = at'
        · have hd : ((p : Int) == (at' : Int)) = true := by rw [beq_iff_eq]; omega
          rw [if_pos hpa] at HS
          clear hpa
          go_wp2_with (first | ((with_reducible apply wpL_loadW (vs := wv)); exact HWL.out; rfl; exact HGr.out; exact HCK.out) | ((with_reducible apply wpL_storeNew (w0 := wr) (vs := wv)); rfl; (rw [HWL.out]; exact inf122); exact HW1.out; rfl; rfl; (rw [HWL.out]; rfl)) | ((with_reducible apply wpL_loadS (vs := x.map bv)); (rw [List.length_map]; exact HXL.out); rfl; exact heap_alloc_new wr _; exact HL1.out) | ((with_reducible apply wpL_storeAll (vs := x.map bv)); (rw [List.length_map, HXL.out]; exact inf120); exact bvs_one x; rfl; rfl; exact heap_alloc_lt hvar.out _; (simp [HRL.out, HXL.out])))
          go_roundw
          case rel =>
            refine ⟨k + 1, by omega, by go_num, Lib.hid ?_, below_putB (hg.trans (Gr.alloc _ _)) (Nat.le_refl _) _⟩
            rw [HS.out]
            exact putB_get_self (by simp; omega) _
          case measure => simp [intOf]; omega
        · have hd : ((p : Int) == (at' : Int)) = false := by rw [beq_eq_false_iff_ne]; omega
          rw [if_neg hpa] at HS
          clear hpa
          go_wp2_with (first | ((with_reducible apply wpL_loadW (vs := wv)); exact HWL.out; rfl; exact HGr.out; exact HCK.out) | ((with_reducible apply wpL_storeNew (w0 := wr) (vs := wv)); rfl; (rw [HWL.out]; exact inf122); exact HW1.out; rfl; rfl; (rw [HWL.out]; rfl)) | ((with_reducible apply wpL_loadS (vs := x.map bv)); (rw [List.length_map]; exact HXL.out); rfl; exact heap_alloc_new wr _; exact HL1.out) | ((with_reducible apply wpL_storeAll (vs := x.map bv)); (rw [List.length_map, HXL.out]; exact inf120); exact bvs_one x; rfl; rfl; exact heap_alloc_lt hvar.out _; (simp [HRL.out, HXL.out])))
          go_roundw
          case rel =>
            refine ⟨k + 1, by omega, by go_num, Lib.hid ?_, hg.trans (Gr.alloc _ _)⟩
            rw [HS.out]
            exact heap_alloc_lt hvar.out _
          case measure => simp [intOf]; omega
      · obtain rfl : k = n := by omega
        have hrd : rdTo d at' k = rd d at' := by unfold rd; rw [← HN.out]
        rw [hrd] at hvar
        have hrl := HRL.out k
        rw [hrd] at hrl
        have HR := Lib.hid hrl; clear hrl hrd
        go_wp2_with fail
        refine (clone_arr (rd d at') w.heap.size 32 _ _ _ hvar.out HR.out (by decide)).mono ?_
        rintro e w2 ⟨r, rfl, hr, g2⟩
        go_wp2
        go_ret2
        exact ⟨r, rfl, hr, hg.trans g2⟩
end Go.Proofs.Ytoalnkhedebpbaa
