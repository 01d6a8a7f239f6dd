/- disk.Flush, bench.Flush, stripe.Flush: what they do. -/
import Derived.Test.YtoalnkhedebpbaaW4
namespace Go.Proofs.Ytoalnkhedebpbaa
open Go.RowKit

/-- A disk whose sectors are S, as long as its pending writes are still there. -/
def FlAt (w : World) (b : Nat) (f : Bool) (pv : Value) (S : Nat → List UInt8) : Prop :=
  ∃ cs : Array Value, w.heap[b]? = some (.cells cs 128 (0, 0)) ∧ cs.size = 1666 ∧ (∀ a, a < 52 → (S a).length = 32) ∧ (∀ a, a < 52 → ∀ j, j < 32 → cs[a * 32 + j]? = ((S a).map bv)[j]?) ∧ cs[1664]? = some pv ∧ cs[1665]? = some (.bool f)
theorem FlAt.keep {w w' : World} {b : Nat} {f : Bool} {pv : Value} {S : Nat → List UInt8} (h : FlAt w b f pv S) (e : w'.heap[b]? = w.heap[b]?) : FlAt w' b f pv S := by
  obtain ⟨cs, h1, r⟩ := h
  exact ⟨cs, e.trans h1, r⟩
theorem FlAt.blk {w : World} {b : Nat} {f : Bool} {pv : Value} {S : Nat → List UInt8} (h : FlAt w b f pv S) : ∃ cs : Array Value, w.heap[b]? = some (.cells cs 128 (0, 0)) ∧ cs.size = 1666 := by
  obtain ⟨cs, h1, h2, r⟩ := h
  exact ⟨cs, h1, h2⟩
theorem FlAt.store {w : World} {b p : Nat} {f : Bool} {pv : Value} {S : Nat → List UInt8} {x : List UInt8} (h : FlAt w b f pv S) (hp : p < 52) (hx : x.length = 32) :
    FlAt (w.setCells b (p * 32) (x.map bv)) b f pv (fun a => if p = a then x else S a) ∧ Keep (fun k => k = b) w (w.setCells b (p * 32) (x.map bv)) := by
  obtain ⟨cs, h1, h2, h3, h4, h5, h6⟩ := h
  have hyl : (x.map bv).length = 32 := by rw [List.length_map]; exact hx
  obtain ⟨cs', e1, e2, e3⟩ := setCells_putB b 128 (0, 0) (x.map bv) (p * 32) cs w h1 (by omega)
  rw [e1]
  rw [hyl] at e3
  refine ⟨⟨cs', putB_get_self (heap_lt h1) _, by omega, fun a ha => ?_, fun a ha j hj => ?_, ?_, ?_⟩, ⟨rfl, rfl, rfl, by simp, fun k _ hk => putB_get_other w hk _⟩⟩
  · show (if p = a then x else S a).length = 32
    split
    · exact hx
    · exact h3 a ha
  · show _ = ((if p = a then x else S a).map bv)[j]?
    rw [e3]
    by_cases e : p = a
    · subst e
      rw [if_pos (by omega), if_pos rfl]
      congr 1
      omega
    · rw [if_neg (by omega), if_neg e]
      exact h4 a ha j hj
  · rw [e3, if_neg (by omega)]; exact h5
  · rw [e3, if_neg (by omega)]; exact h6
theorem FlAt.done {w : World} {b : Nat} {f : Bool} {pv : Value} {S : Nat → List UInt8} (h : FlAt w b f pv S) :
    DiskAt (w.setCell ⟨b, 1664, none⟩ (.slice none 0 0)) b none ⟨S, [], f⟩ ∧ Keep (fun k => k = b) w (w.setCell ⟨b, 1664, none⟩ (.slice none 0 0)) := by
  obtain ⟨cs, h1, h2, h3, h4, h5, h6⟩ := h
  rw [setCell_putB h1]
  refine ⟨⟨_, .slice none 0 0, putB_get_self (heap_lt h1) _, by simpa using h2, h3, fun a ha j hj => ?_, by simp [show 1664 < cs.size from by omega], ?_, ⟨rfl, .inl ⟨rfl, rfl⟩⟩, ⟨rfl, fun _ => rfl⟩, fun x hx => absurd hx List.not_mem_nil⟩, ⟨rfl, rfl, rfl, by simp, fun k _ hk => putB_get_other w hk _⟩⟩
  · rw [Array.getElem?_setIfInBounds_ne (by omega)]; exact h4 a ha j hj
  · rw [Array.getElem?_setIfInBounds_ne (by decide)]; exact h6
theorem Keep.trans1 {b : Nat} {w w1 w2 : World} (h : Keep (fun k => k = b) w w1) (k : Keep (fun k => k = b) w1 w2) : Keep (fun k => k = b) w w2 :=
  ⟨k.os.trans h.os, k.tape.trans h.tape, k.output.trans h.output, Nat.le_trans h.size k.size, fun j hj hb => (k.block j (Nat.lt_of_lt_of_le hj h.size) hb).trans (h.block j hj hb)⟩
theorem Keep.step1 {b : Nat} {g : Option Nat} {w w1 : World} (h : Keep (fun k => k = b) w w1) : DStep w b g w1 none :=
  ⟨h.os, h.tape, h.output, h.size, fun k hk hb _ => h.block k hk hb, .inr (fun x hx => absurd hx (by simp))⟩
set_option maxRecDepth 100000 in
theorem dflush_bad (d : DM) (b : Nat) (g : Option Nat) (w : World) (h : DiskAt w b g d) (hf : d.failed = true) :
    Calls Try.prog 125 #[.pointer (some ⟨b, 0, none⟩)] w fun e w' => e = .returned (.int .i64 5) ∧ w = w' := by
  obtain ⟨cs, pv, h1, h2, h3, h4, h5, h6, h7, h8, h9⟩ := h
  have c6 := cell_blk h1 h6
  rw [hf] at c6
  clear h1 h2 h3 h4 h5 h6 h7 h8 h9 hf
  go_enter Try.func125, Try.ntmps125
  go_wp2
  go_ret
  exact ⟨rfl, rfl⟩
set_option maxRecDepth 100000 in
set_option maxHeartbeats 2000000 in
theorem dflush_ok (d : DM) (b : Nat) (g : Option Nat) (w : World) (h : DiskAt w b g d) (hf : d.failed = false) (hlp : d.pend.length ≤ 1048576) :
    Calls Try.prog 125 #[.pointer (some ⟨b, 0, none⟩)] w fun e w' => e = .returned (.int .i64 0) ∧ DStep w b g w' none ∧ DiskAt w' b none d.flush := by
  obtain ⟨cs, pv, h1, h2, h3, h4, h5, h6, h7, h8, h9⟩ := h
  have c6 := cell_blk h1 h6
  rw [hf] at c6
  have c5 := cell_blk h1 h5
  have f5 : w.frozen? ⟨b, 1664, none⟩ = false := by simp [World.frozen?, h1]
  have hb0 := heap_lt h1
  have hfl : FlAt w b d.failed pv (fun a => rdTo d a 0) := ⟨cs, h1, h2, h3, h4, h5, h6⟩
  rcases h7.2 with ⟨rfl, hp0⟩ | ⟨gg, cap, cur, rfl, _, hgg, hcap, _, hcs, htk⟩
  · have hp : d.pend = [] := List.eq_nil_of_length_eq_zero hp0
    have hdone : DStep w b g (w.setCell ⟨b, 1664, none⟩ (.slice none 0 0)) none ∧ DiskAt (w.setCell ⟨b, 1664, none⟩ (.slice none 0 0)) b none d.flush := by
      obtain ⟨a1, a2⟩ := hfl.done
      refine ⟨a2.step1, ?_⟩
      have e : d.flush = ⟨fun a => rdTo d a 0, [], d.failed⟩ := by
        unfold DM.flush rd
        rw [hp0]
      rw [e]
      exact a1
    have HDONE := Lib.hid hdone
    clear h1 h2 h3 h4 h5 h6 h7 h8 h9 hf hp hp0 hdone hfl hlp
    go_enter Try.func125, Try.ntmps125
    go_wp2_with fail
    refine wp_loop_once ?_
    go_wp2
    go_ret
    exact ⟨rfl, HDONE.out⟩
  · have hg0 := heap_lt hgg
    obtain ⟨n, hn⟩ : ∃ n, n = d.pend.length := ⟨_, rfl⟩
    have hcur : ∀ k, k < n → ∀ j, j < 33 → cur[k * 33 + j]? = (wvals (d.pend.getD k (0, [])))[j]? := fun k hk j hj => by
      rw [← pvals_get d.pend (fun x hx => (h9 x hx).2) k j (by omega) hj, ← htk, List.getElem?_take, if_pos (by omega)]
      simp
    have hpl : ∀ k, k < n → (d.pend.getD k (0, [])).2.length = 32 ∧ (d.pend.getD k (0, [])).1 < 52 := fun k hk => by
      have : d.pend.getD k (0, []) ∈ d.pend := by
        rw [List.getD_eq_getElem?_getD, List.getElem?_eq_getElem (by omega)]; simp
      exact ⟨(h9 _ this).2, (h9 _ this).1⟩
    have hne : gg ≠ b := type_ne hgg h1 (by decide)
    rw [← hn] at c5 hfl hlp hcap
    have HG := Lib.hid hgg; clear hgg
    have HC := Lib.hid hcur; clear hcur
    have HPL := Lib.hid hpl; clear hpl
    have HN := Lib.hid hn; clear hn
    have HFL := Lib.hid hfl; clear hfl
    have HK0 : Hid (Keep (fun k => k = b) w w) := Lib.hid ⟨rfl, rfl, rfl, Nat.le_refl _, fun _ _ _ => rfl⟩
    clear h1 h2 h3 h4 h5 h6 h7 h8 h9 hcs htk hf
    go_enter Try.func125, Try.ntmps125
    go_wp2_with fail
    go_loopw [14] (fun i wr => ∃ k : Nat, k ≤ n ∧ i = .int .i64 k ∧ Hid (FlAt wr b d.failed (.slice (some ⟨gg, 0, none⟩) n cap) (fun a => rdTo d a k)) ∧ Hid (wr.heap[gg]? = some (.cells cur 122 (0, 0))) ∧ Hid (Keep (fun k => k = b) w wr)) (fun i _ => n - (intOf i).toNat)
    case atStart => exact ⟨0, by omega, rfl, HFL, HG, HK0⟩
    case round =>
      obtain ⟨k, hk, rfl, hfa, hgr, hkp⟩ := hrel
      by_cases hlt : k < n
      · obtain ⟨⟨p, x⟩, hpx⟩ : ∃ px : Nat × List UInt8, px = d.pend.getD k (0, []) := ⟨_, rfl⟩
        have hpl := HPL.out k hlt
        have hck := HC.out k hlt
        rw [← hpx] at hpl hck
        have hs : ∀ a, rdTo d a (k + 1) = if p = a then x else rdTo d a k := fun a => by
          have := rdTo_succ (d := d) (a := a) (k := k) (by have := HN.out; omega)
          rw [← hpx] at this
          exact this
        obtain ⟨hxl, hp52⟩ := hpl
        simp only at hxl hp52
        have HXL := Lib.hid hxl; clear hxl
        have HCK := Lib.hid hck; clear hck
        have HS := Lib.hid hs; clear hs
        clear hpx
        have hwl := wvals_length (x := (p, x)) HXL.out
        obtain ⟨wv, hwv⟩ : ∃ wv, wv = wvals (p, x) := ⟨_, rfl⟩
        have hw1 := wvals_one (p, x)
        rw [← hwv] at hwl hw1 HCK
        have HWL := Lib.hid hwl; clear hwl
        have HWV := Lib.hid hwv; clear hwv
        have HW1 := Lib.hid hw1; clear hw1
        have hbr := hfa.out.blk
        obtain ⟨csr, hbr, hcsr⟩ := hbr
        have HBR := Lib.hid hbr
        have hblt := heap_lt hbr
        clear hbr
        have hpi : (p : Int) < 52 := by omega
        go_wp2_with (first | ((with_reducible apply wpL_loadW (vs := wv)); exact HWL.out; rfl; exact hgr.out; exact HCK.out) | ((with_reducible apply wpL_storeNew (w0 := wr) (vs := wv)); rfl; (rw [HWL.out]; exact inf122); exact HW1.out; rfl; rfl; (rw [HWL.out]; rfl)))
        obtain ⟨y, hy⟩ : ∃ y, y = x.map bv := ⟨_, rfl⟩
        have hyl : y.length = 32 := by rw [hy, List.length_map]; exact HXL.out
        have hy1 : ∀ v ∈ y, v.oneCell' = true := by rw [hy]; exact bvs_one x
        have hwy : wv = .int .i64 p :: y := by rw [HWV.out, hy]; rfl
        obtain ⟨wm, hwm⟩ : ∃ wm, wm = wr.alloc (.cells wv.toArray 122) := ⟨_, rfl⟩
        have gm : Gr wr wm := by rw [hwm]; exact Gr.alloc _ _
        have ctm : wm.cell? ⟨wr.heap.size, 0, none⟩ = some (.int .i64 p) := by
          rw [hwm, cell_of_row _ _ _ _ _ _ (heap_alloc_new wr _), hwy]; rfl
        have hrg : wm.rangeAt wr.heap.size 1 y := fun j v hj => by
          rw [hwm, cell_of_row _ _ _ _ _ _ (heap_alloc_new wr _), hwy, Nat.add_comm]
          simpa using hj
        have hbm := gm.get HBR.out
        have hth : wm.there b (p * 32) 32 := fun j hj => by
          rw [cell_of_row _ _ _ _ _ _ hbm]
          refine ⟨by simp [show p * 32 + j < csr.size from by omega], by simp [World.frozen?, hbm]⟩
        have hfm := Lib.hid (hfa.out.keep (gm.get HBR.out |>.trans HBR.out.symm))
        have hgm := Lib.hid (gm.get hgr.out)
        have hkm := Lib.hid (hkp.out.trans1 (Keep.gr gm))
        have HY := Lib.hid hy; clear hy
        rw [← hwm]
        clear hwm hwy hbm hfa hkp
        have hu := und120
        have hi : (Try.prog.info? 120).map (·.size) = some y.length := by rw [hyl]; exact inf120
        have n1 : wr.heap.size ≠ b := by omega
        have ctm2 : (wm.drew.setCells b (p * 32) y).cell? ⟨wr.heap.size, 0, none⟩ = some (.int .i64 p) := by
          rw [World.cell?_setCells_out _ _ _ _ _ (fun e _ => absurd e n1)]; exact (Gr.drew wm).cell ctm
        have hrg2 : (wm.drew.setCells b (p * 32) y).rangeAt wr.heap.size 1 y := World.rangeAt_setCells_apart ((World.rangeAt_drew _ _ _ _).2 hrg) _ _ _ (.inl n1)
        have hth2 : (wm.drew.setCells b (p * 32) y).there b (p * 32) 32 := World.there_setCells ((World.there_drew _ _ _ _).2 hth) _ _ _
        go_region_held3 (fun w' => w'.cell? ⟨wr.heap.size, 0, none⟩ = some (.int .i64 p) ∧ w'.rangeAt wr.heap.size 1 y ∧ w'.there b (p * 32) 32) (first | exact ⟨ctm, hrg, hth⟩ | exact ⟨ctm2, hrg2, hth2⟩) (fail)
        have hst := (hfm.out.keep (w' := wm.drew) rfl).store hp52 HXL.out
        rw [← HY.out] at hst
        obtain ⟨hst1, hst2⟩ := hst
        have hst3 : Hid (FlAt (wm.drew.setCells b (p * 32) y) b d.failed (.slice (some ⟨gg, 0, none⟩) n cap) (fun a => rdTo d a (k + 1))) := Lib.hid (by
          have e : (fun a => rdTo d a (k + 1)) = fun a => if p = a then x else rdTo d a k := funext HS.out
          rw [e]; exact hst1)
        have hg3 : Hid ((wm.drew.setCells b (p * 32) y).heap[gg]? = some (.cells cur 122 (0, 0))) := Lib.hid ((hst2.block gg (heap_lt (w := wm.drew) hgm.out) hne).trans hgm.out)
        have hk3 : Hid (Keep (fun k => k = b) w (wm.drew.setCells b (p * 32) y)) := Lib.hid ((hkm.out.trans1 (Keep.gr (Gr.drew wm))).trans1 hst2)
        clear hst1 hst2 ctm ctm2 hrg hrg2 hth hth2
        go_wp2
        go_roundw
        case rel => exact ⟨k + 1, by omega, by go_num, hst3, hg3, hk3⟩
        case measure => simp [intOf]; omega
      · obtain rfl : k = n := by omega
        obtain ⟨csr, hbr, hcsr⟩ := hfa.out.blk
        have hcell : ∃ u, wr.cell? ⟨b, 1664, none⟩ = some u := ⟨_, cell_blk (v := csr[1664]'(by omega)) hbr (by simp)⟩
        obtain ⟨u, hcell⟩ := hcell
        have hfr : wr.frozen? ⟨b, 1664, none⟩ = false := by simp [World.frozen?, hbr]
        clear hbr
        go_wp2
        go_ret
        obtain ⟨a1, a2⟩ := hfa.out.done
        refine ⟨rfl, (hkp.out.trans1 a2).step1, ?_⟩
        have e : d.flush = ⟨fun a => rdTo d a k, [], d.failed⟩ := by
          unfold DM.flush rd
          rw [← HN.out]
        rw [e]
        exact a1
end Go.Proofs.Ytoalnkhedebpbaa
