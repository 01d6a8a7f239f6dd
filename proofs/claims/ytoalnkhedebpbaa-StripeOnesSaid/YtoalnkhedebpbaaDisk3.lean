/- (*Disk).Damage where nothing is pending. -/
import Derived.Test.YtoalnkhedebpbaaDisk2
import Derived.Deep.MidRow
namespace Go.Proofs.Ytoalnkhedebpbaa
open Go.RowKit

theorem putB_self {w : World} {g : Nat} {o : Obj} (h : w.heap[g]? = some o) : putB w g o = w := by
  have hlt := heap_lt h
  unfold putB
  have e : w.heap.setIfInBounds g o = w.heap := by
    apply Array.ext
    · simp
    · intro i h1 h2
      rw [Array.getElem_setIfInBounds (by simpa using h1)]
      by_cases hi : g = i
      · subst hi
        rw [if_pos rfl]
        have := (Array.getElem?_eq_some_iff.1 h).2
        exact this.symm
      · rw [if_neg hi]
  rw [e]
theorem putB_putB (w : World) (g : Nat) (o o' : Obj) : putB (putB w g o) g o' = putB w g o' := by
  unfold putB
  simp
/-- Cells stored one after the other into a block. -/
theorem setCells_putB (g : Nat) (t : TypeId) (fr : Nat × Nat) : ∀ (vs : List Value) (o : Nat) (cs : Array Value) (w : World), w.heap[g]? = some (.cells cs t fr) → o + vs.length ≤ cs.size →
    ∃ cs' : Array Value, w.setCells g o vs = putB w g (.cells cs' t fr) ∧ cs'.size = cs.size ∧ ∀ i, cs'[i]? = if o ≤ i ∧ i < o + vs.length then vs[i - o]? else cs[i]?
  | [], o, cs, w, h, hl => ⟨cs, (putB_self h).symm, rfl, fun i => by rw [if_neg (by rw [List.length_nil]; omega)]⟩
  | v :: r, o, cs, w, h, hl => by
    simp only [List.length_cons] at hl
    have h' := putB_get_self (heap_lt h) (.cells (cs.setIfInBounds o v) t fr)
    obtain ⟨cs', e1, e2, e3⟩ := setCells_putB g t fr r (o + 1) (cs.setIfInBounds o v) _ h' (by rw [Array.size_setIfInBounds]; omega)
    refine ⟨cs', ?_, by simpa using e2, fun i => ?_⟩
    · rw [World.setCells, setCell_putB h, e1, putB_putB]
    · rw [e3 i]
      by_cases hi : o + 1 ≤ i ∧ i < o + 1 + r.length
      · rw [if_pos hi, if_pos (by rw [List.length_cons]; omega)]
        have e : i - o = (i - (o + 1)) + 1 := by omega
        rw [e, List.getElem?_cons_succ]
      · rw [if_neg hi]
        by_cases ho : i = o
        · subst ho
          rw [if_pos (by simp)]
          simp [show i < cs.size from by omega]
        · rw [if_neg (by rw [List.length_cons]; omega), Array.getElem?_setIfInBounds_ne (Ne.symm ho)]
set_option maxRecDepth 100000 in
theorem clonew_nil (w : World) : Calls Try.prog 114 #[.slice none 0 0] w fun e w' => e = .returned (.slice none 0 0) ∧ w = w' := by
  have he : ∀ w : World, (binOp .eql 126 (.slice none 0 0) (.slice none 0 0)).run Try.prog w = .ok (.bool true) w := fun _ => rfl
  go_enter Try.func114, Try.ntmps114
  go_wp2
  go_ret
  exact ⟨rfl, rfl⟩
set_option maxRecDepth 100000 in
theorem idxw_nil (f : Value) (w : World) : Calls Try.prog 137 #[.slice none 0 0, f] w fun e w' => e = .returned (.int .i64 (-1)) ∧ w = w' := by
  go_enter Try.func137, Try.ntmps137
  go_wp2
  refine wp_loop_once ?_
  go_wp2
  go_ret
  exact ⟨rfl, rfl⟩
set_option maxRecDepth 100000 in
theorem delw_nil (f : Value) (w : World) : Calls Try.prog 113 #[.slice none 0 0, f] w fun e w' => e = .returned (.slice none 0 0) ∧ w = w' := by
  go_enter Try.func113, Try.ntmps113
  go_wp2_with fail
  refine (idxw_nil f _).mono ?_
  rintro e w1 ⟨rfl, rfl⟩
  go_wp2
  go_ret
  exact ⟨rfl, rfl⟩
/-- A sector is another one. -/
def DM.put (d : DM) (a : Nat) (x : List UInt8) : DM := { d with sec := fun k => if k = a then x else d.sec k }
set_option maxRecDepth 100000 in
set_option maxHeartbeats 1000000 in
theorem ddamage_ok (d : DM) (at' : Nat) (x : List UInt8) (b : Nat) (g : Option Nat) (u : Value) (w : World) (h : DiskAt w b g d) (hp : d.pend = []) (hm : mayF d at' = 0) (hx : BytesAt w u x) (hl : x.length = 32) :
    Calls Try.prog 82 #[.pointer (some ⟨b, 0, none⟩), .int .i64 at', u] w fun e w' => e = .returned (.int .i64 0) ∧ DStep w b g w' g ∧ DiskAt w' b g (d.put at' x) := by
  have ha : at' < 52 := by
    unfold mayF at hm
    split at hm
    · simp at hm
    · split at hm
      · simp at hm
      · omega
  obtain ⟨a, cap, hu⟩ := hx.shape
  rw [hl] at hu
  subst hu
  obtain ⟨cs, pv, h1, h2, h3, h4, h5, h6, h7, h8, h9⟩ := id h
  have hg0 := h8.2 hp
  subst hg0
  have hpv : pv = .slice none 0 0 := by
    rcases h7.2 with ⟨e, _⟩ | ⟨gg, cap, cur, rfl, _⟩
    · exact e
    · have := h8.1; simp [Value.ownBlock] at this
  subst hpv
  have c5 := cell_blk h1 h5
  have hb0 := heap_lt h1
  have hwl := wvals_length (x := (at', x)) hl
  have hw1 := wvals_one (at', x)
  obtain ⟨wv, hwv⟩ : ∃ wv, wv = wvals (at', x) := ⟨_, rfl⟩
  rw [← hwv] at hwl hw1
  have HWV := Lib.hid hwv; clear hwv
  have HWL := Lib.hid hwl; clear hwl
  have HW1 := Lib.hid hw1; clear hw1
  obtain ⟨Z, hZ⟩ : ∃ Z, Z = zw := ⟨_, rfl⟩
  have hZ1 := z122
  have hZs := zw_size
  rw [← hZ] at hZ1 hZs
  have HZ1 := Lib.hid hZ1; clear hZ1
  have HZS := Lib.hid hZs; clear hZs hZ
  have HM := Lib.hid hm; clear hm
  have HX := Lib.hid hx; clear hx
  have HL := Lib.hid hl; clear hl
  have H := Lib.hid h; clear h
  have HB := Lib.hid h1
  have H2 := Lib.hid h2
  have H3 := Lib.hid h3
  have H4 := Lib.hid h4
  have H5 := Lib.hid h5
  have H6 := Lib.hid h6
  have H7 := Lib.hid h7
  have H8 := Lib.hid h8
  have H9 := Lib.hid h9
  have HPE := Lib.hid hp
  clear h1 h2 h3 h4 h5 h6 h7 h8 h9 hp
  go_enter Try.func82, Try.ntmps82
  go_wp2_with fail
  refine (dput_ok d at' x b none _ _ (H.out.gr (Gr.alloc _ _)) HM.out (HX.out.gr (Gr.alloc _ _)) HL.out).mono ?_
  rintro e w1 ⟨rfl, g1⟩
  rw [← HWV.out]
  have ct := g1.cell (cell_new w (.int .i64 at') 3 w.heap.size rfl)
  replace g1 := (Gr.alloc w _).trans g1
  go_wp2_with (first | ((with_reducible apply wpL_alloc HZ1.out)) | ((with_reducible apply wpL_storeNew (w0 := w1) (vs := wv)); rfl; (rw [HWL.out]; exact inf122); exact HW1.out; rfl; rfl; (rw [HWL.out]; exact HZS.out.symm)))
  obtain ⟨y, hy⟩ : ∃ y, y = x.map bv := ⟨_, rfl⟩
  have hyl : y.length = 32 := by rw [hy, List.length_map]; exact HL.out
  have hy1 : ∀ v ∈ y, v.oneCell' = true := by rw [hy]; exact bvs_one x
  have hwy : wv = .int .i64 at' :: y := by rw [HWV.out, hy]; rfl
  obtain ⟨wm, hwm⟩ : ∃ wm, wm = w1.alloc (.cells wv.toArray 122) := ⟨_, rfl⟩
  have gm : Gr w wm := by rw [hwm]; exact g1.trans (Gr.alloc _ _)
  have ctm : wm.cell? ⟨w.heap.size, 0, none⟩ = some (.int .i64 at') := by rw [hwm]; exact (Gr.alloc _ _).cell ct
  have hrg : wm.rangeAt w1.heap.size 1 y := fun j v hj => by
    rw [hwm, cell_of_row _ _ _ _ _ _ (heap_alloc_new w1 _), hwy, Nat.add_comm]
    simpa using hj
  have hbm : wm.heap[b]? = some (.cells cs 128 (0, 0)) := gm.get HB.out
  have hth : wm.there b (at' * 32) 32 := fun j hj => by
    rw [cell_of_row _ _ _ _ _ _ hbm]
    have := H2.out
    refine ⟨by simp [show at' * 32 + j < cs.size from by omega], by simp [World.frozen?, hbm]⟩
  have HBM := Lib.hid hbm; clear hbm
  have HY := Lib.hid hy; clear hy
  rw [← hwm]
  have g1s := g1.size
  clear hwm ct g1 hwy
  have hu := und120
  have hi : (Try.prog.info? 120).map (·.size) = some y.length := by rw [hyl]; exact inf120
  have ha' : (at' : Int) < 52 := by omega
  have n1 : w.heap.size ≠ b := by omega
  have n2 : w1.heap.size ≠ b := by have := g1s; omega
  have ctm2 : (wm.drew.setCells b (at' * 32) y).cell? ⟨w.heap.size, 0, none⟩ = some (.int .i64 at') := by
    rw [World.cell?_setCells_out _ _ _ _ _ (fun e _ => absurd e n1)]; exact (Gr.drew wm).cell ctm
  have hrg2 : (wm.drew.setCells b (at' * 32) y).rangeAt w1.heap.size 1 y := World.rangeAt_setCells_apart ((World.rangeAt_drew _ _ _ _).2 hrg) _ _ _ (.inl n2)
  have hth2 : (wm.drew.setCells b (at' * 32) y).there b (at' * 32) 32 := World.there_setCells ((World.there_drew _ _ _ _).2 hth) _ _ _
  go_region_held3 (fun w' => w'.cell? ⟨w.heap.size, 0, none⟩ = some (.int .i64 at') ∧ w'.rangeAt w1.heap.size 1 y ∧ w'.there b (at' * 32) 32) (first | exact ⟨ctm, hrg, hth⟩ | exact ⟨ctm2, hrg2, hth2⟩) (fail)
  obtain ⟨cs', e1, e2, e3⟩ := setCells_putB b 128 (0, 0) y (at' * 32) cs wm.drew HBM.out (by have := H2.out; omega)
  rw [hyl] at e3
  have hlt : b < wm.drew.heap.size := heap_lt HBM.out
  rw [e1]
  have hbX := putB_get_self hlt (.cells cs' 128 (0, 0))
  have k5 : cs'[1664]? = some (.slice none 0 0) := by rw [e3, if_neg (by omega)]; exact H5.out
  have cX := cell_blk hbX k5
  have fX : (putB wm.drew b (.cells cs' 128 (0, 0))).frozen? ⟨b, 1664, none⟩ = false := by simp [World.frozen?, hbX]
  obtain ⟨wX, hwX⟩ : ∃ wX, wX = putB wm.drew b (.cells cs' 128 (0, 0)) := ⟨_, rfl⟩
  rw [← hwX] at hbX cX fX ⊢
  have HWX := Lib.hid hwX
  have HBX := Lib.hid hbX
  have E3 := Lib.hid e3
  have E2 := Lib.hid e2
  clear e1 e2 e3 hwX hbX ctm2 hrg2 hth2 ctm hrg hth
  go_wp2_with fail
  refine (clonew_nil _).mono ?_
  rintro e w3 ⟨rfl, rfl⟩
  go_wp2_with fail
  refine (delw_nil _ _).mono ?_
  rintro e w3 ⟨rfl, rfl⟩
  go_wp2
  go_ret
  rw [setCell_putB HBX.out]
  have hX := HWX.out
  have hsz : wX.heap.size = wm.heap.size := by rw [hX, putB_size]; rfl
  have hbl := heap_lt HBX.out
  have c2 := H2.out
  have e2 := E2.out
  refine ⟨rfl, ⟨?_, ?_, ?_, ?_, fun k hk hkb _ => ?_, .inl rfl⟩, ⟨cs'.setIfInBounds 1664 (.slice none 0 0), .slice none 0 0, putB_get_self hbl _, by simp; omega, fun a ha => ?_, fun a ha j hj => ?_, ?_, ?_, ?_, ⟨rfl, fun _ => rfl⟩, H9.out⟩⟩
  · rw [show (putB wX b _).os = wX.os from rfl, hX]; exact gm.os
  · rw [show (putB wX b _).tape = wX.tape from rfl, hX]; exact gm.tape
  · rw [show (putB wX b _).output = wX.output from rfl, hX]; exact gm.output
  · rw [putB_size, hsz]; exact gm.size
  · rw [putB_get_other wX hkb, hX, putB_get_other wm.drew hkb]
    exact gm.block k hk
  · show (if a = at' then x else d.sec a).length = 32
    by_cases e : a = at'
    · rw [if_pos e]; exact HL.out
    · rw [if_neg e]; exact H3.out a ha
  · show _ = ((if a = at' then x else d.sec a).map bv)[j]?
    rw [Array.getElem?_setIfInBounds_ne (by omega), E3.out]
    by_cases e : a = at'
    · subst e
      rw [if_pos (by omega), if_pos rfl, HY.out]
      congr 1
      omega
    · rw [if_neg (by omega), if_neg e]
      exact H4.out a ha j hj
  · simp [show 1664 < cs'.size from by omega]
  · rw [Array.getElem?_setIfInBounds_ne (by decide), E3.out, if_neg (by omega)]
    exact H6.out
  · show World.ownsRow _ 0 _ 33 (.slice none 0 0) d.pend.length (pvals d.pend)
    rw [HPE.out]
    exact ⟨rfl, .inl ⟨rfl, rfl⟩⟩
end Go.Proofs.Ytoalnkhedebpbaa
