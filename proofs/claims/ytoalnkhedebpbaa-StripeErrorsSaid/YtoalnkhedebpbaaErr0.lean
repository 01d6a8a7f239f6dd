/- stripe.Read, One, Write: what they answer at no geometry, without power, at a sector of another length. -/
import Derived.Test.YtoalnkhedebpbaaWrites0
namespace Go.Proofs.Ytoalnkhedebpbaa
open Go.RowKit

theorem rows_lit {w : World} {b cap : Nat} {fr : Nat × Nat} {vs : List Value} {ls : List (List UInt8)} (hb : w.heap[b]? = some (.cells vs.toArray 43 fr)) (hl : vs.length = ls.length) (hn : vs.length ≤ 8) (h : ∀ i, i < ls.length → BytesAt w (vs.getD i undef) (ls.getD i [])) : RowsAt w (.slice (some ⟨b, 0, none⟩) vs.length cap) ls :=
  ⟨vs, SlAt.lit vs hb (by omega), hl, h⟩
theorem BytesAt.front {w : World} {a : Option Addr} {n k cap : Nat} {x : List UInt8} (h : BytesAt w (.slice a n cap) x) (hk : k ≤ x.length) (h0 : 0 < x.length) : BytesAt w (.slice a k cap) (x.take k) := by
  rcases h with ⟨h1, _⟩ | ⟨b, off, cap', cs, fr, hv, hb, hc, hl⟩
  · have : x = [] := by simpa using h1
    subst this; simp at h0
  · injection hv with e1 e2 e3
    subst e1 e3
    refine .inr ⟨b, off, cap, cs, fr, ?_, hb, fun i hi => ?_, ?_⟩
    · simp; omega
    · simp at hi hc
      rw [hc i (by omega)]
      simp [List.getElem?_take]
      omega
    · simp at hl ⊢; omega
theorem sw_limit {l : List Bool} {a : Nat} {X : List (List UInt8)} {m : BM} {k : Nat} (hd : m.down = false) (hl : m.left = k) (hk : (k : Int) ≤ 1000) (hu : ∀ j, j ≤ k → upF m l j = true) : ∀ n, k < n → (stepTo (swF l a X) m n).1 = 6 ∧ (stepTo (swF l a X) m n).2.down = true := by
  have H : ∀ j, j ≤ k → (stepTo (swF l a X) m j).1 = 0 ∧ (stepTo (swF l a X) m j).2.down = false ∧ (stepTo (swF l a X) m j).2.left = (k : Int) - j := by
    intro j
    induction j with
    | zero => intro _; exact ⟨rfl, hd, by rw [show (stepTo (swF l a X) m 0).2 = m from rfl, hl]; simp⟩
    | succ j ih =>
      intro hj
      obtain ⟨h1, h2, h3⟩ := ih (by omega)
      have al := stepTo_alike (swF_alike l a X) m j
      rw [stepTo_ok h1]
      have hup := hu j (by omega)
      rw [← al.up] at hup
      generalize (stepTo (swF l a X) m j).2 = M at *
      unfold swF
      rw [if_pos hup]
      have hf := (upF_lt hup).2.2.2
      unfold BM.wr
      rw [h2, hf, h3, if_neg (by decide), if_neg (by decide), if_neg (by omega)]
      refine ⟨rfl, rfl, ?_⟩
      show (if 0 < (k : Int) - j then wrap64 ((k : Int) - j - 1) else (k : Int) - j) = _
      rw [if_pos (by omega)]
      rw [show wrap64 ((k : Int) - j - 1) = (k : Int) - j - 1 from by unfold wrap64; omega]
      omega
  have H1 : (stepTo (swF l a X) m (k + 1)).1 = 6 ∧ (stepTo (swF l a X) m (k + 1)).2.down = true := by
    obtain ⟨h1, h2, h3⟩ := H k (Nat.le_refl _)
    have al := stepTo_alike (swF_alike l a X) m k
    rw [stepTo_ok h1]
    have hup := hu k (Nat.le_refl _)
    rw [← al.up] at hup
    generalize (stepTo (swF l a X) m k).2 = M at *
    unfold swF
    rw [if_pos hup]
    have hf := (upF_lt hup).2.2.2
    unfold BM.wr
    rw [h2, hf, h3, if_neg (by decide), if_neg (by decide), if_pos (by omega)]
    exact ⟨rfl, rfl⟩
  intro n hn
  rw [stepTo_err (k := k + 1) (by rw [H1.1]; decide) n hn]
  exact H1
set_option maxRecDepth 100000 in
set_option maxHeartbeats 400000 in
theorem fill_len (L D C : Int) (r : Nat) (data : List (List UInt8)) (v : Value) (w : World) (h : goodG L D C = true) (hr : r < 16) (hv : RowsAt w v data) (hd : (data.length : Int) = D - (L - 4)) (hs : data.any notSec = true) :
    Calls Try.prog 87 #[gv L D C, .int .i64 r, v] w fun e w' => e = .returned (.tuple #[.slice none 0 0, .bool false]) ∧ Gr w w' := by
  obtain ⟨a, cap, rfl⟩ := hv.shape
  obtain ⟨n, hn⟩ : ∃ n, n = data.length := ⟨_, rfl⟩
  rw [← hn] at hv hd ⊢
  have HV := Lib.hid hv; clear hv
  have HS := Lib.hid hs; clear hs
  have H := Lib.hid h; clear h
  have dne : ((n : Int) != D - (L - 4)) = false := by simp [hd]
  clear hn
  go_enter Try.func87, Try.ntmps87
  go_wp2_with fail
  refine (rowin_good L D C r _ H.out).mono ?_
  rintro e w1 ⟨rfl, hg⟩
  rw [decide_eq_true (show 0 ≤ (r : Int) from by omega), decide_eq_true (show (r : Int) < 16 from by omega)]
  obtain ⟨c0, c1, c2⟩ := box3 (hg.get (heap_alloc_new w _))
  go_wp2_with fail
  refine (width_good L D C _ H.out).mono ?_
  rintro e w2 ⟨rfl, hg2⟩
  go_wp2_with fail
  refine (sectors_any data _ _ (HV.out.gr (((Gr.alloc w _).trans hg).trans hg2))).mono ?_
  rintro e w3 ⟨rfl, rfl⟩
  rw [HS.out]
  have nb : (Value.bool !true) = .bool false := rfl
  rw [nb]
  go_wp2
  go_ret2
  exact ⟨rfl, ((Gr.alloc w _).trans hg).trans hg2⟩
set_option maxRecDepth 100000 in
set_option maxHeartbeats 400000 in
theorem swrite_len (L D C : Int) (r bb : Nat) (data : List (List UInt8)) (v u : Value) (w : World) (h : goodG L D C = true) (hr : r < 16) (hv : RowsAt w v data) (hd : (data.length : Int) = D - (L - 4)) (hs : data.any notSec = true) :
    Calls Try.prog 55 #[bp bb, u, gv L D C, .int .i64 r, v] w fun e w' => e = .returned (.int .i64 1) ∧ Gr w w' := by
  obtain ⟨a, cap, rfl⟩ := hv.shape
  have HV := Lib.hid hv; clear hv
  go_enter Try.func55, Try.ntmps55
  go_wp2_with fail
  refine (fill_len L D C r data _ _ h hr (HV.out.gr (Gr.alloc _ _)) hd hs).mono ?_
  rintro e w1 ⟨rfl, hg⟩
  go_wp2
  go_ret
  exact ⟨rfl, (Gr.alloc _ _).trans hg⟩
set_option maxRecDepth 100000 in
set_option maxHeartbeats 400000 in
theorem sread_zero (bb : Nat) (v : Value) (r : Int) (w : World) :
    Calls Try.prog 24 #[bp bb, v, gv 0 0 0, .int .i64 r] w fun e w' => e = .returned (.tuple #[.slice none 0 0, .int .i64 1]) ∧ Gr w w' := by
  go_enter Try.func24, Try.ntmps24
  go_wp2_with fail
  refine (check_zero _).mono ?_
  rintro e w1 ⟨rfl, hg⟩
  go_wp2
  go_ret2
  exact ⟨rfl, (Gr.alloc _ _).trans hg⟩
set_option maxRecDepth 100000 in
set_option maxHeartbeats 1000000 in
theorem sread_down (m : BM) (l : List Bool) (F : Nat → Prop) (L D C : Int) (r bb : Nat) (v : Value) (w : World) (h : BenchAt w F bb m) (hv : BoolsAt w v l) (hg : goodG L D C = true) (hr : r < 16) (hdn : m.down = true) (hcalm : Calm m) (hu : upF m l 0 = true) :
    Calls Try.prog 24 #[bp bb, v, gv L D C, .int .i64 r] w fun e w' => e = .returned (.tuple #[.slice none 0 0, .int .i64 6]) ∧ Gr w w' := by
  obtain ⟨hL1, hL2, hD1, hD2, hC1, hC2, _⟩ := goodG_bds hg
  obtain ⟨a, cap, rfl⟩ := hv.shape
  obtain ⟨DN, hDN⟩ : ∃ DN : Nat, D = DN := ⟨D.toNat, by omega⟩
  subst hDN
  have hul := upF_lt hu
  have he : rwE m 0 ((36 + r : Nat) : Int) = 6 := by
    unfold rwE mayB isB
    simp [hul.1, hdn]
  have HE := Lib.hid he; clear he hdn hul
  have H := Lib.hid h; clear h
  have HV := Lib.hid hv; clear hv
  have HG := Lib.hid hg; clear hg
  have HCA := Lib.hid hcalm; clear hcalm
  have HU := Lib.hid hu; clear hu
  have r0 : decide ((r : Int) < 0) = false := by rw [decide_eq_false_iff_not]; omega
  have r1 : decide ((r : Int) ≥ 16) = false := by rw [decide_eq_false_iff_not]; omega
  go_enter Try.func24, Try.ntmps24
  go_wp2_with fail
  refine (check_good L DN C _ HG.out).mono ?_
  rintro e w1 ⟨rfl, hg⟩
  have g1 : Gr w w1 := (Gr.alloc w _).trans hg
  obtain ⟨c0, c1, c2⟩ := box3 (hg.get (heap_alloc_new w _))
  clear hg
  go_wp2_with ((with_reducible apply wpL_make1 (n := DN) slRows infRows rfl (by decide)); rfl; rfl; omega)
  have g2 : Gr w (w1.alloc (.cells (zrow (.slice none 0 0) DN) 43)) := g1.trans (Gr.alloc _ _)
  obtain ⟨wm, hwm⟩ : ∃ wm, wm = w1.alloc (.cells (zrow (.slice none 0 0) DN) 43) := ⟨_, rfl⟩
  rw [← hwm] at g2 ⊢
  clear hwm g1 c0 c1 c2
  have h0 : (0 : Int) < (DN : Int) := by omega
  refine wp_loop_once ?_
  go_wp2_with fail
  refine (up_any m l F bb 0 _ _ (H.out.gr g2) (HV.out.gr g2)).mono ?_
  rintro e w3 ⟨rfl, rfl⟩
  rw [HU.out]
  go_wp2_with fail
  have e36 : (36 : Int) + (r : Int) = ((36 + r : Nat) : Int) := by omega
  rw [e36]
  clear e36
  refine (bread_any m F bb 0 (36 + r) _ (H.out.gr g2) HCA.out).mono ?_
  rintro e w3 ⟨x, rfl, hx, -, hg3⟩
  obtain rfl := hx (by rw [HE.out]; decide)
  rw [HE.out]
  go_wp2
  go_ret2
  exact ⟨rfl, g2.trans hg3⟩
set_option maxRecDepth 100000 in
set_option maxHeartbeats 1000000 in
theorem sone_down (m : BM) (l : List Bool) (F : Nat → Prop) (L D C n : Int) (bb : Nat) (v : Value) (w : World) (h : BenchAt w F bb m) (hv : BoolsAt w v l) (hg : goodG L D C = true) (hn : 0 ≤ n) (hn' : n < (D - (L - 4)) * 16) (hdn : m.down = true) (hcalm : Calm m) (hu : upF m l (dOf L D C n) = true) :
    Calls Try.prog 26 #[bp bb, v, gv L D C, .int .i64 n] w fun e w' => e = .returned (.tuple #[.slice none 0 0, .int .i64 6]) ∧ Gr w w' := by
  obtain ⟨hL1, hL2, hD1, hD2, hC1, hC2, _⟩ := goodG_bds hg
  obtain ⟨a, cap, rfl⟩ := hv.shape
  obtain ⟨_, _, _, _, _, _, _, _, _, r0, r1, k0, k1⟩ := of_bds hg hn hn'
  obtain ⟨hd0, hd1⟩ := dskOf_bds hg (rowOf L D C n) (colOf L D C n)
  obtain ⟨r, hr⟩ : ∃ r : Nat, rowOf L D C n = r := ⟨(rowOf L D C n).toNat, by omega⟩
  obtain ⟨d, hd⟩ : ∃ d : Nat, dskOf L D C (rowOf L D C n) (colOf L D C n) = d := ⟨(dskOf L D C (rowOf L D C n) (colOf L D C n)).toNat, by omega⟩
  have hdo : dOf L D C n = d := by unfold dOf; rw [hd]; rfl
  rw [hdo] at hu
  rw [hr] at r0 r1
  have r16 : r < 16 := by omega
  have hul := upF_lt hu
  have he : rwE m d ((36 + r : Nat) : Int) = 6 := by
    unfold rwE mayB isB
    simp [hul.1, hdn]
  have hof : ∀ w : World, Calls Try.prog 20 #[gv L D C, .int .i64 n] w fun e w' => e = .returned (.tuple #[.int .i64 d, .int .i64 r, .bool true]) ∧ Gr w w' := fun w => by
    have := of_good L D C n w hg hn hn'
    rw [hd, hr] at this
    exact this
  have HE := Lib.hid he; clear he hdn hul
  have HOF := Lib.hid hof; clear hof
  have H := Lib.hid h; clear h
  have HV := Lib.hid hv; clear hv
  have HCA := Lib.hid hcalm; clear hcalm
  have HU := Lib.hid hu; clear hu hg hdo hd hr
  go_enter Try.func26, Try.ntmps26
  go_wp2_with fail
  refine (HOF.out _).mono ?_
  rintro e w1 ⟨rfl, hg1⟩
  have g1 := (Gr.alloc w _).trans hg1
  go_wp2_with fail
  refine (up_any m l F bb d _ _ (H.out.gr g1) (HV.out.gr g1)).mono ?_
  rintro e w3 ⟨rfl, rfl⟩
  rw [HU.out]
  go_wp2_with fail
  have e36 : (36 : Int) + (r : Int) = ((36 + r : Nat) : Int) := by omega
  rw [e36]
  clear e36
  refine (bread_any m F bb d (36 + r) _ (H.out.gr g1) HCA.out).mono ?_
  rintro e w3 ⟨x, rfl, hx, -, hg3⟩
  obtain rfl := hx (by rw [HE.out]; decide)
  rw [HE.out]
  go_wp2
  go_ret2
  exact ⟨rfl, g1.trans hg3⟩
end Go.Proofs.Ytoalnkhedebpbaa
