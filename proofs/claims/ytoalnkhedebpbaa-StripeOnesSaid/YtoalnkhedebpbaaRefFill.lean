/- wattleref01.Fill: what it answers. -/
import Derived.Test.YtoalnkhedebpbaaRefQ2
import Derived.Test.YtoalnkhedebpbaaRef1
namespace Go.Proofs.Ytoalnkhedebpbaa
open Go.RowKit

set_option maxRecDepth 100000 in
set_option maxHeartbeats 2000000 in
theorem rfill_good (L D C r : Int) (data : List (List UInt8)) (v : Value) (w : World) (h : goodG L D C = true) (hr : 0 ≤ r) (hr' : r < 16) (hv : RowsAt w v data) (hd : (data.length : Int) = D - (L - 4)) (hs : ∀ i, i < data.length → (data.getD i []).length = 32) :
    Calls Try.prog 41 #[gv L D C, .int .i64 r, v] w fun e w' => ∃ x, e = .returned (.tuple #[x, .bool true]) ∧ RowsAt w' x (fillR L D C r data) ∧ Gr w w' := by
  obtain ⟨hL1, hL2, hD1, hD2, hC1, hC2, _⟩ := goodG_bds h
  rcases hv.cases with ⟨rfl, _⟩ | ⟨b, off, cap, vs, rfl, _, hb0, hvl, hc, hb⟩
  · have := goodG_cases h; simp at hd; omega
  obtain ⟨DN, hDN⟩ : ∃ DN : Nat, D = DN := ⟨D.toNat, by omega⟩
  subst hDN
  obtain ⟨n, hn⟩ : ∃ n, n = data.length := ⟨_, rfl⟩
  rw [← hn] at hc hb hd hs hv
  rw [← hn]
  have hn8 : n < 8 := by omega
  have hn1 : 1 < n := by have := goodG_cases h; omega
  have HV := Lib.hid hv; clear hv
  have HNN := Lib.hid hn; clear hn
  have H := Lib.hid h; clear h
  have HC := Lib.hid hc; clear hc
  have HB := Lib.hid hb; clear hb
  have HS := Lib.hid hs; clear hs
  have hP := parP_range (D := DN) (C := C) (r := r) (by omega)
  obtain ⟨p, hp⟩ : ∃ p : Nat, parP DN C r = p := ⟨(parP DN C r).toNat, by omega⟩
  rw [hp] at hP
  have HPP := Lib.hid hp; clear hp
  have HDN := Lib.hid hd
  have dne : ((n : Int) != DN - (L - 4)) = false := by simp [hd]
  clear hvl hd
  go_enter Try.func41, Try.ntmps41
  go_wp2_with fail
  refine (rin_good L DN C r _ H.out hr hr').mono ?_
  rintro e w1 ⟨rfl, hg⟩
  have g1 : Gr w w1 := (Gr.alloc w _).trans hg
  obtain ⟨c0, c1, c2⟩ := box3 (hg.get (heap_alloc_new w _))
  clear hg
  go_wp2_with fail
  refine (rwidth_good L DN C _ H.out).mono ?_
  rintro e w2 ⟨rfl, hg2⟩
  replace g1 := g1.trans hg2
  replace c0 := hg2.cell c0
  replace c1 := hg2.cell c1
  replace c2 := hg2.cell c2
  clear hg2
  go_wp2_with ((with_reducible apply wpL_make1 (n := DN) slRows infRows rfl (by decide)); rfl; rfl; omega)
  obtain ⟨g, hgg⟩ : ∃ g, g = w2.heap.size := ⟨_, rfl⟩
  have hO : ORows (w2.alloc (.cells (zrow (.slice none 0 0) DN) 43)) g DN (fillTo L DN C r data 0) := by
    rw [hgg]; exact ORows.make (heap_alloc_new w2 _)
  rw [← hgg]
  have hG : Gr w2 (w2.alloc (.cells (zrow (.slice none 0 0) DN) 43)) := Gr.alloc _ _
  obtain ⟨wm, hwm⟩ : ∃ wm, wm = w2.alloc (.cells (zrow (.slice none 0 0) DN) 43) := ⟨_, rfl⟩
  rw [← hwm] at hO hG
  rw [← hwm]
  clear hwm
  have HO := Lib.hid hO; clear hO
  have hgl : w2.heap.size ≤ g := Nat.le_of_eq hgg.symm
  clear hgg
  have hwg : w.heap.size ≤ g := Nat.le_trans g1.size hgl
  go_loopw [29] (fun i wr => ∃ k : Nat, k ≤ n ∧ i = .int .i64 k ∧ Hid (ORows wr g DN (fillTo L DN C r data k)) ∧ Gr w2 wr) (fun i _ => n - (intOf i).toNat)
  case atStart => exact ⟨0, by omega, rfl, HO, hG⟩
  case round =>
    obtain ⟨k, hk, rfl, hrow, hg⟩ := hrel
    have b0 := hg.cell c0
    have b1 := hg.cell c1
    have b2 := hg.cell c2
    by_cases hlt : k < n
    · obtain ⟨hd0, hd1⟩ := dskOf_bds H.out r k
      obtain ⟨d, hd⟩ : ∃ d : Nat, dskOf L DN C r k = d := ⟨(dskOf L DN C r k).toNat, by omega⟩
      rw [hd] at hd0 hd1
      have hdn : d < DN := by omega
      have HD := Lib.hid hd; clear hd
      have ck := (g1.trans hg).cell (HC.out k hlt)
      have hbk := (HB.out k hlt).gr (g1.trans hg)
      have hk32 := HS.out k hlt
      rcases hbk.cases with ⟨e0, _⟩ | ⟨xb, xo, xc, hsh, _⟩
      · rw [e0] at hk32; simp at hk32
      rw [hk32] at hsh
      rw [hsh] at ck hbk
      have HBK := Lib.hid hbk; clear hbk hsh
      have HK32 := Lib.hid hk32; clear hk32
      clear hd1 hd0
      go_wp2_with fail
      refine (rdisk_good L DN C r k _ H.out hr hr' (by omega) (by have := HDN.out; omega)).mono ?_
      rintro e w3 ⟨rfl, hg3⟩
      rw [HD.out]
      have HSRC : Hid (∀ j u, ((data.getD k []).map bv)[j]? = some u → w3.cell? ((⟨xb, xo, none⟩ : Addr).add j) = some u) := Lib.hid fun j u hj => by
        obtain ⟨b', off', e, hc'⟩ := bytes_src (HBK.out.gr hg3) j u hj
        have e := Option.some.inj e
        injection e with e1 e2
        subst e1; subst e2
        rw [addr_add0]; exact hc'
      go_wp2_with ((with_reducible apply wpL_appendN (v := .slice none 0 0) (base := w3.heap.size) (xs := []) (news := (data.getD k []).map bv) slU8 infU8 rfl (by decide)); rfl; rfl; exact World.ownsRow_nil _ _ _ _; (rw [List.length_map]; exact HK32.out); exact HSRC.out; exact bvs_one _; decide; exact Nat.le_refl _; (intro x w4 hown4 hgr4; have hg4 : Gr w3 w4 := Below.grown (Gr.refl _) hgr4 (Nat.le_refl _) (fun j hj => nomatch hj); have hx : BytesAt w4 x (data.getD k []) := SlAt.own hown4 (by decide); have HO4 := Lib.hid ((hrow.out.gr hg3).gr hg4); obtain ⟨⟨ud, cd⟩, fd⟩ := HO4.out.cell hdn; obtain ⟨ax, nx, capx, hsx⟩ := hx.sl; subst hsx; have HX := Lib.hid hx; clear hx hown4 hgr4))
      go_roundw
      case rel =>
        refine ⟨k + 1, by omega, by go_num, Lib.hid ?_, gr_setCell ((hg.trans hg3).trans hg4) HO4.out hgl⟩
        have e : (dskOf L DN C r (k : Nat)).toNat = d := by have := HD.out; omega
        unfold fillTo
        rw [e]
        exact HO4.out.set hdn HX.out
      case measure => simp [intOf]; omega
    · obtain rfl : k = n := by omega
      clear hlt hk
      have hpn : p < DN := by omega
      go_wp2_with fail
      refine (rparity_good L DN C r _ H.out hr hr').mono ?_
      rintro e w3 ⟨rfl, hg3⟩
      rw [HPP.out]
      have PL : Hid (data.length ≤ 8 ∧ 0 < data.length) := Lib.hid (by have := HNN.out; omega)
      have PS : Hid (∀ i, i < data.length → (data.getD i []).length = 32) := Lib.hid fun i hi => HS.out i (by rw [HNN.out]; exact hi)
      have HR := Lib.hid (hrow.out.gr hg3)
      replace g1 := (g1.trans hg).trans hg3
      replace hg := hg.trans hg3
      clear hrow hg3
      go_wp2_with fail
      refine (refP_ok data 32 _ _ (HV.out.gr g1) PL.out.2 PL.out.1 (by decide) PS.out).mono ?_
      rintro e w4 ⟨x, rfl, hx, hg4⟩
      have HO4 := Lib.hid (HR.out.gr hg4)
      obtain ⟨⟨ud, cd⟩, fd⟩ := HO4.out.cell hpn
      obtain ⟨ax, nx, capx, hsx⟩ := hx.sl
      subst hsx
      have HO5 := Lib.hid (HO4.out.set hpn hx)
      have g5 : Gr w (w4.setCell ⟨g, p, none⟩ (.slice ax nx capx)) := gr_setCell (g1.trans hg4) HO4.out hwg
      clear hx
      by_cases h5 : L = 5
      · subst h5
        have hq : parQ 5 DN C r = -1 := if_pos rfl
        rw [hq]
        have HF : Hid (fillR 5 DN C r data = (fillTo 5 DN C r data k).set p (sumTo ones data data.length)) := Lib.hid (by unfold fillR; rw [if_pos rfl, HPP.out, ← HNN.out]; rfl)
        clear hq
        go_wp2
        go_ret2
        rw [HF.out]
        exact ⟨_, rfl, HO5.out.rows (by omega) _, g5⟩
      · have hq := parQ_six H.out r h5
        obtain ⟨q, hqq⟩ : ∃ q : Nat, parQ L DN C r = q := ⟨(parQ L DN C r).toNat, by omega⟩
        rw [hqq] at hq
        rw [hqq]
        have HF : Hid (fillR L DN C r data = ((fillTo L DN C r data k).set p (sumTo ones data data.length)).set q (sumTo gpow data data.length)) := Lib.hid (by unfold fillR; rw [if_neg h5, HPP.out, hqq, ← HNN.out]; rfl)
        clear hqq h5
        have hqn : q < DN := by omega
        go_wp2_with fail
        refine (refQ_ok data 32 _ _ (HV.out.gr g5) PL.out.2 PL.out.1 (by decide) PS.out).mono ?_
        rintro e w6 ⟨y, rfl, hy, hg6⟩
        have HO6 := Lib.hid (HO5.out.gr hg6)
        obtain ⟨⟨uq, cq⟩, fq⟩ := HO6.out.cell hqn
        obtain ⟨ay, ny, capy, hsy⟩ := hy.sl
        subst hsy
        have HO7 := Lib.hid (HO6.out.set hqn hy)
        have g7 : Gr w (w6.setCell ⟨g, q, none⟩ (.slice ay ny capy)) := gr_setCell (g5.trans hg6) HO6.out hwg
        clear hy
        go_wp2
        go_ret2
        rw [HF.out]
        exact ⟨_, rfl, HO7.out.rows (by omega) _, g7⟩
end Go.Proofs.Ytoalnkhedebpbaa
