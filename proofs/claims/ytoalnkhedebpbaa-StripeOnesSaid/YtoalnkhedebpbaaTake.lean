/- row.Take: what it answers. -/
import Derived.Test.YtoalnkhedebpbaaErase3
namespace Go.Proofs.Ytoalnkhedebpbaa
open Go.RowKit

theorem dskOf_bds {L D C : Int} (h : goodG L D C = true) (r k : Int) : 0 ≤ dskOf L D C r k ∧ dskOf L D C r k < D := by
  obtain ⟨hL1, hL2, hD1, hD2, hC1, hC2, _⟩ := goodG_bds h
  unfold dskOf
  exact ⟨Int.emod_nonneg _ (by omega), Int.emod_lt_of_pos _ (by omega)⟩
theorem parQ_six {L D C : Int} (h : goodG L D C = true) (r : Int) (h6 : L ≠ 5) : 0 ≤ parQ L D C r ∧ parQ L D C r < D := by
  obtain ⟨hL1, hL2, hD1, hD2, hC1, hC2, _⟩ := goodG_bds h
  unfold parQ
  rw [if_neg h6]
  exact ⟨Int.emod_nonneg _ (by omega), Int.emod_lt_of_pos _ (by omega)⟩
/-- A row's data sectors, its P, its Q, out of the disks' sectors. -/
def partsOf (L D C r : Int) (ds : List (List UInt8)) : List (List UInt8) := (List.range (D - (L - 4)).toNat).map fun k : Nat => ds.getD (dskOf L D C r k).toNat []
def pOf (D C r : Int) (ds : List (List UInt8)) : List UInt8 := ds.getD (parP D C r).toNat []
def qOf (L D C r : Int) (ds : List (List UInt8)) : List UInt8 := if L = 5 then [] else ds.getD (parQ L D C r).toNat []
def lostR (L D C r : Int) (ds : List (List UInt8)) : Bool := lostF (pOf D C r ds) (qOf L D C r ds) (partsOf L D C r ds)
def takeR (L D C r : Int) (ds : List (List UInt8)) : List (List UInt8) := solvedF (pOf D C r ds) (qOf L D C r ds) (partsOf L D C r ds)
theorem partsOf_length (L D C r : Int) (ds : List (List UInt8)) : (partsOf L D C r ds).length = (D - (L - 4)).toNat := by simp [partsOf]
theorem partsOf_get {L D C r : Int} (ds : List (List UInt8)) {k : Nat} (hk : k < (D - (L - 4)).toNat) : (partsOf L D C r ds).getD k [] = ds.getD (dskOf L D C r k).toNat [] := by
  simp [partsOf, hk]
theorem rows_nil (w : World) : BytesAt w (.slice none 0 0) [] := .inl ⟨rfl, none, 0, rfl⟩

set_option maxRecDepth 100000 in
set_option maxHeartbeats 2000000 in
theorem take_good (L D C r : Int) (ds : List (List UInt8)) (v : Value) (w : World) (h : goodG L D C = true) (hr : 0 ≤ r) (hr' : r < 16) (hv : RowsAt w v ds) (hd : (ds.length : Int) = D) (hs : ∀ i, i < ds.length → sec0 (ds.getD i [])) :
    Calls Try.prog 78 #[gv L D C, .int .i64 r, v] w fun e w' => ∃ x, e = .returned (.tuple #[x, .bool (!lostR L D C r ds)]) ∧ (lostR L D C r ds = false → RowsAt w' x (takeR L D C r ds)) ∧ Gr w w' := by
  obtain ⟨hL1, hL2, hD1, hD2, hC1, hC2, _⟩ := goodG_bds h
  rcases hv.cases with ⟨rfl, _⟩ | ⟨b, off, cap, vs, rfl, _, hb0, hvl, hc, hb⟩
  · simp at hd; omega
  obtain ⟨W, hW⟩ : ∃ W : Nat, D - (L - 4) = W := ⟨(D - (L - 4)).toNat, by omega⟩
  have hW8 : W < 8 := by omega
  have hW1 : 1 < W := by have := goodG_cases h; omega
  have hWn : (D - (L - 4)).toNat = W := by omega
  obtain ⟨n, hn⟩ : ∃ n, n = ds.length := ⟨_, rfl⟩
  rw [← hn] at hc hb hd hs
  rw [← hn]
  clear hv
  have HNN := Lib.hid hn; clear hn
  have H := Lib.hid h; clear h
  have HC := Lib.hid hc; clear hc
  have HB := Lib.hid hb; clear hb
  have HS := Lib.hid hs; clear hs
  have hP := parP_range (D := D) (C := C) (r := r) (by omega)
  obtain ⟨p, hp⟩ : ∃ p : Nat, parP D C r = p := ⟨(parP D C r).toNat, by omega⟩
  rw [hp] at hP
  have HPP := Lib.hid hp; clear hp
  have HWN := Lib.hid hWn; clear hWn
  have HDN := Lib.hid hd
  have dne : ((n : Int) != D) = false := by simp [hd]
  clear hvl hd
  go_enter Try.func78, Try.ntmps78
  go_wp2_with fail
  refine (rowin_good L D C r _ H.out).mono ?_
  rintro e w1 ⟨rfl, hg⟩
  have g1 : Gr w w1 := (Gr.alloc w _).trans hg
  obtain ⟨c0, c1, c2⟩ := box3 (hg.get (heap_alloc_new w _))
  clear hg
  rw [decide_eq_true hr, decide_eq_true hr']
  go_wp2_with fail
  refine (width_good L D C _ H.out).mono ?_
  rintro e w2 ⟨rfl, hg2⟩
  replace g1 := g1.trans hg2
  replace c0 := hg2.cell c0
  replace c1 := hg2.cell c1
  replace c2 := hg2.cell c2
  clear hg2
  rw [hW]
  have hd2 : D ≤ (n : Int) := by have := HDN.out; omega
  clear hW
  go_wp2_with fail
  go_loopw [8, 25] (fun v i wr => ∃ (k : Nat) (us : List Value), k ≤ W ∧ i = .int .i64 k ∧ us.length = k ∧ wr.ownsRow w2.heap.size 43 1 v k us ∧ Hid (∀ j, j < k → BytesAt wr (us.getD j undef) (ds.getD (dskOf L D C r j).toNat [])) ∧ Gr w2 wr) (fun _ i _ => W - (intOf i).toNat)
  case atStart => exact ⟨0, [], by omega, rfl, rfl, World.ownsRow_nil _ _ _ _, Lib.hid (fun j hj => by omega), Gr.refl _⟩
  case round =>
    obtain ⟨k, us, hk, rfl, hul, hown, hrows, hg⟩ := hrel
    have b0 := hg.cell c0
    have b1 := hg.cell c1
    have b2 := hg.cell c2
    have hsz := hg.size
    by_cases hlt : k < W
    · obtain ⟨hd0, hd1⟩ := dskOf_bds H.out r k
      obtain ⟨d, hd⟩ : ∃ d : Nat, dskOf L D C r k = d := ⟨(dskOf L D C r k).toNat, by omega⟩
      rw [hd] at hd0 hd1
      have hdn : d < n := by omega
      have HD := Lib.hid hd; clear hd
      have ck := (g1.trans hg).cell (HC.out d hdn)
      have hbk := (HB.out d hdn).gr (g1.trans hg)
      obtain ⟨ak, nk, capk, hsh⟩ := (HB.out d hdn).sl
      rw [hsh] at ck hbk
      have HBK := Lib.hid hbk; clear hbk hsh
      clear hd1 hd0
      go_wp2_with fail
      refine (disk_good L D C r k _ H.out hr hr' (by omega) (by have := HWN.out; omega)).mono ?_
      rintro e w3 ⟨rfl, hg3⟩
      have ck3 := hg3.cell ck
      have hs3 := hg3.size
      rw [HD.out]
      go_wp2_with ((with_reducible apply wpL_append1 slRows infRows rfl (by decide)); rfl; rfl; exact (own_gr hown hg3).alloc _; exact cell_new _ _ _ _ rfl; rfl; omega; (simp; omega); (intro v' w4 hown' hgr))
      have o2 := (own_gr hown hg3).alloc (.cells #[.slice ak nk capk] 43)
      go_roundw
      case rel =>
        refine ⟨k + 1, us ++ [.slice ak nk capk], by omega, by go_num, by simp [hul], hown', Lib.hid ?_, ?_⟩
        · refine rows_snoc (f := fun j : Nat => ds.getD (dskOf L D C r j).toNat []) hul (fun j hj => ?_) ?_
          · exact (((hrows.out j hj).gr hg3).gr (Gr.alloc _ _)).grown o2 hgr
          · refine BytesAt.grown ?_ o2 hgr
            have e : (dskOf L D C r (k : Nat)).toNat = d := by have := HD.out; omega
            show BytesAt _ _ (ds.getD (dskOf L D C r (k : Nat)).toNat [])
            rw [e]
            exact (HBK.out.gr hg3).gr (Gr.alloc _ _)
        · exact Below.grown (Below.alloc (hg.trans hg3) (by omega) _) hgr (by simp; omega) (fun j hj => ((own_gr hown hg3).lt j hj).1)
      case measure => simp [intOf]; omega
    · obtain rfl : k = W := by omega
      have hR : RowsAt wr u8 (partsOf L D C r ds) := by
        have e : (partsOf L D C r ds).length = k := by rw [partsOf_length]; exact HWN.out
        refine ⟨us, SlAt.own hown (by omega), by rw [e]; exact hul, fun j hj => ?_⟩
        rw [partsOf_get ds (by rw [HWN.out]; omega)]
        exact hrows.out j (by omega)
      have HR := Lib.hid hR; clear hR hown hrows hul hlt
      have sp : sec0 (ds.getD p []) := HS.out p (by omega)
      have SP := Lib.hid sp; clear sp
      have SS : Hid (∀ i, i < (partsOf L D C r ds).length → sec0 ((partsOf L D C r ds).getD i [])) := Lib.hid fun i hi => by
        rw [partsOf_length] at hi
        rw [partsOf_get ds hi]
        have := dskOf_bds H.out r i
        exact HS.out _ (by have := HDN.out; omega)
      have PL0 : Hid (0 < (partsOf L D C r ds).length ∧ (partsOf L D C r ds).length ≤ 8) := Lib.hid (by rw [partsOf_length, HWN.out]; omega)
      have POF : Hid (pOf D C r ds = ds.getD p []) := Lib.hid (by unfold pOf; rw [HPP.out]; rfl)
      replace g1 := g1.trans hg
      have hpn : p < n := by omega
      go_wp2_with fail
      refine (parity_good L D C r _ H.out hr hr').mono ?_
      rintro e w3 ⟨rfl, hg3⟩
      rw [HPP.out]
      replace g1 := g1.trans hg3
      have cp := g1.cell (HC.out p hpn)
      have hbp := (HB.out p hpn).gr g1
      obtain ⟨ap, np, capp, hsp⟩ := (HB.out p hpn).sl
      rw [hsp] at cp hbp
      have HBP := Lib.hid hbp; clear hbp hsp
      have HR := Lib.hid (HR.out.gr hg3)
      obtain ⟨ur, nr, capr, hur⟩ : ∃ a n' c, u8 = .slice a n' c := by
        obtain ⟨a, c, e⟩ := HR.out.shape
        exact ⟨a, _, c, e⟩
      subst hur
      clear hg3
      by_cases h5 : L = 5
      · subst h5
        have hq : parQ 5 D C r = -1 := if_pos rfl
        rw [hq]
        have QOF : Hid (qOf 5 D C r ds = []) := Lib.hid (if_pos rfl)
        clear hq
        go_wp2_with fail
        refine (solve_any (ds.getD p []) [] (partsOf 5 D C r ds) _ _ _ _ HBP.out (rows_nil _) HR.out PL0.out.1 PL0.out.2 SS.out SP.out (.inl rfl)).mono ?_
        rintro e w4 ⟨x, rfl, hx, hg4⟩
        go_wp2
        go_ret2
        unfold lostR takeR
        rw [POF.out, QOF.out]
        exact ⟨x, rfl, hx, g1.trans hg4⟩
      · have hq := parQ_six H.out r h5
        obtain ⟨q, hqq⟩ : ∃ q : Nat, parQ L D C r = q := ⟨(parQ L D C r).toNat, by omega⟩
        rw [hqq] at hq
        rw [hqq]
        have QOF : Hid (qOf L D C r ds = ds.getD q []) := Lib.hid (by unfold qOf; rw [if_neg h5, hqq]; rfl)
        clear hqq h5
        have hqn : q < n := by omega
        have cq := g1.cell (HC.out q hqn)
        have hbq := (HB.out q hqn).gr g1
        obtain ⟨aq, nq, capq, hsq⟩ := (HB.out q hqn).sl
        rw [hsq] at cq hbq
        have HBQ := Lib.hid hbq; clear hbq hsq
        have SQ := Lib.hid (HS.out q hqn)
        have q0 : ((q : Int) < 0) = False := by simp
        go_wp2_with fail
        go_region_held3 (fun wx : World => wx.cell? ⟨b, off + p, none⟩ = some (.slice ap np capp) ∧ wx.cell? ⟨b, off + q, none⟩ = some (.slice aq nq capq)) (first | exact ⟨cp, cq⟩ | exact ⟨((Gr.drew _).trans hg4).cell cp, ((Gr.drew _).trans hg4).cell cq⟩) (first | (go_at_call 110; refine (solve_any (ds.getD p []) (ds.getD q []) (partsOf L D C r ds) _ _ _ _ (HBP.out.gr (Gr.drew _)) (HBQ.out.gr (Gr.drew _)) (HR.out.gr (Gr.drew _)) PL0.out.1 PL0.out.2 SS.out SP.out SQ.out).mono ?_; rintro e w4 ⟨x, rfl, hx, hg4⟩))
        go_wp2
        go_ret2
        unfold lostR takeR
        rw [POF.out, QOF.out]
        exact ⟨x, rfl, hx, (g1.trans (Gr.drew _)).trans hg4⟩
end Go.Proofs.Ytoalnkhedebpbaa
