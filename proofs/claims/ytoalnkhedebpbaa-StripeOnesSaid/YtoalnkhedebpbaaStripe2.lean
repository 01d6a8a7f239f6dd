/- stripe.One, while there is power. -/
import Derived.Test.YtoalnkhedebpbaaStripe1
import Derived.Test.YtoalnkhedebpbaaNum
namespace Go.Proofs.Ytoalnkhedebpbaa
open Go.RowKit

def dOf (L D C n : Int) : Nat := (dskOf L D C (rowOf L D C n) (colOf L D C n)).toNat
def oneLost (m : BM) (l : List Bool) (L D C n : Int) : Bool := !upF m l (dOf L D C n) && lostR L D C (rowOf L D C n) (seen m l D.toNat (36 + (rowOf L D C n).toNat))
def oneV (m : BM) (l : List Bool) (L D C n : Int) : List UInt8 :=
  if upF m l (dOf L D C n) then rd (m.d (dOf L D C n)) (36 + (rowOf L D C n).toNat) else (takeR L D C (rowOf L D C n) (seen m l D.toNat (36 + (rowOf L D C n).toNat))).getD (colOf L D C n).toNat []
theorem lostF_solved {p q : List UInt8} {ps : List (List UInt8)} : (solvedF p q ps).length = ps.length := by
  unfold solvedF
  simp only
  split
  · simp
  · split <;> simp
  · simp
theorem takeR_length (L D C r : Int) (ds : List (List UInt8)) : (takeR L D C r ds).length = (D - (L - 4)).toNat := by
  unfold takeR
  rw [lostF_solved, partsOf_length]
theorem ints_cells {w : World} {v : Value} {zs : List Int} (h : SlAt w 3 v (ints zs)) (h0 : 0 < zs.length) : ∃ b off cap, v = .slice (some ⟨b, off, none⟩) zs.length cap ∧ ∀ i, i < zs.length → w.cell? ⟨b, off + i, none⟩ = some (.int .i64 (zs.getD i 0)) := by
  rcases h with ⟨h1, _⟩ | ⟨b, off, cap, cs, fr, rfl, hb, hc, _⟩
  · have : zs = [] := by simpa [ints] using h1
    subst this
    simp at h0
  · refine ⟨b, off, cap, by simp [ints], fun i hi => ?_⟩
    rw [cell_of_row w b _ cs _ fr hb, hc i (by simpa [ints] using hi)]
    simp [ints, hi]
theorem numsOf_get {L D C r : Int} {i : Nat} (hi : i < (D - (L - 4)).toNat) : (numsOf L D C r).getD i 0 = numOf L D C r i := by simp [numsOf, hi]
theorem numsOf_length (L D C r : Int) : (numsOf L D C r).length = (D - (L - 4)).toNat := by simp [numsOf]
set_option maxRecDepth 100000 in
set_option maxHeartbeats 2000000 in
theorem sone_ok (m : BM) (l : List Bool) (F : Nat → Prop) (L D C n : Int) (bb : Nat) (v : Value) (w : World) (h : BenchAt w F bb m) (hv : BoolsAt w v l) (hg : goodG L D C = true) (hn : 0 ≤ n) (hn' : n < (D - (L - 4)) * 16) (hdn : m.down = false) (hcalm : Calm m) :
    Calls Try.prog 26 #[bp bb, v, gv L D C, .int .i64 n] w fun e w' => ∃ x, e = .returned (.tuple #[x, .int .i64 (lostE (oneLost m l L D C n))]) ∧ (oneLost m l L D C n = false → BytesAt w' x (oneV m l L D C n)) ∧ (oneLost m l L D C n = true → x = .slice none 0 0) ∧ Gr w w' := by
  obtain ⟨hL1, hL2, hD1, hD2, hC1, hC2, _⟩ := goodG_bds hg
  obtain ⟨a, cap, rfl⟩ := hv.shape
  obtain ⟨_, _, _, _, _, _, _, _, _, r0, r1, k0, k1⟩ := of_bds hg hn hn'
  obtain ⟨hd0, hd1⟩ := dskOf_bds hg (rowOf L D C n) (colOf L D C n)
  obtain ⟨r, hr⟩ : ∃ r : Nat, rowOf L D C n = r := ⟨(rowOf L D C n).toNat, by omega⟩
  obtain ⟨k, hk⟩ : ∃ k : Nat, colOf L D C n = k := ⟨(colOf L D C n).toNat, by omega⟩
  obtain ⟨d, hd⟩ : ∃ d : Nat, dskOf L D C r k = d := ⟨(dskOf L D C r k).toNat, by rw [← hr, ← hk]; omega⟩
  have hdo : dOf L D C n = d := by unfold dOf; rw [hr, hk, hd]; rfl
  have hnum : numOf L D C r k = n := by
    rw [← hr, ← hk]
    exact num_row.resolve_right (fun h => h hg)
  rw [hr] at r0 r1
  rw [hk] at k0 k1
  rw [hr, hk, hd] at hd0 hd1
  have hlo : oneLost m l L D C n = (!upF m l d && lostR L D C r (seen m l D.toNat (36 + r))) := by unfold oneLost; rw [hdo, hr]; rfl
  have hva : oneV m l L D C n = if upF m l d then rd (m.d d) (36 + r) else (takeR L D C r (seen m l D.toNat (36 + r))).getD k [] := by unfold oneV; rw [hdo, hr, hk]; rfl
  have r16 : r < 16 := by omega
  have H := Lib.hid h; clear h
  have HV := Lib.hid hv; clear hv
  have HG := Lib.hid hg; clear hg
  have HDW := Lib.hid hdn; clear hdn
  have HCA := Lib.hid hcalm; clear hcalm
  have HLO := Lib.hid hlo; clear hlo
  have HVA := Lib.hid hva; clear hva
  have HNUM := Lib.hid hnum; clear hnum
  have HN := Lib.hid (show 0 ≤ n ∧ n < (D - (L - 4)) * 16 from ⟨hn, hn'⟩)
  have HR := Lib.hid hr; clear hr
  have HK := Lib.hid hk; clear hk
  have HD := Lib.hid hd; clear hd
  clear hdo hn hn'
  obtain ⟨u, hu⟩ : ∃ u, u = upF m l d := ⟨_, rfl⟩
  have HU := Lib.hid hu
  go_enter Try.func26, Try.ntmps26
  go_wp2_with fail
  refine (of_good L D C n _ HG.out HN.out.1 HN.out.2).mono ?_
  rintro e w1 ⟨rfl, hg⟩
  rw [HR.out, HK.out, HD.out]
  have g1 : Gr w w1 := (Gr.alloc w _).trans hg
  obtain ⟨c0, c1, c2⟩ := box3 (hg.get (heap_alloc_new w _))
  clear hg
  go_wp2_with fail
  refine (up_any m l F bb d _ _ (H.out.gr g1) (HV.out.gr g1)).mono ?_
  rintro e w2 ⟨rfl, rfl⟩
  rw [← hu]
  clear hu
  cases u with
  | true =>
    have hul := upF_lt HU.out.symm
    have HE := Lib.hid (rwE_ok (a := 36 + r) HDW.out hul.1 hul.2.2.2 (by omega))
    clear hul
    have hlo : oneLost m l L D C n = false := by rw [HLO.out, ← HU.out]; rfl
    have hva : oneV m l L D C n = rd (m.d d) (36 + r) := by rw [HVA.out, if_pos HU.out.symm]
    have HLO := Lib.hid hlo; clear hlo
    have HVA := Lib.hid hva; clear hva
    go_wp2_with fail
    have e36 : (36 : Int) + (r : Int) = ((36 + r : Nat) : Int) := by omega
    rw [e36]
    clear e36
    refine (bread_any m F bb d (36 + r) _ (H.out.gr g1) HCA.out).mono ?_
    rintro e w3 ⟨x, rfl, _, hx, hg3⟩
    replace hx := hx HE.out
    rw [HE.out]
    have HX := Lib.hid hx; clear hx
    go_wp2
    go_ret2
    rw [HLO.out, HVA.out]
    exact ⟨x, rfl, (fun _ => HX.out), (fun e => absurd e (by decide)), g1.trans hg3⟩
  | false =>
    have hlo : oneLost m l L D C n = lostR L D C r (seen m l D.toNat (36 + r)) := by rw [HLO.out, ← HU.out]; rfl
    have hva : oneV m l L D C n = (takeR L D C r (seen m l D.toNat (36 + r))).getD k [] := by rw [HVA.out, if_neg (by rw [← HU.out]; decide)]
    have HLO := Lib.hid hlo; clear hlo
    have HVA := Lib.hid hva; clear hva
    go_wp2_with fail
    refine (sread_ok m l F L D C r bb _ _ (H.out.gr g1) (HV.out.gr g1) HG.out r16 HDW.out HCA.out).mono ?_
    rintro e w3 ⟨x, rfl, hx, hx', hg3⟩
    rw [← HLO.out]
    rw [← HLO.out] at hx hx'
    obtain ⟨t, ht⟩ : ∃ t, t = oneLost m l L D C n := ⟨_, rfl⟩
    rw [← ht]
    rw [← ht] at hx hx'
    have HT := Lib.hid ht; clear ht
    have b0 := hg3.cell c0
    have b1 := hg3.cell c1
    have b2 := hg3.cell c2
    replace g1 := g1.trans hg3
    cases t with
    | true =>
      go_wp2
      go_ret2
      rw [← HT.out]
      exact ⟨_, rfl, (fun e => absurd e (by decide)), (fun _ => rfl), g1⟩
    | false =>
      have HX := Lib.hid (hx rfl)
      clear hx hx' hg3
      have hlen := takeR_length L D C r (seen m l D.toNat (36 + r))
      obtain ⟨ds, hds⟩ : ∃ ds, ds = takeR L D C r (seen m l D.toNat (36 + r)) := ⟨_, rfl⟩
      rw [← hds] at HX hlen
      have HDS := Lib.hid hds; clear hds
      obtain ⟨W, hW⟩ : ∃ W : Nat, D - (L - 4) = W := ⟨(D - (L - 4)).toNat, by omega⟩
      have hW' : (D - (L - 4)).toNat = W := by omega
      rw [hW'] at hlen
      clear hW'
      rw [hW] at k1
      have hkW : k < W := by omega
      have hW8 : W < 8 := by omega
      have HWW := Lib.hid hW; clear hW k1
      go_wp2_with fail
      refine (numbers_good L D C r _ HG.out (by omega) (by omega)).mono ?_
      rintro e w4 ⟨nv, rfl, hnv, hg4⟩
      have hWn : (D - (L - 4)).toNat = W := by have := HWW.out; omega
      obtain ⟨nb, no, nc, rfl, hnc⟩ := ints_cells hnv (by rw [numsOf_length, hWn]; omega)
      rw [numsOf_length, hWn] at hnc ⊢
      have HNC : Hid (∀ i, i < W → w4.cell? ⟨nb, no + i, none⟩ = some (.int .i64 (numOf L D C r i))) := Lib.hid fun i hi => by
        rw [hnc i hi, numsOf_get (by rw [hWn]; exact hi)]
      clear hnc hnv
      have hX4 := HX.out.gr hg4
      rcases hX4.cases with ⟨rfl, _⟩ | ⟨xb, xo, xc, xs, rfl, _, _, hxl, hxc, hxb⟩
      · simp at hlen; omega
      rw [hlen] at hxc hxb ⊢
      have hxk := hxc k hkW
      have hbk := hxb k hkW
      obtain ⟨ak, nk, ck, hsk⟩ := hbk.sl
      rw [hsk] at hxk hbk
      have HBK := Lib.hid hbk
      have HINJ : Hid (∀ i : Nat, i < k → numOf L D C r i ≠ n) := Lib.hid fun i hi e => by
        have e2 := num_inj (k := i) (k' := k) hC1 (e.trans HNUM.out.symm)
        omega
      clear hX4 hbk hsk hxb hxc hxl hWn hlen b0 b1 b2 c0 c1 c2 hL1 hL2 hD1 hD2 hC1 hC2
      go_wp2_with fail
      go_loopw [52] (fun i wr => ∃ j : Nat, j ≤ k ∧ i = .int .i64 j ∧ Gr w4 wr) (fun i _ => k + 1 - (intOf i).toNat)
      case atStart => exact ⟨0, by omega, rfl, Gr.refl _⟩
      case round =>
        obtain ⟨j, hj, rfl, hgr⟩ := hrel
        have hjW : j < W := by omega
        have cj := hgr.cell (HNC.out j hjW)
        by_cases hjk : j < k
        · have hne := HINJ.out j hjk
          obtain ⟨z, hz⟩ : ∃ z, z = numOf L D C r j := ⟨_, rfl⟩
          rw [← hz] at cj hne
          clear hz
          have hb : (z == n) = false := by rw [beq_eq_false_iff_ne]; exact hne
          clear hne
          go_wp2
          go_roundw
          case rel => exact ⟨j + 1, by omega, by go_num, hgr⟩
          case measure => simp [intOf]; omega
        · obtain rfl : j = k := by omega
          rw [HNUM.out] at cj
          have hb : (n == n) = true := by simp
          have hxk' := hgr.cell hxk
          clear hj hjk
          go_wp2
          go_ret2
          rw [← HT.out, HVA.out, ← HDS.out]
          exact ⟨_, rfl, (fun _ => HBK.out.gr hgr), (fun e => absurd e (by decide)), (g1.trans hg4).trans hgr⟩
end Go.Proofs.Ytoalnkhedebpbaa
