/- stripe.Read, while there is power. -/
import Derived.Test.YtoalnkhedebpbaaStripe0
namespace Go.Proofs.Ytoalnkhedebpbaa
open Go.RowKit

/-- The code of a row that is lost, or is not. -/
def lostE (b : Bool) : Int := if b then 7 else 0
/-- No disk has too much pending. -/
def Calm (m : BM) : Prop := ∀ j, (m.d j).pend.length ≤ 1048576
set_option maxRecDepth 100000 in
set_option maxHeartbeats 2000000 in
theorem sread_ok (m : BM) (l : List Bool) (F : Nat → Prop) (L D C : Int) (r bb : Nat) (v : Value) (w : World) (h : BenchAt w F bb m) (hv : BoolsAt w v l) (hg : goodG L D C = true) (hr : r < 16) (hdn : m.down = false) (hcalm : Calm m) :
    Calls Try.prog 24 #[bp bb, v, gv L D C, .int .i64 r] w fun e w' => ∃ x, e = .returned (.tuple #[x, .int .i64 (lostE (lostR L D C r (seen m l D.toNat (36 + r))))]) ∧ (lostR L D C r (seen m l D.toNat (36 + r)) = false → RowsAt w' x (takeR L D C r (seen m l D.toNat (36 + r)))) ∧ (lostR L D C r (seen m l D.toNat (36 + r)) = true → x = .slice none 0 0) ∧ Gr w w' := by
  obtain ⟨hL1, hL2, hD1, hD2, hC1, hC2, _⟩ := goodG_bds hg
  obtain ⟨a, cap, rfl⟩ := hv.shape
  obtain ⟨DN, hDN⟩ : ∃ DN : Nat, D = DN := ⟨D.toNat, by omega⟩
  subst hDN
  have hDT : ((DN : Int)).toNat = DN := by omega
  rw [hDT]
  clear hDT
  have H := Lib.hid h; clear h
  have HV := Lib.hid hv; clear hv
  have HG := Lib.hid hg; clear hg
  have HDW := Lib.hid hdn; clear hdn
  have HCA := Lib.hid hcalm; clear hcalm
  have r0 : decide ((r : Int) < 0) = false := by rw [decide_eq_false_iff_not]; omega
  have r1 : decide ((r : Int) ≥ 16) = false := by rw [decide_eq_false_iff_not]; omega
  go_enter Try.func24, Try.ntmps24
  go_wp2_with fail
  refine (check_good L DN C _ HG.out).mono ?_
  rintro e w1 ⟨rfl, hg⟩
  have g1 : Gr w w1 := (Gr.alloc w _).trans hg
  obtain ⟨c0, c1, c2⟩ := box3 (hg.get (heap_alloc_new w _))
  clear hg
  go_wp2_with ((with_reducible apply wpL_make1 (n := DN) slRows infRows rfl (by decide)); rfl; rfl; omega)
  obtain ⟨g, hgg⟩ : ∃ g, g = w1.heap.size := ⟨_, rfl⟩
  have hO : ORows (w1.alloc (.cells (zrow (.slice none 0 0) DN) 43)) g DN (seenTo m l DN (36 + r) 0) := by
    rw [hgg]; exact ORows.make (heap_alloc_new w1 _)
  rw [← hgg]
  have hG : Gr w1 (w1.alloc (.cells (zrow (.slice none 0 0) DN) 43)) := Gr.alloc _ _
  obtain ⟨wm, hwm⟩ : ∃ wm, wm = w1.alloc (.cells (zrow (.slice none 0 0) DN) 43) := ⟨_, rfl⟩
  rw [← hwm] at hO hG
  rw [← hwm]
  clear hwm
  have HO := Lib.hid hO; clear hO
  have hgl : w1.heap.size ≤ g := Nat.le_of_eq hgg.symm
  clear hgg
  go_loopw [32] (fun i wr => ∃ k : Nat, k ≤ DN ∧ i = .int .i64 k ∧ Hid (ORows wr g DN (seenTo m l DN (36 + r) k)) ∧ Gr w1 wr) (fun i _ => DN - (intOf i).toNat)
  case atStart => exact ⟨0, by omega, rfl, HO, hG⟩
  case round =>
    obtain ⟨k, hk, rfl, hrow, hg⟩ := hrel
    by_cases hlt : k < DN
    · obtain ⟨x, hu⟩ : ∃ x, x = upF m l k := ⟨_, rfl⟩
      go_wp2_with fail
      refine (up_any m l F bb k _ _ (H.out.gr (g1.trans hg)) (HV.out.gr (g1.trans hg))).mono ?_
      rintro e w3 ⟨rfl, rfl⟩
      rw [← hu]
      cases x with
      | false =>
        have HU := Lib.hid hu; clear hu
        go_wp2
        go_roundw
        case rel =>
          refine ⟨k + 1, by omega, by go_num, Lib.hid ?_, hg⟩
          unfold seenTo
          rw [if_neg (by rw [← HU.out]; decide)]
          exact hrow.out
        case measure => simp [intOf]; omega
      | true =>
        have HU := Lib.hid hu; clear hu
        have hul := upF_lt HU.out.symm
        have HE := Lib.hid (rwE_ok (a := 36 + r) HDW.out hul.1 hul.2.2.2 (by omega))
        clear hul
        go_wp2_with fail
        have e36 : (36 : Int) + (r : Int) = ((36 + r : Nat) : Int) := by omega
        rw [e36]
        clear e36
        refine (bread_any m F bb k (36 + r) _ (H.out.gr (g1.trans hg)) HCA.out).mono ?_
        rintro e w3 ⟨x, rfl, _, hx, hg3⟩
        replace hx := hx HE.out
        rw [HE.out]
        have HO4 := Lib.hid (hrow.out.gr hg3)
        obtain ⟨⟨ud, cd⟩, fd⟩ := HO4.out.cell hlt
        obtain ⟨ax, nx, capx, hsx⟩ := hx.sl
        subst hsx
        have HX := Lib.hid hx; clear hx
        go_wp2
        go_roundw
        case rel =>
          refine ⟨k + 1, by omega, by go_num, Lib.hid ?_, gr_setCell (hg.trans hg3) HO4.out hgl⟩
          unfold seenTo
          rw [if_pos HU.out.symm]
          exact HO4.out.set hlt HX.out
        case measure => simp [intOf]; omega
    · obtain rfl : k = DN := by omega
      have hlen : ((seen m l k (36 + r)).length : Int) = (k : Int) := by unfold seen; rw [seenTo_length]
      have hsec : ∀ i, i < (seen m l k (36 + r)).length → sec0 ((seen m l k (36 + r)).getD i []) := fun i hi => by
        have hi' : i < k := by omega
        rw [seen_get m l k _ hi']
        split
        · rename_i hu
          exact .inr (H.out.rdlen (upF_lt hu).1 (by omega))
        · exact .inl rfl
      have HL := Lib.hid hlen; clear hlen
      have HS := Lib.hid hsec; clear hsec
      have HR : Hid (RowsAt wr (.slice (some ⟨g, 0, none⟩) k k) (seen m l k (36 + r))) := Lib.hid (hrow.out.rows (by omega) k)
      have b0 := hg.cell c0
      have b1 := hg.cell c1
      have b2 := hg.cell c2
      clear hrow hlt hk
      obtain ⟨ds, hds⟩ : ∃ ds, ds = seen m l k (36 + r) := ⟨_, rfl⟩
      rw [← hds] at HL HS HR
      have HDS := Lib.hid hds; clear hds
      go_wp2_with fail
      refine (take_good L k C r ds _ _ HG.out (by omega) (by omega) HR.out HL.out HS.out).mono ?_
      rintro e w3 ⟨x, rfl, hx, hg3⟩
      obtain ⟨t, ht⟩ : ∃ t, t = lostR L k C r ds := ⟨_, rfl⟩
      rw [← ht] at hx ⊢
      have HT := Lib.hid ht; clear ht
      cases t with
      | true =>
        go_wp2
        go_ret2
        rw [← HDS.out, ← HT.out]
        exact ⟨_, rfl, (fun e => absurd e (by decide)), (fun _ => rfl), (g1.trans hg).trans hg3⟩
      | false =>
        have HX := Lib.hid (hx rfl); clear hx
        go_wp2
        go_ret2
        rw [← HDS.out, ← HT.out]
        exact ⟨x, rfl, (fun _ => HX.out), (fun e => absurd e (by decide)), (g1.trans hg).trans hg3⟩
end Go.Proofs.Ytoalnkhedebpbaa
