/- wattlelaw14.wakes: it answers true; rows of noughts. -/
import Derived.Test.YtoalnkhedebpbaaFilled2
namespace Go.Proofs.Ytoalnkhedebpbaa
open Go.RowKit

theorem bsum_zero (f : Nat → UInt8) : ∀ n, bsum f (fun _ => 0) n = 0
  | 0 => rfl
  | n + 1 => by
    show bsum f (fun _ => 0) n ^^^ gmul 0 (f n) = 0
    rw [bsum_zero f n, gmul_zero_left]; rfl
def zdata (n : Nat) : List (List UInt8) := List.replicate n (zeros 32)
theorem zdata_len (n : Nat) : (zdata n).length = n := by simp [zdata]
theorem zdata_get {n i : Nat} (h : i < n) : (zdata n).getD i [] = zeros 32 := by simp [zdata, h]
theorem zdata_sec (n : Nat) : ∀ i, i < (zdata n).length → ((zdata n).getD i []).length = 32 := fun i hi => by
  rw [zdata_len] at hi
  rw [zdata_get hi, zeros_length]
theorem zero_sum (f : Nat → UInt8) (n : Nat) (h : 0 < n) : sumTo f (zdata n) (zdata n).length = zeros 32 := by
  refine getD_ext ?_ (fun j hj => ?_)
  · rw [sumTo_length, zdata_get h]
  · rw [sumTo_length, zdata_get h, zeros_length] at hj
    rw [sumTo_get f _ n j (fun k hk => by rw [zdata_get hk, zeros_length]) (by rw [zdata_get h, zeros_length]) hj _ (by rw [zdata_len]; exact Nat.le_refl _), zdata_len, zeros_get]
    rw [bsum_congr f (y := fun _ => 0) _ (fun k hk => by show ((zdata n).getD k []).getD j 0 = 0; rw [zdata_get hk, zeros_get])]
    exact bsum_zero f n
theorem zero_fill {L D C : Int} (h : goodG L D C = true) (r : Int) {d : Nat} (hd : (d : Int) < D) : (fillR L D C r (zdata (D - (L - 4)).toNat)).getD d [] = zeros 32 := by
  obtain ⟨hL1, hL2, hD1, hD2, hC1, hC2, hw⟩ := goodG_bds h
  rcases dsk_surj h r (d := d) (by omega) hd with e | ⟨h6, e⟩ | ⟨k, hk, e⟩
  · rw [show d = (parP D C r).toNat from by omega, fillR_P h]; exact zero_sum _ _ (by omega)
  · rw [show d = (parQ L D C r).toNat from by omega, fillR_Q h r _ h6]; exact zero_sum _ _ (by omega)
  · rw [show d = (dskOf L D C r k).toNat from by omega, fillR_data h r (by rw [zdata_len]; omega) hk, zdata_get (by omega)]
/-- A row of a bench that has noughts alone. -/
theorem zero_row {L D C : Int} (h : goodG L D C = true) {n : Nat} (hn : D ≤ n) (l : List Bool) (r : Nat) : OnDisks (stdM n (fun _ _ => zeros 32)) l L D C r (zdata (D - (L - 4)).toNat) := by
  obtain ⟨hL1, hL2, hD1, hD2, hC1, hC2, hw⟩ := goodG_bds h
  refine ⟨by rw [zdata_len]; omega, zdata_sec _, fun d hd _ => ?_⟩
  rw [zero_fill h r hd, stdM_d _ (by omega), rd_none rfl]
theorem make32 (w : World) : (Instr.makeSlice 43 (.int .i64 32) (.int .i64 32)).run Try.prog w = .ok (.slice (some ⟨w.heap.size, 0, none⟩) 32 32) (w.alloc (.cells (zrow (.int .u8 0) 32) 5)) := by
  kernel_rfl
theorem stdM_calm (n : Nat) (f : Nat → Nat → List UInt8) : Calm (stdM n f) := fun j => by
  by_cases h : j < n
  · rw [stdM_d _ h]; simp
  · simp [stdM, BM.d, h, dm0]
theorem stdM_up {n : Nat} {f : Nat → Nat → List UInt8} {l : List Bool} {d : Nat} (h : d < n) : upF (stdM n f) l d = (decide (d < l.length) && l.getD d false) := by
  unfold upF
  rw [stdM_len, stdM_d _ h, decide_eq_true h]
  simp
set_option maxRecDepth 100000 in
set_option maxHeartbeats 2000000 in
theorem wakes14 (w : World) :
    Calls Try.prog 31 #[] w fun e w' => e = .returned (.bool true) ∧ Gr w w' := by
  have hmk := make32
  go_enter Try.func31, Try.ntmps31
  go_wp2_with fail
  refine (bnew_any 3 _ (by decide) (by decide)).mono ?_
  rintro e w1 ⟨rfl, ⟨F, hb, hF⟩, hg1⟩
  rw [stdM_zero] at hb
  have HB := Lib.hid hb; clear hb hF
  have HM := Lib.hid hmk; clear hmk
  go_wp2_with fail
  have hbl : BoolsAt (w1.alloc (.cells #[.bool true, .bool true, .bool true] 4)) (.slice (some ⟨w1.heap.size, 0, none⟩) 3 3) [true, true, true] := SlAt.lit (cap := 3) [.bool true, .bool true, .bool true] (heap_alloc_new w1 _) (by decide)
  have hg : goodG 5 3 1 = true := by decide
  have hup : ∀ d, d < 3 → upF (stdM 3 (fun _ _ => zeros 32)) [true, true, true] d = true := fun d hd => by
    rw [stdM_up hd]
    match d, hd with
    | 0, _ => rfl
    | 1, _ => rfl
    | 2, _ => rfl
  have hon := zero_row hg (n := 3) (by decide) [true, true, true] 4
  have hln := lostN_one (m := stdM 3 (fun _ _ => zeros 32)) (l := [true, true, true]) (D := 3) 0 (fun d hd _ => hup d hd)
  have hlost : lostR 5 3 1 (4 : Nat) (seen (stdM 3 (fun _ _ => zeros 32)) [true, true, true] (3 : Int).toNat (36 + 4)) = false := by
    rw [hon.lost hg]
    exact decide_eq_false (by show ¬ (5 - 4 < (lostN _ _ 3 : Int)); omega)
  have htake := hon.take' hg hlost
  have HL := Lib.hid hlost
  have HT := Lib.hid htake
  clear hlost htake hln hon hup
  refine (sread_ok _ [true, true, true] F 5 3 1 4 _ _ _ (HB.out.gr (Gr.alloc _ _)) hbl hg (by decide) rfl (stdM_calm _ _)).mono ?_
  rintro e w2 ⟨x, rfl, hx, -, hg2⟩
  replace hx := hx HL.out
  rw [HL.out, show lostE false = 0 from rfl]
  rw [HT.out] at hx
  clear hbl
  obtain ⟨b, o, c, rfl⟩ := hx.some (by decide)
  obtain ⟨a, k, c2, cx, hbx⟩ := hx.at (i := 0) (by decide)
  have HX := Lib.hid hbx; clear hbx hx
  rw [zdata_get (by decide)] at HX
  rw [Nat.add_zero] at cx
  rw [show (zdata (3 - (5 - 4) : Int).toNat).length = 2 from rfl]
  have hmk := HM.out
  clear HL HT HM
  go_wp2_with fail
  go_region_held3 (fun wx : World => wx.cell? ⟨b, o, none⟩ = some (.slice a k c2)) (first | exact cx | exact (Gr.drew _).cell cx | exact (Gr.alloc _ _).cell ((Gr.drew _).cell cx) | exact y0) (first | (go_at_call 27; refine (same_any (zeros 32) (zeros 32) _ _ _ (HX.out.gr ((Gr.drew _).trans (Gr.alloc _ _))) (BytesAt.zeros (heap_alloc_new _ _) (by decide))).mono ?_; rintro e w4 ⟨rfl, hww⟩; have g4 := ((Gr.drew w2).trans (Gr.alloc _ _)).trans hww; have y0 := g4.cell cx))
  all_goals
    rw [show sameB (zeros 32) (zeros 32) = true from decide_eq_true rfl]
    go_wp2
    go_ret
    exact ⟨rfl, (hg1.trans (Gr.alloc _ _)).trans (hg2.trans g4)⟩
end Go.Proofs.Ytoalnkhedebpbaa
