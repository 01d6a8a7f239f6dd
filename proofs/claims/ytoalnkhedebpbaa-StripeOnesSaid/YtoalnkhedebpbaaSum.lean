/- synd.sum, P, Q: what they answer for parts of one length. -/
import Derived.Test.YtoalnkhedebpbaaRows2
namespace Go.Proofs.Ytoalnkhedebpbaa
open Go.RowKit

/-- The first k parts, each times a byte, added. -/
def sumTo (f : Nat → UInt8) (ps : List (List UInt8)) : Nat → List UInt8
  | 0 => zeros (ps.getD 0 []).length
  | k + 1 => addB (sumTo f ps k) (scaleB (ps.getD k []) (f k))
theorem sumTo_length (f : Nat → UInt8) (ps : List (List UInt8)) : ∀ k, (sumTo f ps k).length = (ps.getD 0 []).length
  | 0 => zeros_length _
  | k + 1 => by unfold sumTo; rw [addB_length]; exact sumTo_length f ps k
theorem p1_any (k : Nat) (w : World) :
    Calls Try.prog 141 #[.int .i64 (k : Int)] w fun e w' => e = .returned (.int .u8 ((1 : UInt8).toNat : Int)) ∧ w = w' := by
  go_enter Try.func141, Try.ntmps141
  go_wp2
  go_ret
  exact ⟨rfl, rfl⟩
def ones : Nat → UInt8 := fun _ => 1
theorem ones_any (k : Nat) (w : World) (_hk : k < 255) :
    Calls Try.prog 141 #[.int .i64 (k : Int)] w fun e w' => e = .returned (.int .u8 ((ones k).toNat : Int)) ∧ w = w' := p1_any k w

set_option maxRecDepth 100000 in
set_option maxHeartbeats 1000000 in
theorem sum1_cons (ps : List (List UInt8)) (n b off cap : Nat) (vs : List Value) (w : World) (hl : ps.length ≤ 8) (h0 : 0 < ps.length) (hn : n ≤ 1048576) (hv : vs.length = ps.length)
    (hlen : ∀ i, i < ps.length → (ps.getD i []).length = n)
    (hc : ∀ i, i < ps.length → w.cell? ⟨b, off + i, none⟩ = some (vs.getD i undef)) (hb : ∀ i, i < ps.length → BytesAt w (vs.getD i undef) (ps.getD i [])) :
    Calls Try.prog 140 #[.slice (some ⟨b, off, none⟩) ps.length cap, .func (.func 141) #[] #[]] w fun e w' => ∃ r, e = .returned r ∧ BytesAt w' r (sumTo ones ps ps.length) ∧ Gr w w' := by
  have HC := Lib.hid hc; clear hc
  have HB := Lib.hid hb; clear hb
  have HN := Lib.hid hlen; clear hlen
  have HV := Lib.hid hv; clear hv
  have hne : ((ps.length : Int) == 0) = false := by rw [beq_eq_false_iff_ne]; omega
  obtain ⟨a0, cap0, h00⟩ := (HB.out 0 h0).shape
  rw [HN.out 0 h0] at h00
  have c00 := HC.out 0 h0
  rw [h00, Nat.add_zero] at c00
  have H00 := Lib.hid h00; clear h00
  go_enter Try.func140, Try.ntmps140
  go_wp2_with ((with_reducible apply wpL_make1 (n := n) slU8 infU8 rfl (by decide)); rfl; rfl; exact hn)
  go_loopw [5, 18] (fun v i wr => ∃ k : Nat, k ≤ ps.length ∧ i = .int .i64 k ∧ BytesAt wr v (sumTo ones ps k) ∧ Gr w wr) (fun _ i _ => ps.length - (intOf i).toNat)
  case atStart =>
    refine ⟨0, Nat.zero_le _, rfl, ?_, Gr.alloc w _⟩
    unfold sumTo
    rw [HN.out 0 h0]
    exact BytesAt.zeros (heap_alloc_new w _) (by omega)
  case round =>
    obtain ⟨k, hk, rfl, hacc, hg⟩ := hrel
    by_cases hlt : k < ps.length
    · obtain ⟨ak, capk, hsk⟩ := (HB.out k hlt).shape
      rw [HN.out k hlt] at hsk
      have hbk := (HB.out k hlt).gr hg
      rw [hsk] at hbk
      have ck := hg.cell (HC.out k hlt)
      rw [hsk] at ck
      have hal : (sumTo ones ps k).length = n := by rw [sumTo_length]; exact HN.out 0 h0
      obtain ⟨aa, capa, hsa⟩ := hacc.shape
      rw [hal] at hsa
      subst hsa
      have HA := Lib.hid hacc; clear hacc
      have HBK := Lib.hid hbk; clear hbk
      have HSK := Lib.hid hsk; clear hsk
      have HAL := Lib.hid hal; clear hal
      have hnn : ((n : Int) != (n : Int)) = false := by simp
      go_wp2_with fail
      refine (ones_any k _ (by omega)).mono ?_
      rintro e w1 ⟨rfl, rfl⟩
      go_wp2_with fail
      refine (scale_any (ps.getD k []) (ones k) _ _ HBK.out (by rw [HN.out k hlt]; exact hn)).mono ?_
      rintro e w2 ⟨rs, rfl, hrs, hg2⟩
      go_wp2_with fail
      refine (add_any (sumTo ones ps k) (scaleB (ps.getD k []) (ones k)) _ _ _ (HA.out.gr hg2) hrs (by rw [HAL.out, scaleB_length, HN.out k hlt]) (by rw [HAL.out]; exact hn)).mono ?_
      rintro e w3 ⟨rt, rfl, hrt, hg3⟩
      go_wp2
      go_roundw
      case rel => exact ⟨k + 1, by omega, by go_num, hrt, (hg.trans hg2).trans hg3⟩
      case measure => simp [intOf]; omega
    · obtain rfl : k = ps.length := by omega
      go_wp2
      go_ret
      exact ⟨_, rfl, hacc, hg⟩
theorem P_any (ps : List (List UInt8)) (n : Nat) (v : Value) (w : World) (h : RowsAt w v ps) (hl : ps.length ≤ 8) (h0 : 0 < ps.length) (hn : n ≤ 1048576) (hlen : ∀ i, i < ps.length → (ps.getD i []).length = n) :
    Calls Try.prog 118 #[v] w fun e w' => ∃ r, e = .returned r ∧ BytesAt w' r (sumTo ones ps ps.length) ∧ Gr w w' := by
  rcases h.cases with ⟨rfl, _⟩ | ⟨b, off, cap, vs, rfl, _, _, hv, hc, hb⟩
  · simp at h0
  have H := Lib.hid hlen; clear hlen
  have HC := Lib.hid hc; clear hc
  have HB := Lib.hid hb; clear hb
  go_enter Try.func118, Try.ntmps118
  go_wp2_with fail
  refine (sum1_cons ps n b off cap vs _ hl h0 hn hv H.out HC.out HB.out).mono ?_
  rintro e w1 ⟨r, rfl, hr, hg⟩
  go_wp2
  go_ret
  exact ⟨r, rfl, hr, hg⟩

set_option maxRecDepth 100000 in
set_option maxHeartbeats 1000000 in
theorem sum2_cons (ps : List (List UInt8)) (n b off cap : Nat) (vs : List Value) (w : World) (hl : ps.length ≤ 8) (h0 : 0 < ps.length) (hn : n ≤ 1048576) (hv : vs.length = ps.length)
    (hlen : ∀ i, i < ps.length → (ps.getD i []).length = n)
    (hc : ∀ i, i < ps.length → w.cell? ⟨b, off + i, none⟩ = some (vs.getD i undef)) (hb : ∀ i, i < ps.length → BytesAt w (vs.getD i undef) (ps.getD i [])) :
    Calls Try.prog 140 #[.slice (some ⟨b, off, none⟩) ps.length cap, .func (.func 142) #[] #[]] w fun e w' => ∃ r, e = .returned r ∧ BytesAt w' r (sumTo gpow ps ps.length) ∧ Gr w w' := by
  have HC := Lib.hid hc; clear hc
  have HB := Lib.hid hb; clear hb
  have HN := Lib.hid hlen; clear hlen
  have HV := Lib.hid hv; clear hv
  have hne : ((ps.length : Int) == 0) = false := by rw [beq_eq_false_iff_ne]; omega
  obtain ⟨a0, cap0, h00⟩ := (HB.out 0 h0).shape
  rw [HN.out 0 h0] at h00
  have c00 := HC.out 0 h0
  rw [h00, Nat.add_zero] at c00
  have H00 := Lib.hid h00; clear h00
  go_enter Try.func140, Try.ntmps140
  go_wp2_with ((with_reducible apply wpL_make1 (n := n) slU8 infU8 rfl (by decide)); rfl; rfl; exact hn)
  go_loopw [5, 18] (fun v i wr => ∃ k : Nat, k ≤ ps.length ∧ i = .int .i64 k ∧ BytesAt wr v (sumTo gpow ps k) ∧ Gr w wr) (fun _ i _ => ps.length - (intOf i).toNat)
  case atStart =>
    refine ⟨0, Nat.zero_le _, rfl, ?_, Gr.alloc w _⟩
    unfold sumTo
    rw [HN.out 0 h0]
    exact BytesAt.zeros (heap_alloc_new w _) (by omega)
  case round =>
    obtain ⟨k, hk, rfl, hacc, hg⟩ := hrel
    by_cases hlt : k < ps.length
    · obtain ⟨ak, capk, hsk⟩ := (HB.out k hlt).shape
      rw [HN.out k hlt] at hsk
      have hbk := (HB.out k hlt).gr hg
      rw [hsk] at hbk
      have ck := hg.cell (HC.out k hlt)
      rw [hsk] at ck
      have hal : (sumTo gpow ps k).length = n := by rw [sumTo_length]; exact HN.out 0 h0
      obtain ⟨aa, capa, hsa⟩ := hacc.shape
      rw [hal] at hsa
      subst hsa
      have HA := Lib.hid hacc; clear hacc
      have HBK := Lib.hid hbk; clear hbk
      have HSK := Lib.hid hsk; clear hsk
      have HAL := Lib.hid hal; clear hal
      have hnn : ((n : Int) != (n : Int)) = false := by simp
      go_wp2_with fail
      refine (pow_lt k _ (by omega)).mono ?_
      rintro e w1 ⟨rfl, rfl⟩
      go_wp2_with fail
      refine (scale_any (ps.getD k []) (gpow k) _ _ HBK.out (by rw [HN.out k hlt]; exact hn)).mono ?_
      rintro e w2 ⟨rs, rfl, hrs, hg2⟩
      go_wp2_with fail
      refine (add_any (sumTo gpow ps k) (scaleB (ps.getD k []) (gpow k)) _ _ _ (HA.out.gr hg2) hrs (by rw [HAL.out, scaleB_length, HN.out k hlt]) (by rw [HAL.out]; exact hn)).mono ?_
      rintro e w3 ⟨rt, rfl, hrt, hg3⟩
      go_wp2
      go_roundw
      case rel => exact ⟨k + 1, by omega, by go_num, hrt, (hg.trans hg2).trans hg3⟩
      case measure => simp [intOf]; omega
    · obtain rfl : k = ps.length := by omega
      go_wp2
      go_ret
      exact ⟨_, rfl, hacc, hg⟩
theorem Q_any (ps : List (List UInt8)) (n : Nat) (v : Value) (w : World) (h : RowsAt w v ps) (hl : ps.length ≤ 8) (h0 : 0 < ps.length) (hn : n ≤ 1048576) (hlen : ∀ i, i < ps.length → (ps.getD i []).length = n) :
    Calls Try.prog 119 #[v] w fun e w' => ∃ r, e = .returned r ∧ BytesAt w' r (sumTo gpow ps ps.length) ∧ Gr w w' := by
  rcases h.cases with ⟨rfl, _⟩ | ⟨b, off, cap, vs, rfl, _, _, hv, hc, hb⟩
  · simp at h0
  have H := Lib.hid hlen; clear hlen
  have HC := Lib.hid hc; clear hc
  have HB := Lib.hid hb; clear hb
  go_enter Try.func119, Try.ntmps119
  go_wp2_with fail
  refine (sum2_cons ps n b off cap vs _ hl h0 hn hv H.out HC.out HB.out).mono ?_
  rintro e w1 ⟨r, rfl, hr, hg⟩
  go_wp2
  go_ret
  exact ⟨r, rfl, hr, hg⟩
end Go.Proofs.Ytoalnkhedebpbaa
