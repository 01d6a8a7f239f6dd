/- wattleplay.Sector: what it answers. wattleplay.Sectors: what it answers. Integers, bools that came in, as a row's frame has them. wattleref01.alike, P: what they answer for rows of one length. wattleref01.Mul: the product of the field. wattleref01.P: the sum of rows of one length. wattleref01.Q: the sum of rows of one length, each times a power. wattleref01.Fill: what it answers. wattleref01.Numbers: what it answers. -/
import Derived.Test.YtoalnkhedebpbaaD
import Derived.Test.YtoalnkhedebpbaaE
import Derived.DataElems

/-! wattleplay.Sector: what it answers. -/
namespace Go.Proofs.Ytoalnkhedebpbaa
open Go.RowKit

def secI (n : Int) (k : Nat) : Int := wrap64 (n + wrap64 ((k : Int) * bits BinOp.or IntKind.i64 (wrap64 (n.tdiv 7)) 1)) % 256
def secF (n : Int) : List UInt8 := if within n 11 == 10 then zeros 32 else (List.range 32).map fun k : Nat => UInt8.ofNat (secI n k).toNat
theorem secF_length (n : Int) : (secF n).length = 32 := by
  unfold secF
  split
  · exact zeros_length 32
  · simp
def secTo (n : Int) (k : Nat) : List Value := (List.range 32).map fun j : Nat => Value.int .u8 (if j < k then secI n j else 0)
theorem secTo_length (n : Int) (k : Nat) : (secTo n k).length = 32 := by simp [secTo]
theorem secTo_set (n : Int) (k : Nat) (_h : k < 32) : (secTo n k).set k (.int .u8 (secI n k)) = secTo n (k + 1) := by
  apply List.ext_getElem?
  intro j
  unfold secTo
  rw [List.getElem?_set]
  by_cases hj : j < 32
  · by_cases e : k = j
    · subst e; simp [hj]
    · have h1 : (j < k + 1) ↔ (j < k) := by omega
      simp [e, hj, h1]
  · have e : ¬ k = j := by omega
    simp [e, hj]
theorem bv_of {z : Int} (h0 : 0 ≤ z) (h1 : z < 256) : bv (UInt8.ofNat z.toNat) = .int .u8 z := by
  unfold bv
  congr 1
  rw [UInt8.toNat_ofNat']
  have : z.toNat % 2 ^ 8 = z.toNat := Nat.mod_eq_of_lt (by omega)
  omega
theorem secTo_end (n : Int) (h : (within n 11 == 10) = false) : secTo n 32 = (secF n).map bv := by
  unfold secTo secF
  rw [h, if_neg (by decide), List.map_map]
  apply List.map_congr_left
  intro j hj
  have := List.mem_range.1 hj
  rw [if_pos this]
  exact (bv_of (Int.emod_nonneg _ (by decide)) (Int.emod_lt_of_pos _ (by decide))).symm
theorem secTo_zero (n : Int) : (secTo n 0).toArray = zrow (.int .u8 0) 32 := by
  rfl
set_option maxRecDepth 100000 in
set_option maxHeartbeats 1000000 in
theorem sector_any (n : Int) (w : World) :
    Calls Try.prog 29 #[.int .i64 n] w fun e w' => ∃ r, e = .returned r ∧ BytesAt w' r (secF n) ∧ Gr w w' := by
  go_enter Try.func29, Try.ntmps29
  go_wp2_with ((with_reducible apply wpL_make1 (n := 32) slU8 infU8 rfl (by decide)); rfl; rfl; decide)
  refine (within_any n 11 _ (by decide)).mono ?_
  rintro e w1 ⟨rfl, rfl⟩
  obtain ⟨t, ht⟩ : ∃ t, (within n 11 == 10) = t := ⟨_, rfl⟩
  cases t with
  | true =>
    have HF : Hid (secF n = zeros 32) := Lib.hid (by unfold secF; rw [ht]; rfl)
    go_wp2
    go_ret
    rw [HF.out]
    exact ⟨_, rfl, BytesAt.zeros (heap_alloc_new w _) (by decide), Gr.alloc _ _⟩
  | false =>
    have HE := Lib.hid (secTo_end n ht)
    go_wp2
    go_loopw [12] (fun i wr => ∃ k : Nat, k ≤ 32 ∧ i = .int .i64 k ∧ Hid (wr.heap[w.heap.size]? = some (.cells (secTo n k).toArray 5 (0, 0))) ∧ Gr w wr) (fun i _ => 32 - (intOf i).toNat)
    case atStart => exact ⟨0, by omega, rfl, Lib.hid (by rw [secTo_zero]; exact heap_alloc_new w _), Gr.alloc _ _⟩
    case round =>
      obtain ⟨k, hk, rfl, hv, hg⟩ := hrel
      by_cases hlt : k < 32
      · have hu : ∃ u, wr.cell? ⟨w.heap.size, k, none⟩ = some u := ⟨_, cell_blk (v := (secTo n k)[k]'(by rw [secTo_length]; exact hlt)) hv.out (by simp)⟩
        obtain ⟨u, hu⟩ := hu
        have hf : wr.frozen? ⟨w.heap.size, k, none⟩ = false := by simp [World.frozen?, hv.out]
        go_wp2
        go_roundw
        case rel =>
          refine ⟨k + 1, by omega, by go_num, Lib.hid ?_, ?_⟩
          · rw [setCell_putB hv.out, putB_get_self (heap_lt hv.out), ← secTo_set n k hlt]
            rw [List.setIfInBounds_toArray]
            rfl
          · rw [setCell_putB hv.out]
            exact below_putB hg (Nat.le_refl _) _
        case measure => simp [intOf]; omega
      · obtain rfl : k = 32 := by omega
        rw [HE.out] at hv
        have HL := Lib.hid (secF_length n)
        go_wp2
        go_ret
        exact ⟨_, rfl, BytesAt.lit hv.out HL.out (by decide), hg⟩
end Go.Proofs.Ytoalnkhedebpbaa

/-! wattleplay.Sectors: what it answers. -/
namespace Go.Proofs.Ytoalnkhedebpbaa
open Go.RowKit

def sectsF (l : List Int) (n : Nat) : List (List UInt8) := (List.range n).map fun i : Nat => secF (l.getD i (3 * (i : Int)))
theorem sectsF_length (l : List Int) (n : Nat) : (sectsF l n).length = n := by simp [sectsF]
theorem sectsF_get (l : List Int) {n i : Nat} (h : i < n) : (sectsF l n).getD i [] = secF (l.getD i (3 * (i : Int))) := by simp [sectsF, h]
theorem ints_shape {w : World} {v : Value} {zs : List Int} (h : SlAt w 3 v (ints zs)) : ∃ a cap, v = .slice a zs.length cap := by
  by_cases h0 : 0 < zs.length
  · obtain ⟨b, off, cap, rfl, _⟩ := ints_cells h h0
    exact ⟨_, cap, rfl⟩
  · have : zs = [] := List.eq_nil_of_length_eq_zero (by omega)
    subst this
    rcases h with ⟨_, a, cap, rfl⟩ | ⟨b, off, cap, cs, fr, rfl, _⟩
    · exact ⟨a, cap, rfl⟩
    · exact ⟨_, cap, rfl⟩
/-- Integers that came in, or a part of them. -/
def IntsIn (w : World) (v : Value) (zs : List Int) : Prop := ∃ a cap, v = .slice a zs.length cap ∧ zs.length ≤ cap ∧ cap ≤ maxLen ∧ ∀ i, i < zs.length → ∃ x, a = some x ∧ w.cell? (x.add i) = some (.int .i64 (zs.getD i 0))
theorem IntsIn.gr {w w' : World} {v : Value} {zs : List Int} (h : IntsIn w v zs) (g : Gr w w') : IntsIn w' v zs := by
  obtain ⟨a, cap, h1, h2, h3, h4⟩ := h
  refine ⟨a, cap, h1, h2, h3, fun i hi => ?_⟩
  obtain ⟨x, e, hc⟩ := h4 i hi
  exact ⟨x, e, g.cell hc⟩
theorem IntsIn.drop {w : World} {a : Option Addr} {n cap j : Nat} {zs : List Int} (h : IntsIn w (.slice a n cap) zs) (hj : j ≤ n) : IntsIn w (.slice (if cap = j then a else a.map (·.add j)) (n - j) (cap - j)) (zs.drop j) := by
  obtain ⟨a', cap', h1, h2, h3, h4⟩ := h
  injection h1 with e1 e2 e3
  subst e1; subst e2; subst e3
  refine ⟨_, _, by rw [List.length_drop], by rw [List.length_drop]; omega, by omega, fun i hi => ?_⟩
  rw [List.length_drop] at hi
  obtain ⟨x, e, hc⟩ := h4 (j + i) (by omega)
  rw [if_neg (by omega), e]
  refine ⟨x.add j, rfl, ?_⟩
  rw [Addr.add_add, hc]
  simp
set_option maxRecDepth 100000 in
set_option maxHeartbeats 1000000 in
theorem sects_any (l : List Int) (n : Nat) (v : Value) (w : World) (h : IntsIn w v l) (hn : n ≤ 8) :
    Calls Try.prog 53 #[v, .int .i64 n] w fun e w' => ∃ r, e = .returned r ∧ RowsAt w' r (sectsF l n) ∧ Gr w w' := by
  obtain ⟨a, cap, rfl, _, _, hc⟩ := h
  have HC := Lib.hid hc; clear hc
  obtain ⟨m, hm⟩ : ∃ m, m = l.length := ⟨_, rfl⟩
  rw [← hm] at HC ⊢
  have HM := Lib.hid hm; clear hm
  go_enter Try.func53, Try.ntmps53
  go_wp2
  go_loopw [5, 6] (fun v i wr => ∃ (k : Nat) (us : List Value), k ≤ n ∧ i = .int .i64 k ∧ us.length = k ∧ wr.ownsRow w.heap.size 43 1 v k us ∧ Hid (∀ j, j < k → BytesAt wr (us.getD j undef) (secF (l.getD j (3 * (j : Int))))) ∧ Gr w wr) (fun _ i _ => n - (intOf i).toNat)
  case atStart => exact ⟨0, [], by omega, rfl, rfl, World.ownsRow_nil _ _ _ _, Lib.hid (fun j hj => by omega), Gr.refl _⟩
  case round =>
    obtain ⟨k, us, hk, rfl, hul, hown, hrows, hg⟩ := hrel
    have hsz := hg.size
    by_cases hlt : k < n
    · by_cases hin : k < m
      · obtain ⟨xa, rfl, ck0⟩ := HC.out k hin
        have ck := hg.cell ck0
        have hz : l.getD k 0 = l.getD k (3 * (k : Int)) := by
          have := HM.out
          simp [show k < l.length from by omega]
        rw [hz] at ck
        obtain ⟨z, hz2⟩ : ∃ z, z = l.getD k (3 * (k : Int)) := ⟨_, rfl⟩
        rw [← hz2] at ck
        have HZ := Lib.hid hz2
        clear hz hz2 ck0
        go_wp2_with fail
        refine (sector_any z _).mono ?_
        rintro e w3 ⟨x, rfl, hx, hg3⟩
        obtain ⟨ax, nx, cx, hsx⟩ := hx.sl
        subst hsx
        have HX := Lib.hid hx; clear hx
        have hs3 := hg3.size
        go_wp2_with ((with_reducible apply wpL_append1 slRows infRows rfl (by decide)); rfl; rfl; exact (own_gr hown hg3).alloc _; exact cell_new _ _ _ _ rfl; rfl; omega; (simp; omega); (intro v' w4 hown' hgr))
        have o2 := (own_gr hown hg3).alloc (.cells #[.slice ax nx cx] 43)
        go_roundw
        case rel =>
          refine ⟨k + 1, us ++ [.slice ax nx cx], by omega, by go_num, by simp [hul], hown', Lib.hid ?_, ?_⟩
          · refine rows_snoc (f := fun j : Nat => secF (l.getD j (3 * (j : Int)))) hul (fun j hj => ?_) ?_
            · exact (((hrows.out j hj).gr hg3).gr (Gr.alloc _ _)).grown o2 hgr
            · refine BytesAt.grown ?_ o2 hgr
              show BytesAt _ _ (secF (l.getD k (3 * (k : Int))))
              rw [← HZ.out]
              exact HX.out.gr (Gr.alloc _ _)
          · exact Below.grown (Below.alloc (hg.trans hg3) (by omega) _) hgr (by simp; omega) (fun j hj => ((own_gr hown hg3).lt j hj).1)
        case measure => simp [intOf]; omega
      · have hz : 3 * (k : Int) = l.getD k (3 * (k : Int)) := by
          have := HM.out
          simp [show ¬ k < l.length from by omega]
        have HZ := Lib.hid hz; clear hz
        go_wp2_with fail
        refine (sector_any (3 * (k : Int)) _).mono ?_
        rintro e w3 ⟨x, rfl, hx, hg3⟩
        obtain ⟨ax, nx, cx, hsx⟩ := hx.sl
        subst hsx
        have HX := Lib.hid hx; clear hx
        have hs3 := hg3.size
        go_wp2_with ((with_reducible apply wpL_append1 slRows infRows rfl (by decide)); rfl; rfl; exact (own_gr hown hg3).alloc _; exact cell_new _ _ _ _ rfl; rfl; omega; (simp; omega); (intro v' w4 hown' hgr))
        have o2 := (own_gr hown hg3).alloc (.cells #[.slice ax nx cx] 43)
        go_roundw
        case rel =>
          refine ⟨k + 1, us ++ [.slice ax nx cx], by omega, by go_num, by simp [hul], hown', Lib.hid ?_, ?_⟩
          · refine rows_snoc (f := fun j : Nat => secF (l.getD j (3 * (j : Int)))) hul (fun j hj => ?_) ?_
            · exact (((hrows.out j hj).gr hg3).gr (Gr.alloc _ _)).grown o2 hgr
            · refine BytesAt.grown ?_ o2 hgr
              show BytesAt _ _ (secF (l.getD k (3 * (k : Int))))
              rw [← HZ.out]
              exact HX.out.gr (Gr.alloc _ _)
          · exact Below.grown (Below.alloc (hg.trans hg3) (by omega) _) hgr (by simp; omega) (fun j hj => ((own_gr hown hg3).lt j hj).1)
        case measure => simp [intOf]; omega
    · obtain rfl : k = n := by omega
      go_wp2
      go_ret
      refine ⟨_, rfl, ?_, hg⟩
      refine ⟨us, SlAt.own hown (by omega), by rw [sectsF_length]; exact hul, fun j hj => ?_⟩
      rw [sectsF_length] at hj
      rw [sectsF_get l hj]
      exact hrows.out j hj
end Go.Proofs.Ytoalnkhedebpbaa

/-! Integers, bools that came in, as a row's frame has them. -/
namespace Go.Proofs.Ytoalnkhedebpbaa
open Go.RowKit

theorem IntsIn.of {w : World} {a : Option Addr} {len cap : Nat} {zs : List Int} (h : (a = none ∧ len = 0 ∧ cap = 0 ∧ zs = []) ∨
    ∃ x, a = some x ∧ len ≤ cap ∧ cap ≤ maxLen ∧ zs.length = cap ∧ (∀ i, i < zs.length → w.cell? (x.add i) = some (.int .i64 (zs.getD i 0))) ∧ ∀ n ∈ zs, (Lit.int .i64 n).wf = true) : IntsIn w (.slice a len cap) (zs.take len) := by
  rcases h with ⟨rfl, rfl, rfl, rfl⟩ | ⟨x, rfl, hl, hm, hz, hc, _⟩
  · exact ⟨none, 0, rfl, by simp, by unfold maxLen; omega, fun i hi => by simp at hi⟩
  · have hlen : (zs.take len).length = len := by rw [List.length_take]; omega
    refine ⟨some x, cap, by rw [hlen], by omega, hm, fun i hi => ⟨x, rfl, ?_⟩⟩
    rw [hlen] at hi
    rw [hc i (by omega)]
    congr 2
    simp [hi]
end Go.Proofs.Ytoalnkhedebpbaa

/-! wattleref01.alike, P: what they answer for rows of one length. -/
namespace Go.Proofs.Ytoalnkhedebpbaa
open Go.RowKit

set_option maxRecDepth 100000 in
set_option maxHeartbeats 1000000 in
theorem alike_ok (ps : List (List UInt8)) (n : Nat) (v : Value) (w : World) (h : RowsAt w v ps) (h0 : 0 < ps.length) (hl : ps.length ≤ 8) (hs : ∀ i, i < ps.length → (ps.getD i []).length = n) :
    Calls Try.prog 120 #[v] w fun e w' => e = .returned (.bool true) ∧ Gr w w' := by
  rcases h.cases with ⟨rfl, _⟩ | ⟨b, off, cap, vs, rfl, _, hb0, hvl, hc, hb⟩
  · simp at h0
  have hcell : ∀ i, i < ps.length → ∃ a c, w.cell? ⟨b, off + i, none⟩ = some (.slice a n c) := fun i hi => by
    obtain ⟨a, c, e⟩ := (hb i hi).shape
    rw [hs i hi] at e
    exact ⟨a, c, by rw [hc i hi, e]⟩
  have HC := Lib.hid hcell
  obtain ⟨m, hm⟩ : ∃ m, m = ps.length := ⟨_, rfl⟩
  rw [← hm] at HC h0 hl ⊢
  clear hcell hc hb hvl hs h hm
  obtain ⟨a0, k0, hc0⟩ := HC.out 0 h0
  rw [Nat.add_zero] at hc0
  have hd : ((n : Int) != (n : Int)) = false := by simp
  have hgt : decide ((m : Int) > 0) = true := by rw [decide_eq_true_iff]; omega
  go_enter Try.func120, Try.ntmps120
  go_wp2
  go_loopw [7] (fun i wr => ∃ k : Nat, k ≤ m ∧ i = .int .i64 k ∧ Gr w wr) (fun i _ => m - (intOf i).toNat)
  case atStart => exact ⟨0, by omega, rfl, Gr.refl _⟩
  case round =>
    obtain ⟨k, hk, rfl, hg⟩ := hrel
    by_cases hlt : k < m
    · obtain ⟨a, c, ck0⟩ := HC.out k hlt
      have ck := hg.cell ck0
      have c00 := hg.cell hc0
      go_wp2
      go_roundw
      case rel => exact ⟨k + 1, by omega, by go_num, hg⟩
      case measure => simp [intOf]; omega
    · obtain rfl : k = m := by omega
      go_wp2
      go_ret
      exact ⟨rfl, hg⟩
end Go.Proofs.Ytoalnkhedebpbaa

/-! wattleref01.Mul: the product of the field. -/
namespace Go.Proofs.Ytoalnkhedebpbaa
open Go.RowKit

def shr (b : UInt8) (k : Nat) : UInt8 := UInt8.ofNat (b.toNat / 2 ^ k)
theorem shr_toNat (b : UInt8) (k : Nat) : (shr b k).toNat = b.toNat / 2 ^ k := by
  unfold shr
  rw [UInt8.toNat_ofNat']
  have := b.toNat_lt
  exact Nat.mod_eq_of_lt (Nat.lt_of_le_of_lt (Nat.div_le_self _ _) this)
theorem shr_succ (b : UInt8) (k : Nat) : shr b k >>> 1 = shr b (k + 1) := by
  apply UInt8.toNat_inj.1
  rw [shr1, shr_toNat, shr_toNat, Nat.pow_succ, Nat.div_div_eq_div_mul]
theorem xor285_all : ((List.range 256).all fun a => decide (a < 128) || decide (bits .xor .i64 ((a : Int) * 2) 285 = ((dbl (UInt8.ofNat a)).toNat : Int))) = true := by decide +kernel
theorem xor285 (a : UInt8) (h : 128 ≤ a.toNat) : bits .xor .i64 ((a.toNat : Int) * 2) 285 = ((dbl a).toNat : Int) := by
  have := List.all_eq_true.1 xor285_all a.toNat (List.mem_range.2 a.toNat_lt)
  simp only [Bool.or_eq_true, decide_eq_true_eq] at this
  rcases this with h1 | h1
  · omega
  · simpa using h1
theorem dbl_low (a : UInt8) (h : a.toNat < 128) : ((dbl a).toNat : Int) = (a.toNat : Int) * 2 := by
  unfold dbl
  rw [if_neg (by omega), shl1]
  omega
theorem bits_xor_i64 (a b : UInt8) : bits .xor .i64 (a.toNat : Int) (b.toNat : Int) = ((a ^^^ b).toNat : Int) := by
  unfold bits
  have ha := a.toNat_lt
  have hb := b.toNat_lt
  have e : ∀ x : UInt8, (BitVec.ofInt (IntKind.i64.bits) (x.toNat : Int)).toNat = x.toNat := by
    intro x
    have hx := x.toNat_lt
    simp [IntKind.bits]
  simp only [BitVec.toNat_xor, e, UInt8.toNat_xor]
  have := Nat.xor_lt_two_pow (n := 8) ha hb
  exact IntWalk.i64_in _ (by omega)
set_option maxRecDepth 100000 in
set_option maxHeartbeats 1000000 in
theorem refmul_any (a0 b0 : UInt8) (w : World) :
    Calls Try.prog 122 #[.int .u8 (a0.toNat : Int), .int .u8 (b0.toNat : Int)] w fun e w' => e = .returned (.int .u8 ((gmul a0 b0).toNat : Int)) ∧ w = w' := by
  have hb0 := b0.toNat_lt
  have ha0 := a0.toNat_lt
  go_enter Try.func122, Try.ntmps122
  go_wp2
  go_loopw [5, 6, 7] (fun x z i wr => ∃ a o : UInt8, ∃ k : Nat, x = .int .i64 (a.toNat : Int) ∧ z = .int .i64 (o.toNat : Int) ∧ i = .int .i64 k ∧ k ≤ 8 ∧ Hid (mulN (8 - k) a (shr b0 k) o = gmul a0 b0) ∧ w = wr) (fun _ _ i _ => 8 - (intOf i).toNat)
  case atStart =>
    refine ⟨a0, 0, 0, rfl, rfl, rfl, by omega, Lib.hid ?_, rfl⟩
    have e : shr b0 0 = b0 := UInt8.toNat_inj.1 (by rw [shr_toNat]; simp)
    rw [e]; rfl
  case round =>
    obtain ⟨a, o, k, rfl, rfl, rfl, hk, hm, rfl⟩ := hrel
    have ha := a.toNat_lt
    have ho := o.toNat_lt
    by_cases hlt : k < 8
    · have hstep : mulN (8 - (k + 1)) (dbl a) (shr b0 (k + 1)) (if (shr b0 k).toNat % 2 = 1 then o ^^^ a else o) = gmul a0 b0 := by
        have h1 := hm.out
        have e : 8 - k = (8 - (k + 1)) + 1 := by omega
        rw [e, mulN, shr_succ] at h1
        exact h1
      have hbit : bits BinOp.and IntKind.u8 ((b0.toNat : Int) / 2 ^ k) 1 = (((shr b0 k).toNat % 2 : Nat) : Int) := by
        have := bits_and1_u8 (shr b0 k)
        rw [← this, shr_toNat]
        congr 1
      have hx := bits_xor_i64 o a
      by_cases hb : (shr b0 k).toNat % 2 = 1
      · rw [if_pos hb] at hstep
        have c1 : (bits BinOp.and IntKind.u8 ((b0.toNat : Int) / 2 ^ k) 1 == 1) = true := by rw [hbit, hb]; rfl
        have HS := Lib.hid hstep; clear hstep hbit hb
        by_cases h8 : 128 ≤ a.toNat
        · have hy := xor285 a h8
          go_wp2
          go_roundw
          case rel => exact ⟨dbl a, o ^^^ a, k + 1, rfl, rfl, by go_num, by omega, HS, trivial⟩
          case measure => simp [intOf]; omega
        · have hy := Lib.hid (dbl_low a (by omega))
          go_wp2
          go_roundw
          case rel => exact ⟨dbl a, o ^^^ a, k + 1, by rw [hy.out], rfl, by go_num, by omega, HS, trivial⟩
          case measure => simp [intOf]; omega
      · rw [if_neg hb] at hstep
        have c1 : (bits BinOp.and IntKind.u8 ((b0.toNat : Int) / 2 ^ k) 1 == 1) = false := by
          have : (shr b0 k).toNat % 2 = 0 := by omega
          rw [hbit, this]; rfl
        have HS := Lib.hid hstep; clear hstep hbit hb
        by_cases h8 : 128 ≤ a.toNat
        · have hy := xor285 a h8
          go_wp2
          go_roundw
          case rel => exact ⟨dbl a, o, k + 1, rfl, rfl, by go_num, by omega, HS, trivial⟩
          case measure => simp [intOf]; omega
        · have hy := Lib.hid (dbl_low a (by omega))
          go_wp2
          go_roundw
          case rel => exact ⟨dbl a, o, k + 1, by rw [hy.out], rfl, by go_num, by omega, HS, trivial⟩
          case measure => simp [intOf]; omega
    · obtain rfl : k = 8 := by omega
      have hf : o = gmul a0 b0 := hm.out
      have HF := Lib.hid hf
      clear hf hm
      go_wp2
      go_ret
      exact ⟨ret_b (by rw [← HF.out]), rfl⟩
theorem gmul2_all : ((List.range 256).all fun a => gmul (UInt8.ofNat a) 2 == dbl (UInt8.ofNat a)) = true := by decide +kernel
theorem gmul2 (a : UInt8) : gmul a 2 = dbl a := by
  have := List.all_eq_true.1 gmul2_all a.toNat (List.mem_range.2 a.toNat_lt)
  simpa using this
set_option maxRecDepth 100000 in
set_option maxHeartbeats 1000000 in
theorem refpow_lt (m : Nat) (w : World) (hm : m < 255) :
    Calls Try.prog 121 #[.int .i64 m] w fun e w' => e = .returned (.int .u8 ((gpow m).toNat : Int)) ∧ w = w' := by
  have h1 : (m : Int).tmod 255 = m := by rw [Int.tmod_eq_emod_of_nonneg (by omega)]; omega
  have d0 : decide ((m : Int) < 0) = false := by rw [decide_eq_false_iff_not]; omega
  go_enter Try.func121, Try.ntmps121
  go_wp2
  go_loopw [0, 3] (fun x z wr => ∃ k j : Nat, x = .int .i64 j ∧ z = .int .u8 ((gpow k).toNat : Int) ∧ k + j = m ∧ w = wr) (fun x _ _ => (intOf x).toNat)
  case atStart => exact ⟨0, m, rfl, rfl, by omega, rfl⟩
  case round =>
    obtain ⟨k, j, rfl, rfl, hkj, rfl⟩ := hrel
    by_cases hlt : 0 < j
    · obtain ⟨i, rfl⟩ : ∃ i, j = i + 1 := ⟨j - 1, by omega⟩
      have HG := Lib.hid (gmul2 (gpow k))
      go_wp2_with fail
      refine (refmul_any (gpow k) 2 _).mono ?_
      rintro e w1 ⟨rfl, rfl⟩
      rw [HG.out]
      go_wp2
      go_roundw
      case rel => exact ⟨k + 1, i, by go_num, rfl, by omega, trivial⟩
      case measure => simp [intOf]
    · obtain rfl : j = 0 := by omega
      obtain rfl : k = m := by omega
      go_wp2
      go_ret
      exact ⟨rfl, rfl⟩
end Go.Proofs.Ytoalnkhedebpbaa

/-! wattleref01.P: the sum of rows of one length. -/
namespace Go.Proofs.Ytoalnkhedebpbaa
open Go.RowKit

/-- The first j bytes of v, then u's. -/
def mixTo (u v : List UInt8) (j : Nat) : List UInt8 := (List.range u.length).map fun i => if i < j then v.getD i 0 else u.getD i 0
theorem mixTo_length (u v : List UInt8) (j : Nat) : (mixTo u v j).length = u.length := by simp [mixTo]
theorem mixTo_zero (u v : List UInt8) : mixTo u v 0 = u := by
  apply getD_ext (mixTo_length u v 0)
  intro i hi
  rw [mixTo_length] at hi
  simp [mixTo, hi]
theorem mixTo_end (u v : List UInt8) (h : u.length = v.length) : mixTo u v u.length = v := by
  apply getD_ext (by rw [mixTo_length]; exact h)
  intro i hi
  rw [mixTo_length] at hi
  simp [mixTo, hi]
theorem mixTo_get (u v : List UInt8) (j i : Nat) (hi : i < u.length) : (mixTo u v j).getD i 0 = if i < j then v.getD i 0 else u.getD i 0 := by simp [mixTo, hi]
theorem mixTo_set (u v : List UInt8) (j : Nat) (hj : j < u.length) : (mixTo u v j).set j (v.getD j 0) = mixTo u v (j + 1) := by
  apply getD_ext (by rw [List.length_set, mixTo_length, mixTo_length])
  intro i hi
  rw [List.length_set, mixTo_length] at hi
  rw [mixTo_get u v (j + 1) i hi]
  by_cases e : j = i
  · subst e
    rw [getD_set_self (by rw [mixTo_length]; exact hj), if_pos (by omega)]
  · rw [getD_set_ne e, mixTo_get u v j i hi]
    have h1 : (i < j + 1) ↔ (i < j) := by omega
    simp only [h1]
/-- A byte is stored into a block of bytes. -/
theorem bytes_set {w : World} {g j : Nat} {x : List UInt8} {b : UInt8} (h : w.heap[g]? = some (.cells (x.map bv).toArray 5 (0, 0))) (_hj : j < x.length) :
    (w.setCell ⟨g, j, none⟩ (.int .u8 (b.toNat : Int))).heap[g]? = some (.cells ((x.set j b).map bv).toArray 5 (0, 0)) := by
  rw [setCell_putB h, putB_get_self (heap_lt h)]
  congr 2
  rw [List.setIfInBounds_toArray]
  congr 1
  rw [List.map_set]; rfl
theorem mr_get (f : Nat → UInt8) {n i : Nat} (h : i < n) : ((List.range n).map f).getD i 0 = f i := by simp [h]
theorem sum_one (ps : List (List UInt8)) (k i : Nat) (hi : i < (ps.getD 0 []).length) (hk : (ps.getD k []).length = (ps.getD 0 []).length) :
    (sumTo ones ps (k + 1)).getD i 0 = (sumTo ones ps k).getD i 0 ^^^ (ps.getD k []).getD i 0 := by
  have h1 := sumTo_length ones ps k
  show (addB (sumTo ones ps k) (scaleB (ps.getD k []) (ones k))).getD i 0 = _
  unfold addB
  rw [mr_get _ (by omega)]
  congr 1
  unfold scaleB
  rw [mr_get _ (by omega)]
  exact gmul_one _
set_option maxRecDepth 100000 in
set_option maxHeartbeats 1000000 in
theorem refP_ok (ps : List (List UInt8)) (n : Nat) (v : Value) (w : World) (h : RowsAt w v ps) (h0 : 0 < ps.length) (hl : ps.length ≤ 8) (hn : n ≤ 1048576) (hs : ∀ i, i < ps.length → (ps.getD i []).length = n) :
    Calls Try.prog 89 #[v] w fun e w' => ∃ r, e = .returned r ∧ BytesAt w' r (sumTo ones ps ps.length) ∧ Gr w w' := by
  rcases id h.cases with ⟨rfl, _⟩ | ⟨b, off, cap, vs, rfl, _, hb0, hvl, hc, hb⟩
  · simp at h0
  have hrow : ∀ i, i < ps.length → (∃ a c, w.cell? ⟨b, off + i, none⟩ = some (.slice a n c) ∧ BytesAt w (.slice a n c) (ps.getD i [])) := fun i hi => by
    obtain ⟨a, c, e⟩ := (hb i hi).shape
    rw [hs i hi] at e
    exact ⟨a, c, by rw [hc i hi, e], e ▸ hb i hi⟩
  have HR := Lib.hid hrow; clear hrow hc hb hvl
  have H := Lib.hid h; clear h
  have HS := Lib.hid hs; clear hs
  obtain ⟨m, hm⟩ : ∃ m, m = ps.length := ⟨_, rfl⟩
  have HM := Lib.hid hm
  obtain ⟨a0, k0, hc0, _⟩ := HR.out 0 h0
  rw [Nat.add_zero] at hc0
  rw [← hm] at h0 hl ⊢
  clear hm
  go_enter Try.func89, Try.ntmps89
  go_wp2_with fail
  have ha := alike_ok ps n (.slice (some ⟨b, off, none⟩) ps.length cap) w H.out (by have := HM.out; omega) (by have := HM.out; omega) HS.out
  rw [← HM.out] at ha
  refine ha.mono ?_
  rintro e w1 ⟨rfl, g1⟩
  clear ha
  have c1 := g1.cell hc0
  go_wp2_with ((with_reducible apply wpL_make1 (n := n) slU8 infU8 rfl (by decide)); rfl; rfl; exact hn)
  have hz : sumTo ones ps 0 = zeros n := by show zeros _ = _; rw [HS.out 0 (by have := HM.out; omega)]
  have hsl : ∀ k, (sumTo ones ps k).length = n := fun k => (sumTo_length ones ps k).trans (HS.out 0 (by have := HM.out; omega))
  have HSL := Lib.hid hsl; clear hsl
  have hV : (w1.alloc (.cells (zrow (.int .u8 0) n) 5)).heap[w1.heap.size]? = some (.cells ((sumTo ones ps 0).map bv).toArray 5 (0, 0)) := by
    rw [hz, heap_alloc_new]; simp [zeros, zrow, bv]
  have HV := Lib.hid hV; clear hV hz
  go_loopw [18] (fun i wr => ∃ k : Nat, k ≤ m ∧ i = .int .i64 k ∧ Hid (wr.heap[w1.heap.size]? = some (.cells ((sumTo ones ps k).map bv).toArray 5 (0, 0))) ∧ Gr w1 wr) (fun i _ => m - (intOf i).toNat)
  case atStart => exact ⟨0, by omega, rfl, HV, Gr.alloc _ _⟩
  case round =>
    obtain ⟨k, hk, rfl, hv, hg⟩ := hrel
    by_cases hlt : k < m
    · obtain ⟨a, c, ck0, hbk0⟩ := HR.out k (by have := HM.out; omega)
      have ck := (g1.trans hg).cell ck0
      have hkl := HS.out k (by have := HM.out; omega)
      have hcell : ∀ w', Gr w w' → ∀ j, j < n → ∃ bb oo, a = some ⟨bb, oo, none⟩ ∧ w'.cell? ⟨bb, oo + j, none⟩ = some (.int .u8 (((ps.getD k []).getD j 0).toNat : Int)) := fun w' gw j hj => by
        rcases hbk0.cases with ⟨e, _⟩ | ⟨bb, oo, cc, e, _, _, hcc⟩
        · rw [e] at hkl; simp at hkl; omega
        · injection e with e1 _ _
          exact ⟨bb, oo, e1, gw.cell (hcc j (by omega))⟩
      have HCL := Lib.hid hcell; clear hcell hbk0 ck0
      have HSO := Lib.hid (fun j (hj : j < n) => sum_one ps k j (by have := HS.out 0 (by have := HM.out; omega); omega) (by rw [hkl]; exact (HS.out 0 (by have := HM.out; omega)).symm))
      clear hkl
      go_wp2_with fail
      obtain ⟨wo, rfl⟩ : ∃ wo : World, wo = wr := ⟨_, rfl⟩
      have hv0 : Hid (wo.heap[w1.heap.size]? = some (.cells ((mixTo (sumTo ones ps k) (sumTo ones ps (k + 1)) 0).map bv).toArray 5 (0, 0))) := by rw [mixTo_zero]; exact hv
      go_loopw [24] (fun i wr => ∃ j : Nat, j ≤ n ∧ i = .int .i64 j ∧ Hid (wr.heap[w1.heap.size]? = some (.cells ((mixTo (sumTo ones ps k) (sumTo ones ps (k + 1)) j).map bv).toArray 5 (0, 0))) ∧ Gr w1 wr) (fun i _ => n - (intOf i).toNat)
      case atStart => exact ⟨0, by omega, rfl, hv0, hg⟩
      case round =>
        obtain ⟨j, hj, rfl, hvj, hgj⟩ := hrel
        by_cases hjl : j < n
        · obtain ⟨bb, oo, rfl, cj⟩ := HCL.out wr (g1.trans hgj) j hjl
          have hul : (sumTo ones ps k).length = n := HSL.out k
          have hmx := mixTo_get (sumTo ones ps k) (sumTo ones ps (k + 1)) j j (by omega)
          rw [if_neg (by omega)] at hmx
          have cu : wr.cell? ⟨w1.heap.size, j, none⟩ = some (.int .u8 (((sumTo ones ps k).getD j 0).toNat : Int)) := by
            refine cell_blk hvj.out ?_
            rw [← hmx]
            have : j < (mixTo (sumTo ones ps k) (sumTo ones ps (k + 1)) j).length := by rw [mixTo_length]; omega
            simp [this, bv]
          have fu : wr.frozen? ⟨w1.heap.size, j, none⟩ = false := by simp [World.frozen?, hvj.out]
          have hx := bits_xor_u8 ((sumTo ones ps k).getD j 0) ((ps.getD k []).getD j 0)
          rw [← HSO.out j hjl] at hx
          obtain ⟨p, hp⟩ : ∃ p : Int, p = (((sumTo ones ps k).getD j 0).toNat : Int) := ⟨_, rfl⟩
          obtain ⟨q, hq⟩ : ∃ q : Int, q = (((ps.getD k []).getD j 0).toNat : Int) := ⟨_, rfl⟩
          rw [← hp, ← hq] at hx
          rw [← hp] at cu; rw [← hq] at cj
          obtain ⟨z, hzz⟩ : ∃ z : UInt8, z = (sumTo ones ps (k + 1)).getD j 0 := ⟨_, rfl⟩
          rw [← hzz] at hx
          have HZZ := Lib.hid hzz
          have HUL := Lib.hid hul
          clear hzz hp hq hmx hul
          go_wp2
          go_roundw
          case rel =>
            refine ⟨j + 1, by omega, by go_num, Lib.hid ?_, ?_⟩
            · rw [← mixTo_set _ _ j (by rw [HUL.out]; exact hjl), ← HZZ.out]
              exact bytes_set hvj.out (by rw [mixTo_length, HUL.out]; exact hjl)
            · rw [setCell_putB hvj.out]
              exact below_putB hgj (Nat.le_refl _) _
          case measure => simp [intOf]; omega
        · obtain rfl : j = n := by omega
          have hfin : mixTo (sumTo ones ps k) (sumTo ones ps (k + 1)) j = sumTo ones ps (k + 1) := by
            have e := mixTo_end (sumTo ones ps k) (sumTo ones ps (k + 1)) (by rw [HSL.out, HSL.out])
            rw [HSL.out] at e
            exact e
          rw [hfin] at hvj
          clear hfin
          go_wp2
          go_roundw
          case rel => exact ⟨k + 1, by omega, by go_num, hvj, hgj⟩
          case measure => simp [intOf]; omega
    · obtain rfl : k = m := by omega
      have HL := Lib.hid (HSL.out k)
      go_wp2
      go_ret
      exact ⟨_, rfl, BytesAt.lit hv.out HL.out (by omega), g1.trans hg⟩
end Go.Proofs.Ytoalnkhedebpbaa

/-! wattleref01.Q: the sum of rows of one length, each times a power. -/
namespace Go.Proofs.Ytoalnkhedebpbaa
open Go.RowKit

theorem sum_pow (ps : List (List UInt8)) (k i : Nat) (hi : i < (ps.getD 0 []).length) (hk : (ps.getD k []).length = (ps.getD 0 []).length) :
    (sumTo gpow ps (k + 1)).getD i 0 = (sumTo gpow ps k).getD i 0 ^^^ gmul ((ps.getD k []).getD i 0) (gpow k) := by
  have h1 := sumTo_length gpow ps k
  show (addB (sumTo gpow ps k) (scaleB (ps.getD k []) (gpow k))).getD i 0 = _
  unfold addB
  rw [mr_get _ (by omega)]
  congr 1
  unfold scaleB
  rw [mr_get _ (by omega)]
set_option maxRecDepth 100000 in
set_option maxHeartbeats 1000000 in
theorem refQ_ok (ps : List (List UInt8)) (n : Nat) (v : Value) (w : World) (h : RowsAt w v ps) (h0 : 0 < ps.length) (hl : ps.length ≤ 8) (hn : n ≤ 1048576) (hs : ∀ i, i < ps.length → (ps.getD i []).length = n) :
    Calls Try.prog 90 #[v] w fun e w' => ∃ r, e = .returned r ∧ BytesAt w' r (sumTo gpow ps ps.length) ∧ Gr w w' := by
  rcases id h.cases with ⟨rfl, _⟩ | ⟨b, off, cap, vs, rfl, _, hb0, hvl, hc, hb⟩
  · simp at h0
  have hrow : ∀ i, i < ps.length → (∃ a c, w.cell? ⟨b, off + i, none⟩ = some (.slice a n c) ∧ BytesAt w (.slice a n c) (ps.getD i [])) := fun i hi => by
    obtain ⟨a, c, e⟩ := (hb i hi).shape
    rw [hs i hi] at e
    exact ⟨a, c, by rw [hc i hi, e], e ▸ hb i hi⟩
  have HR := Lib.hid hrow; clear hrow hc hb hvl
  have H := Lib.hid h; clear h
  have HS := Lib.hid hs; clear hs
  obtain ⟨m, hm⟩ : ∃ m, m = ps.length := ⟨_, rfl⟩
  have HM := Lib.hid hm
  obtain ⟨a0, k0, hc0, _⟩ := HR.out 0 h0
  rw [Nat.add_zero] at hc0
  rw [← hm] at h0 hl ⊢
  clear hm
  go_enter Try.func90, Try.ntmps90
  go_wp2_with fail
  have ha := alike_ok ps n (.slice (some ⟨b, off, none⟩) ps.length cap) w H.out (by have := HM.out; omega) (by have := HM.out; omega) HS.out
  rw [← HM.out] at ha
  refine ha.mono ?_
  rintro e w1 ⟨rfl, g1⟩
  clear ha
  have c1 := g1.cell hc0
  go_wp2_with ((with_reducible apply wpL_make1 (n := n) slU8 infU8 rfl (by decide)); rfl; rfl; exact hn)
  have hz : sumTo gpow ps 0 = zeros n := by show zeros _ = _; rw [HS.out 0 (by have := HM.out; omega)]
  have hsl : ∀ k, (sumTo gpow ps k).length = n := fun k => (sumTo_length gpow ps k).trans (HS.out 0 (by have := HM.out; omega))
  have HSL := Lib.hid hsl; clear hsl
  have hV : (w1.alloc (.cells (zrow (.int .u8 0) n) 5)).heap[w1.heap.size]? = some (.cells ((sumTo gpow ps 0).map bv).toArray 5 (0, 0)) := by
    rw [hz, heap_alloc_new]; simp [zeros, zrow, bv]
  have HV := Lib.hid hV; clear hV hz
  go_loopw [19] (fun i wr => ∃ k : Nat, k ≤ m ∧ i = .int .i64 k ∧ Hid (wr.heap[w1.heap.size]? = some (.cells ((sumTo gpow ps k).map bv).toArray 5 (0, 0))) ∧ Gr w1 wr) (fun i _ => m - (intOf i).toNat)
  case atStart => exact ⟨0, by omega, rfl, HV, Gr.alloc _ _⟩
  case round =>
    obtain ⟨k, hk, rfl, hv, hg⟩ := hrel
    by_cases hlt : k < m
    · obtain ⟨a, c, ck0, hbk0⟩ := HR.out k (by have := HM.out; omega)
      have ck := (g1.trans hg).cell ck0
      have hkl := HS.out k (by have := HM.out; omega)
      have hcell : ∀ w', Gr w w' → ∀ j, j < n → ∃ bb oo, a = some ⟨bb, oo, none⟩ ∧ w'.cell? ⟨bb, oo + j, none⟩ = some (.int .u8 (((ps.getD k []).getD j 0).toNat : Int)) := fun w' gw j hj => by
        rcases hbk0.cases with ⟨e, _⟩ | ⟨bb, oo, cc, e, _, _, hcc⟩
        · rw [e] at hkl; simp at hkl; omega
        · injection e with e1 _ _
          exact ⟨bb, oo, e1, gw.cell (hcc j (by omega))⟩
      have HCL := Lib.hid hcell; clear hcell hbk0 ck0
      have HSO := Lib.hid (fun j (hj : j < n) => sum_pow ps k j (by have := HS.out 0 (by have := HM.out; omega); omega) (by rw [hkl]; exact (HS.out 0 (by have := HM.out; omega)).symm))
      clear hkl
      go_wp2_with fail
      refine (refpow_lt k _ (by omega)).mono ?_
      rintro e w5 ⟨rfl, rfl⟩
      go_wp2_with fail
      obtain ⟨wo, rfl⟩ : ∃ wo : World, wo = wr := ⟨_, rfl⟩
      have hv0 : Hid (wo.heap[w1.heap.size]? = some (.cells ((mixTo (sumTo gpow ps k) (sumTo gpow ps (k + 1)) 0).map bv).toArray 5 (0, 0))) := by rw [mixTo_zero]; exact hv
      go_loopw [28] (fun i wr => ∃ j : Nat, j ≤ n ∧ i = .int .i64 j ∧ Hid (wr.heap[w1.heap.size]? = some (.cells ((mixTo (sumTo gpow ps k) (sumTo gpow ps (k + 1)) j).map bv).toArray 5 (0, 0))) ∧ Gr w1 wr) (fun i _ => n - (intOf i).toNat)
      case atStart => exact ⟨0, by omega, rfl, hv0, hg⟩
      case round =>
        obtain ⟨j, hj, rfl, hvj, hgj⟩ := hrel
        by_cases hjl : j < n
        · obtain ⟨bb, oo, rfl, cj⟩ := HCL.out wr (g1.trans hgj) j hjl
          have hul : (sumTo gpow ps k).length = n := HSL.out k
          have hmx := mixTo_get (sumTo gpow ps k) (sumTo gpow ps (k + 1)) j j (by omega)
          rw [if_neg (by omega)] at hmx
          have cu : wr.cell? ⟨w1.heap.size, j, none⟩ = some (.int .u8 (((sumTo gpow ps k).getD j 0).toNat : Int)) := by
            refine cell_blk hvj.out ?_
            rw [← hmx]
            have : j < (mixTo (sumTo gpow ps k) (sumTo gpow ps (k + 1)) j).length := by rw [mixTo_length]; omega
            simp [this, bv]
          have fu : wr.frozen? ⟨w1.heap.size, j, none⟩ = false := by simp [World.frozen?, hvj.out]
          have hx := bits_xor_u8 ((sumTo gpow ps k).getD j 0) (gmul ((ps.getD k []).getD j 0) (gpow k))
          rw [← HSO.out j hjl] at hx
          obtain ⟨p, hp⟩ : ∃ p : Int, p = (((sumTo gpow ps k).getD j 0).toNat : Int) := ⟨_, rfl⟩
          obtain ⟨y, hy⟩ : ∃ y : UInt8, y = (ps.getD k []).getD j 0 := ⟨_, rfl⟩
          rw [← hy] at hx cj
          obtain ⟨q, hq⟩ : ∃ q : Int, q = ((gmul y (gpow k)).toNat : Int) := ⟨_, rfl⟩
          rw [← hp, ← hq] at hx
          rw [← hp] at cu
          have HQ := Lib.hid hq.symm
          obtain ⟨z, hzz⟩ : ∃ z : UInt8, z = (sumTo gpow ps (k + 1)).getD j 0 := ⟨_, rfl⟩
          rw [← hzz] at hx
          have HZZ := Lib.hid hzz
          have HUL := Lib.hid hul
          clear hzz hp hq hy hmx hul
          have HNW : Hid ((wr.setCell ⟨w1.heap.size, j, none⟩ (.int .u8 (z.toNat : Int))).heap[w1.heap.size]? = some (.cells ((mixTo (sumTo gpow ps k) (sumTo gpow ps (k + 1)) (j + 1)).map bv).toArray 5 (0, 0))) := Lib.hid (by
            rw [← mixTo_set _ _ j (by rw [HUL.out]; exact hjl), ← HZZ.out]
            exact bytes_set hvj.out (by rw [mixTo_length, HUL.out]; exact hjl))
          have HGW : Hid (Gr w1 (wr.setCell ⟨w1.heap.size, j, none⟩ (.int .u8 (z.toNat : Int)))) := Lib.hid (by
            rw [setCell_putB hvj.out]
            exact below_putB hgj (Nat.le_refl _) _)
          have cud := (Gr.drew wr).cell cu
          have fud : wr.drew.frozen? ⟨w1.heap.size, j, none⟩ = false := by simpa using fu
          go_wp2_with fail
          go_region_law (first | (go_simp; go_at_call 122; refine (refmul_any y (gpow k) _).mono ?_; rintro e w6 ⟨rfl, rfl⟩; rw [HQ.out]))
          all_goals (
            go_wp2
            go_roundw)
          all_goals first | exact ⟨j + 1, by omega, by go_num, HNW, Below.drew HGW.out⟩ | (simp [intOf]; omega)
        · obtain rfl : j = n := by omega
          have hfin : mixTo (sumTo gpow ps k) (sumTo gpow ps (k + 1)) j = sumTo gpow ps (k + 1) := by
            have e := mixTo_end (sumTo gpow ps k) (sumTo gpow ps (k + 1)) (by rw [HSL.out, HSL.out])
            rw [HSL.out] at e
            exact e
          rw [hfin] at hvj
          clear hfin
          go_wp2
          go_roundw
          case rel => exact ⟨k + 1, by omega, by go_num, hvj, hgj⟩
          case measure => simp [intOf]; omega
    · obtain rfl : k = m := by omega
      have HL := Lib.hid (HSL.out k)
      go_wp2
      go_ret
      exact ⟨_, rfl, BytesAt.lit hv.out HL.out (by omega), g1.trans hg⟩
end Go.Proofs.Ytoalnkhedebpbaa

/-! wattleref01.Fill: what it answers. -/
namespace Go.Proofs.Ytoalnkhedebpbaa
open Go.RowKit

set_option maxRecDepth 100000 in
set_option maxHeartbeats 2000000 in
theorem rfill_good (L D C r : Int) (data : List (List UInt8)) (v : Value) (w : World) (h : goodG L D C = true) (hr : 0 ≤ r) (hr' : r < 16) (hv : RowsAt w v data) (hd : (data.length : Int) = D - (L - 4)) (hs : ∀ i, i < data.length → (data.getD i []).length = 32) :
    Calls Try.prog 41 #[gv L D C, .int .i64 r, v] w fun e w' => ∃ x, e = .returned (.tuple #[x, .bool true]) ∧ RowsAt w' x (fillR L D C r data) ∧ Gr w w' := by
  obtain ⟨hL1, hL2, hD1, hD2, hC1, hC2, _⟩ := goodG_bds h
  rcases hv.cases with ⟨rfl, _⟩ | ⟨b, off, cap, vs, rfl, _, hb0, hvl, hc, hb⟩
  · have := goodG_cases h; simp at hd; omega
  obtain ⟨DN, hDN⟩ : ∃ DN : Nat, D = DN := ⟨D.toNat, by omega⟩
  subst hDN
  obtain ⟨n, hn⟩ : ∃ n, n = data.length := ⟨_, rfl⟩
  rw [← hn] at hc hb hd hs hv
  rw [← hn]
  have hn8 : n < 8 := by omega
  have hn1 : 1 < n := by have := goodG_cases h; omega
  have HV := Lib.hid hv; clear hv
  have HNN := Lib.hid hn; clear hn
  have H := Lib.hid h; clear h
  have HC := Lib.hid hc; clear hc
  have HB := Lib.hid hb; clear hb
  have HS := Lib.hid hs; clear hs
  have hP := parP_range (D := DN) (C := C) (r := r) (by omega)
  obtain ⟨p, hp⟩ : ∃ p : Nat, parP DN C r = p := ⟨(parP DN C r).toNat, by omega⟩
  rw [hp] at hP
  have HPP := Lib.hid hp; clear hp
  have HDN := Lib.hid hd
  have dne : ((n : Int) != DN - (L - 4)) = false := by simp [hd]
  clear hvl hd
  go_enter Try.func41, Try.ntmps41
  go_wp2_with fail
  refine (rin_good L DN C r _ H.out hr hr').mono ?_
  rintro e w1 ⟨rfl, hg⟩
  have g1 : Gr w w1 := (Gr.alloc w _).trans hg
  obtain ⟨c0, c1, c2⟩ := box3 (hg.get (heap_alloc_new w _))
  clear hg
  go_wp2_with fail
  refine (rwidth_good L DN C _ H.out).mono ?_
  rintro e w2 ⟨rfl, hg2⟩
  replace g1 := g1.trans hg2
  replace c0 := hg2.cell c0
  replace c1 := hg2.cell c1
  replace c2 := hg2.cell c2
  clear hg2
  go_wp2_with ((with_reducible apply wpL_make1 (n := DN) slRows infRows rfl (by decide)); rfl; rfl; omega)
  obtain ⟨g, hgg⟩ : ∃ g, g = w2.heap.size := ⟨_, rfl⟩
  have hO : ORows (w2.alloc (.cells (zrow (.slice none 0 0) DN) 43)) g DN (fillTo L DN C r data 0) := by
    rw [hgg]; exact ORows.make (heap_alloc_new w2 _)
  rw [← hgg]
  have hG : Gr w2 (w2.alloc (.cells (zrow (.slice none 0 0) DN) 43)) := Gr.alloc _ _
  obtain ⟨wm, hwm⟩ : ∃ wm, wm = w2.alloc (.cells (zrow (.slice none 0 0) DN) 43) := ⟨_, rfl⟩
  rw [← hwm] at hO hG
  rw [← hwm]
  clear hwm
  have HO := Lib.hid hO; clear hO
  have hgl : w2.heap.size ≤ g := Nat.le_of_eq hgg.symm
  clear hgg
  have hwg : w.heap.size ≤ g := Nat.le_trans g1.size hgl
  go_loopw [29] (fun i wr => ∃ k : Nat, k ≤ n ∧ i = .int .i64 k ∧ Hid (ORows wr g DN (fillTo L DN C r data k)) ∧ Gr w2 wr) (fun i _ => n - (intOf i).toNat)
  case atStart => exact ⟨0, by omega, rfl, HO, hG⟩
  case round =>
    obtain ⟨k, hk, rfl, hrow, hg⟩ := hrel
    have b0 := hg.cell c0
    have b1 := hg.cell c1
    have b2 := hg.cell c2
    by_cases hlt : k < n
    · obtain ⟨hd0, hd1⟩ := dskOf_bds H.out r k
      obtain ⟨d, hd⟩ : ∃ d : Nat, dskOf L DN C r k = d := ⟨(dskOf L DN C r k).toNat, by omega⟩
      rw [hd] at hd0 hd1
      have hdn : d < DN := by omega
      have HD := Lib.hid hd; clear hd
      have ck := (g1.trans hg).cell (HC.out k hlt)
      have hbk := (HB.out k hlt).gr (g1.trans hg)
      have hk32 := HS.out k hlt
      rcases hbk.cases with ⟨e0, _⟩ | ⟨xb, xo, xc, hsh, _⟩
      · rw [e0] at hk32; simp at hk32
      rw [hk32] at hsh
      rw [hsh] at ck hbk
      have HBK := Lib.hid hbk; clear hbk hsh
      have HK32 := Lib.hid hk32; clear hk32
      clear hd1 hd0
      go_wp2_with fail
      refine (rdisk_good L DN C r k _ H.out hr hr' (by omega) (by have := HDN.out; omega)).mono ?_
      rintro e w3 ⟨rfl, hg3⟩
      rw [HD.out]
      have HSRC : Hid (∀ j u, ((data.getD k []).map bv)[j]? = some u → w3.cell? ((⟨xb, xo, none⟩ : Addr).add j) = some u) := Lib.hid fun j u hj => by
        obtain ⟨b', off', e, hc'⟩ := bytes_src (HBK.out.gr hg3) j u hj
        have e := Option.some.inj e
        injection e with e1 e2
        subst e1; subst e2
        rw [addr_add0]; exact hc'
      go_wp2_with ((with_reducible apply wpL_appendN (v := .slice none 0 0) (base := w3.heap.size) (xs := []) (news := (data.getD k []).map bv) slU8 infU8 rfl (by decide)); rfl; rfl; exact World.ownsRow_nil _ _ _ _; (rw [List.length_map]; exact HK32.out); exact HSRC.out; exact bvs_one _; decide; exact Nat.le_refl _; (intro x w4 hown4 hgr4; have hg4 : Gr w3 w4 := Below.grown (Gr.refl _) hgr4 (Nat.le_refl _) (fun j hj => nomatch hj); have hx : BytesAt w4 x (data.getD k []) := SlAt.own hown4 (by decide); have HO4 := Lib.hid ((hrow.out.gr hg3).gr hg4); obtain ⟨⟨ud, cd⟩, fd⟩ := HO4.out.cell hdn; obtain ⟨ax, nx, capx, hsx⟩ := hx.sl; subst hsx; have HX := Lib.hid hx; clear hx hown4 hgr4))
      go_roundw
      case rel =>
        refine ⟨k + 1, by omega, by go_num, Lib.hid ?_, gr_setCell ((hg.trans hg3).trans hg4) HO4.out hgl⟩
        have e : (dskOf L DN C r (k : Nat)).toNat = d := by have := HD.out; omega
        unfold fillTo
        rw [e]
        exact HO4.out.set hdn HX.out
      case measure => simp [intOf]; omega
    · obtain rfl : k = n := by omega
      clear hlt hk
      have hpn : p < DN := by omega
      go_wp2_with fail
      refine (rparity_good L DN C r _ H.out hr hr').mono ?_
      rintro e w3 ⟨rfl, hg3⟩
      rw [HPP.out]
      have PL : Hid (data.length ≤ 8 ∧ 0 < data.length) := Lib.hid (by have := HNN.out; omega)
      have PS : Hid (∀ i, i < data.length → (data.getD i []).length = 32) := Lib.hid fun i hi => HS.out i (by rw [HNN.out]; exact hi)
      have HR := Lib.hid (hrow.out.gr hg3)
      replace g1 := (g1.trans hg).trans hg3
      replace hg := hg.trans hg3
      clear hrow hg3
      go_wp2_with fail
      refine (refP_ok data 32 _ _ (HV.out.gr g1) PL.out.2 PL.out.1 (by decide) PS.out).mono ?_
      rintro e w4 ⟨x, rfl, hx, hg4⟩
      have HO4 := Lib.hid (HR.out.gr hg4)
      obtain ⟨⟨ud, cd⟩, fd⟩ := HO4.out.cell hpn
      obtain ⟨ax, nx, capx, hsx⟩ := hx.sl
      subst hsx
      have HO5 := Lib.hid (HO4.out.set hpn hx)
      have g5 : Gr w (w4.setCell ⟨g, p, none⟩ (.slice ax nx capx)) := gr_setCell (g1.trans hg4) HO4.out hwg
      clear hx
      by_cases h5 : L = 5
      · subst h5
        have hq : parQ 5 DN C r = -1 := if_pos rfl
        rw [hq]
        have HF : Hid (fillR 5 DN C r data = (fillTo 5 DN C r data k).set p (sumTo ones data data.length)) := Lib.hid (by unfold fillR; rw [if_pos rfl, HPP.out, ← HNN.out]; rfl)
        clear hq
        go_wp2
        go_ret2
        rw [HF.out]
        exact ⟨_, rfl, HO5.out.rows (by omega) _, g5⟩
      · have hq := parQ_six H.out r h5
        obtain ⟨q, hqq⟩ : ∃ q : Nat, parQ L DN C r = q := ⟨(parQ L DN C r).toNat, by omega⟩
        rw [hqq] at hq
        rw [hqq]
        have HF : Hid (fillR L DN C r data = ((fillTo L DN C r data k).set p (sumTo ones data data.length)).set q (sumTo gpow data data.length)) := Lib.hid (by unfold fillR; rw [if_neg h5, HPP.out, hqq, ← HNN.out]; rfl)
        clear hqq h5
        have hqn : q < DN := by omega
        go_wp2_with fail
        refine (refQ_ok data 32 _ _ (HV.out.gr g5) PL.out.2 PL.out.1 (by decide) PS.out).mono ?_
        rintro e w6 ⟨y, rfl, hy, hg6⟩
        have HO6 := Lib.hid (HO5.out.gr hg6)
        obtain ⟨⟨uq, cq⟩, fq⟩ := HO6.out.cell hqn
        obtain ⟨ay, ny, capy, hsy⟩ := hy.sl
        subst hsy
        have HO7 := Lib.hid (HO6.out.set hqn hy)
        have g7 : Gr w (w6.setCell ⟨g, q, none⟩ (.slice ay ny capy)) := gr_setCell (g5.trans hg6) HO6.out hwg
        clear hy
        go_wp2
        go_ret2
        rw [HF.out]
        exact ⟨_, rfl, HO7.out.rows (by omega) _, g7⟩
end Go.Proofs.Ytoalnkhedebpbaa

/-! wattleref01.Numbers: what it answers. -/
namespace Go.Proofs.Ytoalnkhedebpbaa
open Go.RowKit

set_option maxRecDepth 100000 in
set_option maxHeartbeats 2000000 in
theorem rnumbers_good (L D C r : Int) (w : World) (h : goodG L D C = true) (hr : 0 ≤ r) (hr' : r < 16) :
    Calls Try.prog 25 #[gv L D C, .int .i64 r] w fun e w' => ∃ v, e = .returned v ∧ SlAt w' 3 v (ints (numsOf L D C r)) ∧ Gr w w' := by
  obtain ⟨hL1, hL2, hD1, hD2, hC1, hC2, hw⟩ := goodG_bds h
  have H := Lib.hid h; clear h
  obtain ⟨W, hW⟩ : ∃ W : Nat, D - (L - 4) = W := ⟨(D - (L - 4)).toNat, by omega⟩
  have hW8 : W < 8 := by omega
  have nC : ¬ C = 0 := by omega
  obtain ⟨i0, hi0, hz0, hz1, hz2⟩ := info_parts infInt
  go_enter Try.func25, Try.ntmps25
  go_wp2_with fail
  refine (rin_good L D C r _ H.out hr hr').mono ?_
  rintro e w2 ⟨rfl, hg⟩
  have g1 : Gr w w2 := (Gr.alloc w _).trans hg
  obtain ⟨c0, c1, c2⟩ := box3 (hg.get (heap_alloc_new w _))
  clear hg
  go_wp2_with fail
  go_loopw [5, 6] (fun v i wr => ∃ k : Nat, k ≤ W ∧ i = .int .i64 k ∧ wr.ownsRow w2.heap.size 3 1 v k ((List.range k).map fun j : Nat => Value.int .i64 (numOf L D C r j)) ∧ Gr w2 wr) (fun _ i _ => W - (intOf i).toNat)
  case atStart => exact ⟨0, by omega, rfl, World.ownsRow_nil _ _ _ _, Gr.refl _⟩
  case round =>
    obtain ⟨k, hk, rfl, hown, hb⟩ := hrel
    have b0 := hb.cell c0
    have b1 := hb.cell c1
    have b2 := hb.cell c2
    have hsz := hb.size
    go_wp2_with fail
    refine (rwidth_good L D C _ H.out).mono ?_
    rintro e w3 ⟨rfl, hg3⟩
    rw [hW]
    have hs3 := hg3.size
    replace b0 := hg3.cell b0
    replace b1 := hg3.cell b1
    replace b2 := hg3.cell b2
    have hown3 := own_gr hown hg3
    by_cases hlt : k < W
    · obtain ⟨q0, q1, a0, a1, ak, m0, m1, m2, m3⟩ := num_bds hL1 hL2 hD1 hD2 hC1 hC2 hr hr' (k := k) (by omega) (by omega) (by omega)
      rw [hW] at a0 a1 ak m0 m1
      have e1 : IntKind.i64.wrap (r / C * (W : Int)) = r / C * (W : Int) := IntWalk.i64_in _ (by omega)
      have e2 : IntKind.i64.wrap (r / C * (W : Int) + k) = r / C * (W : Int) + k := IntWalk.i64_in _ (by omega)
      have e3 : IntKind.i64.wrap ((r / C * (W : Int) + k) * C) = (r / C * (W : Int) + k) * C := IntWalk.i64_in _ (by omega)
      have e4 : IntKind.i64.wrap ((r / C * (W : Int) + k) * C + r % C) = numOf L D C r k := by unfold numOf; rw [hW]; exact IntWalk.i64_in _ (by omega)
      have f1 : IntKind.i64.wrap (r.tdiv C) = r / C := wrDiv hr (by omega) (by omega)
      have f2 : r.tmod C = r % C := Int.tmod_eq_emod_of_nonneg hr
      have HOW := Lib.hid hown3
      have hneb : some w.heap.size ≠ u5.ownBlock := fun e => by have := (hown3.lt _ e.symm).1; have := World.block_lt_of_cell? w2 _ c0; simp at this; omega
      clear m0 m1 m2 m3 ak a0 a1 q0 q1 hown hown3
      have hlw : w.heap.size < w2.heap.size := World.block_lt_of_cell? w2 _ c0
      go_wp2_with fail
      obtain ⟨z, hzz⟩ : ∃ z, z = numOf L D C r k := ⟨_, rfl⟩
      rw [← hzz] at e4
      have HZZ := Lib.hid hzz
      clear hzz
      go_region_held3 (fun wx : World => wx.cell? ⟨w.heap.size, 0, none⟩ = some (.int .i64 L) ∧ wx.cell? ⟨w.heap.size, 1, none⟩ = some (.int .i64 D) ∧ wx.cell? ⟨w.heap.size, 2, none⟩ = some (.int .i64 C)) (first | exact ⟨b0, b1, b2⟩ | exact ⟨d0, d1, d2⟩ | exact ⟨(Gr.alloc _ _).cell d0, (Gr.alloc _ _).cell d1, (Gr.alloc _ _).cell d2⟩ | exact ⟨x0, x1, x2⟩) (first | (go_at_call 54; refine (rwidth_good L D C _ H.out).mono ?_; rintro e w4 ⟨rfl, hg4⟩; rw [hW]; have d0 := ((Gr.drew _).trans hg4).cell b0; have d1 := ((Gr.drew _).trans hg4).cell b1; have d2 := ((Gr.drew _).trans hg4).cell b2; have hs4 := ((Gr.drew w3).trans hg4).size) | ((refine step_append_lies _ (by rfl) _ _ _ (by rfl) w2.heap.size 3 i0 _ 1 8 slInt hi0 hz0 hz1 hz2 rfl (by omega) u5 k _ (by rfl) ((own_gr HOW.out ((Gr.drew _).trans hg4)).alloc _) ⟨w4.heap.size, 0, none⟩ 1 1 [.int .i64 z] (by rfl) (by rfl) (World.news_of_block (cs := #[.int .i64 z]) (t := 3) (fr := (0, 0)) (heap_alloc_new w4 _)) (by simp [Value.oneCell']) (by omega) (by unfold maxLen; omega) (by omega) (by simp; omega) (w4.heap.size + 1) (by simp) ?_; intro gg cap w5 hown5 hgr hat hltg; have x0 := (hgr.cell_far ⟨w.heap.size, 0, none⟩ (by simp; omega) hneb).trans ((Gr.alloc _ _).cell d0); have x1 := (hgr.cell_far ⟨w.heap.size, 1, none⟩ (by simp; omega) hneb).trans ((Gr.alloc _ _).cell d1); have x2 := (hgr.cell_far ⟨w.heap.size, 2, none⟩ (by simp; omega) hneb).trans ((Gr.alloc _ _).cell d2))))
      have HO5 := Lib.hid hown5
      have hgt : Gr w3 (w4.alloc (.cells #[.int .i64 z] 3)) := ((Gr.drew _).trans hg4).trans (Gr.alloc _ _)
      have hsz3 := (hb.trans hg3).size
      have hB : Gr w2 w5 := Below.grown ((hb.trans hg3).trans hgt) hgr (by simp; omega) (fun j hj => (HOW.out.lt j hj).1)
      clear e1 e2 e3 e4 f1 f2 hown5 hgr hgt hat
      go_wp2
      go_roundw
      case rel =>
        refine ⟨k + 1, by omega, by go_num, ?_, hB⟩
        rw [← ints_snoc, ← HZZ.out]
        exact HO5.out
      case measure => simp [intOf]; omega
    · obtain rfl : k = W := by omega
      go_wp2
      go_ret
      refine ⟨_, rfl, ?_, (g1.trans hb).trans hg3⟩
      have := SlAt.own hown3 (by omega)
      unfold numsOf ints
      rw [hW, List.map_map]
      exact this
end Go.Proofs.Ytoalnkhedebpbaa
