/- Bytes and rows of bytes in memory; wattlekeep.Same over bytes. -/
import Derived.Test.YtoalnkhedebpbaaProg
import Derived.Test.YtoalnkhedebpbaaLawMem
namespace Go.Proofs.Ytoalnkhedebpbaa
open Go.RowKit

def bv (b : UInt8) : Value := .int .u8 (b.toNat : Int)
theorem bv_inj {a b : UInt8} (h : ((a.toNat : Int)) = (b.toNat : Int)) : a = b := UInt8.toNat_inj.1 (by omega)
def BytesAt (w : World) (v : Value) (l : List UInt8) : Prop := SlAt w 5 v (l.map bv)
def RowsAt (w : World) (v : Value) (ls : List (List UInt8)) : Prop :=
  ∃ vs, SlAt w 43 v vs ∧ vs.length = ls.length ∧ ∀ i, i < ls.length → BytesAt w (vs.getD i undef) (ls.getD i [])
theorem BytesAt.gr {w w' : World} {v : Value} {l : List UInt8} (h : BytesAt w v l) (g : Gr w w') : BytesAt w' v l := SlAt.gr h g
theorem RowsAt.gr {w w' : World} {v : Value} {l : List (List UInt8)} (h : RowsAt w v l) (g : Gr w w') : RowsAt w' v l := by
  obtain ⟨vs, h1, h2, h3⟩ := h
  exact ⟨vs, h1.gr g, h2, fun i hi => (h3 i hi).gr g⟩
/-- The two forms of bytes in memory. -/
theorem BytesAt.cases {w : World} {v : Value} {l : List UInt8} (h : BytesAt w v l) :
    (l = [] ∧ ∃ a cap, v = .slice a 0 cap) ∨ ∃ b off cap, v = .slice (some ⟨b, off, none⟩) l.length cap ∧ l.length ≤ 9223372036854775807 ∧ b < w.heap.size ∧ ∀ i, i < l.length → w.cell? ⟨b, off + i, none⟩ = some (.int .u8 ((l.getD i 0).toNat : Int)) := by
  rcases h with ⟨h1, h2⟩ | ⟨b, off, cap, cs, fr, rfl, hb, hc, hl⟩
  · exact .inl ⟨by simpa using h1, h2⟩
  · refine .inr ⟨b, off, cap, by simp, by simpa using hl, heap_lt hb, fun i hi => ?_⟩
    rw [cell_of_row w b _ cs _ fr hb, hc i (by simpa using hi)]
    simp [hi, bv]

def sameB (a b : List UInt8) : Bool := decide (a = b)
theorem BytesAt.shape {w : World} {v : Value} {l : List UInt8} (h : BytesAt w v l) : ∃ a cap, v = .slice a l.length cap := by
  rcases h.cases with ⟨rfl, a, cap, rfl⟩ | ⟨b, off, cap, rfl, _⟩
  · exact ⟨a, cap, rfl⟩
  · exact ⟨_, cap, rfl⟩
set_option maxRecDepth 100000 in
set_option maxHeartbeats 800000 in
theorem same_len (x y : List UInt8) (a a2 : Option Addr) (cap cap2 : Nat) (w : World) (h : x.length ≠ y.length) :
    Calls Try.prog 27 #[.slice a x.length cap, .slice a2 y.length cap2] w fun e w' => e = .returned (.bool (sameB x y)) ∧ Gr w w' := by
  have hs : sameB x y = false := decide_eq_false (fun e => h (by rw [e]))
  rw [hs]
  have hb : ((x.length : Int) != (y.length : Int)) = true := by rw [bne_iff_ne]; omega
  clear h hs
  go_enter Try.func27, Try.ntmps27
  go_wp2
  go_ret
  exact ⟨rfl, Gr.refl _⟩
theorem getD_ext {x y : List UInt8} (h : x.length = y.length) (hk : ∀ j, j < x.length → x.getD j 0 = y.getD j 0) : x = y := by
  apply List.ext_getElem h
  intro i h1 h2
  have := hk i h1
  simpa [h1, h2] using this
set_option maxRecDepth 100000 in
set_option maxHeartbeats 800000 in
theorem same_cons (x y : List UInt8) (b off cap b2 off2 cap2 : Nat) (w : World) (hl : x.length ≤ 9223372036854775807) (h : x.length = y.length)
    (hc : ∀ i, i < x.length → w.cell? ⟨b, off + i, none⟩ = some (.int .u8 ((x.getD i 0).toNat : Int))) (hc2 : ∀ i, i < x.length → w.cell? ⟨b2, off2 + i, none⟩ = some (.int .u8 ((y.getD i 0).toNat : Int))) :
    Calls Try.prog 27 #[.slice (some ⟨b, off, none⟩) x.length cap, .slice (some ⟨b2, off2, none⟩) x.length cap2] w fun e w' => e = .returned (.bool (sameB x y)) ∧ Gr w w' := by
  have HC := Lib.hid hc; clear hc
  have HC2 := Lib.hid hc2; clear hc2
  have HL := Lib.hid h; clear h
  have hn : ((x.length : Int) != (x.length : Int)) = false := by simp
  go_enter Try.func27, Try.ntmps27
  go_wp2
  go_loopw [5] (fun i wr => ∃ k : Nat, k ≤ x.length ∧ i = .int .i64 k ∧ Hid (∀ j, j < k → x.getD j 0 = y.getD j 0) ∧ Gr w wr) (fun i _ => x.length - (intOf i).toNat)
  case atStart => exact ⟨0, Nat.zero_le _, rfl, fun _ h => by omega, Gr.refl _⟩
  case round =>
    obtain ⟨k, hk, rfl, hne, hg⟩ := hrel
    by_cases hlt : k < x.length
    · have k0 : (0 : Int) ≤ (k : Int) := by omega
      have k1 : (k : Int) < (x.length : Int) := by omega
      have c0 := hg.cell (HC.out k hlt)
      have c1 := hg.cell (HC2.out k hlt)
      obtain ⟨p, hp⟩ : ∃ p : Int, p = ((x.getD k 0).toNat : Int) := ⟨_, rfl⟩
      obtain ⟨q, hq⟩ : ∃ q : Int, q = ((y.getD k 0).toNat : Int) := ⟨_, rfl⟩
      rw [← hp] at c0; rw [← hq] at c1
      have HP := Lib.hid hp; clear hp
      have HQ := Lib.hid hq; clear hq
      go_wp2
      go_region_held3 (fun wx : World => wx.cell? ⟨b, off + k, none⟩ = some (.int .u8 p) ∧ wx.cell? ⟨b2, off2 + k, none⟩ = some (.int .u8 q)) (exact ⟨c0, c1⟩) (first | fail)
      by_cases hpq : p = q
      · have hb : (p != q) = false := by simp [hpq]
        have HE := Lib.hid hpq; clear hpq
        go_wp2
        go_roundw
        case rel => exact ⟨k + 1, by omega, by go_num, fun j hj => by
          by_cases e : j = k
          · subst e; exact bv_inj (by rw [← HP.out, ← HQ.out]; exact HE.out)
          · exact hne.out j (by omega), Below.drew hg⟩
        case measure => simp [intOf]; omega
      · have hb : (p != q) = true := by simp [hpq]
        have hs : sameB x y = false := decide_eq_false (fun e => hpq (by rw [HP.out, HQ.out, e]))
        have HS := Lib.hid hs; clear hs hpq
        go_wp2
        go_ret
        exact ⟨ret_bool HS.out.symm, Below.drew hg⟩
    · go_wp2
      go_ret
      exact ⟨ret_bool (decide_eq_true (getD_ext HL.out (fun j hj => hne.out j (by omega)))).symm, hg⟩
theorem same_any (x y : List UInt8) (u v : Value) (w : World) (hx : BytesAt w u x) (hy : BytesAt w v y) :
    Calls Try.prog 27 #[u, v] w fun e w' => e = .returned (.bool (sameB x y)) ∧ Gr w w' := by
  by_cases h : x.length = y.length
  · rcases hx.cases with ⟨rfl, a, cap, rfl⟩ | ⟨b, off, cap, rfl, hl, hb, hc⟩
    · have hy0 : y = [] := List.eq_nil_of_length_eq_zero h.symm
      subst hy0
      obtain ⟨a2, cap2, rfl⟩ := hy.shape
      simp only [List.length_nil]
      go_enter Try.func27, Try.ntmps27
      go_wp2
      refine wp_loop_once ?_
      go_wp2
      go_ret
      exact ⟨rfl, Gr.refl _⟩
    · rcases hy.cases with ⟨rfl, a2, cap2, rfl⟩ | ⟨b2, off2, cap2, rfl, hl2, hb2, hc2⟩
      · have hx0 : x = [] := List.eq_nil_of_length_eq_zero h
        subst hx0
        simp only [List.length_nil]
        go_enter Try.func27, Try.ntmps27
        go_wp2
        refine wp_loop_once ?_
        go_wp2
        go_ret
        exact ⟨rfl, Gr.refl _⟩
      · rw [← h]
        exact same_cons x y b off cap b2 off2 cap2 w hl h hc (fun i hi => hc2 i (by omega))
  · obtain ⟨a, cap, rfl⟩ := hx.shape
    obtain ⟨a2, cap2, rfl⟩ := hy.shape
    exact same_len x y a a2 cap cap2 w h
end Go.Proofs.Ytoalnkhedebpbaa
