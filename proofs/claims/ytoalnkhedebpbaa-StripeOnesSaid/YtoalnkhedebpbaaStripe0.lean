/- stripe.up, Read: what they answer while there is power. -/
import Derived.Test.YtoalnkhedebpbaaBench1
namespace Go.Proofs.Ytoalnkhedebpbaa
open Go.RowKit

def BoolsAt (w : World) (v : Value) (l : List Bool) : Prop := SlAt w 4 v (l.map Value.bool)
theorem BoolsAt.gr {w w' : World} {v : Value} {l : List Bool} (h : BoolsAt w v l) (g : Gr w w') : BoolsAt w' v l := SlAt.gr h g
theorem BoolsAt.shape {w : World} {v : Value} {l : List Bool} (h : BoolsAt w v l) : ∃ a cap, v = .slice a l.length cap := by
  rcases h with ⟨h1, a, cap, rfl⟩ | ⟨b, off, cap, cs, fr, rfl, _⟩
  · have : l = [] := by simpa using h1
    subst this
    exact ⟨a, cap, rfl⟩
  · exact ⟨some ⟨b, off, none⟩, cap, by simp⟩
theorem BoolsAt.cells {w : World} {v : Value} {l : List Bool} (h : BoolsAt w v l) (h0 : 0 < l.length) : ∃ b off cap, v = .slice (some ⟨b, off, none⟩) l.length cap ∧ ∀ i, i < l.length → w.cell? ⟨b, off + i, none⟩ = some (.bool (l.getD i false)) := by
  rcases h with ⟨h1, _⟩ | ⟨b, off, cap, cs, fr, rfl, hb, hc, _⟩
  · have : l = [] := by simpa using h1
    subst this
    simp at h0
  · refine ⟨b, off, cap, by simp, fun i hi => ?_⟩
    rw [cell_of_row w b _ cs _ fr hb, hc i (by simpa using hi)]
    simp [hi]
def upF (m : BM) (l : List Bool) (d : Nat) : Bool := decide (d < m.ds.length) && decide (d < l.length) && l.getD d false && !(m.d d).failed
set_option maxRecDepth 100000 in
set_option maxHeartbeats 400000 in
theorem up_any (m : BM) (l : List Bool) (F : Nat → Prop) (bb d : Nat) (v : Value) (w : World) (h : BenchAt w F bb m) (hv : BoolsAt w v l) :
    Calls Try.prog 77 #[bp bb, v, .int .i64 d] w fun e w' => e = .returned (.bool (upF m l d)) ∧ w = w' := by
  have H := Lib.hid h; clear h
  by_cases h1 : d < m.ds.length
  · by_cases h2 : d < l.length
    · obtain ⟨b, off, cap, rfl, hc⟩ := hv.cells (by omega)
      have c0 := hc d h2
      clear hc hv
      obtain ⟨x, hx⟩ : ∃ x, x = l.getD d false := ⟨_, rfl⟩
      rw [← hx] at c0
      cases x with
      | true =>
        have hu : upF m l d = !(m.d d).failed := by unfold upF; rw [decide_eq_true h1, decide_eq_true h2, ← hx]; rfl
        have HF : Hid ((decide (d < m.ds.length) && (m.d d).failed) = (m.d d).failed) := Lib.hid (by rw [decide_eq_true h1]; rfl)
        rw [hu]
        clear hu hx
        go_enter Try.func77, Try.ntmps77
        go_wp2_with fail
        refine (blen_any m F bb _ H.out).mono ?_
        rintro e w1 ⟨rfl, rfl⟩
        go_wp2_with fail
        refine (bfailed_any m F bb d _ H.out).mono ?_
        rintro e w1 ⟨rfl, rfl⟩
        rw [HF.out]
        go_wp2
        go_ret
        exact ⟨rfl, rfl⟩
      | false =>
        have hu : upF m l d = false := by unfold upF; rw [← hx]; simp
        rw [hu]
        clear hu hx
        go_enter Try.func77, Try.ntmps77
        go_wp2_with fail
        refine (blen_any m F bb _ H.out).mono ?_
        rintro e w1 ⟨rfl, rfl⟩
        go_wp2
        go_ret
        exact ⟨rfl, rfl⟩
    · have hu : upF m l d = false := by unfold upF; rw [decide_eq_false h2]; simp
      rw [hu]
      obtain ⟨a, cap, rfl⟩ := hv.shape
      have d2 : decide (d < l.length) = false := decide_eq_false h2
      clear hu hv h2
      go_enter Try.func77, Try.ntmps77
      go_wp2_with fail
      refine (blen_any m F bb _ H.out).mono ?_
      rintro e w1 ⟨rfl, rfl⟩
      go_wp2
      go_ret
      exact ⟨rfl, rfl⟩
  · have hu : upF m l d = false := by unfold upF; rw [decide_eq_false h1]; simp
    rw [hu]
    have d1 : decide (d < m.ds.length) = false := decide_eq_false h1
    clear hu h1
    obtain ⟨a, cap, rfl⟩ := hv.shape
    clear hv
    go_enter Try.func77, Try.ntmps77
    go_wp2_with fail
    refine (blen_any m F bb _ H.out).mono ?_
    rintro e w1 ⟨rfl, rfl⟩
    go_wp2
    go_ret
    exact ⟨rfl, rfl⟩
/-- What is seen of a row on the bench. -/
def seenTo (m : BM) (l : List Bool) (D a : Nat) : Nat → List (List UInt8)
  | 0 => List.replicate D []
  | k + 1 => if upF m l k then (seenTo m l D a k).set k (rd (m.d k) a) else seenTo m l D a k
def seen (m : BM) (l : List Bool) (D a : Nat) : List (List UInt8) := seenTo m l D a D
theorem seenTo_length (m : BM) (l : List Bool) (D a : Nat) : ∀ k, (seenTo m l D a k).length = D
  | 0 => by simp [seenTo]
  | k + 1 => by
    unfold seenTo
    split
    · rw [List.length_set]; exact seenTo_length m l D a k
    · exact seenTo_length m l D a k
theorem seenTo_get (m : BM) (l : List Bool) (D a : Nat) {j : Nat} (hj : j < D) : ∀ k, (seenTo m l D a k).getD j [] = if j < k ∧ upF m l j = true then rd (m.d j) a else []
  | 0 => by simp [seenTo, hj]
  | k + 1 => by
    unfold seenTo
    by_cases e : j = k
    · subst e
      by_cases hu : upF m l j = true
      · rw [if_pos hu, getD_set_self (by rw [seenTo_length]; exact hj), if_pos ⟨by omega, hu⟩]
      · rw [if_neg hu, seenTo_get m l D a hj, if_neg (by omega), if_neg (fun h => hu h.2)]
    · have hs := seenTo_get m l D a hj k
      have h1 : (j < k ∧ upF m l j = true) ↔ (j < k + 1 ∧ upF m l j = true) := by constructor <;> (rintro ⟨a, b⟩; exact ⟨by omega, b⟩)
      simp only [h1] at hs
      split
      · rw [getD_set_ne (Ne.symm e)]; exact hs
      · exact hs
theorem seen_get (m : BM) (l : List Bool) (D a : Nat) {j : Nat} (hj : j < D) : (seen m l D a).getD j [] = if upF m l j = true then rd (m.d j) a else [] := by
  unfold seen
  rw [seenTo_get m l D a hj]
  simp [hj]
theorem BenchAt.rdlen {w : World} {F : Nat → Prop} {bb : Nat} {m : BM} (h : BenchAt w F bb m) {i a : Nat} (hi : i < m.ds.length) (ha : a < 52) : (rd (m.d i) a).length = 32 := by
  obtain ⟨lb, cap, b, g, _, _, hd, _⟩ := h.at hi
  obtain ⟨cs, pv, h1, h2, h3, h4, h5, h6, h7, h8, h9⟩ := hd
  exact rdTo_len (h3 a ha) h9 _
theorem upF_lt {m : BM} {l : List Bool} {d : Nat} (h : upF m l d = true) : d < m.ds.length ∧ d < l.length ∧ l.getD d false = true ∧ (m.d d).failed = false := by
  unfold upF at h
  simpa [Bool.and_eq_true, and_assoc] using h
theorem rwE_ok {m : BM} {d a : Nat} (hd : m.down = false) (h : d < m.ds.length) (hf : (m.d d).failed = false) (ha : a < 52) : rwE m d a = 0 := by
  unfold rwE mayB isB
  simp [h, hd, mayF, hf]
  omega
end Go.Proofs.Ytoalnkhedebpbaa
