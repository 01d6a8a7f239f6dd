/- Plainly: what writes, flushes make of a bench; stripe.Write, stripe.Flush as what they do to one disk after the other. -/
import Derived.Test.YtoalnkhedebpbaaModel0
namespace Go.Proofs.Ytoalnkhedebpbaa
open Go.RowKit

/-- A write is pending besides. -/
def DM.push (d : DM) (a : Nat) (x : List UInt8) : DM := { d with pend := d.pend ++ [(a, x)] }
/-- All that is pending stays. -/
def DM.flush (d : DM) : DM := { d with sec := rd d, pend := [] }
theorem rd_push (d : DM) (a : Nat) (x : List UInt8) (b : Nat) : rd (d.push a x) b = if a = b then x else rd d b := by
  unfold rd rdTo DM.push
  simp only [List.take_length, List.foldl_append]
  rfl
theorem rd_flush (d : DM) (b : Nat) : rd d.flush b = rd d b := rfl
/-- A write of a sector, on the bench. -/
def BM.wr (m : BM) (i a : Nat) (x : List UInt8) : Int × BM :=
  if m.down then (6, m) else if (m.d i).failed then (5, m) else if m.left = 0 then (6, { m with down := true }) else
    (0, { m with ds := m.ds.set i ((m.d i).push a x), writes := wrap64 (m.writes + 1), left := if 0 < m.left then wrap64 (m.left - 1) else m.left })
def BM.fl (m : BM) (i : Nat) : Int × BM := if m.down then (6, m) else if (m.d i).failed then (5, m) else (0, m.set i (m.d i).flush)
/-- One after the other, till there is an error. -/
def stepTo (f : BM → Nat → Int × BM) (m : BM) : Nat → Int × BM
  | 0 => (0, m)
  | k + 1 => if (stepTo f m k).1 = 0 then f (stepTo f m k).2 k else stepTo f m k
theorem stepTo_err {f : BM → Nat → Int × BM} {m : BM} {k : Nat} (h : (stepTo f m k).1 ≠ 0) : ∀ n, k ≤ n → stepTo f m n = stepTo f m k
  | 0, hn => by rw [show k = 0 from by omega]
  | n + 1, hn => by
    by_cases e : k = n + 1
    · rw [e]
    · have ih := stepTo_err h n (by omega)
      show (if (stepTo f m n).1 = 0 then f (stepTo f m n).2 n else stepTo f m n) = _
      rw [ih, if_neg h]
theorem stepTo_ok {f : BM → Nat → Int × BM} {m : BM} {k : Nat} (h : (stepTo f m k).1 = 0) : stepTo f m (k + 1) = f (stepTo f m k).2 k := by
  show (if (stepTo f m k).1 = 0 then _ else _) = _
  rw [if_pos h]
/-- The same disks have failed. -/
def Alike (m m' : BM) : Prop := m'.ds.length = m.ds.length ∧ ∀ j, (m'.d j).failed = (m.d j).failed
theorem Alike.refl (m : BM) : Alike m m := ⟨rfl, fun _ => rfl⟩
theorem Alike.trans {a b c : BM} (h : Alike a b) (k : Alike b c) : Alike a c := ⟨k.1.trans h.1, fun j => (k.2 j).trans (h.2 j)⟩
theorem Alike.up {m m' : BM} (h : Alike m m') (l : List Bool) (d : Nat) : upF m' l d = upF m l d := by unfold upF; rw [h.1, h.2]
theorem Alike.set {m : BM} {i : Nat} {d : DM} (h : d.failed = (m.d i).failed) : Alike m (m.set i d) := by
  refine ⟨BM.set_len m i d, fun j => ?_⟩
  by_cases hi : i < m.ds.length
  · rw [BM.set_d m d hi]
    by_cases e : j = i
    · subst e; rw [if_pos rfl, h]
    · rw [if_neg e]
  · have e : m.set i d = m := by
      unfold BM.set
      rw [List.set_eq_of_length_le (by omega)]
    rw [e]
theorem BM.wr_alike (m : BM) (i a : Nat) (x : List UInt8) : Alike m (m.wr i a x).2 := by
  unfold BM.wr
  split
  · exact Alike.refl m
  · split
    · exact Alike.refl m
    · split
      · exact ⟨rfl, fun _ => rfl⟩
      · exact Alike.set (m := m) (i := i) (d := (m.d i).push a x) rfl
theorem BM.fl_alike (m : BM) (i : Nat) : Alike m (m.fl i).2 := by
  unfold BM.fl
  split
  · exact Alike.refl m
  · split
    · exact Alike.refl m
    · exact Alike.set rfl
theorem stepTo_alike {f : BM → Nat → Int × BM} (hf : ∀ m k, Alike m (f m k).2) (m : BM) : ∀ k, Alike m (stepTo f m k).2
  | 0 => Alike.refl m
  | k + 1 => by
    unfold stepTo
    split
    · exact (stepTo_alike hf m k).trans (hf _ _)
    · exact stepTo_alike hf m k
/-- stripe.Write, Flush: what they do to a disk. -/
def swF (l : List Bool) (a : Nat) (X : List (List UInt8)) (m : BM) (k : Nat) : Int × BM := if upF m l k then m.wr k a (X.getD k []) else (0, m)
def flF (l : List Bool) (m : BM) (k : Nat) : Int × BM := if upF m l k then m.fl k else (0, m)
theorem swF_alike (l : List Bool) (a : Nat) (X : List (List UInt8)) (m : BM) (k : Nat) : Alike m (swF l a X m k).2 := by
  unfold swF
  split
  · exact BM.wr_alike m k a _
  · exact Alike.refl m
theorem flF_alike (l : List Bool) (m : BM) (k : Nat) : Alike m (flF l m k).2 := by
  unfold flF
  split
  · exact BM.fl_alike m k
  · exact Alike.refl m
/-- While there is power, and no end of it. -/
def Free (m : BM) : Prop := m.down = false ∧ m.left = -1
theorem BM.wr_ok {m : BM} (h : Free m) {i a : Nat} {x : List UInt8} (hi : i < m.ds.length) (hf : (m.d i).failed = false) : (m.wr i a x).1 = 0 ∧ Free (m.wr i a x).2 ∧ ∀ j, (m.wr i a x).2.d j = if j = i then (m.d i).push a x else m.d j := by
  obtain ⟨h1, h2⟩ := h
  unfold BM.wr
  rw [h1, hf, h2]
  refine ⟨rfl, ⟨rfl, rfl⟩, fun j => ?_⟩
  exact BM.set_d m _ hi
theorem BM.fl_ok {m : BM} (h : m.down = false) {i : Nat} (hi : i < m.ds.length) (hf : (m.d i).failed = false) : (m.fl i).1 = 0 ∧ (m.fl i).2.down = false ∧ (m.fl i).2.left = m.left ∧ (m.fl i).2.writes = m.writes ∧ ∀ j, (m.fl i).2.d j = if j = i then (m.d i).flush else m.d j := by
  unfold BM.fl
  rw [h, hf]
  exact ⟨rfl, h, rfl, rfl, fun j => BM.set_d m _ hi⟩
theorem sw_free {m : BM} (h : Free m) (l : List Bool) (a : Nat) (X : List (List UInt8)) : ∀ k, (stepTo (swF l a X) m k).1 = 0 ∧ Free (stepTo (swF l a X) m k).2 ∧ ∀ j, (stepTo (swF l a X) m k).2.d j = if j < k ∧ upF m l j = true then (m.d j).push a (X.getD j []) else m.d j
  | 0 => ⟨rfl, h, fun j => by rw [if_neg (by omega)]; rfl⟩
  | k + 1 => by
    obtain ⟨h1, h2, h3⟩ := sw_free h l a X k
    have al := stepTo_alike (swF_alike l a X) m k
    rw [stepTo_ok h1]
    generalize (stepTo (swF l a X) m k).2 = M at *
    unfold swF
    rw [al.up]
    by_cases hu : upF m l k = true
    · rw [if_pos hu]
      have hk := upF_lt hu
      obtain ⟨w1, w2, w3⟩ := BM.wr_ok h2 (i := k) (a := a) (x := X.getD k []) (by rw [al.1]; exact hk.1) (by rw [al.2]; exact hk.2.2.2)
      refine ⟨w1, w2, fun j => ?_⟩
      rw [w3]
      by_cases e : j = k
      · subst e
        rw [if_pos rfl, if_pos ⟨by omega, hu⟩, h3, if_neg (by omega)]
      · rw [if_neg e, h3]
        by_cases c : j < k ∧ upF m l j = true
        · rw [if_pos c, if_pos ⟨by omega, c.2⟩]
        · rw [if_neg c, if_neg (fun c' => c ⟨by omega, c'.2⟩)]
    · rw [if_neg hu]
      refine ⟨rfl, h2, fun j => ?_⟩
      show M.d j = _
      rw [h3]
      by_cases c : j < k ∧ upF m l j = true
      · rw [if_pos c, if_pos ⟨by omega, c.2⟩]
      · rw [if_neg c, if_neg (fun c' => by
          by_cases e : j = k
          · subst e; exact hu c'.2
          · exact c ⟨by omega, c'.2⟩)]
theorem fl_free {m : BM} (h : m.down = false) (l : List Bool) : ∀ k, (stepTo (flF l) m k).1 = 0 ∧ (stepTo (flF l) m k).2.down = false ∧ (stepTo (flF l) m k).2.left = m.left ∧ (stepTo (flF l) m k).2.writes = m.writes ∧ ∀ j, (stepTo (flF l) m k).2.d j = if j < k ∧ upF m l j = true then (m.d j).flush else m.d j
  | 0 => ⟨rfl, h, rfl, rfl, fun j => by rw [if_neg (by omega)]; rfl⟩
  | k + 1 => by
    obtain ⟨h1, h2, h4, h5, h3⟩ := fl_free h l k
    have al := stepTo_alike (flF_alike l) m k
    rw [stepTo_ok h1]
    generalize (stepTo (flF l) m k).2 = M at *
    unfold flF
    rw [al.up]
    by_cases hu : upF m l k = true
    · rw [if_pos hu]
      have hk := upF_lt hu
      obtain ⟨w1, w2, w4, w5, w3⟩ := BM.fl_ok h2 (i := k) (by rw [al.1]; exact hk.1) (by rw [al.2]; exact hk.2.2.2)
      refine ⟨w1, w2, w4.trans h4, w5.trans h5, fun j => ?_⟩
      rw [w3]
      by_cases e : j = k
      · subst e
        rw [if_pos rfl, if_pos ⟨by omega, hu⟩, h3, if_neg (by omega)]
      · rw [if_neg e, h3]
        by_cases c : j < k ∧ upF m l j = true
        · rw [if_pos c, if_pos ⟨by omega, c.2⟩]
        · rw [if_neg c, if_neg (fun c' => c ⟨by omega, c'.2⟩)]
    · rw [if_neg hu]
      refine ⟨rfl, h2, h4, h5, fun j => ?_⟩
      show M.d j = _
      rw [h3]
      by_cases c : j < k ∧ upF m l j = true
      · rw [if_pos c, if_pos ⟨by omega, c.2⟩]
      · rw [if_neg c, if_neg (fun c' => by
          by_cases e : j = k
          · subst e; exact hu c'.2
          · exact c ⟨by omega, c'.2⟩)]
end Go.Proofs.Ytoalnkhedebpbaa
