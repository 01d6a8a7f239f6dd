/- Plainly: rows on a bench's disks; benches whose disks are whole; live disks. -/
import Derived.Test.YtoalnkhedebpbaaSolve
namespace Go.Proofs.Ytoalnkhedebpbaa
open Go.RowKit

/-- Of a geometry's disks, how many can't be asked. -/
def lostN (m : BM) (l : List Bool) (D : Nat) : Nat := ((List.range D).filter fun d => !upF m l d).length
/-- A row stands on the disks that can be asked. -/
structure OnDisks (m : BM) (l : List Bool) (L D C : Int) (r : Nat) (data : List (List UInt8)) : Prop where
  len : (data.length : Int) = D - (L - 4)
  sec : ∀ i, i < data.length → (data.getD i []).length = 32
  rows : ∀ d : Nat, (d : Int) < D → upF m l d = true → rd (m.d d) (36 + r) = (fillR L D C r data).getD d []
theorem filter_len_congr {f g : Nat → Bool} {n : Nat} (h : ∀ i, i < n → f i = g i) : ((List.range n).filter f).length = ((List.range n).filter g).length := by
  rw [gone_count, gone_count]
  exact List.countP_congr (fun i hi => by rw [h i (List.mem_range.1 hi)])
theorem OnDisks.lost {m : BM} {l : List Bool} {L D C : Int} {r : Nat} {data : List (List UInt8)} (h : OnDisks m l L D C r data) (hg : goodG L D C = true) :
    lostR L D C r (seen m l D.toNat (36 + r)) = decide (L - 4 < (lostN m l D.toNat : Int)) := by
  rw [lost_count hg]
  have e : (goneTo (seen m l D.toNat (36 + r)) D.toNat).length = lostN m l D.toNat := by
    unfold goneTo lostN
    refine filter_len_congr (fun d hd => ?_)
    rw [seen_get m l _ _ hd]
    by_cases hu : upF m l d = true
    · rw [if_pos hu, hu, h.rows d (by omega) hu, fillR_sec hg r h.len h.sec (by omega)]; rfl
    · rw [if_neg hu, show upF m l d = false from by simpa using hu]; rfl
  rw [e]
theorem OnDisks.take {m : BM} {l : List Bool} {L D C : Int} {r : Nat} {data : List (List UInt8)} (h : OnDisks m l L D C r data) (hg : goodG L D C = true) (hl : (lostN m l D.toNat : Int) ≤ L - 4) :
    takeR L D C r (seen m l D.toNat (36 + r)) = data := by
  refine take_plain hg r h.len h.sec (fun d hd => ?_) (by rw [h.lost hg]; exact decide_eq_false (by omega))
  rw [seen_get m l _ _ (by omega)]
  by_cases hu : upF m l d = true
  · rw [if_pos hu]; exact .inr (h.rows d hd hu)
  · rw [if_neg hu]; exact .inl rfl
theorem OnDisks.take' {m : BM} {l : List Bool} {L D C : Int} {r : Nat} {data : List (List UInt8)} (h : OnDisks m l L D C r data) (hg : goodG L D C = true) (hl : lostR L D C r (seen m l D.toNat (36 + r)) = false) :
    takeR L D C r (seen m l D.toNat (36 + r)) = data := by
  rw [h.lost hg] at hl
  exact h.take hg (by have := of_decide_eq_false hl; omega)
/-- One sector of a row. -/
theorem OnDisks.one {m : BM} {l : List Bool} {L D C : Int} {r k : Nat} {data : List (List UInt8)} (h : OnDisks m l L D C r data) (hg : goodG L D C = true) (hk : (k : Int) < D - (L - 4)) :
    oneLost m l L D C (numOf L D C r k) = (!upF m l (dskOf L D C r k).toNat && decide (L - 4 < (lostN m l D.toNat : Int))) ∧
    (oneLost m l L D C (numOf L D C r k) = false → oneV m l L D C (numOf L D C r k) = data.getD k []) := by
  obtain ⟨er, ek⟩ := row_num (r := r) hg (show (0 : Int) ≤ k by omega) hk
  have ed : dOf L D C (numOf L D C r k) = (dskOf L D C r k).toNat := by unfold dOf; rw [er, ek]
  have e1 : oneLost m l L D C (numOf L D C r k) = (!upF m l (dskOf L D C r k).toNat && decide (L - 4 < (lostN m l D.toNat : Int))) := by
    unfold oneLost; rw [ed, er, show ((r : Int)).toNat = r from by omega, h.lost hg]
  refine ⟨e1, fun hl => ?_⟩
  rw [e1] at hl
  unfold oneV
  rw [ed, er, ek, show ((r : Int)).toNat = r from by omega, show ((k : Int)).toNat = k from by omega]
  obtain ⟨d0, d1⟩ := dskOf_bds hg r k
  by_cases hu : upF m l (dskOf L D C r k).toNat = true
  · rw [if_pos hu, h.rows _ (by omega) hu, fillR_data hg r h.len hk]
  · rw [if_neg hu]
    have hu' : upF m l (dskOf L D C r k).toNat = false := by simpa using hu
    rw [hu'] at hl
    rw [h.take hg (by have := of_decide_eq_false (by simpa using hl : decide (L - 4 < (lostN m l D.toNat : Int)) = false); omega)]
theorem upF_set {m : BM} {l : List Bool} {i j : Nat} {d : DM} (hf : d.failed = (m.d i).failed) : upF (m.set i d) l j = upF m l j := by
  by_cases hi : i < m.ds.length
  · unfold upF
    rw [BM.set_len, BM.set_d m d hi]
    by_cases e : j = i
    · subst e; rw [if_pos rfl, hf]
    · rw [if_neg e]
  · have e : m.set i d = m := by
      unfold BM.set
      rw [List.set_eq_of_length_le (by omega)]
    rw [e]
theorem rd_none {d : DM} (hp : d.pend = []) (a : Nat) : rd d a = d.sec a := by unfold rd rdTo; rw [hp]; rfl
theorem rd_put {d : DM} (hp : d.pend = []) (a : Nat) (x : List UInt8) (b : Nat) : rd (d.put a x) b = if b = a then x else rd d b := by
  rw [rd_none (d := d.put a x) hp, rd_none hp]; rfl
/-- A bench of n disks that have not failed, with nothing pending: f d a is what stands there. -/
def stdM (n : Nat) (f : Nat → Nat → List UInt8) : BM := ⟨(List.range n).map fun d => ⟨f d, [], false⟩, 0, -1, false⟩
theorem stdM_len (n : Nat) (f : Nat → Nat → List UInt8) : (stdM n f).ds.length = n := by simp [stdM]
theorem stdM_d {n : Nat} (f : Nat → Nat → List UInt8) {d : Nat} (h : d < n) : (stdM n f).d d = ⟨f d, [], false⟩ := by simp [stdM, BM.d, h]
theorem stdM_zero (n : Nat) : bm0 n = stdM n (fun _ _ => zeros 32) := by
  unfold bm0 stdM
  congr 1
  apply List.ext_getElem?
  intro i
  by_cases h : i < n <;> simp [h, dm0]
theorem stdM_set {n : Nat} (f : Nat → Nat → List UInt8) {i : Nat} (a : Nat) (x : List UInt8) (h : i < n) : (stdM n f).set i (((stdM n f).d i).put a x) = stdM n (fun d b => if d = i ∧ b = a then x else f d b) := by
  rw [stdM_d f h]
  unfold BM.set stdM DM.put
  congr 1
  apply List.ext_getElem?
  intro j
  rw [List.getElem?_set]
  by_cases hj : j < n
  · by_cases e : i = j
    · subst e; simp [hj]
    · have e' : ¬ j = i := fun h => e h.symm
      simp [hj, e, e']
  · have e : ¬ i = j := by omega
    simp [hj, e]
/-- Rows that are laid one after the other, each disk by disk: of row r already k disks. -/
def fstage (Dn : Nat → Nat) (G : Nat → Nat → List UInt8) (r k d a : Nat) : List UInt8 := if 36 ≤ a ∧ d < Dn (a - 36) ∧ (a - 36 < r ∨ a - 36 = r ∧ d < k) then G (a - 36) d else zeros 32
theorem fstage_zero (Dn : Nat → Nat) (G : Nat → Nat → List UInt8) : fstage Dn G 0 0 = fun _ _ => zeros 32 := by
  funext d a
  unfold fstage
  rw [if_neg (by omega)]
theorem fstage_step {Dn : Nat → Nat} {G : Nat → Nat → List UInt8} {r k : Nat} (hk : k < Dn r) : (fun d b => if d = k ∧ b = 36 + r then G r k else fstage Dn G r k d b) = fstage Dn G r (k + 1) := by
  funext d a
  unfold fstage
  by_cases e : d = k ∧ a = 36 + r
  · obtain ⟨rfl, rfl⟩ := e
    rw [if_pos ⟨rfl, rfl⟩, if_pos (by rw [show 36 + r - 36 = r from by omega]; omega), show 36 + r - 36 = r from by omega]
  · rw [if_neg e]
    by_cases h : 36 ≤ a ∧ d < Dn (a - 36) ∧ (a - 36 < r ∨ a - 36 = r ∧ d < k)
    · rw [if_pos h, if_pos (by omega)]
    · rw [if_neg h, if_neg (by omega)]
theorem fstage_next (Dn : Nat → Nat) (G : Nat → Nat → List UInt8) (r : Nat) : fstage Dn G r (Dn r) = fstage Dn G (r + 1) 0 := by
  funext d a
  unfold fstage
  by_cases h : 36 ≤ a ∧ d < Dn (a - 36) ∧ (a - 36 < r ∨ a - 36 = r ∧ d < Dn r)
  · rw [if_pos h, if_pos (by omega)]
  · rw [if_neg h, if_neg (fun e => h ⟨e.1, e.2.1, by
      rcases Nat.lt_or_ge (a - 36) r with e3 | e3
      · exact .inl e3
      · have : a - 36 = r := by omega
        exact .inr ⟨this, this ▸ e.2.1⟩⟩)]
/-- Live disks of a number. -/
def liveF (n : Int) (D : Nat) : List Bool :=
  let l1 := if 0 < within n 3 then (List.replicate D true).set (within (wrap64 (n.tdiv 3)) D).toNat false else List.replicate D true
  if within n 9 = 8 then l1.set (within (wrap64 (n.tdiv 27)) D).toNat false else l1
theorem liveF_length (n : Int) (D : Nat) : (liveF n D).length = D := by
  unfold liveF
  simp only
  split <;> split <;> simp
theorem liveF_zero (D : Nat) : liveF 0 D = List.replicate D true := by
  unfold liveF
  have h3 : within 0 3 = 0 := by decide
  have h9 : within 0 9 = 0 := by decide
  simp only [h3, h9]
  rfl
theorem count_two (f : Nat → Bool) (a b : Nat) (h : ∀ i, f i = true → i = a ∨ i = b) : ∀ n, ((List.range n).filter f).length ≤ (if a < n then 1 else 0) + (if b < n then 1 else 0)
  | 0 => by simp
  | n + 1 => by
    rw [List.range_succ, List.filter_append, List.length_append]
    have ih := count_two f a b h n
    by_cases hf : f n = true
    · rw [List.filter_cons, if_pos hf]
      simp only [List.filter_nil, List.length_cons, List.length_nil]
      rcases h n hf with e | e
      · subst e
        rw [if_neg (Nat.lt_irrefl n)] at ih
        rw [if_pos (Nat.lt_succ_self n)]
        split at ih <;> split <;> omega
      · subst e
        rw [if_neg (Nat.lt_irrefl n)] at ih
        rw [if_pos (Nat.lt_succ_self n)]
        split at ih <;> split <;> omega
    · rw [List.filter_cons, if_neg hf]
      simp only [List.filter_nil, List.length_nil]
      split at ih <;> split at ih <;> split <;> split <;> omega
theorem count_one (f : Nat → Bool) (a n : Nat) (h : ∀ i, i < n → f i = true → i = a) : ((List.range n).filter f).length ≤ 1 := by
  have e : ((List.range n).filter f).length = ((List.range n).filter fun i => f i && decide (i = a)).length := filter_len_congr (fun i hi => by
    cases hf : f i
    · rfl
    · rw [decide_eq_true (h i hi hf)]; rfl)
  rw [e]
  have : ∀ n, ((List.range n).filter fun i => f i && decide (i = a)).length ≤ if a < n then 1 else 0 := by
    intro n
    induction n with
    | zero => simp
    | succ n ih =>
      rw [List.range_succ, List.filter_append, List.length_append, List.filter_cons]
      by_cases e : n = a
      · subst e
        rw [if_neg (Nat.lt_irrefl n)] at ih
        rw [if_pos (Nat.lt_succ_self n)]
        split <;> simp only [List.filter_nil, List.length_cons, List.length_nil] <;> omega
      · rw [decide_eq_false e, Bool.and_false, if_neg (by decide)]
        simp only [List.filter_nil, List.length_nil]
        split at ih <;> split <;> omega
  have := this n
  split at this <;> omega
theorem lostN_one {m : BM} {l : List Bool} {D : Nat} (a : Nat) (h : ∀ d, d < D → d ≠ a → upF m l d = true) : lostN m l D ≤ 1 := by
  unfold lostN
  refine count_one _ a D (fun i hi hf => ?_)
  by_cases e : i = a
  · exact e
  · rw [h i hi e] at hf; exact absurd hf (by decide)
theorem lostN_two {m : BM} {l : List Bool} {D : Nat} (a b : Nat) (h : ∀ d, d < D → d ≠ a → d ≠ b → upF m l d = true) : lostN m l D ≤ 2 := by
  unfold lostN
  have e : ((List.range D).filter fun d => !upF m l d).length = ((List.range D).filter fun d => !upF m l d && (decide (d = a) || decide (d = b))).length := filter_len_congr (fun i hi => by
    by_cases e1 : i = a
    · simp [e1]
    · by_cases e2 : i = b
      · simp [e2]
      · rw [h i hi e1 e2]; rfl)
  rw [e]
  have := count_two (fun d => !upF m l d && (decide (d = a) || decide (d = b))) a b (fun i hi => by simp at hi; exact hi.2) D
  split at this <;> split at this <;> omega
end Go.Proofs.Ytoalnkhedebpbaa
