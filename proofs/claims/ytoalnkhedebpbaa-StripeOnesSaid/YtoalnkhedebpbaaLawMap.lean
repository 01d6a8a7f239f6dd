/- Maps whose keys are ints: what a literal's insert, a store, a lookup do, told by a list of pairs. -/
import Derived.WalkKit
import Derived.WalkSpells
import Derived.WalkLawsBesides
import Derived.MapKept
namespace Go.Proofs.Ytoalnkhedebpbaa
open Go.RowKit

/-- The entries of a map, told by a list of pairs: key, value; each is born as it came. -/
def entsFrom : Nat → List (Int × Value) → List MapEntry
  | _, [] => []
  | i, (k, v) :: r => { key := .int .i64 k, val := v, born := i } :: entsFrom (i + 1) r
def mapObj (m : List (Int × Value)) : Obj := .map (entsFrom 0 m).toArray m.length
def mfind (k : Int) : List (Int × Value) → Option Value
  | [] => none
  | (k', v) :: r => if k = k' then some v else mfind k r
def mset (k : Int) (v : Value) : List (Int × Value) → List (Int × Value)
  | [] => [(k, v)]
  | (k', u) :: r => if k = k' then (k', v) :: r else (k', u) :: mset k v r
/-- A block is another one. -/
def putB (w : World) (r : Nat) (o : Obj) : World := { w with heap := w.heap.setIfInBounds r o }

theorem entsFrom_length : ∀ (m : List (Int × Value)) (i : Nat), (entsFrom i m).length = m.length
  | [], _ => rfl
  | (k, v) :: r, i => by simp [entsFrom, entsFrom_length r]

def midx (k : Int) : List (Int × Value) → Nat → Option (Nat × Value)
  | [], _ => none
  | (k', v) :: r, i => if k = k' then some (i, v) else midx k r (i + 1)
theorem midx_mfind (k : Int) : ∀ (m : List (Int × Value)) (i : Nat), (midx k m i).map (·.2) = mfind k m
  | [], _ => rfl
  | (k', v) :: r, i => by
    unfold midx mfind
    split
    · rfl
    · exact midx_mfind k r (i + 1)
theorem findNow_int (k : Int) : ∀ (m : List (Int × Value)) (b i : Nat), Instr.findNow (.int .i64) (.int .i64 k) (entsFrom b m) i = some (midx k m i)
  | [], _, _ => rfl
  | (k', v) :: r, b, i => by
    unfold entsFrom Instr.findNow midx
    simp only [Instr.sameNow, if_true]
    by_cases h : k = k'
    · subst h; simp
    · have : (k == k') = false := by simp [h]
      simp only [this, h, if_false]
      exact findNow_int k r (b + 1) (i + 1)
section
variable {P : Program} {w : World} {T K E : TypeId}
theorem run_getObj_m {r : Nat} {m : List (Int × Value)} (hr : w.heap[r]? = some (mapObj m)) : (getObj r).run P w = .ok (mapObj m) w := by
  simp [getObj, Sem.run, hr]; rfl
theorem run_setObj_m {r : Nat} {m : List (Int × Value)} (o : Obj) (hr : w.heap[r]? = some (mapObj m)) : (setObj r o).run P w = .ok () (putB w r o) := by
  simp [setObj, Sem.run, hr, putB]; rfl
theorem run_findKey_int (hK : P.underlying K = some (.int .i64)) (k : Int) (m : List (Int × Value)) (b : Nat) :
    (Instr.findKey K (.int .i64 k) (entsFrom b m)).run P w = .ok (midx k m 0) w := by
  unfold Instr.findKey
  rw [Sem.run_bind, run_underlying hK w]
  simp [findNow_int]
theorem run_checkKey_int (hK : P.underlying K = some (.int .i64)) (e : Bool) (n : Nat) (k : Int) :
    (Instr.checkKey e (n + 1) K (.int .i64 k)).run P w = .ok () w := by
  unfold Instr.checkKey
  rw [Sem.run_bind, run_underlying hK w]
  simp
theorem run_lookup_int (hT : P.underlying T = some (.map K E)) (hK : P.underlying K = some (.int .i64)) {z : Value} (hz : (zeroValue E).run P w = .ok z w)
    {r : Nat} {m : List (Int × Value)} (hr : w.heap[r]? = some (mapObj m)) (k : Int) (ok : Bool) :
    (Instr.lookup T (.map (some r)) (.int .i64 k) ok).run P w =
      .ok (if ok then .tuple #[(mfind k m).getD z, .bool (mfind k m).isSome] else (mfind k m).getD z) w := by
  unfold Instr.lookup
  have hg : (getObj r).run P w = .ok (mapObj m) w := run_getObj_m hr
  rw [← midx_mfind k m 0]
  simp only [Sem.run_bind, run_underlying hT w, Result.andThen_ok, hg]
  unfold mapObj
  simp only [Sem.run_bind, Sem.run_pure, Result.andThen_ok, run_checkKey_int hK _ 9999 k, run_findKey_int hK k m 0]
  cases h : midx k m 0 with
  | none => cases ok <;> simp [hz]
  | some p => cases ok <;> simp
theorem entsFrom_snoc (k : Int) (v : Value) : ∀ (m : List (Int × Value)) (i : Nat), entsFrom i (m ++ [(k, v)]) = entsFrom i m ++ [{ key := .int .i64 k, val := v, born := i + m.length }]
  | [], _ => by simp [entsFrom]
  | (k', u) :: r, i => by
    simp only [List.cons_append, entsFrom, entsFrom_snoc k v r (i + 1), List.length_cons]
    rw [show i + 1 + r.length = i + (r.length + 1) from by omega]
theorem mset_none (k : Int) (v : Value) : ∀ (m : List (Int × Value)) (i : Nat), midx k m i = none → mset k v m = m ++ [(k, v)]
  | [], _, _ => rfl
  | (k', u) :: r, i, h => by
    unfold midx at h
    split at h
    · cases h
    · rename_i hk
      unfold mset
      rw [if_neg hk, mset_none k v r (i + 1) h]; rfl
theorem mset_some (k : Int) (v : Value) : ∀ (m : List (Int × Value)) (i b j : Nat) (u : Value), midx k m i = some (j, u) → i ≤ j ∧ j - i < m.length ∧
    entsFrom b (mset k v m) = (entsFrom b m).modify (j - i) (fun e => { e with key := .int .i64 k, val := v }) ∧ (mset k v m).length = m.length ∧
    (entsFrom b m)[j - i]?.map (·.key) = some (.int .i64 k)
  | [], _, _, _, _, h => by cases h
  | (k', u') :: r, i, b, j, u, h => by
    unfold midx at h
    unfold mset
    by_cases hk : k = k'
    · rw [if_pos hk] at h ⊢
      obtain ⟨rfl, rfl⟩ : i = j ∧ u' = u := by simpa using h
      subst hk
      simp [entsFrom]
    · rw [if_neg hk] at h ⊢
      obtain ⟨h1, h2, h3, h4, h5⟩ := mset_some k v r (i + 1) (b + 1) j u h
      have e : j - i = (j - (i + 1)) + 1 := by omega
      refine ⟨by omega, by simp; omega, ?_, by simp [h4], ?_⟩
      · rw [e]; simp only [entsFrom, List.modify_succ_cons, h3]
      · rw [e]; simp only [entsFrom, List.getElem?_cons_succ]; exact h5
theorem run_mapUpdate_int (hT : P.underlying T = some (.map K E)) (hK : P.underlying K = some (.int .i64))
    {r : Nat} {m : List (Int × Value)} (hr : w.heap[r]? = some (mapObj m)) (k : Int) (v : Value) :
    (Instr.mapUpdate T (.map (some r)) (.int .i64 k) v).run P w = .ok () (putB w r (mapObj (mset k v m))) := by
  unfold Instr.mapUpdate
  have hg : (getObj r).run P w = .ok (mapObj m) w := run_getObj_m hr
  simp only [Sem.run_bind, run_underlying hT w, Result.andThen_ok, hg]
  unfold mapObj
  simp only [Sem.run_bind, Result.andThen_ok, run_checkKey_int hK _ 9999 k, run_findKey_int hK k m 0]
  cases h : midx k m 0 with
  | none =>
    simp only [run_setObj_m _ hr]
    rw [mset_none k v m 0 h]
    simp [putB, entsFrom_snoc]
  | some p =>
    obtain ⟨j, u⟩ := p
    obtain ⟨_, h2, h3, h4, h5⟩ := mset_some k v m 0 0 j u h
    have hk : ((((entsFrom 0 m).toArray[j]?).map (·.key)).getD (.int .i64 k)) = .int .i64 k := by simpa using congrArg (fun x => Option.getD x (.int .i64 k)) h5
    simp only [Sem.run_bind, hk, Instr.keyThatStays, Instr.sameBits, beq_self_eq_true, Bool.and_self, if_true, Sem.run_pure, Result.andThen_ok, run_setObj_m _ hr]
    simp only [Nat.sub_zero] at h3
    rw [h3, h4]
    simp [putB]
end
end Go.Proofs.Ytoalnkhedebpbaa
