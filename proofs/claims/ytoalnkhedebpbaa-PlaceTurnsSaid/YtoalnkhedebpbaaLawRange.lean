/- Ranging over a map with int keys that the round leaves alone. -/
import Derived.Test.YtoalnkhedebpbaaBase
import Derived.Maps.RangeRun
namespace Go.Proofs.Ytoalnkhedebpbaa
open Go.RowKit

/-- The iterator: what it has seen. -/
def itObj (m n : Nat) (seen : Array Nat) : Obj := .mapIter (some m) n seen n
def leftN (n : Nat) (seen : Array Nat) : Nat := ((List.range n).filter fun i => !seen.contains i).length
theorem filter_lt {l : List Nat} {p q : Nat → Bool} (hpq : ∀ x, q x = true → p x = true) {i : Nat} (hi : i ∈ l) (h1 : p i = true) (h2 : q i = false) : (l.filter q).length < (l.filter p).length := by
  induction l with
  | nil => cases hi
  | cons x r ih =>
    have hle : (r.filter q).length ≤ (r.filter p).length := by
      clear ih hi
      induction r with
      | nil => simp
      | cons y r ih =>
        simp only [List.filter_cons]
        cases hq : q y with
        | true => simp [hpq y hq]; exact ih
        | false => cases hp : p y <;> simp <;> omega
    rcases List.mem_cons.1 hi with rfl | hi
    · simp [h1, h2]; omega
    · have := ih hi
      simp only [List.filter_cons]
      cases hq : q x with
      | true => simp [hpq x hq]; exact this
      | false => cases hp : p x <;> simp <;> omega
theorem leftN_lt {n i : Nat} {seen : Array Nat} (hi : i < n) (hn : seen.contains i = false) : leftN n (seen.push i) < leftN n seen :=
  filter_lt (fun x hx => by simp at hx ⊢; exact hx.1) (List.mem_range.2 hi) (by simpa using hn) (by simp)
theorem ents_mem : ∀ (m : List (Int × Value)) (b : Nat) (e : MapEntry), e ∈ entsFrom b m → b ≤ e.born ∧ ∃ k v, m[e.born - b]? = some (k, v) ∧ e.key = .int .i64 k ∧ e.val = v ∧ e.born < b + m.length
  | [], _, _, h => by cases h
  | (k, v) :: r, b, e, h => by
    unfold entsFrom at h
    rcases List.mem_cons.1 h with rfl | h
    · exact ⟨Nat.le_refl _, k, v, by simp, rfl, rfl, by simp⟩
    · obtain ⟨h1, k', v', h2, h3, h4, h5⟩ := ents_mem r (b + 1) e h
      refine ⟨by omega, k', v', ?_, h3, h4, by simp; omega⟩
      rw [show e.born - b = (e.born - (b + 1)) + 1 from by omega]; simpa using h2
theorem ents_nodup : ∀ (m : List (Int × Value)) (b : Nat), ((entsFrom b m).map (·.born)).Nodup
  | [], _ => by simp [entsFrom]
  | (k, v) :: r, b => by
    simp only [entsFrom, List.map_cons, List.nodup_cons]
    refine ⟨fun h => ?_, ents_nodup r (b + 1)⟩
    obtain ⟨e, he, hb⟩ := List.mem_map.1 h
    have := (ents_mem r (b + 1) e he).1
    omega
section
variable {P : Program} {ops : Array Oper} {Q : Exit → Act → World → Prop} {a : Act} {w : World} {rest : List Oper} {d : Option Tmp} {ty : TypeId} {pos : String} {after : Array Edge} {T K E : TypeId}
theorem wpL_range {x : Operand} {m : Nat} {es : List (Int × Value)} (hT : P.underlying T = some (.map K E)) (hx : a.eval x = .map (some m)) (hm : w.heap[m]? = some (mapObj es))
    (h : wpList P ops Q rest (a.put d (.pointer (some ⟨w.heap.size, 0, none⟩))) (w.alloc (itObj m es.length #[]))) :
    wpList P ops Q ({ dst := d, op := .range T x, type := ty, pos := pos, after := after, guard := none } :: rest) a w :=
  wpList_plain rfl fun K' hK' => by
    have hg : (getObj m).run P w = .ok (mapObj es) w := run_getObj_m hm
    have hr : (Instr.range T (.map (some m))).run P w = .ok (.pointer (some ⟨w.heap.size, 0, none⟩)) (w.alloc (itObj m es.length #[])) := by
      unfold Instr.range
      simp only [Sem.run_bind, run_underlying hT w, Result.andThen_ok, hg]
      unfold mapObj
      simp only [Sem.run_bind, Sem.run_pure, Result.andThen_ok, itObj]
      rfl
    unfold Oper.wp execOp
    simp only [hx, Sem.run_bind, hr, Result.andThen_ok, Sem.run_pure]
    exact hK' _ _ h
theorem wpL_next {x : Operand} {r m : Nat} {es : List (Int × Value)} {seen : Array Nat} (hx : a.eval x = .pointer (some ⟨r, 0, none⟩)) (hr : w.heap[r]? = some (itObj m es.length seen)) (hm : w.heap[m]? = some (mapObj es))
    (h0 : (∀ i, i < es.length → seen.contains i = true) → wpList P ops Q rest (a.put d (.tuple #[.bool false])) w)
    (h1 : ∀ (i : Nat) (k : Int) (v : Value) (w1 : World), es[i]? = some (k, v) → seen.contains i = false → (w1 = w ∨ w1 = w.drew) →
      wpList P ops Q rest (a.put d (.tuple #[.bool true, .int .i64 k, v])) (putB w1 r (itObj m es.length (seen.push i)))) :
    wpList P ops Q ({ dst := d, op := .next x false, type := ty, pos := pos, after := after, guard := none } :: rest) a w :=
  wpList_plain rfl fun K' hK' => by
    have hb : ∀ e ∈ (entsFrom 0 es).toArray.toList, e.born < es.length := fun e he => by have := (ents_mem es 0 e (by simpa using he)).2; obtain ⟨_, _, _, _, _, h⟩ := this; omega
    rcases run_next_at (P := P) w ty r m es.length es.length seen (entsFrom 0 es).toArray es.length hr hm hb (Nat.le_refl _) with ⟨hs, hrun⟩ | ⟨e, he, w1, hw1, hrun⟩
    · unfold Oper.wp execOp
      simp only [hx, Sem.run_bind, hrun, Result.andThen_ok, Sem.run_pure]
      refine hK' _ _ (h0 fun i hi => ?_)
      cases hc : seen.contains i with
      | true => rfl
      | false =>
        exfalso
        have hmem : ∃ e ∈ entsFrom 0 es, e.born = i := by
          have hl : i < ((entsFrom 0 es).map (·.born)).length := by simp [entsFrom_length, hi]
          have hget : ∀ (m : List (Int × Value)) (b j : Nat), j < m.length → ∃ e ∈ entsFrom b m, e.born = b + j := by
            intro m
            induction m with
            | nil => intro b j hj; simp at hj
            | cons x r ih =>
              intro b j hj
              cases j with
              | zero => exact ⟨_, by unfold entsFrom; exact List.mem_cons_self, rfl⟩
              | succ j =>
                obtain ⟨e, he, hb⟩ := ih (b + 1) j (by simpa using hj)
                exact ⟨e, by unfold entsFrom; exact List.mem_cons_of_mem _ he, by omega⟩
          obtain ⟨e, he, hb⟩ := hget es 0 i hi
          exact ⟨e, he, by omega⟩
        obtain ⟨e, he, rfl⟩ := hmem
        have : e ∈ leftOf (entsFrom 0 es).toArray seen := by
          unfold leftOf
          rw [Array.mem_filter]
          exact ⟨by simpa using he, by simpa using hc⟩
        rw [Array.eq_empty_of_size_eq_zero hs] at this
        simp at this
    · have he' : e ∈ entsFrom 0 es ∧ seen.contains e.born = false := by
        unfold leftOf at he
        rw [Array.mem_toList_iff, Array.mem_filter] at he
        exact ⟨by simpa using he.1, by simpa using he.2⟩
      obtain ⟨_, k, v, hk, hkey, hval, _⟩ := ents_mem es 0 e he'.1
      unfold Oper.wp execOp
      simp only [hx, Sem.run_bind, hrun, Result.andThen_ok, Sem.run_pure, hkey, hval]
      exact hK' _ _ (h1 e.born k v w1 (by simpa using hk) he'.2 hw1)
theorem wpL_entry {x : Operand} {r m i : Nat} {es : List (Int × Value)} {seen : Array Nat} {k : Int} {v : Value} (hx : a.eval x = .pointer (some ⟨r, 0, none⟩)) (hr : w.heap[r]? = some (itObj m es.length (seen.push i))) (hm : w.heap[m]? = some (mapObj es))
    (hi : es[i]? = some (k, v)) (h : wpList P ops Q rest (a.put d (.tuple #[.int .i64 k, v])) w) :
    wpList P ops Q ({ dst := d, op := .entry x, type := ty, pos := pos, after := after, guard := none } :: rest) a w :=
  wpList_plain rfl fun K' hK' => by
    have hmem : ∀ (l : List (Int × Value)) (b j : Nat), l[j]? = some (k, v) → ({ key := .int .i64 k, val := v, born := b + j } : MapEntry) ∈ entsFrom b l := by
      intro l
      induction l with
      | nil => intro b j hj; simp at hj
      | cons x r ih =>
        intro b j hj
        cases j with
        | zero => simp at hj; subst hj; unfold entsFrom; exact List.mem_cons_self
        | succ j =>
          have := ih (b + 1) j (by simpa using hj)
          unfold entsFrom
          refine List.mem_cons_of_mem _ ?_
          rw [show b + (j + 1) = b + 1 + j from by omega]; exact this
    have he := hmem es 0 i hi
    rw [Nat.zero_add] at he
    have hrun := run_entry_at (P := P) w r m es.length seen (entsFrom 0 es).toArray es.length { key := .int .i64 k, val := v, born := i } hr hm (by simpa using he) (by simpa using ents_nodup es 0)
    unfold Oper.wp execOp
    simp only [hx, Sem.run_bind, hrun, Result.andThen_ok, Sem.run_pure]
    exact hK' _ _ h
end
end Go.Proofs.Ytoalnkhedebpbaa
