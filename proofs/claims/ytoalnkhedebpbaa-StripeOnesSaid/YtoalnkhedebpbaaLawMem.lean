/- Laws at one operation: rows of cells loaded, stored, laid; appends; copies. Blocks whole. -/
import Derived.Test.YtoalnkhedebpbaaBase
namespace Go.Proofs.Ytoalnkhedebpbaa
open Go.RowKit

theorem addr_add0 (g off j : Nat) : ((⟨g, off, none⟩ : Addr).add j) = ⟨g, off + j, none⟩ := by
  unfold Addr.add; split <;> simp_all
section
variable {P : Program} {ops : Array Oper} {Q : Exit → Act → World → Prop} {a : Act} {w : World} {rest : List Oper} {d : Option Tmp} {ty : TypeId} {pos : String} {after : Array Edge} {T E : TypeId}

theorem run_loadAgg {g off : Nat} {cs : Array Value} {t : TypeId} {fr : Nat × Nat} {vs : List Value} {ds : TypeDesc} (hg : w.heap[g]? = some (.cells cs t fr)) (hu : P.underlying T = some ds)
    (hd : (match ds with | .struct _ | .array _ _ => true | _ => false) = true) (hi : (P.info? T).map (·.size) = some vs.length) (hvs : ∀ j, j < vs.length → cs[off + j]? = vs[j]?) :
    (loadVar T ⟨g, off, none⟩).run P w = .ok (.agg vs.toArray) w := by
  have hl : (loadCells ⟨g, off, none⟩ vs.length).run P w = .ok vs.toArray w :=
    run_loadCells_list (P := P) w ⟨g, off, none⟩ vs (fun j v hv => by
      rw [addr_add0, cell_of_row w g _ cs t fr hg]
      have hj : j < vs.length := (List.getElem?_eq_some_iff.1 hv).1
      rw [hvs j hj, hv])
  cases hq : P.info? T with
  | none => simp [hq] at hi
  | some i =>
    have hs : i.size = vs.length := by simpa [hq] using hi
    have hagg : (isAgg T).run P w = .ok true w := by
      unfold isAgg
      rw [Sem.run_bind, run_underlying hu w]
      cases ds <;> simp_all
    simp [loadVar, Sem.run_bind, hagg, sizeOf, typeInfo, hq, hs, hl]
/-- A struct or an array is read out of the midst of a block. -/
theorem wpL_loadAgg {x : Operand} {g off : Nat} {cs : Array Value} {t : TypeId} {fr : Nat × Nat} (vs : List Value) {ds : TypeDesc} (hu : P.underlying T = some ds)
    (hd : (match ds with | .struct _ | .array _ _ => true | _ => false) = true) (hi : (P.info? T).map (·.size) = some vs.length)
    (hx : a.eval x = .pointer (some ⟨g, off, none⟩)) (hg : w.heap[g]? = some (.cells cs t fr)) (hvs : ∀ j, j < vs.length → cs[off + j]? = vs[j]?)
    (h : wpList P ops Q rest (a.put d (.agg vs.toArray)) w) :
    wpList P ops Q ({ dst := d, op := .load T x, type := ty, pos := pos, after := after, guard := none } :: rest) a w :=
  wpList_plain rfl fun K' hK' => by
    unfold Oper.wp execOp
    simp only [hx, Instr.loadAt, Instr.sureAddr, Sem.run_bind, Sem.run_pure, Result.andThen_ok, run_loadAgg hg hu hd hi hvs]
    exact hK' _ _ h
theorem run_storeAgg {g off : Nat} {cs : Array Value} {t : TypeId} {vs : List Value} (hg : w.heap[g]? = some (.cells cs t (0, 0)))
    (hi : (P.info? T).map (·.size) = some vs.length) (h1 : ∀ v ∈ vs, v.oneCell' = true) (hfit : off + vs.length ≤ cs.size) :
    (storeVar T ⟨g, off, none⟩ (.agg vs.toArray)).run P w = .ok () (w.setRow g (cs.toList.take off ++ vs ++ cs.toList.drop (off + vs.length)).toArray) := by
  have hst := run_storeCells_at P g off t vs 0 cs w hg (by simpa using hfit) h1
  cases hq : P.info? T with
  | none => simp [hq] at hi
  | some i =>
    have hs : i.size = vs.length := by simpa [hq] using hi
    simp only [Nat.add_zero] at hst
    simp [storeVar, Sem.run_bind, Value.cells, sizeOf, typeInfo, hq, hs, hst]
/-- A struct or an array is stored into the midst of a block. -/
theorem wpL_storeAgg {x y : Operand} {g off : Nat} {cs : Array Value} {t : TypeId} {vs : List Value} (hi : (P.info? T).map (·.size) = some vs.length) (h1 : ∀ v ∈ vs, v.oneCell' = true)
    (hx : a.eval x = .pointer (some ⟨g, off, none⟩)) (hy : a.eval y = .agg vs.toArray) (hg : w.heap[g]? = some (.cells cs t (0, 0))) (hfit : off + vs.length ≤ cs.size)
    (h : wpList P ops Q rest (a.put d undef) (w.setRow g (cs.toList.take off ++ vs ++ cs.toList.drop (off + vs.length)).toArray)) :
    wpList P ops Q ({ dst := d, op := .store T x y, type := ty, pos := pos, after := after, guard := none } :: rest) a w :=
  wpList_plain rfl fun K' hK' => by
    unfold Oper.wp execOp
    simp only [hx, hy, Instr.storeAt, Instr.sureAddr, Sem.run_bind, Sem.run_pure, Result.andThen_ok, run_storeAgg (P := P) (T := T) hg hi h1 hfit]
    exact hK' _ _ h
theorem setRow_alloc (w : World) (cs vs : Array Value) (t : TypeId) : (w.alloc (.cells cs t)).setRow w.heap.size vs = w.alloc (.cells vs t) := by
  have e : ∀ (h : Array Obj), (h.push (.cells cs t)).modify h.size (fun | .cells _ t f => .cells vs t f | o => o) = h.push (.cells vs t) := by
    intro h
    apply Array.ext
    · simp
    · intro i h1 h2
      simp only [Array.size_modify, Array.size_push] at h1
      simp only [Array.getElem_modify, Array.getElem_push]
      by_cases hi : i < h.size
      · simp [hi, Nat.ne_of_gt hi]
      · have : i = h.size := by omega
        subst this; simp
  exact congrArg (fun h => ({ w with heap := h } : World)) (e w.heap)
/-- A whole variable is stored into the block that has just been laid. -/
theorem wpL_storeNew {x y : Operand} {w0 : World} {cs : Array Value} {t : TypeId} {vs : List Value} (hw : w = w0.alloc (.cells cs t)) (hi : (P.info? T).map (·.size) = some vs.length) (h1 : ∀ v ∈ vs, v.oneCell' = true)
    (hx : a.eval x = .pointer (some ⟨w0.heap.size, 0, none⟩)) (hy : a.eval y = .agg vs.toArray) (hs : vs.length = cs.size)
    (h : wpList P ops Q rest (a.put d undef) (w0.alloc (.cells vs.toArray t))) :
    wpList P ops Q ({ dst := d, op := .store T x y, type := ty, pos := pos, after := after, guard := none } :: rest) a w := by
  subst hw
  refine wpL_storeAgg hi h1 hx hy (heap_alloc_new w0 _) (by omega) ?_
  rw [setRow_alloc]
  have e : (cs.toList.take 0 ++ vs ++ cs.toList.drop (0 + vs.length)).toArray = vs.toArray := by simp [hs]
  rw [e]; exact h
/-- A variable is laid. -/
theorem wpL_alloc {z : Value} (hz : (P.info? E).map (·.zero) = some (some z)) (h : wpList P ops Q rest (a.put d (.pointer (some ⟨w.heap.size, 0, none⟩))) (w.alloc (.cells z.cells E))) :
    wpList P ops Q ({ dst := d, op := .alloc E, type := ty, pos := pos, after := after, guard := none } :: rest) a w :=
  wpList_plain rfl fun K' hK' => by
    have hr : (Instr.alloc E true (.tuple #[])).run P w = .ok (.pointer (some ⟨w.heap.size, 0, none⟩)) (w.alloc (.cells z.cells E)) := by
      cases hq : P.info? E with
      | none => simp [hq] at hz
      | some i =>
        have hzz : i.zero = some z := by simpa [hq] using hz
        simp [Instr.alloc, zeroValue, typeInfo, hq, hzz, newVar, newRow]
    unfold Oper.wp execOp
    simp only [Sem.run_bind, hr, Result.andThen_ok, Sem.run_pure]
    exact hK' _ _ h
/-- A value is boxed. -/
theorem wpL_box {x : Operand} {v : Value} (hx : a.eval x = v) (h : wpList P ops Q rest (a.put d (.pointer (some ⟨w.heap.size, 0, none⟩))) (w.alloc (.cells v.cells E))) :
    wpList P ops Q ({ dst := d, op := .box E x, type := ty, pos := pos, after := after, guard := none } :: rest) a w :=
  wpList_plain rfl fun K' hK' => by
    have hr : (Instr.box E v).run P w = .ok (.pointer (some ⟨w.heap.size, 0, none⟩)) (w.alloc (.cells v.cells E)) := by
      simp [Instr.box, newVar, newRow]
    unfold Oper.wp execOp
    simp only [hx, Sem.run_bind, hr, Result.andThen_ok, Sem.run_pure]
    exact hK' _ _ h
/-- A struct, written out: by a closed fact of its own. -/
theorem wpL_build {ps : Array (Nat × Operand)} {qs : Array (Nat × Value)} {v : Value} (hb : ∀ w, (Instr.build T qs).run P w = .ok v w) (hp : ps.map (fun (i, x) => (i, a.eval x)) = qs)
    (h : wpList P ops Q rest (a.put d v) w) :
    wpList P ops Q ({ dst := d, op := .build T ps, type := ty, pos := pos, after := after, guard := none } :: rest) a w :=
  wpList_plain rfl fun K' hK' => by
    unfold Oper.wp execOp
    simp only [hp, Sem.run_bind, hb, Result.andThen_ok, Sem.run_pure]
    exact hK' _ _ h
end
end Go.Proofs.Ytoalnkhedebpbaa
