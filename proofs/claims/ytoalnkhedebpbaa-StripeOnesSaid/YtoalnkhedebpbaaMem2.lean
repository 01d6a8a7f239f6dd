/- Laws at one operation, besides: one cell stored into a known block; a row copied over another; appends to an own row of rows. -/
import Derived.Test.YtoalnkhedebpbaaHas
import Derived.Laws.CopyOwn
namespace Go.Proofs.Ytoalnkhedebpbaa
open Go.RowKit

theorem setRow_putB {w : World} {g : Nat} {cs : Array Value} {t : TypeId} {fr : Nat × Nat} (hg : w.heap[g]? = some (.cells cs t fr)) (vs : Array Value) : w.setRow g vs = putB w g (.cells vs t fr) := by
  have hlt : g < w.heap.size := (Array.getElem?_eq_some_iff.1 hg).1
  have hv : w.heap[g] = .cells cs t fr := (Array.getElem?_eq_some_iff.1 hg).2
  unfold World.setRow putB
  cases w with
  | mk heap tape drawn os output =>
    congr 1
    apply Array.ext
    · simp
    · intro k h1 h2
      rw [Array.getElem_setIfInBounds (by simpa using h2), Array.getElem_modify]
      by_cases hk : g = k
      · subst hk; simp at hv; simp [hv]
      · simp [hk]
theorem putB_alloc_new (w : World) (o o' : Obj) : putB (w.alloc o) w.heap.size o' = w.alloc o' := by
  have e : (w.heap.push o).setIfInBounds w.heap.size o' = w.heap.push o' := by
    apply Array.ext
    · simp
    · intro i h1 h2
      rw [Array.getElem_setIfInBounds (by simpa using h1)]
      by_cases hi : w.heap.size = i
      · subst hi; simp
      · rw [if_neg hi]
        have : i < w.heap.size := by simp at h2; omega
        rw [Array.getElem_push_lt this, Array.getElem_push_lt this]
  exact congrArg (fun h => ({ w with heap := h } : World)) e
/-- What reads stays where a row of another type has grown, or been written to. -/
theorem SlAt.grown {w w' : World} {E E' : TypeId} {v : Value} {vs : List Value} {row : Option Nat} (h : SlAt w E v vs) (g : w.grownBy w' row) (hr : ∀ k, row = some k → ∃ cs fr, w.heap[k]? = some (.cells cs E' fr)) (hne : E ≠ E') : SlAt w' E v vs := by
  rcases h with h | ⟨b, off, cap, cs, fr, hv, hb, hc, hl⟩
  · exact .inl h
  · refine .inr ⟨b, off, cap, cs, fr, hv, ?_, hc, hl⟩
    rw [g.block b (heap_lt hb) (fun e => ?_)]
    · exact hb
    · obtain ⟨cs', fr', h'⟩ := hr b e.symm
      rw [hb] at h'
      injection h' with h1
      injection h1 with _ h2 _
      exact hne h2
theorem own_row {w : World} {base n size : Nat} {E : TypeId} {v : Value} {xs : List Value} (h : w.ownsRow base E size v n xs) : ∀ k, v.ownBlock = some k → ∃ cs fr, w.heap[k]? = some (.cells cs E fr) := by
  intro k hk
  rcases h.2 with ⟨rfl, _⟩ | ⟨g, cap, cur, rfl, _, hg, _⟩
  · simp [Value.ownBlock] at hk
  · simp only [Value.ownBlock] at hk
    injection hk with hk
    subst hk
    exact ⟨cur, _, hg⟩
section
variable {P : Program} {ops : Array Oper} {Q : Exit → Act → World → Prop} {a : Act} {w : World} {rest : List Oper} {d : Option Tmp} {ty : TypeId} {pos : String} {after : Array Edge} {T E : TypeId}
theorem run_storeVals {g off : Nat} {cs : Array Value} {t : TypeId} {v : Value} {vs : List Value} (hv : v.cells = vs.toArray) (hg : w.heap[g]? = some (.cells cs t (0, 0)))
    (hi : (P.info? T).map (·.size) = some vs.length) (h1 : ∀ v ∈ vs, v.oneCell' = true) (hfit : off + vs.length ≤ cs.size) :
    (storeVar T ⟨g, off, none⟩ v).run P w = .ok () (putB w g (.cells (cs.toList.take off ++ vs ++ cs.toList.drop (off + vs.length)).toArray t)) := by
  have hst := run_storeCells_at P g off t vs 0 cs w hg (by simpa using hfit) h1
  cases hq : P.info? T with
  | none => simp [hq] at hi
  | some i =>
    have hs : i.size = vs.length := by simpa [hq] using hi
    simp only [Nat.add_zero] at hst
    rw [← setRow_putB hg]
    simp [storeVar, Sem.run_bind, hv, sizeOf, typeInfo, hq, hs, hst]
theorem set_splice (cs : Array Value) (off : Nat) (v : Value) (h : off < cs.size) : (cs.toList.take off ++ [v] ++ cs.toList.drop (off + 1)).toArray = cs.setIfInBounds off v := by
  apply Array.ext'
  rw [Array.toList_setIfInBounds]
  simp only [List.append_assoc, List.singleton_append]
  rw [List.set_eq_take_append_cons_drop, if_pos (by simpa using h)]
/-- One cell is stored into a block that is known whole. -/
theorem wpL_store1 {x y : Operand} {g off : Nat} {cs : Array Value} {t : TypeId} {v : Value} (hi : (P.info? T).map (·.size) = some 1) (hv : v.cells = #[v]) (h1 : v.oneCell' = true)
    (hx : a.eval x = .pointer (some ⟨g, off, none⟩)) (hy : a.eval y = v) (hg : w.heap[g]? = some (.cells cs t (0, 0))) (hfit : off < cs.size)
    (h : wpList P ops Q rest (a.put d undef) (putB w g (.cells (cs.setIfInBounds off v) t))) :
    wpList P ops Q ({ dst := d, op := .store T x y, type := ty, pos := pos, after := after, guard := none } :: rest) a w :=
  wpList_plain rfl fun K' hK' => by
    have hr := run_storeVals (P := P) (T := T) (off := off) (vs := [v]) hv hg hi (by simpa using h1) (by simp only [List.length_singleton]; omega)
    simp only [List.length_singleton] at hr
    rw [set_splice cs off v hfit] at hr
    unfold Oper.wp execOp
    simp only [hx, hy, Instr.storeAt, Instr.sureAddr, Sem.run_bind, Sem.run_pure, Result.andThen_ok, hr]
    exact hK' _ _ h
/-- A whole row of cells, or none, is copied into a row of n cells. -/
theorem wpL_copy {dT sT : TypeId} {x y : Operand} {g n cap sLen scap : Nat} {sp : Option Addr} {cur : Array Value} {t : TypeId} {cs : List Value} (hu : P.underlying dT = some (.slice E)) (hs : (P.info? E).map (·.size) = some 1)
    (hx : a.eval x = .slice (some ⟨g, 0, none⟩) n cap) (hy : a.eval y = .slice sp sLen scap) (hg : w.heap[g]? = some (.cells cur t (0, 0))) (hn : cur.size = n) (hl : cs.length = sLen)
    (h0 : sLen = 0 ∨ sLen = n) (hsrc : ∀ j v, cs[j]? = some v → ∃ b off, sp = some ⟨b, off, none⟩ ∧ w.cell? ⟨b, off + j, none⟩ = some v) (h1 : ∀ v ∈ cs, v.oneCell' = true)
    (h : wpList P ops Q rest (a.put d (.int .i64 (sLen : Int))) (putB w g (.cells (if sLen = 0 then cur else cs.toArray) t))) :
    wpList P ops Q ({ dst := d, op := .call { callee := .builtin .copy, args := #[x, y], argTypes := #[dT, sT] }, type := ty, pos := pos, after := after, guard := none } :: rest) a w := by
  cases cs with
  | nil =>
    have hl0 : sLen = 0 := by simpa using hl.symm
    subst hl0
    refine wpList_copy_nothing rfl x y dT sT rfl E hu hs _ _ n cap 0 scap hx hy (by show min 0 n = 0; omega) ?_
    have e : putB w g (.cells cur t (0, 0)) = w := by rw [← setRow_putB hg]; exact setRow_self w g cur t (0, 0) hg
    simp only [if_true, e] at h
    exact h
  | cons v vs =>
    obtain ⟨b, off, rfl, _⟩ := hsrc 0 v (by simp)
    have hsl : sLen = n := by
      rcases h0 with h0 | h0
      · rw [h0] at hl; simp at hl
      · exact h0
    subst hsl
    refine wpList_copy_own rfl x y dT sT rfl E hu hs g 0 sLen cap ⟨b, off, none⟩ sLen scap hx hy cur t hg (v :: vs) (by rw [hl]; show sLen = min sLen sLen; omega) (fun j u hj => ?_) (by omega) h1 ?_
    · obtain ⟨b', off', e, hc⟩ := hsrc j u hj
      have e' := Option.some.inj e
      obtain ⟨rfl, rfl⟩ : b = b' ∧ off = off' := by injection e' with e1 e2; exact ⟨e1, e2⟩
      rw [addr_add0]; exact hc
    · rw [setRow_putB hg]
      have e : (cur.toList.take 0 ++ ((v :: vs) ++ cur.toList.drop (0 + (v :: vs).length))).toArray = (v :: vs).toArray := by
        have : cur.toList.drop (0 + (v :: vs).length) = [] := by rw [List.drop_eq_nil_iff]; simp only [Array.length_toList]; omega
        rw [this]; simp
      rw [e, hl]
      have hne : ¬ sLen = 0 := by intro hh; rw [hh] at hl; simp at hl
      rw [if_neg hne] at h
      exact h
/-- A variable that fills its block is stored anew. -/
theorem wpL_storeAll {x y : Operand} {g : Nat} {cs : Array Value} {t : TypeId} {vs : List Value} (hi : (P.info? T).map (·.size) = some vs.length) (h1 : ∀ v ∈ vs, v.oneCell' = true)
    (hx : a.eval x = .pointer (some ⟨g, 0, none⟩)) (hy : a.eval y = .agg vs.toArray) (hg : w.heap[g]? = some (.cells cs t (0, 0))) (hs : cs.size = vs.length)
    (h : wpList P ops Q rest (a.put d undef) (putB w g (.cells vs.toArray t))) :
    wpList P ops Q ({ dst := d, op := .store T x y, type := ty, pos := pos, after := after, guard := none } :: rest) a w := by
  refine wpL_storeAgg hi h1 hx hy hg (by omega) ?_
  have e : (cs.toList.take 0 ++ vs ++ cs.toList.drop (0 + vs.length)).toArray = vs.toArray := by
    have : cs.toList.drop (0 + vs.length) = [] := by rw [List.drop_eq_nil_iff]; simp only [Array.length_toList]; omega
    rw [this]; simp
  rw [e, setRow_putB hg]; exact h
end
end Go.Proofs.Ytoalnkhedebpbaa
