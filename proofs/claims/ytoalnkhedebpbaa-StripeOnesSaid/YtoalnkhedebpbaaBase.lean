/- Words that the walks of this seat use: a world that has only grown; slices that read as lists; laws at one operation. -/
import Derived.Test.YtoalnkhedebpbaaLawMap
import Derived.Deep.RegionHeld3
import Derived.BigQuiet
import Derived.Lib.Hide
namespace Go.Proofs.Ytoalnkhedebpbaa
open Go.RowKit

/-- The world has at most new blocks. -/
abbrev Gr (w w' : World) : Prop := Below w.heap.size w w'
theorem Gr.refl (w : World) : Gr w w := Below.refl _ _
theorem Gr.trans {a b c : World} (h : Gr a b) (k : Gr b c) : Gr a c := Below.trans h (k.mono h.size)
theorem Gr.drew (w : World) : Gr w w.drew := Below.drew (Gr.refl w)
theorem Gr.alloc (w : World) (o : Obj) : Gr w (w.alloc o) := Below.alloc (Gr.refl w) (Nat.le_refl _) o
theorem heap_lt {w : World} {k : Nat} {o : Obj} (h : w.heap[k]? = some o) : k < w.heap.size := (Array.getElem?_eq_some_iff.1 h).1
theorem Gr.get {w w' : World} (h : Gr w w') {k : Nat} {o : Obj} (hk : w.heap[k]? = some o) : w'.heap[k]? = some o := (h.block k (heap_lt hk)).trans hk
theorem Gr.cell {w w' : World} (h : Gr w w') {a : Addr} {v : Value} (hk : w.cell? a = some v) : w'.cell? a = some v :=
  (Below.cell h (World.block_lt_of_cell? w a hk)).trans hk
/-- What the walk wants of a world that has grown: old cells, old marks. -/
theorem Gr.cells {w w' : World} (h : Gr w w') : (∀ b o, b < w.heap.size → w'.cell? ⟨b, o, none⟩ = w.cell? ⟨b, o, none⟩) ∧ (∀ b o, b < w.heap.size → w'.frozen? ⟨b, o, none⟩ = w.frozen? ⟨b, o, none⟩) :=
  ⟨fun b o k => Below.cell h (p := ⟨b, o, none⟩) k, fun b o k => Below.frozen h (p := ⟨b, o, none⟩) k⟩
theorem heap_alloc_if (w : World) (o : Obj) (k : Nat) : (w.alloc o).heap[k]? = if k = w.heap.size then some o else w.heap[k]? := by
  show (w.heap.push o)[k]? = _
  rw [Array.getElem?_push]
theorem heap_alloc_at (w : World) (o : Obj) (k : Nat) (h : k = w.heap.size) : (w.alloc o).heap[k]? = some o := by subst h; exact heap_alloc_new w o
theorem heap_alloc_lt {w : World} {o' : Obj} {k : Nat} (h : w.heap[k]? = some o') (o : Obj) : (w.alloc o).heap[k]? = some o' := (Gr.alloc w o).get h
theorem putB_get_self {w : World} {r : Nat} (h : r < w.heap.size) (o : Obj) : (putB w r o).heap[r]? = some o := by
  simp [putB, h]
theorem putB_get_other (w : World) {r k : Nat} (h : k ≠ r) (o : Obj) : (putB w r o).heap[k]? = w.heap[k]? := by
  simp only [putB]; rw [Array.getElem?_setIfInBounds_ne (Ne.symm h)]
@[simp] theorem putB_size (w : World) (r : Nat) (o : Obj) : (putB w r o).heap.size = w.heap.size := by simp [putB]
theorem putB_cell_other (w : World) {r : Nat} {a : Addr} (h : a.block ≠ r) (o : Obj) : (putB w r o).cell? a = w.cell? a := World.cell?_of_block (putB_get_other w h o)
theorem putB_frozen_other (w : World) {r : Nat} {a : Addr} (h : a.block ≠ r) (o : Obj) : (putB w r o).frozen? a = w.frozen? a := World.frozen?_of_block (putB_get_other w h o)
@[go_sem] theorem putB_cell (w : World) (r b off : Nat) (o : Obj) (h : b ≠ r) : (putB w r o).cell? ⟨b, off, none⟩ = w.cell? ⟨b, off, none⟩ := putB_cell_other w (a := ⟨b, off, none⟩) h o
@[go_sem] theorem putB_frozen (w : World) (r b off : Nat) (o : Obj) (h : b ≠ r) : (putB w r o).frozen? ⟨b, off, none⟩ = w.frozen? ⟨b, off, none⟩ := putB_frozen_other w (a := ⟨b, off, none⟩) h o
theorem below_putB {B : Nat} {a w : World} (h : Below B a w) {r : Nat} (hr : B ≤ r) (o : Obj) : Below B a (putB w r o) :=
  h.trans ⟨rfl, rfl, rfl, by simp, fun k hk => putB_get_other w (by omega) o⟩

theorem ret_i64 {a b : Int} (h : a = b) : Ending.returned (.int .i64 a) = .returned (.int .i64 b) := by rw [h]
theorem ret_u8 {a b : Int} (h : a = b) : Ending.returned (.int .u8 a) = .returned (.int .u8 b) := by rw [h]
theorem ret_bool {a b : Bool} (h : a = b) : Ending.returned (.bool a) = .returned (.bool b) := by rw [h]
/-- A slice, of elements of one cell, reads as a list of values. -/
def SlAt (w : World) (E : TypeId) (v : Value) (vs : List Value) : Prop :=
  (vs = [] ∧ ∃ a cap, v = .slice a 0 cap) ∨
  ∃ b off cap cs fr, v = .slice (some ⟨b, off, none⟩) vs.length cap ∧ w.heap[b]? = some (.cells cs E fr) ∧ (∀ i, i < vs.length → cs[off + i]? = vs[i]?) ∧ vs.length ≤ 9223372036854775807
theorem SlAt.gr {w w' : World} {E : TypeId} {v : Value} {vs : List Value} (h : SlAt w E v vs) (g : Gr w w') : SlAt w' E v vs := by
  rcases h with h | ⟨b, off, cap, cs, fr, hv, hb, hc, hl⟩
  · exact .inl h
  · exact .inr ⟨b, off, cap, cs, fr, hv, g.get hb, hc, hl⟩

theorem SlAt.lit {w : World} {b cap : Nat} {E : TypeId} {fr : Nat × Nat} (vs : List Value) (hb : w.heap[b]? = some (.cells vs.toArray E fr)) (hl : vs.length ≤ 9223372036854775807) : SlAt w E (.slice (some ⟨b, 0, none⟩) vs.length cap) vs :=
  .inr ⟨b, 0, cap, vs.toArray, fr, rfl, hb, fun i _ => by simp, hl⟩

theorem own_gr {w w' : World} {base n size : Nat} {E : TypeId} {v : Value} {xs : List Value} (h : w.ownsRow base E size v n xs) (g : Gr w w') : w'.ownsRow base E size v n xs := by
  refine ⟨h.1, ?_⟩
  rcases h.2 with h2 | ⟨b, cap, cur, hv, hb, hg, r⟩
  · exact .inl h2
  · exact .inr ⟨b, cap, cur, hv, hb, g.get hg, r⟩
theorem cell_new (w : World) (u : Value) (E : TypeId) (k : Nat) (h : k = w.heap.size) : (w.alloc (.cells #[u] E)).cell? ⟨k, 0, none⟩ = some u := by
  subst h; rw [World.cell?_alloc_at _ _ _ _ rfl]; rfl
theorem SlAt.own {w : World} {base n : Nat} {E : TypeId} {v : Value} {xs : List Value} (h : w.ownsRow base E 1 v n xs) (hn : n ≤ 9223372036854775807) : SlAt w E v xs := by
  obtain ⟨h1, h2⟩ := h
  rcases h2 with ⟨rfl, rfl⟩ | ⟨g, cap, cur, rfl, _, hg, _, _, _, ht⟩
  · exact .inl ⟨List.eq_nil_of_length_eq_zero (by simpa using h1), none, 0, rfl⟩
  · have hx : xs.length = n := by simpa using h1
    refine .inr ⟨g, 0, cap, cur, (0, 0), by rw [hx], hg, fun i hi => ?_, by omega⟩
    rw [← ht]
    simp [show i < n from by omega]

section
variable {P : Program} {ops : Array Oper} {Q : Exit → Act → World → Prop} {a : Act} {w : World} {rest : List Oper} {d : Option Tmp} {ty : TypeId} {pos : String} {after : Array Edge} {T K E : TypeId}
/-- A literal's entry; a store into a map. -/
theorem wpL_insert {m k x : Operand} {r : Nat} {es : List (Int × Value)} {kk : Int} {v : Value} (hT : P.underlying T = some (.map K E)) (hK : P.underlying K = some (.int .i64))
    (hm : a.eval m = .map (some r)) (hk : a.eval k = .int .i64 kk) (hv : a.eval x = v) (hr : w.heap[r]? = some (mapObj es))
    (h : wpList P ops Q rest (a.put d undef) (putB w r (mapObj (mset kk v es)))) :
    wpList P ops Q ({ dst := d, op := .insert T m k x, type := ty, pos := pos, after := after, guard := none } :: rest) a w :=
  wpList_plain rfl fun K' hK' => by
    unfold Oper.wp execOp
    simp only [hm, hk, hv, Sem.run_bind, run_mapUpdate_int hT hK hr kk v, Result.andThen_ok, Sem.run_pure]
    exact hK' _ _ h
theorem wpL_update {m k x : Operand} {r : Nat} {es : List (Int × Value)} {kk : Int} {v : Value} (hT : P.underlying T = some (.map K E)) (hK : P.underlying K = some (.int .i64))
    (hm : a.eval m = .map (some r)) (hk : a.eval k = .int .i64 kk) (hv : a.eval x = v) (hr : w.heap[r]? = some (mapObj es))
    (h : wpList P ops Q rest (a.put d undef) (putB w r (mapObj (mset kk v es)))) :
    wpList P ops Q ({ dst := d, op := .mapUpdate T m k x, type := ty, pos := pos, after := after, guard := none } :: rest) a w :=
  wpList_plain rfl fun K' hK' => by
    unfold Oper.wp execOp
    simp only [hm, hk, hv, Sem.run_bind, run_mapUpdate_int hT hK hr kk v, Result.andThen_ok, Sem.run_pure]
    exact hK' _ _ h
theorem wpL_lookup {m k : Operand} {r : Nat} {es : List (Int × Value)} {kk : Int} {z : Value} {ok : Bool} {v : Value} (hT : P.underlying T = some (.map K E)) (hK : P.underlying K = some (.int .i64)) (hz : ∀ w, (zeroValue E).run P w = .ok z w)
    (hm : a.eval m = .map (some r)) (hk : a.eval k = .int .i64 kk) (hr : w.heap[r]? = some (mapObj es))
    (hv : (if ok then .tuple #[(mfind kk es).getD z, .bool (mfind kk es).isSome] else (mfind kk es).getD z) = v) (h : wpList P ops Q rest (a.put d v) w) :
    wpList P ops Q ({ dst := d, op := .lookup T m k ok, type := ty, pos := pos, after := after, guard := none } :: rest) a w :=
  wpList_plain rfl fun K' hK' => by
    unfold Oper.wp execOp
    simp only [hm, hk, Sem.run_bind, run_lookup_int hT hK (hz w) hr kk ok, Result.andThen_ok, Sem.run_pure, hv]
    exact hK' _ _ h
/-- 'append(out, x)' onto a slice of the call's own. -/
theorem wpL_append1 {s x : Operand} {z v u : Value} {bytes base n b off c : Nat} {xs : List Value} (ht : P.underlying T = some (.slice E)) (hinfo : (P.info? E).map (fun i => (i.zero, i.size, i.bytes)) = some (some z, 1, bytes)) (hzs : z.cells.size = 1) (hbytes : bytes ≤ 1024)
    (hs : a.eval s = v) (hx : a.eval x = .slice (some ⟨b, off, none⟩) 1 c) (hown : w.ownsRow base E 1 v n xs) (hu : w.cell? ⟨b, off, none⟩ = some u) (h1 : u.oneCell' = true) (hn : n ≤ 1048576) (hbase : base ≤ w.heap.size)
    (h : ∀ v' w', w'.ownsRow base E 1 v' (n + 1) (xs ++ [u]) → w.grownBy w' v.ownBlock → wpList P ops Q rest (a.put d v') w') :
    wpList P ops Q ({ dst := d, op := .call { callee := .builtin .append, args := #[s, x], argTypes := #[T, T] }, type := ty, pos := pos, after := after, guard := none } :: rest) a w := by
  cases hi : P.info? E with
  | none => simp [hi] at hinfo
  | some i =>
    obtain ⟨h1z, h2z, h3z⟩ : i.zero = some z ∧ i.size = 1 ∧ i.bytes = bytes := by simpa [hi] using hinfo
    refine wpList_append_own w rfl s x T rfl base E i z 1 bytes ht hi h1z h2z h3z hzs (by decide) v n xs hs hown ⟨b, off, none⟩ 1 c [u] hx rfl ?_ (by simpa using h1) (by unfold maxLen; omega) ?_ hbase (fun v' w' a1 a2 _ => h v' w' a1 a2)
    · intro j u' hj
      cases j with
      | zero => simp at hj; subst hj; simpa [Addr.add] using hu
      | succ j => simp at hj
    · calc (n + 1) * bytes ≤ 1048577 * 1024 := Nat.mul_le_mul (by omega) hbytes
        _ ≤ 140737488355328 := by decide
theorem wpL_makeMap (h : wpList P ops Q rest (a.put d (.map (some w.heap.size))) (w.alloc (mapObj []))) :
    wpList P ops Q ({ dst := d, op := .makeMap T none, type := ty, pos := pos, after := after, guard := none } :: rest) a w :=
  wpList_plain rfl fun K' hK' => by
    unfold Oper.wp execOp
    simp only [Option.map_none, Sem.run_bind, run_makeMap, Result.andThen_ok, Sem.run_pure]
    exact hK' _ _ h
end
end Go.Proofs.Ytoalnkhedebpbaa
