/- Maps whose keys are ints: what a literal's insert, a store, a lookup do, told by a list of pairs. Words that the walks of this seat use: a world that has only grown; slices that read as lists; laws at one operation. slices.Index, slices.Contains over ints; geom.Check, Budget, Width, Capacity: what they answer. geom.Budget, Width, Capacity; place.in, Parity, Disk, number, Of: what they answer at a geometry that may be. place.Of, Numbers; row.in: what they answer at a geometry that may be. Numbers of sectors, plainly. -/
import Derived.WalkKit
import Derived.WalkSpells
import Derived.WalkLawsBesides
import Derived.MapKept
import Derived.Deep.RegionHeld3
import Derived.BigQuiet
import Derived.Lib.Hide
import Derived.Test.YtoalnkhedebpbaaProg

/-! Maps whose keys are ints: what a literal's insert, a store, a lookup do, told by a list of pairs. -/
namespace Go.Proofs.Ytoalnkhedebpbaa
open Go.RowKit

/-- The entries of a map, told by a list of pairs: key, value; each is born as it came. -/
def entsFrom : Nat → List (Int × Value) → List MapEntry
  | _, [] => []
  | i, (k, v) :: r => { key := .int .i64 k, val := v, born := i } :: entsFrom (i + 1) r
def mapObj (m : List (Int × Value)) : Obj := .map (entsFrom 0 m).toArray m.length
def mfind (k : Int) : List (Int × Value) → Option Value
  | [] => none
  | (k', v) :: r => if k = k' then some v else mfind k r
def mset (k : Int) (v : Value) : List (Int × Value) → List (Int × Value)
  | [] => [(k, v)]
  | (k', u) :: r => if k = k' then (k', v) :: r else (k', u) :: mset k v r
/-- A block is another one. -/
def putB (w : World) (r : Nat) (o : Obj) : World := { w with heap := w.heap.setIfInBounds r o }

theorem entsFrom_length : ∀ (m : List (Int × Value)) (i : Nat), (entsFrom i m).length = m.length
  | [], _ => rfl
  | (k, v) :: r, i => by simp [entsFrom, entsFrom_length r]

def midx (k : Int) : List (Int × Value) → Nat → Option (Nat × Value)
  | [], _ => none
  | (k', v) :: r, i => if k = k' then some (i, v) else midx k r (i + 1)
theorem midx_mfind (k : Int) : ∀ (m : List (Int × Value)) (i : Nat), (midx k m i).map (·.2) = mfind k m
  | [], _ => rfl
  | (k', v) :: r, i => by
    unfold midx mfind
    split
    · rfl
    · exact midx_mfind k r (i + 1)
theorem findNow_int (k : Int) : ∀ (m : List (Int × Value)) (b i : Nat), Instr.findNow (.int .i64) (.int .i64 k) (entsFrom b m) i = some (midx k m i)
  | [], _, _ => rfl
  | (k', v) :: r, b, i => by
    unfold entsFrom Instr.findNow midx
    simp only [Instr.sameNow, if_true]
    by_cases h : k = k'
    · subst h; simp
    · have : (k == k') = false := by simp [h]
      simp only [this, h, if_false]
      exact findNow_int k r (b + 1) (i + 1)
section
variable {P : Program} {w : World} {T K E : TypeId}
theorem run_getObj_m {r : Nat} {m : List (Int × Value)} (hr : w.heap[r]? = some (mapObj m)) : (getObj r).run P w = .ok (mapObj m) w := by
  simp [getObj, Sem.run, hr]; rfl
theorem run_setObj_m {r : Nat} {m : List (Int × Value)} (o : Obj) (hr : w.heap[r]? = some (mapObj m)) : (setObj r o).run P w = .ok () (putB w r o) := by
  simp [setObj, Sem.run, hr, putB]; rfl
theorem run_findKey_int (hK : P.underlying K = some (.int .i64)) (k : Int) (m : List (Int × Value)) (b : Nat) :
    (Instr.findKey K (.int .i64 k) (entsFrom b m)).run P w = .ok (midx k m 0) w := by
  unfold Instr.findKey
  rw [Sem.run_bind, run_underlying hK w]
  simp [findNow_int]
theorem run_checkKey_int (hK : P.underlying K = some (.int .i64)) (e : Bool) (n : Nat) (k : Int) :
    (Instr.checkKey e (n + 1) K (.int .i64 k)).run P w = .ok () w := by
  unfold Instr.checkKey
  rw [Sem.run_bind, run_underlying hK w]
  simp
theorem run_lookup_int (hT : P.underlying T = some (.map K E)) (hK : P.underlying K = some (.int .i64)) {z : Value} (hz : (zeroValue E).run P w = .ok z w)
    {r : Nat} {m : List (Int × Value)} (hr : w.heap[r]? = some (mapObj m)) (k : Int) (ok : Bool) :
    (Instr.lookup T (.map (some r)) (.int .i64 k) ok).run P w =
      .ok (if ok then .tuple #[(mfind k m).getD z, .bool (mfind k m).isSome] else (mfind k m).getD z) w := by
  unfold Instr.lookup
  have hg : (getObj r).run P w = .ok (mapObj m) w := run_getObj_m hr
  rw [← midx_mfind k m 0]
  simp only [Sem.run_bind, run_underlying hT w, Result.andThen_ok, hg]
  unfold mapObj
  simp only [Sem.run_bind, Sem.run_pure, Result.andThen_ok, run_checkKey_int hK _ 9999 k, run_findKey_int hK k m 0]
  cases h : midx k m 0 with
  | none => cases ok <;> simp [hz]
  | some p => cases ok <;> simp
theorem entsFrom_snoc (k : Int) (v : Value) : ∀ (m : List (Int × Value)) (i : Nat), entsFrom i (m ++ [(k, v)]) = entsFrom i m ++ [{ key := .int .i64 k, val := v, born := i + m.length }]
  | [], _ => by simp [entsFrom]
  | (k', u) :: r, i => by
    simp only [List.cons_append, entsFrom, entsFrom_snoc k v r (i + 1), List.length_cons]
    rw [show i + 1 + r.length = i + (r.length + 1) from by omega]
theorem mset_none (k : Int) (v : Value) : ∀ (m : List (Int × Value)) (i : Nat), midx k m i = none → mset k v m = m ++ [(k, v)]
  | [], _, _ => rfl
  | (k', u) :: r, i, h => by
    unfold midx at h
    split at h
    · cases h
    · rename_i hk
      unfold mset
      rw [if_neg hk, mset_none k v r (i + 1) h]; rfl
theorem mset_some (k : Int) (v : Value) : ∀ (m : List (Int × Value)) (i b j : Nat) (u : Value), midx k m i = some (j, u) → i ≤ j ∧ j - i < m.length ∧
    entsFrom b (mset k v m) = (entsFrom b m).modify (j - i) (fun e => { e with key := .int .i64 k, val := v }) ∧ (mset k v m).length = m.length ∧
    (entsFrom b m)[j - i]?.map (·.key) = some (.int .i64 k)
  | [], _, _, _, _, h => by cases h
  | (k', u') :: r, i, b, j, u, h => by
    unfold midx at h
    unfold mset
    by_cases hk : k = k'
    · rw [if_pos hk] at h ⊢
      obtain ⟨rfl, rfl⟩ : i = j ∧ u' = u := by simpa using h
      subst hk
      simp [entsFrom]
    · rw [if_neg hk] at h ⊢
      obtain ⟨h1, h2, h3, h4, h5⟩ := mset_some k v r (i + 1) (b + 1) j u h
      have e : j - i = (j - (i + 1)) + 1 := by omega
      refine ⟨by omega, by simp; omega, ?_, by simp [h4], ?_⟩
      · rw [e]; simp only [entsFrom, List.modify_succ_cons, h3]
      · rw [e]; simp only [entsFrom, List.getElem?_cons_succ]; exact h5
theorem run_mapUpdate_int (hT : P.underlying T = some (.map K E)) (hK : P.underlying K = some (.int .i64))
    {r : Nat} {m : List (Int × Value)} (hr : w.heap[r]? = some (mapObj m)) (k : Int) (v : Value) :
    (Instr.mapUpdate T (.map (some r)) (.int .i64 k) v).run P w = .ok () (putB w r (mapObj (mset k v m))) := by
  unfold Instr.mapUpdate
  have hg : (getObj r).run P w = .ok (mapObj m) w := run_getObj_m hr
  simp only [Sem.run_bind, run_underlying hT w, Result.andThen_ok, hg]
  unfold mapObj
  simp only [Sem.run_bind, Result.andThen_ok, run_checkKey_int hK _ 9999 k, run_findKey_int hK k m 0]
  cases h : midx k m 0 with
  | none =>
    simp only [run_setObj_m _ hr]
    rw [mset_none k v m 0 h]
    simp [putB, entsFrom_snoc]
  | some p =>
    obtain ⟨j, u⟩ := p
    obtain ⟨_, h2, h3, h4, h5⟩ := mset_some k v m 0 0 j u h
    have hk : ((((entsFrom 0 m).toArray[j]?).map (·.key)).getD (.int .i64 k)) = .int .i64 k := by simpa using congrArg (fun x => Option.getD x (.int .i64 k)) h5
    simp only [Sem.run_bind, hk, Instr.keyThatStays, Instr.sameBits, beq_self_eq_true, Bool.and_self, if_true, Sem.run_pure, Result.andThen_ok, run_setObj_m _ hr]
    simp only [Nat.sub_zero] at h3
    rw [h3, h4]
    simp [putB]
end
end Go.Proofs.Ytoalnkhedebpbaa

/-! Words that the walks of this seat use: a world that has only grown; slices that read as lists; laws at one operation. -/
namespace Go.Proofs.Ytoalnkhedebpbaa
open Go.RowKit

/-- The world has at most new blocks. -/
abbrev Gr (w w' : World) : Prop := Below w.heap.size w w'
theorem Gr.refl (w : World) : Gr w w := Below.refl _ _
theorem Gr.trans {a b c : World} (h : Gr a b) (k : Gr b c) : Gr a c := Below.trans h (k.mono h.size)
theorem Gr.drew (w : World) : Gr w w.drew := Below.drew (Gr.refl w)
theorem Gr.alloc (w : World) (o : Obj) : Gr w (w.alloc o) := Below.alloc (Gr.refl w) (Nat.le_refl _) o
theorem heap_lt {w : World} {k : Nat} {o : Obj} (h : w.heap[k]? = some o) : k < w.heap.size := (Array.getElem?_eq_some_iff.1 h).1
theorem Gr.get {w w' : World} (h : Gr w w') {k : Nat} {o : Obj} (hk : w.heap[k]? = some o) : w'.heap[k]? = some o := (h.block k (heap_lt hk)).trans hk
theorem Gr.cell {w w' : World} (h : Gr w w') {a : Addr} {v : Value} (hk : w.cell? a = some v) : w'.cell? a = some v :=
  (Below.cell h (World.block_lt_of_cell? w a hk)).trans hk
/-- What the walk wants of a world that has grown: old cells, old marks. -/
theorem Gr.cells {w w' : World} (h : Gr w w') : (∀ b o, b < w.heap.size → w'.cell? ⟨b, o, none⟩ = w.cell? ⟨b, o, none⟩) ∧ (∀ b o, b < w.heap.size → w'.frozen? ⟨b, o, none⟩ = w.frozen? ⟨b, o, none⟩) :=
  ⟨fun b o k => Below.cell h (p := ⟨b, o, none⟩) k, fun b o k => Below.frozen h (p := ⟨b, o, none⟩) k⟩
theorem heap_alloc_if (w : World) (o : Obj) (k : Nat) : (w.alloc o).heap[k]? = if k = w.heap.size then some o else w.heap[k]? := by
  show (w.heap.push o)[k]? = _
  rw [Array.getElem?_push]
theorem heap_alloc_at (w : World) (o : Obj) (k : Nat) (h : k = w.heap.size) : (w.alloc o).heap[k]? = some o := by subst h; exact heap_alloc_new w o
theorem heap_alloc_lt {w : World} {o' : Obj} {k : Nat} (h : w.heap[k]? = some o') (o : Obj) : (w.alloc o).heap[k]? = some o' := (Gr.alloc w o).get h
theorem putB_get_self {w : World} {r : Nat} (h : r < w.heap.size) (o : Obj) : (putB w r o).heap[r]? = some o := by
  simp [putB, h]
theorem putB_get_other (w : World) {r k : Nat} (h : k ≠ r) (o : Obj) : (putB w r o).heap[k]? = w.heap[k]? := by
  simp only [putB]; rw [Array.getElem?_setIfInBounds_ne (Ne.symm h)]
@[simp] theorem putB_size (w : World) (r : Nat) (o : Obj) : (putB w r o).heap.size = w.heap.size := by simp [putB]
theorem putB_cell_other (w : World) {r : Nat} {a : Addr} (h : a.block ≠ r) (o : Obj) : (putB w r o).cell? a = w.cell? a := World.cell?_of_block (putB_get_other w h o)
theorem putB_frozen_other (w : World) {r : Nat} {a : Addr} (h : a.block ≠ r) (o : Obj) : (putB w r o).frozen? a = w.frozen? a := World.frozen?_of_block (putB_get_other w h o)
@[go_sem] theorem putB_cell (w : World) (r b off : Nat) (o : Obj) (h : b ≠ r) : (putB w r o).cell? ⟨b, off, none⟩ = w.cell? ⟨b, off, none⟩ := putB_cell_other w (a := ⟨b, off, none⟩) h o
@[go_sem] theorem putB_frozen (w : World) (r b off : Nat) (o : Obj) (h : b ≠ r) : (putB w r o).frozen? ⟨b, off, none⟩ = w.frozen? ⟨b, off, none⟩ := putB_frozen_other w (a := ⟨b, off, none⟩) h o
theorem below_putB {B : Nat} {a w : World} (h : Below B a w) {r : Nat} (hr : B ≤ r) (o : Obj) : Below B a (putB w r o) :=
  h.trans ⟨rfl, rfl, rfl, by simp, fun k hk => putB_get_other w (by omega) o⟩

theorem ret_i64 {a b : Int} (h : a = b) : Ending.returned (.int .i64 a) = .returned (.int .i64 b) := by rw [h]
theorem ret_u8 {a b : Int} (h : a = b) : Ending.returned (.int .u8 a) = .returned (.int .u8 b) := by rw [h]
theorem ret_bool {a b : Bool} (h : a = b) : Ending.returned (.bool a) = .returned (.bool b) := by rw [h]
/-- A slice, of elements of one cell, reads as a list of values. -/
def SlAt (w : World) (E : TypeId) (v : Value) (vs : List Value) : Prop :=
  (vs = [] ∧ ∃ a cap, v = .slice a 0 cap) ∨
  ∃ b off cap cs fr, v = .slice (some ⟨b, off, none⟩) vs.length cap ∧ w.heap[b]? = some (.cells cs E fr) ∧ (∀ i, i < vs.length → cs[off + i]? = vs[i]?) ∧ vs.length ≤ 9223372036854775807
theorem SlAt.gr {w w' : World} {E : TypeId} {v : Value} {vs : List Value} (h : SlAt w E v vs) (g : Gr w w') : SlAt w' E v vs := by
  rcases h with h | ⟨b, off, cap, cs, fr, hv, hb, hc, hl⟩
  · exact .inl h
  · exact .inr ⟨b, off, cap, cs, fr, hv, g.get hb, hc, hl⟩

theorem SlAt.lit {w : World} {b cap : Nat} {E : TypeId} {fr : Nat × Nat} (vs : List Value) (hb : w.heap[b]? = some (.cells vs.toArray E fr)) (hl : vs.length ≤ 9223372036854775807) : SlAt w E (.slice (some ⟨b, 0, none⟩) vs.length cap) vs :=
  .inr ⟨b, 0, cap, vs.toArray, fr, rfl, hb, fun i _ => by simp, hl⟩

theorem own_gr {w w' : World} {base n size : Nat} {E : TypeId} {v : Value} {xs : List Value} (h : w.ownsRow base E size v n xs) (g : Gr w w') : w'.ownsRow base E size v n xs := by
  refine ⟨h.1, ?_⟩
  rcases h.2 with h2 | ⟨b, cap, cur, hv, hb, hg, r⟩
  · exact .inl h2
  · exact .inr ⟨b, cap, cur, hv, hb, g.get hg, r⟩
theorem cell_new (w : World) (u : Value) (E : TypeId) (k : Nat) (h : k = w.heap.size) : (w.alloc (.cells #[u] E)).cell? ⟨k, 0, none⟩ = some u := by
  subst h; rw [World.cell?_alloc_at _ _ _ _ rfl]; rfl
theorem SlAt.own {w : World} {base n : Nat} {E : TypeId} {v : Value} {xs : List Value} (h : w.ownsRow base E 1 v n xs) (hn : n ≤ 9223372036854775807) : SlAt w E v xs := by
  obtain ⟨h1, h2⟩ := h
  rcases h2 with ⟨rfl, rfl⟩ | ⟨g, cap, cur, rfl, _, hg, _, _, _, ht⟩
  · exact .inl ⟨List.eq_nil_of_length_eq_zero (by simpa using h1), none, 0, rfl⟩
  · have hx : xs.length = n := by simpa using h1
    refine .inr ⟨g, 0, cap, cur, (0, 0), by rw [hx], hg, fun i hi => ?_, by omega⟩
    rw [← ht]
    simp [show i < n from by omega]

section
variable {P : Program} {ops : Array Oper} {Q : Exit → Act → World → Prop} {a : Act} {w : World} {rest : List Oper} {d : Option Tmp} {ty : TypeId} {pos : String} {after : Array Edge} {T K E : TypeId}
/-- A literal's entry; a store into a map. -/
theorem wpL_insert {m k x : Operand} {r : Nat} {es : List (Int × Value)} {kk : Int} {v : Value} (hT : P.underlying T = some (.map K E)) (hK : P.underlying K = some (.int .i64))
    (hm : a.eval m = .map (some r)) (hk : a.eval k = .int .i64 kk) (hv : a.eval x = v) (hr : w.heap[r]? = some (mapObj es))
    (h : wpList P ops Q rest (a.put d undef) (putB w r (mapObj (mset kk v es)))) :
    wpList P ops Q ({ dst := d, op := .insert T m k x, type := ty, pos := pos, after := after, guard := none } :: rest) a w :=
  wpList_plain rfl fun K' hK' => by
    unfold Oper.wp execOp
    simp only [hm, hk, hv, Sem.run_bind, run_mapUpdate_int hT hK hr kk v, Result.andThen_ok, Sem.run_pure]
    exact hK' _ _ h
theorem wpL_update {m k x : Operand} {r : Nat} {es : List (Int × Value)} {kk : Int} {v : Value} (hT : P.underlying T = some (.map K E)) (hK : P.underlying K = some (.int .i64))
    (hm : a.eval m = .map (some r)) (hk : a.eval k = .int .i64 kk) (hv : a.eval x = v) (hr : w.heap[r]? = some (mapObj es))
    (h : wpList P ops Q rest (a.put d undef) (putB w r (mapObj (mset kk v es)))) :
    wpList P ops Q ({ dst := d, op := .mapUpdate T m k x, type := ty, pos := pos, after := after, guard := none } :: rest) a w :=
  wpList_plain rfl fun K' hK' => by
    unfold Oper.wp execOp
    simp only [hm, hk, hv, Sem.run_bind, run_mapUpdate_int hT hK hr kk v, Result.andThen_ok, Sem.run_pure]
    exact hK' _ _ h
theorem wpL_lookup {m k : Operand} {r : Nat} {es : List (Int × Value)} {kk : Int} {z : Value} {ok : Bool} {v : Value} (hT : P.underlying T = some (.map K E)) (hK : P.underlying K = some (.int .i64)) (hz : ∀ w, (zeroValue E).run P w = .ok z w)
    (hm : a.eval m = .map (some r)) (hk : a.eval k = .int .i64 kk) (hr : w.heap[r]? = some (mapObj es))
    (hv : (if ok then .tuple #[(mfind kk es).getD z, .bool (mfind kk es).isSome] else (mfind kk es).getD z) = v) (h : wpList P ops Q rest (a.put d v) w) :
    wpList P ops Q ({ dst := d, op := .lookup T m k ok, type := ty, pos := pos, after := after, guard := none } :: rest) a w :=
  wpList_plain rfl fun K' hK' => by
    unfold Oper.wp execOp
    simp only [hm, hk, Sem.run_bind, run_lookup_int hT hK (hz w) hr kk ok, Result.andThen_ok, Sem.run_pure, hv]
    exact hK' _ _ h
/-- 'append(out, x)' onto a slice of the call's own. -/
theorem wpL_append1 {s x : Operand} {z v u : Value} {bytes base n b off c : Nat} {xs : List Value} (ht : P.underlying T = some (.slice E)) (hinfo : (P.info? E).map (fun i => (i.zero, i.size, i.bytes)) = some (some z, 1, bytes)) (hzs : z.cells.size = 1) (hbytes : bytes ≤ 1024)
    (hs : a.eval s = v) (hx : a.eval x = .slice (some ⟨b, off, none⟩) 1 c) (hown : w.ownsRow base E 1 v n xs) (hu : w.cell? ⟨b, off, none⟩ = some u) (h1 : u.oneCell' = true) (hn : n ≤ 1048576) (hbase : base ≤ w.heap.size)
    (h : ∀ v' w', w'.ownsRow base E 1 v' (n + 1) (xs ++ [u]) → w.grownBy w' v.ownBlock → wpList P ops Q rest (a.put d v') w') :
    wpList P ops Q ({ dst := d, op := .call { callee := .builtin .append, args := #[s, x], argTypes := #[T, T] }, type := ty, pos := pos, after := after, guard := none } :: rest) a w := by
  cases hi : P.info? E with
  | none => simp [hi] at hinfo
  | some i =>
    obtain ⟨h1z, h2z, h3z⟩ : i.zero = some z ∧ i.size = 1 ∧ i.bytes = bytes := by simpa [hi] using hinfo
    refine wpList_append_own w rfl s x T rfl base E i z 1 bytes ht hi h1z h2z h3z hzs (by decide) v n xs hs hown ⟨b, off, none⟩ 1 c [u] hx rfl ?_ (by simpa using h1) (by unfold maxLen; omega) ?_ hbase (fun v' w' a1 a2 _ => h v' w' a1 a2)
    · intro j u' hj
      cases j with
      | zero => simp at hj; subst hj; simpa [Addr.add] using hu
      | succ j => simp at hj
    · calc (n + 1) * bytes ≤ 1048577 * 1024 := Nat.mul_le_mul (by omega) hbytes
        _ ≤ 140737488355328 := by decide
theorem wpL_makeMap (h : wpList P ops Q rest (a.put d (.map (some w.heap.size))) (w.alloc (mapObj []))) :
    wpList P ops Q ({ dst := d, op := .makeMap T none, type := ty, pos := pos, after := after, guard := none } :: rest) a w :=
  wpList_plain rfl fun K' hK' => by
    unfold Oper.wp execOp
    simp only [Option.map_none, Sem.run_bind, run_makeMap, Result.andThen_ok, Sem.run_pure]
    exact hK' _ _ h
end
end Go.Proofs.Ytoalnkhedebpbaa

/-! slices.Index, slices.Contains over ints; geom.Check, Budget, Width, Capacity: what they answer. -/
namespace Go.Proofs.Ytoalnkhedebpbaa
open Go.RowKit

theorem int64t : Try.prog.underlying 3 = some (.int .i64) := by kernel_rfl
theorem mapII : Try.prog.underlying 25 = some (.map 3 3) := by kernel_rfl
theorem zeroInt (w : World) : (zeroValue 3).run Try.prog w = .ok (.int .i64 0) w := by kernel_rfl

def ints (zs : List Int) : List Value := zs.map (Value.int .i64)
/-- The first place of a number in a list; -1: none. -/
def idx (zs : List Int) (x : Int) : Int := match zs.findIdx? (· == x) with | some k => k | none => -1
theorem idx_at (zs : List Int) (x : Int) (k : Nat) (hk : k < zs.length) (hx : zs.getD k 0 = x) (hn : ∀ j, j < k → zs.getD j 0 ≠ x) : idx zs x = k := by
  have : zs.findIdx? (· == x) = some k := by
    rw [List.findIdx?_eq_some_iff_getElem]
    refine ⟨hk, by simpa [hk] using hx, fun j hj => ?_⟩
    have := hn j hj
    simpa [show j < zs.length from by omega] using this
  simp [idx, this]
theorem idx_none (zs : List Int) (x : Int) (hn : ∀ j, j < zs.length → zs.getD j 0 ≠ x) : idx zs x = -1 := by
  have : zs.findIdx? (· == x) = none := by
    rw [List.findIdx?_eq_none_iff]
    intro y hy
    obtain ⟨j, hj, rfl⟩ := List.getElem_of_mem hy
    have := hn j hj
    simpa [hj] using this
  simp [idx, this]

set_option maxHeartbeats 400000 in
theorem index_cons (zs : List Int) (b off cap : Nat) (cs : Array Value) (fr : Nat × Nat) (x : Int) (w : World) (hl : zs.length ≤ 9223372036854775807) (hb : w.heap[b]? = some (.cells cs 3 fr)) (hc : ∀ i, i < zs.length → cs[off + i]? = (ints zs)[i]?) :
    Calls Try.prog 86 #[.slice (some ⟨b, off, none⟩) zs.length cap, .int .i64 x] w fun e w' => e = .returned (.int .i64 (idx zs x)) ∧ w = w' := by
  have hcell : ∀ i, i < zs.length → w.cell? ⟨b, off + i, none⟩ = some (.int .i64 (zs.getD i 0)) := fun i hi => by
    rw [cell_of_row w b _ cs _ fr hb, hc i hi]; simp [ints, hi]
  clear hc hb
  have H := Lib.hid hcell; clear hcell
  go_enter Try.func86, Try.ntmps86
  go_wp2
  go_loop [8] (fun i => ∃ k : Nat, k ≤ zs.length ∧ i = .int .i64 k ∧ Hid (∀ j, j < k → zs.getD j 0 ≠ x)) (fun i => zs.length - (intOf i).toNat)
  case atStart => exact ⟨0, Nat.zero_le _, rfl, fun _ h => by omega⟩
  case round =>
    obtain ⟨k, hk, rfl, hne⟩ := hrel
    have hcl : k < zs.length → w.cell? ⟨b, off + k, none⟩ = some (.int .i64 (zs.getD k 0)) := fun h => H.out k h
    go_wp2
    · have hlt : k < zs.length := by assumption
      have hx : (x == zs[k]) = true := by assumption
      go_ret
      exact ⟨ret_i64 (idx_at zs x k hlt (by simp [hlt]; simpa using (beq_iff_eq.1 hx).symm) hne.out).symm, rfl⟩
    · have hlt : k < zs.length := by assumption
      have hx : (x == zs[k]) = false := by assumption
      go_round
      case rel => exact ⟨k + 1, by omega, by go_num, fun j hj => by
        by_cases e : j = k
        · subst e; simp [hlt]; simp at hx; exact fun h => hx h.symm
        · exact hne.out j (by omega)⟩
      case measure => simp [intOf]; omega
    · go_ret
      exact ⟨ret_i64 (idx_none zs x (fun j hj => hne.out j (by omega))).symm, rfl⟩
set_option maxHeartbeats 400000 in
theorem index_nil (a : Option Addr) (cap : Nat) (x : Int) (w : World) :
    Calls Try.prog 86 #[.slice a 0 cap, .int .i64 x] w fun e w' => e = .returned (.int .i64 (idx [] x)) ∧ w = w' := by
  go_enter Try.func86, Try.ntmps86
  go_wp2
  refine wp_loop_once ?_
  go_wp2
  go_ret
  exact ⟨rfl, rfl⟩
theorem index_any (zs : List Int) (v : Value) (x : Int) (w : World) (h : SlAt w 3 v (ints zs)) :
    Calls Try.prog 86 #[v, .int .i64 x] w fun e w' => e = .returned (.int .i64 (idx zs x)) ∧ w = w' := by
  have e : (ints zs).length = zs.length := by simp [ints]
  rcases h with ⟨hv, a, cap, rfl⟩ | ⟨b, off, cap, cs, fr, rfl, hb, hc, hl⟩
  · have : zs = [] := by simpa [ints] using hv
    subst this
    exact index_nil a cap x w
  · rw [e] at hl hc ⊢
    exact index_cons zs b off cap cs fr x w hl hb hc
theorem idx_range (zs : List Int) (x : Int) : -1 ≤ idx zs x ∧ idx zs x < zs.length := by
  unfold idx
  cases h : zs.findIdx? (· == x) with
  | none => simp; omega
  | some k =>
    rw [List.findIdx?_eq_some_iff_getElem] at h
    obtain ⟨hk, _⟩ := h
    simp; omega
set_option maxHeartbeats 400000 in
theorem contains_any (zs : List Int) (v : Value) (x : Int) (w : World) (h : SlAt w 3 v (ints zs)) :
    Calls Try.prog 108 #[v, .int .i64 x] w fun e w' => e = .returned (.bool (decide (0 ≤ idx zs x))) ∧ w = w' := by
  go_enter Try.func108, Try.ntmps108
  go_wp2_with fail
  refine (index_any zs v x w h).mono ?_
  rintro e w' ⟨rfl, rfl⟩
  go_wp2
  go_ret
  exact ⟨rfl, rfl⟩

theorem contains_yes (zs : List Int) (v : Value) (x : Int) (w : World) (h : SlAt w 3 v (ints zs)) (hx : 0 ≤ idx zs x) :
    Calls Try.prog 108 #[v, .int .i64 x] w fun e w' => e = .returned (.bool true) ∧ w = w' :=
  (contains_any zs v x w h).mono fun _ _ ⟨he, hw⟩ => ⟨by rw [he]; exact ret_bool (decide_eq_true hx), hw⟩
theorem grDone {w w' : World} (h : Gr w w') : Gr w w' := h

/-- May a geometry be? -/
def goodG (L D C : Int) : Bool := (L == 5 && decide (3 ≤ D) || L == 6 && decide (4 ≤ D)) && decide (D ≤ 8) && (C == 1 || C == 2 || C == 4)
abbrev gv (L D C : Int) : Value := .agg #[.int .i64 L, .int .i64 D, .int .i64 C]
theorem goodG_cases {L D C : Int} (h : goodG L D C = true) : (L = 5 ∧ 3 ≤ D ∨ L = 6 ∧ 4 ≤ D) ∧ D ≤ 8 ∧ (C = 1 ∨ C = 2 ∨ C = 4) := by
  simpa [goodG, and_assoc, or_assoc] using h


set_option maxRecDepth 100000 in
set_option maxHeartbeats 1000000 in
theorem check_good (L D C : Int) (w : World) (h : goodG L D C = true) :
    Calls Try.prog 76 #[gv L D C] w fun e w' => e = .returned (.int .i64 0) ∧ Gr w w' := by
  obtain ⟨h1, h2, h3⟩ := goodG_cases h
  clear h
  have d8 : decide (8 < D) = false := by simp; omega
  have d3 : decide (D < 3) = false := by simp; omega
  have d4 : L = 6 → decide (D < 4) = false := fun _ => by simp; omega
  rcases h1 with ⟨rfl, h1⟩ | ⟨rfl, h1⟩ <;> rcases h3 with rfl | rfl | rfl
  all_goals
    go_enter Try.func76, Try.ntmps76
    go_wp2_with (first | ((with_reducible refine wpL_makeMap ?_)) | ((with_reducible apply wpL_insert mapII int64t); rfl; rfl; rfl; first | exact heap_alloc_at _ _ _ (by simp) | exact putB_get_self (by simp) _) | ((with_reducible apply wpL_lookup mapII int64t zeroInt); rfl; rfl; exact (putB_get_self (by simp) _); first | exact (show _ = Value.int .i64 3 from rfl) | exact (show _ = Value.int .i64 4 from rfl)) | (go_at_call 108; refine (contains_yes [1, 2, 4] _ _ _ (SlAt.lit (ints [1, 2, 4]) (heap_alloc_at _ _ _ (by simp)) (by decide)) (by decide)).mono ?_; rintro e w1 ⟨rfl, rfl⟩))
    go_ret
    exact ⟨rfl, Below.alloc (below_putB (below_putB (Below.alloc (Below.alloc (Gr.refl w) (by simp) _) (by simp) _) (by simp) _) (by simp) _) (by simp <;> omega) _⟩
theorem check_zero (w : World) :
    Calls Try.prog 76 #[gv 0 0 0] w fun e w' => e = .returned (.int .i64 1) ∧ Gr w w' := by
  go_enter Try.func76, Try.ntmps76
  go_wp2_with (first | ((with_reducible refine wpL_makeMap ?_)) | ((with_reducible apply wpL_insert mapII int64t); rfl; rfl; rfl; first | exact heap_alloc_at _ _ _ (by simp) | exact putB_get_self (by simp) _) | ((with_reducible apply wpL_lookup (v := .int .i64 0) mapII int64t zeroInt); rfl; rfl; exact (putB_get_self (by simp) _); rfl))
  go_ret
  exact ⟨rfl, below_putB (below_putB (Below.alloc (Below.alloc (Gr.refl w) (by simp) _) (by simp) _) (by simp) _) (by simp <;> omega) _⟩
end Go.Proofs.Ytoalnkhedebpbaa

/-! geom.Budget, Width, Capacity; place.in, Parity, Disk, number, Of: what they answer at a geometry that may be. -/
namespace Go.Proofs.Ytoalnkhedebpbaa
open Go.RowKit

theorem box3 {w : World} {b : Nat} {x y z : Value} {T : TypeId} {fr : Nat × Nat} (h : w.heap[b]? = some (.cells #[x, y, z] T fr)) :
    w.cell? ⟨b, 0, none⟩ = some x ∧ w.cell? ⟨b, 1, none⟩ = some y ∧ w.cell? ⟨b, 2, none⟩ = some z := by
  simp [cell_of_row w b _ _ _ _ h]
theorem wr {x : Int} (h : -9223372036854775808 ≤ x) (h' : x ≤ 9223372036854775807) : IntKind.i64.wrap x = x := IntWalk.i64_in _ (by omega)
theorem wrDiv {a b : Int} (h : 0 ≤ a) (h' : a ≤ 9223372036854775807) (hb : 0 ≤ b) : IntKind.i64.wrap (a.tdiv b) = a / b := by
  rw [Int.tdiv_eq_ediv_of_nonneg h]
  have h0 : 0 ≤ a / b := Int.ediv_nonneg h hb
  have h1 : a / b ≤ a := Int.ediv_le_self _ h
  exact wr (by omega) (by omega)
theorem goodG_bds {L D C : Int} (h : goodG L D C = true) : 5 ≤ L ∧ L ≤ 6 ∧ 3 ≤ D ∧ D ≤ 8 ∧ 1 ≤ C ∧ C ≤ 4 ∧ 2 ≤ D - (L - 4) := by
  have := goodG_cases h; omega

set_option maxRecDepth 100000 in
set_option maxHeartbeats 400000 in
theorem budget_good (L D C : Int) (w : World) (h : goodG L D C = true) :
    Calls Try.prog 107 #[gv L D C] w fun e w' => e = .returned (.int .i64 (L - 4)) ∧ Gr w w' := by
  obtain ⟨hL1, hL2, _⟩ := goodG_bds h
  have H := Lib.hid h; clear h
  go_enter Try.func107, Try.ntmps107
  go_wp2_with fail
  refine (check_good L D C _ H.out).mono ?_
  rintro e w1 ⟨rfl, hg⟩
  obtain ⟨hc, hf⟩ := hg.cells
  go_wp2
  go_ret
  exact ⟨rfl, (Gr.alloc w _).trans hg⟩

set_option maxRecDepth 100000 in
set_option maxHeartbeats 400000 in
theorem width_good (L D C : Int) (w : World) (h : goodG L D C = true) :
    Calls Try.prog 74 #[gv L D C] w fun e w' => e = .returned (.int .i64 (D - (L - 4))) ∧ Gr w w' := by
  obtain ⟨hL1, hL2, hD1, hD2, _⟩ := goodG_bds h
  have H := Lib.hid h; clear h
  go_enter Try.func74, Try.ntmps74
  go_wp2_with fail
  refine (check_good L D C _ H.out).mono ?_
  rintro e w1 ⟨rfl, hg⟩
  have g1 : Gr w w1 := (Gr.alloc w _).trans hg
  obtain ⟨hc, hf⟩ := hg.cells
  go_wp2
  obtain ⟨c0, c1, c2⟩ := box3 (hg.get (heap_alloc_new w _))
  clear hc hf
  have e1 : IntKind.i64.wrap (D - (L - 4)) = D - (L - 4) := IntWalk.i64_in _ (by omega)
  go_region_held3 (fun wx : World => wx.cell? ⟨w.heap.size, 0, none⟩ = some (.int .i64 L) ∧ wx.cell? ⟨w.heap.size, 1, none⟩ = some (.int .i64 D) ∧ wx.cell? ⟨w.heap.size, 2, none⟩ = some (.int .i64 C)) (first | exact ⟨c0, c1, c2⟩ | exact ⟨hg2.cell c0, hg2.cell c1, hg2.cell c2⟩) (first | (go_at_call 107; refine (budget_good L D C _ H.out).mono ?_; rintro e w2 ⟨rfl, hg2⟩))
  go_wp2
  go_ret
  exact ⟨rfl, (g1.trans (Gr.drew _)).trans hg2⟩

set_option maxRecDepth 100000 in
set_option maxHeartbeats 400000 in
theorem capacity_good (L D C : Int) (w : World) (h : goodG L D C = true) :
    Calls Try.prog 73 #[gv L D C] w fun e w' => e = .returned (.int .i64 ((D - (L - 4)) * 16)) ∧ Gr w w' := by
  obtain ⟨hL1, hL2, hD1, hD2, _⟩ := goodG_bds h
  have H := Lib.hid h; clear h
  go_enter Try.func73, Try.ntmps73
  go_wp2_with fail
  refine (width_good L D C _ H.out).mono ?_
  rintro e w1 ⟨rfl, hg⟩
  go_wp2
  go_ret
  exact ⟨rfl, (Gr.alloc w _).trans hg⟩

set_option maxRecDepth 100000 in
set_option maxHeartbeats 400000 in
theorem in_good (L D C r : Int) (w : World) (h : goodG L D C = true) (hr : 0 ≤ r) (hr' : r < 16) :
    Calls Try.prog 72 #[gv L D C, .int .i64 r] w fun e w' => e = .returned (.bool true) ∧ Gr w w' := by
  have H := Lib.hid h; clear h
  have d0 : decide (0 ≤ r) = true := by simpa using hr
  have d1 : decide (r < 16) = true := by simpa using hr'
  go_enter Try.func72, Try.ntmps72
  go_wp2_with fail
  refine (check_good L D C _ H.out).mono ?_
  rintro e w1 ⟨rfl, hg⟩
  go_wp2
  go_ret
  exact ⟨rfl, (Gr.alloc w _).trans hg⟩

/-- The disk of P. -/
def parP (D C r : Int) : Int := D - 1 - r / C % D
/-- The disk of Q; -1: none. -/
def parQ (L D C r : Int) : Int := if L = 5 then -1 else (parP D C r + 1) % D
theorem parP_range {D C r : Int} (hD : 0 < D) : 0 ≤ parP D C r ∧ parP D C r < D := by
  have h1 := Int.emod_nonneg (r / C) (show D ≠ 0 by omega)
  have h2 := Int.emod_lt_of_pos (r / C) hD
  unfold parP; omega

set_option maxRecDepth 100000 in
set_option maxHeartbeats 400000 in
theorem parity_good (L D C r : Int) (w : World) (h : goodG L D C = true) (hr : 0 ≤ r) (hr' : r < 16) :
    Calls Try.prog 18 #[gv L D C, .int .i64 r] w fun e w' => e = .returned (.tuple #[.int .i64 (parP D C r), .int .i64 (parQ L D C r)]) ∧ Gr w w' := by
  obtain ⟨hL1, hL2, hD1, hD2, hC1, hC2, _⟩ := goodG_bds h
  have H := Lib.hid h; clear h
  have q0 : 0 ≤ r / C := Int.ediv_nonneg hr (by omega)
  have q1 : r / C ≤ r := Int.ediv_le_self _ hr
  have m0 := Int.emod_nonneg (r / C) (show D ≠ 0 by omega)
  have m1 := Int.emod_lt_of_pos (r / C) (show 0 < D by omega)
  have nC : ¬ C = 0 := by omega
  have nD : ¬ D = 0 := by omega
  have f1 : IntKind.i64.wrap (D - 1) = D - 1 := wr (by omega) (by omega)
  have f2 : IntKind.i64.wrap (r.tdiv C) = r / C := wrDiv hr (by omega) (by omega)
  have f3 : (r / C).tmod D = r / C % D := Int.tmod_eq_emod_of_nonneg q0
  have f4 : (D - 1 - r / C % D + 1).tmod D = (D - 1 - r / C % D + 1) % D := Int.tmod_eq_emod_of_nonneg (by omega)
  have e1 : IntKind.i64.wrap (D - 1 - r / C % D) = D - 1 - r / C % D := IntWalk.i64_in _ (by omega)
  have e2 : IntKind.i64.wrap (D - 1 - r / C % D + 1) = D - 1 - r / C % D + 1 := IntWalk.i64_in _ (by omega)
  have z0 : 0 ≤ D - 1 - r / C % D + 1 := by omega
  by_cases hL : L = 5
  · subst hL
    go_enter Try.func18, Try.ntmps18
    go_wp2_with fail
    refine (in_good 5 D C r _ H.out hr hr').mono ?_
    rintro e w1 ⟨rfl, hg⟩
    have g1 : Gr w w1 := (Gr.alloc w _).trans hg
    obtain ⟨c0, c1, c2⟩ := box3 (hg.get (heap_alloc_new w _))
    go_wp2
    go_region_held3 (fun wx : World => wx.cell? ⟨w.heap.size, 0, none⟩ = some (.int .i64 5) ∧ wx.cell? ⟨w.heap.size, 1, none⟩ = some (.int .i64 D) ∧ wx.cell? ⟨w.heap.size, 2, none⟩ = some (.int .i64 C)) (exact ⟨c0, c1, c2⟩) (first | fail)
    go_wp2
    go_ret2
    exact ⟨rfl, g1.trans (Gr.drew _)⟩
  · have hL6 : L = 6 := by omega
    clear hL
    subst hL6
    go_enter Try.func18, Try.ntmps18
    go_wp2_with fail
    refine (in_good 6 D C r _ H.out hr hr').mono ?_
    rintro e w1 ⟨rfl, hg⟩
    have g1 : Gr w w1 := (Gr.alloc w _).trans hg
    obtain ⟨c0, c1, c2⟩ := box3 (hg.get (heap_alloc_new w _))
    go_wp2
    go_region_held3 (fun wx : World => wx.cell? ⟨w.heap.size, 0, none⟩ = some (.int .i64 6) ∧ wx.cell? ⟨w.heap.size, 1, none⟩ = some (.int .i64 D) ∧ wx.cell? ⟨w.heap.size, 2, none⟩ = some (.int .i64 C)) (exact ⟨c0, c1, c2⟩) (first | fail)
    go_wp2
    go_region_held3 (fun wx : World => wx.cell? ⟨w.heap.size, 0, none⟩ = some (.int .i64 6) ∧ wx.cell? ⟨w.heap.size, 1, none⟩ = some (.int .i64 D) ∧ wx.cell? ⟨w.heap.size, 2, none⟩ = some (.int .i64 C)) (exact ⟨c0, c1, c2⟩) (first | fail)
    go_wp2
    go_ret2
    exact ⟨rfl, (g1.trans (Gr.drew _)).trans (Gr.drew _)⟩

/-- The disk of a data chunk. -/
def dskOf (L D C r k : Int) : Int := (parP D C r + (L - 4) + k) % D
set_option maxRecDepth 100000 in
set_option maxHeartbeats 400000 in
theorem disk_good (L D C r k : Int) (w : World) (h : goodG L D C = true) (hr : 0 ≤ r) (hr' : r < 16) (hk : 0 ≤ k) (hk' : k < D - (L - 4)) :
    Calls Try.prog 75 #[gv L D C, .int .i64 r, .int .i64 k] w fun e w' => e = .returned (.int .i64 (dskOf L D C r k)) ∧ Gr w w' := by
  obtain ⟨hL1, hL2, hD1, hD2, hC1, hC2, _⟩ := goodG_bds h
  have H := Lib.hid h; clear h
  obtain ⟨p0, p1⟩ := parP_range (D := D) (C := C) (r := r) (by omega)
  have nD : ¬ D = 0 := by omega
  have d0 : decide (k < 0) = false := by simp; omega
  have d1 : decide (D - (L - 4) ≤ k) = false := by simp; omega
  have e1 : IntKind.i64.wrap (parP D C r + (L - 4)) = parP D C r + (L - 4) := IntWalk.i64_in _ (by omega)
  have e2 : IntKind.i64.wrap (parP D C r + (L - 4) + k) = parP D C r + (L - 4) + k := IntWalk.i64_in _ (by omega)
  have z0 : 0 ≤ parP D C r + (L - 4) + k := by omega
  have f4 : (parP D C r + (L - 4) + k).tmod D = (parP D C r + (L - 4) + k) % D := Int.tmod_eq_emod_of_nonneg z0
  go_enter Try.func75, Try.ntmps75
  go_wp2_with fail
  refine (in_good L D C r _ H.out hr hr').mono ?_
  rintro e w1 ⟨rfl, hg⟩
  have g1 : Gr w w1 := (Gr.alloc w _).trans hg
  obtain ⟨c0, c1, c2⟩ := box3 (hg.get (heap_alloc_new w _))
  clear hg
  go_wp2_with fail
  refine (width_good L D C _ H.out).mono ?_
  rintro e w2 ⟨rfl, hg2⟩
  replace g1 := g1.trans hg2
  replace c0 := hg2.cell c0
  replace c1 := hg2.cell c1
  replace c2 := hg2.cell c2
  clear hg2
  go_wp2_with fail
  refine (parity_good L D C r _ H.out hr hr').mono ?_
  rintro e w3 ⟨rfl, hg3⟩
  replace g1 := g1.trans hg3
  replace c0 := hg3.cell c0
  replace c1 := hg3.cell c1
  replace c2 := hg3.cell c2
  clear hg3
  go_wp2
  go_region_held3 (fun wx : World => wx.cell? ⟨w.heap.size, 0, none⟩ = some (.int .i64 L) ∧ wx.cell? ⟨w.heap.size, 1, none⟩ = some (.int .i64 D) ∧ wx.cell? ⟨w.heap.size, 2, none⟩ = some (.int .i64 C)) (first | exact ⟨c0, c1, c2⟩ | exact ⟨hg4.cell c0, hg4.cell c1, hg4.cell c2⟩) (first | (go_at_call 107; refine (budget_good L D C _ H.out).mono ?_; rintro e w4 ⟨rfl, hg4⟩))
  go_wp2
  go_ret
  exact ⟨rfl, (g1.trans (Gr.drew _)).trans hg4⟩

/-- The number of the sector of a data chunk in a row. -/
def numOf (L D C r k : Int) : Int := (r / C * (D - (L - 4)) + k) * C + r % C
theorem num_bds {L D C r k : Int} (hL1 : 5 ≤ L) (hL2 : L ≤ 6) (hD1 : 3 ≤ D) (hD2 : D ≤ 8) (hC1 : 1 ≤ C) (hC2 : C ≤ 4) (hr : 0 ≤ r) (hr' : r < 16) (hk : 0 ≤ k) (hk' : k < 8) (hw : 1 ≤ D - (L - 4)) :
    0 ≤ r / C ∧ r / C ≤ 15 ∧ 0 ≤ r / C * (D - (L - 4)) ∧ r / C * (D - (L - 4)) ≤ 120 ∧ 0 ≤ r / C * (D - (L - 4)) + k ∧ 0 ≤ (r / C * (D - (L - 4)) + k) * C ∧ (r / C * (D - (L - 4)) + k) * C ≤ 512 ∧ 0 ≤ r % C ∧ r % C < C := by
  have q0 : 0 ≤ r / C := Int.ediv_nonneg hr (by omega)
  have q1 : r / C ≤ r := Int.ediv_le_self _ hr
  have m0 := Int.emod_nonneg r (show C ≠ 0 by omega)
  have m1 := Int.emod_lt_of_pos r (show 0 < C by omega)
  have w7 : D - (L - 4) ≤ 7 := by omega
  have a0 : 0 ≤ r / C * (D - (L - 4)) := Int.mul_nonneg q0 (by omega)
  have a1 : r / C * (D - (L - 4)) ≤ 15 * 7 := Int.mul_le_mul (by omega) w7 (by omega) (by omega)
  have b0 : 0 ≤ (r / C * (D - (L - 4)) + k) * C := Int.mul_nonneg (by omega) (by omega)
  have b1 : (r / C * (D - (L - 4)) + k) * C ≤ 112 * 4 := Int.mul_le_mul (by omega) hC2 (by omega) (by omega)
  omega
set_option maxRecDepth 100000 in
set_option maxHeartbeats 400000 in
theorem number_good (L D C r k : Int) (w : World) (h : goodG L D C = true) (hr : 0 ≤ r) (hr' : r < 16) (hk : 0 ≤ k) (hk' : k < 8) :
    Calls Try.prog 111 #[gv L D C, .int .i64 r, .int .i64 k] w fun e w' => e = .returned (.int .i64 (numOf L D C r k)) ∧ Gr w w' := by
  obtain ⟨hL1, hL2, hD1, hD2, hC1, hC2, hw⟩ := goodG_bds h
  have H := Lib.hid h; clear h
  obtain ⟨q0, q1, a0, a1, ak, b0, b1, m0, m1⟩ := num_bds hL1 hL2 hD1 hD2 hC1 hC2 hr hr' hk hk' (by omega)
  have nC : ¬ C = 0 := by omega
  have e1 : IntKind.i64.wrap (r / C * (D - (L - 4))) = r / C * (D - (L - 4)) := IntWalk.i64_in _ (by omega)
  have e2 : IntKind.i64.wrap (r / C * (D - (L - 4)) + k) = r / C * (D - (L - 4)) + k := IntWalk.i64_in _ (by omega)
  have e3 : IntKind.i64.wrap ((r / C * (D - (L - 4)) + k) * C) = (r / C * (D - (L - 4)) + k) * C := IntWalk.i64_in _ (by omega)
  have e4 : IntKind.i64.wrap ((r / C * (D - (L - 4)) + k) * C + r % C) = (r / C * (D - (L - 4)) + k) * C + r % C := IntWalk.i64_in _ (by omega)
  have f1 : IntKind.i64.wrap (r.tdiv C) = r / C := wrDiv hr (by omega) (by omega)
  have f2 : r.tmod C = r % C := Int.tmod_eq_emod_of_nonneg hr
  go_enter Try.func111, Try.ntmps111
  go_wp2
  obtain ⟨c0, c1, c2⟩ := box3 (heap_alloc_new w (.cells #[.int .i64 L, .int .i64 D, .int .i64 C] 23))
  obtain ⟨W, hW⟩ : ∃ W, W = w.alloc (.cells #[.int .i64 L, .int .i64 D, .int .i64 C] 23) := ⟨_, rfl⟩
  have g1 : Gr w W := by rw [hW]; exact Gr.alloc w _
  rw [← hW] at c0 c1 c2 ⊢
  clear hW
  go_region_held3 (fun wx : World => wx.cell? ⟨w.heap.size, 0, none⟩ = some (.int .i64 L) ∧ wx.cell? ⟨w.heap.size, 1, none⟩ = some (.int .i64 D) ∧ wx.cell? ⟨w.heap.size, 2, none⟩ = some (.int .i64 C)) (first | exact ⟨c0, c1, c2⟩ | exact ⟨hg4.cell c0, hg4.cell c1, hg4.cell c2⟩) (first | (go_at_call 74; refine (width_good L D C _ H.out).mono ?_; rintro e w4 ⟨rfl, hg4⟩))
  go_wp2
  go_ret
  exact ⟨rfl, (g1.trans (Gr.drew _)).trans hg4⟩
end Go.Proofs.Ytoalnkhedebpbaa

/-! place.Of, Numbers; row.in: what they answer at a geometry that may be. -/
namespace Go.Proofs.Ytoalnkhedebpbaa
open Go.RowKit

/-- The row of a sector. -/
def rowOf (L D C n : Int) : Int := n / C / (D - (L - 4)) * C + n % C
/-- The place in its row of a sector. -/
def colOf (L D C n : Int) : Int := n / C % (D - (L - 4))
theorem of_bds {L D C n : Int} (h : goodG L D C = true) (hn : 0 ≤ n) (hn' : n < (D - (L - 4)) * 16) :
    0 ≤ n / C ∧ n / C ≤ n ∧ n ≤ 200 ∧ 0 ≤ n / C / (D - (L - 4)) ∧ n / C / (D - (L - 4)) ≤ 16 ∧ 0 ≤ n / C / (D - (L - 4)) * C ∧ n / C / (D - (L - 4)) * C ≤ 16 ∧ 0 ≤ n % C ∧ n % C < C ∧ 0 ≤ rowOf L D C n ∧ rowOf L D C n < 16 ∧ 0 ≤ colOf L D C n ∧ colOf L D C n < D - (L - 4) := by
  obtain ⟨hL1, hL2, hD1, hD2, hC1, hC2, hw⟩ := goodG_bds h
  have hC := (goodG_cases h).2.2
  unfold rowOf colOf
  generalize hW : D - (L - 4) = W at *
  have hW2 : 2 ≤ W := by omega
  have hW7 : W ≤ 7 := by omega
  have h1 := Int.emod_nonneg (n / C) (show W ≠ 0 by omega)
  have h2 := Int.emod_lt_of_pos (n / C) (show 0 < W by omega)
  have q : n / C / W ≤ n / C := Int.ediv_le_self _ (Int.ediv_nonneg hn (by omega))
  have q2 : 0 ≤ n / C / W := Int.ediv_nonneg (Int.ediv_nonneg hn (by omega)) (by omega)
  have q3 : W * (n / C / W) + n / C % W = n / C := Int.mul_ediv_add_emod (n / C) W
  have q4 : W * (n / C / W) ≤ n / C := by omega
  rcases hC with rfl | rfl | rfl
  · have : n / 1 / W < 16 := Int.ediv_lt_of_lt_mul (by omega) (by omega)
    omega
  · have : n / 2 / W < 8 := Int.ediv_lt_of_lt_mul (by omega) (by omega)
    omega
  · have : n / 4 / W < 4 := Int.ediv_lt_of_lt_mul (by omega) (by omega)
    omega

set_option maxRecDepth 100000 in
set_option maxHeartbeats 400000 in
theorem of_low (L D C n : Int) (w : World) (hn : n < 0) :
    Calls Try.prog 20 #[gv L D C, .int .i64 n] w fun e w' => e = .returned (.tuple #[.int .i64 0, .int .i64 0, .bool false]) ∧ Gr w w' := by
  have d0 : decide (n < 0) = true := by simpa using hn
  go_enter Try.func20, Try.ntmps20
  go_wp2
  go_ret3
  exact ⟨rfl, Gr.alloc w _⟩
set_option maxRecDepth 100000 in
set_option maxHeartbeats 400000 in
theorem of_high (L D C n : Int) (w : World) (h : goodG L D C = true) (hn : (D - (L - 4)) * 16 ≤ n) :
    Calls Try.prog 20 #[gv L D C, .int .i64 n] w fun e w' => e = .returned (.tuple #[.int .i64 0, .int .i64 0, .bool false]) ∧ Gr w w' := by
  obtain ⟨hL1, hL2, hD1, hD2, hC1, hC2, hw⟩ := goodG_bds h
  have H := Lib.hid h; clear h
  have d0 : decide (n < 0) = false := by simp; omega
  have d1 : decide ((D - (L - 4)) * 16 ≤ n) = true := by simpa using hn
  go_enter Try.func20, Try.ntmps20
  go_wp2_with fail
  refine (capacity_good L D C _ H.out).mono ?_
  rintro e w1 ⟨rfl, hg⟩
  go_wp2
  go_ret3
  exact ⟨rfl, (Gr.alloc w _).trans hg⟩
set_option maxRecDepth 100000 in
set_option maxHeartbeats 800000 in
theorem of_good (L D C n : Int) (w : World) (h : goodG L D C = true) (hn : 0 ≤ n) (hn' : n < (D - (L - 4)) * 16) :
    Calls Try.prog 20 #[gv L D C, .int .i64 n] w fun e w' => e = .returned (.tuple #[.int .i64 (dskOf L D C (rowOf L D C n) (colOf L D C n)), .int .i64 (rowOf L D C n), .bool true]) ∧ Gr w w' := by
  obtain ⟨hL1, hL2, hD1, hD2, hC1, hC2, hw⟩ := goodG_bds h
  obtain ⟨b1, b2, b3, b4, b5, b6, b7, b8, b9, r0, r1, k0, k1⟩ := of_bds h hn hn'
  have H := Lib.hid h; clear h
  have d0 : decide (n < 0) = false := by simp; omega
  have d1 : decide ((D - (L - 4)) * 16 ≤ n) = false := by simp; omega
  have nC : ¬ C = 0 := by omega
  have nW : ¬ D - (L - 4) = 0 := by omega
  have f1 : IntKind.i64.wrap ((n / C).tdiv (D - (L - 4))) = n / C / (D - (L - 4)) := wrDiv b1 (by omega) (by omega)
  have f2 : n.tmod C = n % C := Int.tmod_eq_emod_of_nonneg hn
  have f3 : IntKind.i64.wrap (n / C / (D - (L - 4)) * C) = n / C / (D - (L - 4)) * C := wr (by omega) (by omega)
  have f4 : IntKind.i64.wrap (n / C / (D - (L - 4)) * C + n % C) = rowOf L D C n := wr (by omega) (by omega)
  have f5 : (n / C).tmod (D - (L - 4)) = colOf L D C n := Int.tmod_eq_emod_of_nonneg b1
  go_enter Try.func20, Try.ntmps20
  go_wp2_with fail
  refine (capacity_good L D C _ H.out).mono ?_
  rintro e w1 ⟨rfl, hg⟩
  have g1 : Gr w w1 := (Gr.alloc w _).trans hg
  obtain ⟨c0, c1, c2⟩ := box3 (hg.get (heap_alloc_new w _))
  clear hg
  go_wp2
  go_region_held3 (fun wx : World => wx.cell? ⟨w.heap.size, 0, none⟩ = some (.int .i64 L) ∧ wx.cell? ⟨w.heap.size, 1, none⟩ = some (.int .i64 D) ∧ wx.cell? ⟨w.heap.size, 2, none⟩ = some (.int .i64 C)) (first | exact ⟨c0, c1, c2⟩ | exact ⟨hg4.cell c0, hg4.cell c1, hg4.cell c2⟩) (first | (go_at_call 74; refine (width_good L D C _ H.out).mono ?_; rintro e w4 ⟨rfl, hg4⟩))
  replace g1 := (g1.trans (Gr.drew _)).trans hg4
  replace c0 := hg4.cell c0
  replace c1 := hg4.cell c1
  replace c2 := hg4.cell c2
  clear hg4
  go_wp2
  go_region_held3 (fun wx : World => wx.cell? ⟨w.heap.size, 0, none⟩ = some (.int .i64 L) ∧ wx.cell? ⟨w.heap.size, 1, none⟩ = some (.int .i64 D) ∧ wx.cell? ⟨w.heap.size, 2, none⟩ = some (.int .i64 C)) (first | exact ⟨c0, c1, c2⟩ | exact ⟨hg5.cell c0, hg5.cell c1, hg5.cell c2⟩ | exact ⟨hg6.cell (hg5.cell c0), hg6.cell (hg5.cell c1), hg6.cell (hg5.cell c2)⟩) (first | (go_at_call 74; refine (width_good L D C _ H.out).mono ?_; rintro e w5 ⟨rfl, hg5⟩) | (go_at_call 75; refine (disk_good L D C _ _ _ H.out r0 r1 k0 k1).mono ?_; rintro e w6 ⟨rfl, hg6⟩))
  go_wp2
  go_ret3
  exact ⟨rfl, ((g1.trans (Gr.drew _)).trans hg5).trans hg6⟩

set_option maxRecDepth 100000 in
set_option maxHeartbeats 400000 in
theorem rowin_good (L D C r : Int) (w : World) (h : goodG L D C = true) :
    Calls Try.prog 109 #[gv L D C, .int .i64 r] w fun e w' => e = .returned (.bool (decide (0 ≤ r) && decide (r < 16))) ∧ Gr w w' := by
  have H := Lib.hid h; clear h
  go_enter Try.func109, Try.ntmps109
  by_cases hr : 0 ≤ r
  · have d0 : decide (0 ≤ r) = true := by simpa using hr
    go_wp2_with fail
    refine (check_good L D C _ H.out).mono ?_
    rintro e w1 ⟨rfl, hg⟩
    go_wp2
    go_ret
    exact ⟨ret_bool (by simp [d0]), (Gr.alloc w _).trans hg⟩
  · have d0 : decide (0 ≤ r) = false := by simpa using hr
    go_wp2_with fail
    refine (check_good L D C _ H.out).mono ?_
    rintro e w1 ⟨rfl, hg⟩
    go_wp2
    go_ret
    exact ⟨ret_bool (by simp [d0]), (Gr.alloc w _).trans hg⟩
set_option maxRecDepth 100000 in
set_option maxHeartbeats 400000 in
theorem rowin_zero (r : Int) (w : World) :
    Calls Try.prog 109 #[gv 0 0 0, .int .i64 r] w fun e w' => e = .returned (.bool false) ∧ Gr w w' := by
  go_enter Try.func109, Try.ntmps109
  go_wp2_with fail
  refine (check_zero _).mono ?_
  rintro e w1 ⟨rfl, hg⟩
  go_wp2
  go_ret
  exact ⟨rfl, (Gr.alloc w _).trans hg⟩

theorem slInt : Try.prog.underlying 33 = some (.slice 3) := by kernel_rfl
theorem infInt : (Try.prog.info? 3).map (fun i => (i.zero, i.size, i.bytes)) = some (some (.int .i64 0), 1, 8) := by kernel_rfl
/-- The numbers of all sectors of a row. -/
def numsOf (L D C r : Int) : List Int := (List.range (D - (L - 4)).toNat).map fun k : Nat => numOf L D C r k
theorem ints_snoc (f : Nat → Int) (k : Nat) : ((List.range k).map fun j => Value.int .i64 (f j)) ++ [.int .i64 (f k)] = (List.range (k + 1)).map fun j => Value.int .i64 (f j) := by
  simp [List.range_succ]
set_option maxRecDepth 100000 in
set_option maxHeartbeats 800000 in
theorem numbers_good (L D C r : Int) (w : World) (h : goodG L D C = true) (hr : 0 ≤ r) (hr' : r < 16) :
    Calls Try.prog 80 #[gv L D C, .int .i64 r] w fun e w' => ∃ v, e = .returned v ∧ SlAt w' 3 v (ints (numsOf L D C r)) ∧ Gr w w' := by
  obtain ⟨hL1, hL2, hD1, hD2, hC1, hC2, hw⟩ := goodG_bds h
  have H := Lib.hid h; clear h
  obtain ⟨W, hW⟩ : ∃ W : Nat, D - (L - 4) = W := ⟨(D - (L - 4)).toNat, by omega⟩
  have hW8 : W < 8 := by omega
  go_enter Try.func80, Try.ntmps80
  go_wp2_with fail
  refine (in_good L D C r _ H.out hr hr').mono ?_
  rintro e w1 ⟨rfl, hg⟩
  have g1 : Gr w w1 := (Gr.alloc w _).trans hg
  obtain ⟨c0, c1, c2⟩ := box3 (hg.get (heap_alloc_new w _))
  clear hg
  go_wp2_with fail
  refine (width_good L D C _ H.out).mono ?_
  rintro e w2 ⟨rfl, hg2⟩
  replace g1 := g1.trans hg2
  replace c0 := hg2.cell c0
  replace c1 := hg2.cell c1
  replace c2 := hg2.cell c2
  clear hg2
  rw [hW]
  go_wp2
  go_loopw [5, 13] (fun v i wr => ∃ k : Nat, k ≤ W ∧ i = .int .i64 k ∧ wr.ownsRow w2.heap.size 3 1 v k ((List.range k).map fun j : Nat => Value.int .i64 (numOf L D C r j)) ∧ Below w2.heap.size w2 wr) (fun _ i _ => W - (intOf i).toNat)
  case atStart => exact ⟨0, by omega, rfl, World.ownsRow_nil _ _ _ _, Below.refl _ _⟩
  case round =>
    obtain ⟨k, hk, rfl, hown, hb⟩ := hrel
    have b0 := (Below.cell hb (World.block_lt_of_cell? w2 _ c0)).trans c0
    have b1 := (Below.cell hb (World.block_lt_of_cell? w2 _ c1)).trans c1
    have b2 := (Below.cell hb (World.block_lt_of_cell? w2 _ c2)).trans c2
    have hsz := hb.size
    by_cases hlt : k < W
    · go_wp2_with fail
      refine (number_good L D C r k _ H.out hr hr' (by omega) (by omega)).mono ?_
      rintro e w3 ⟨rfl, hg3⟩
      have hs3 := hg3.size
      go_wp2_with ((with_reducible apply wpL_append1 slInt infInt rfl (by decide)); rfl; rfl; exact (own_gr hown hg3).alloc _; exact cell_new _ _ _ _ rfl; rfl; omega; (simp; omega); (intro v' w4 hown' hgr))
      have hs4 := hgr.size
      go_roundw
      case rel =>
        refine ⟨k + 1, by omega, by go_num, ?_, ?_⟩
        · have := hown'; rw [ints_snoc] at this; exact this
        · exact Below.grown (Below.alloc (hb.trans (hg3.mono hsz)) (by omega) _) hgr (by simp; omega) (fun j hj => ((own_gr hown hg3).lt j hj).1)
      case measure => simp [intOf]; omega
    · go_wp2
      have hkW : k = W := by omega
      subst hkW
      go_ret
      refine ⟨_, rfl, ?_, g1.trans hb⟩
      have := SlAt.own hown (by omega)
      unfold numsOf ints
      rw [hW, List.map_map]
      exact this
end Go.Proofs.Ytoalnkhedebpbaa

/-! Numbers of sectors, plainly. -/
namespace Go.Proofs.Ytoalnkhedebpbaa

theorem div_of {x y c : Int} (hc : 0 < c) (hy : 0 ≤ y) (hy' : y < c) : (x * c + y) / c = x := by
  rw [Int.add_comm, Int.add_mul_ediv_right _ _ (by omega), Int.ediv_eq_zero_of_lt hy hy']; omega
theorem mod_of {x y c : Int} (hy : 0 ≤ y) (hy' : y < c) : (x * c + y) % c = y := by
  rw [Int.add_comm, Int.add_mul_emod_self_right, Int.emod_eq_of_lt hy hy']
theorem row_num {L D C r k : Int} (h : goodG L D C = true) (hk : 0 ≤ k) (hk' : k < D - (L - 4)) : rowOf L D C (numOf L D C r k) = r ∧ colOf L D C (numOf L D C r k) = k := by
  obtain ⟨hL1, hL2, hD1, hD2, hC1, hC2, hw⟩ := goodG_bds h
  have m0 := Int.emod_nonneg r (show C ≠ 0 by omega)
  have m1 := Int.emod_lt_of_pos r (show 0 < C by omega)
  unfold rowOf colOf numOf
  rw [div_of (by omega) m0 m1, mod_of m0 m1, div_of (by omega) hk hk', mod_of hk hk']
  refine ⟨?_, rfl⟩
  have := Int.mul_ediv_add_emod r C
  rw [Int.mul_comm] at this
  exact this
theorem num_row {L D C n : Int} : numOf L D C (rowOf L D C n) (colOf L D C n) = n ∨ ¬ goodG L D C = true := by
  by_cases h : goodG L D C = true
  · left
    obtain ⟨hL1, hL2, hD1, hD2, hC1, hC2, hw⟩ := goodG_bds h
    have m0 := Int.emod_nonneg n (show C ≠ 0 by omega)
    have m1 := Int.emod_lt_of_pos n (show 0 < C by omega)
    unfold rowOf colOf numOf
    rw [div_of (by omega) m0 m1, mod_of m0 m1]
    have h1 := Int.mul_ediv_add_emod (n / C) (D - (L - 4))
    rw [Int.mul_comm] at h1
    rw [h1]
    have h2 := Int.mul_ediv_add_emod n C
    rw [Int.mul_comm] at h2
    exact h2
  · exact .inr h
theorem num_inj {L D C r k k' : Int} (hC : 1 ≤ C) (h : numOf L D C r k = numOf L D C r k') : k = k' := by
  unfold numOf at h
  have : (r / C * (D - (L - 4)) + k) * C = (r / C * (D - (L - 4)) + k') * C := by omega
  have := Int.eq_of_mul_eq_mul_right (by omega) this
  omega
theorem num_lt {L D C r k : Int} (h : goodG L D C = true) (hr : 0 ≤ r) (hr' : r < 16) (hk : 0 ≤ k) (hk' : k < D - (L - 4)) : 0 ≤ numOf L D C r k ∧ numOf L D C r k < (D - (L - 4)) * 16 := by
  obtain ⟨hL1, hL2, hD1, hD2, hC1, hC2, hw⟩ := goodG_bds h
  have hC := (goodG_cases h).2.2
  unfold numOf
  generalize D - (L - 4) = W at *
  have m0 := Int.emod_nonneg r (show C ≠ 0 by omega)
  have m1 := Int.emod_lt_of_pos r (show 0 < C by omega)
  have q0 : 0 ≤ r / C := Int.ediv_nonneg hr (by omega)
  have hq : C * (r / C) + r % C = r := Int.mul_ediv_add_emod r C
  have a0 : 0 ≤ r / C * W := Int.mul_nonneg q0 (by omega)
  have b0 : 0 ≤ (r / C * W + k) * C := Int.mul_nonneg (by omega) (by omega)
  refine ⟨by omega, ?_⟩
  have hq15 : r / C * W ≤ (16 / C - 1) * W := by
    refine Int.mul_le_mul_of_nonneg_right ?_ (by omega)
    rcases hC with rfl | rfl | rfl <;> omega
  rcases hC with rfl | rfl | rfl <;> omega
end Go.Proofs.Ytoalnkhedebpbaa
