/- Rows of bytes: forms in memory; make([]byte, n), make([][]byte, n). -/
import Derived.Test.YtoalnkhedebpbaaSynd
import Derived.Deep.OwnRows
namespace Go.Proofs.Ytoalnkhedebpbaa
open Go.RowKit

/-- n cells of one value. -/
def zrow (z : Value) (n : Nat) : Array Value := (List.replicate n z).toArray
theorem zrow_get {z : Value} {n i : Nat} (h : i < n) : (zrow z n)[i]? = some z := by simp [zrow, h]
theorem zrow_size (z : Value) (n : Nat) : (zrow z n).size = n := by simp [zrow]
theorem madeCells_zrow (z : Value) (n : Nat) : madeCells #[z] n = zrow z n := by
  apply Array.ext
  · simp [madeCells, zrow]
  · intro i h1 h2
    simp [madeCells, zrow, Nat.mod_one]
def zeros (n : Nat) : List UInt8 := List.replicate n 0
theorem zeros_length (n : Nat) : (zeros n).length = n := by simp [zeros]
theorem zeros_get (n i : Nat) : (zeros n).getD i 0 = 0 := by
  unfold zeros
  by_cases h : i < n <;> simp [h]
theorem SlAt.zrow {w : World} {b n cap : Nat} {E : TypeId} {fr : Nat × Nat} {z : Value} (h : w.heap[b]? = some (.cells (zrow z n) E fr)) (hn : n ≤ 9223372036854775807) : SlAt w E (.slice (some ⟨b, 0, none⟩) n cap) (List.replicate n z) := by
  refine .inr ⟨b, 0, cap, _, fr, by simp, h, fun i hi => ?_, by simpa using hn⟩
  have hi' : i < n := by simpa using hi
  rw [Nat.zero_add, zrow_get hi']; simp [hi']
theorem BytesAt.zeros {w : World} {b n cap : Nat} {fr : Nat × Nat} (h : w.heap[b]? = some (.cells (zrow (.int .u8 0) n) 5 fr)) (hn : n ≤ 9223372036854775807) : BytesAt w (.slice (some ⟨b, 0, none⟩) n cap) (zeros n) := by
  have := SlAt.zrow (cap := cap) h hn
  unfold BytesAt Go.Proofs.Ytoalnkhedebpbaa.zeros
  rw [List.map_replicate]; exact this
theorem RowsAt.cases {w : World} {v : Value} {ls : List (List UInt8)} (h : RowsAt w v ls) :
    (ls = [] ∧ ∃ a cap, v = .slice a 0 cap) ∨ ∃ (b off cap : Nat) (vs : List Value), v = .slice (some ⟨b, off, none⟩) ls.length cap ∧ ls.length ≤ 9223372036854775807 ∧ b < w.heap.size ∧ vs.length = ls.length ∧ (∀ i, i < ls.length → w.cell? ⟨b, off + i, none⟩ = some (vs.getD i undef)) ∧ ∀ i, i < ls.length → BytesAt w (vs.getD i undef) (ls.getD i []) := by
  obtain ⟨vs, h1, h2, h3⟩ := h
  rcases h1 with ⟨h4, h5⟩ | ⟨b, off, cap, cs, fr, rfl, hb, hc, hl⟩
  · exact .inl ⟨List.eq_nil_of_length_eq_zero (by rw [← h2, h4]; rfl), h5⟩
  · refine .inr ⟨b, off, cap, vs, by rw [h2], by omega, heap_lt hb, h2, fun i hi => ?_, h3⟩
    rw [cell_of_row w b _ cs _ fr hb, hc i (by omega)]
    simp [show i < vs.length from by omega]
theorem RowsAt.shape {w : World} {v : Value} {ls : List (List UInt8)} (h : RowsAt w v ls) : ∃ a cap, v = .slice a ls.length cap := by
  rcases h.cases with ⟨rfl, a, cap, rfl⟩ | ⟨b, off, cap, vs, rfl, _⟩
  · exact ⟨a, cap, rfl⟩
  · exact ⟨_, cap, rfl⟩
section
variable {P : Program} {ops : Array Oper} {Q : Exit → Act → World → Prop} {a : Act} {w : World} {rest : List Oper} {d : Option Tmp} {ty : TypeId} {pos : String} {after : Array Edge} {T E : TypeId}
theorem wpL_make1 {l c : Operand} {z : Value} {bytes n : Nat} (ht : P.underlying T = some (.slice E)) (hinfo : (P.info? E).map (fun i => (i.zero, i.size, i.bytes)) = some (some z, 1, bytes)) (hz1 : z.cells = #[z]) (hbytes : bytes ≤ 1024)
    (hl : a.eval l = .int .i64 (n : Int)) (hc : a.eval c = .int .i64 (n : Int)) (hn : n ≤ 1048576)
    (h : wpList P ops Q rest (a.put d (.slice (some ⟨w.heap.size, 0, none⟩) n n)) (w.alloc (.cells (zrow z n) E))) :
    wpList P ops Q ({ dst := d, op := .makeSlice T l c, type := ty, pos := pos, after := after, guard := none } :: rest) a w :=
  wpList_plain rfl fun K' hK' => by
    have hb : bytes * n ≤ 281474976710656 := by
      calc bytes * n ≤ 1024 * 1048576 := Nat.mul_le_mul hbytes hn
        _ ≤ 281474976710656 := by decide
    have hr := run_make_row' (P := P) T E z bytes ht hinfo hz1 .i64 .i64 n hb (by omega) w
    rw [madeCells_zrow] at hr
    unfold Oper.wp execOp
    simp only [hl, hc, Sem.run_bind, hr, Result.andThen_ok, Sem.run_pure]
    exact hK' _ _ h
end
end Go.Proofs.Ytoalnkhedebpbaa
