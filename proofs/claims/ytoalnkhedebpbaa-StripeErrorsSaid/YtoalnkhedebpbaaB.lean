/- Laws at one operation: rows of cells loaded, stored, laid; appends; copies. Blocks whole. Bytes and rows of bytes in memory; wattlekeep.Same over bytes. The field of bytes, plainly: doubling, products, powers, inverses. gf.double, Mul, Pow, Log, Inv: what they answer. synd.Add, Scale: what they answer. Rows of bytes: forms in memory; make([]byte, n), make([][]byte, n). synd.sum, P, Q: what they answer for parts of one length. slices.ContainsFunc over rows of bytes; erase.fits, row.sectors: what they answer. Laws at one operation, besides: one cell stored into a known block; a row copied over another; appends to an own row of rows. -/
import Derived.Test.YtoalnkhedebpbaaA
import Derived.Test.YtoalnkhedebpbaaProg
import Derived.Deep.OwnRows
import Derived.Laws.CopyOwn

/-! Laws at one operation: rows of cells loaded, stored, laid; appends; copies. Blocks whole. -/
namespace Go.Proofs.Ytoalnkhedebpbaa
open Go.RowKit

theorem addr_add0 (g off j : Nat) : ((⟨g, off, none⟩ : Addr).add j) = ⟨g, off + j, none⟩ := by
  unfold Addr.add; split <;> simp_all
section
variable {P : Program} {ops : Array Oper} {Q : Exit → Act → World → Prop} {a : Act} {w : World} {rest : List Oper} {d : Option Tmp} {ty : TypeId} {pos : String} {after : Array Edge} {T E : TypeId}

theorem run_loadAgg {g off : Nat} {cs : Array Value} {t : TypeId} {fr : Nat × Nat} {vs : List Value} {ds : TypeDesc} (hg : w.heap[g]? = some (.cells cs t fr)) (hu : P.underlying T = some ds)
    (hd : (match ds with | .struct _ | .array _ _ => true | _ => false) = true) (hi : (P.info? T).map (·.size) = some vs.length) (hvs : ∀ j, j < vs.length → cs[off + j]? = vs[j]?) :
    (loadVar T ⟨g, off, none⟩).run P w = .ok (.agg vs.toArray) w := by
  have hl : (loadCells ⟨g, off, none⟩ vs.length).run P w = .ok vs.toArray w :=
    run_loadCells_list (P := P) w ⟨g, off, none⟩ vs (fun j v hv => by
      rw [addr_add0, cell_of_row w g _ cs t fr hg]
      have hj : j < vs.length := (List.getElem?_eq_some_iff.1 hv).1
      rw [hvs j hj, hv])
  cases hq : P.info? T with
  | none => simp [hq] at hi
  | some i =>
    have hs : i.size = vs.length := by simpa [hq] using hi
    have hagg : (isAgg T).run P w = .ok true w := by
      unfold isAgg
      rw [Sem.run_bind, run_underlying hu w]
      cases ds <;> simp_all
    simp [loadVar, Sem.run_bind, hagg, sizeOf, typeInfo, hq, hs, hl]
/-- A struct or an array is read out of the midst of a block. -/
theorem wpL_loadAgg {x : Operand} {g off : Nat} {cs : Array Value} {t : TypeId} {fr : Nat × Nat} (vs : List Value) {ds : TypeDesc} (hu : P.underlying T = some ds)
    (hd : (match ds with | .struct _ | .array _ _ => true | _ => false) = true) (hi : (P.info? T).map (·.size) = some vs.length)
    (hx : a.eval x = .pointer (some ⟨g, off, none⟩)) (hg : w.heap[g]? = some (.cells cs t fr)) (hvs : ∀ j, j < vs.length → cs[off + j]? = vs[j]?)
    (h : wpList P ops Q rest (a.put d (.agg vs.toArray)) w) :
    wpList P ops Q ({ dst := d, op := .load T x, type := ty, pos := pos, after := after, guard := none } :: rest) a w :=
  wpList_plain rfl fun K' hK' => by
    unfold Oper.wp execOp
    simp only [hx, Instr.loadAt, Instr.sureAddr, Sem.run_bind, Sem.run_pure, Result.andThen_ok, run_loadAgg hg hu hd hi hvs]
    exact hK' _ _ h
theorem run_storeAgg {g off : Nat} {cs : Array Value} {t : TypeId} {vs : List Value} (hg : w.heap[g]? = some (.cells cs t (0, 0)))
    (hi : (P.info? T).map (·.size) = some vs.length) (h1 : ∀ v ∈ vs, v.oneCell' = true) (hfit : off + vs.length ≤ cs.size) :
    (storeVar T ⟨g, off, none⟩ (.agg vs.toArray)).run P w = .ok () (w.setRow g (cs.toList.take off ++ vs ++ cs.toList.drop (off + vs.length)).toArray) := by
  have hst := run_storeCells_at P g off t vs 0 cs w hg (by simpa using hfit) h1
  cases hq : P.info? T with
  | none => simp [hq] at hi
  | some i =>
    have hs : i.size = vs.length := by simpa [hq] using hi
    simp only [Nat.add_zero] at hst
    simp [storeVar, Sem.run_bind, Value.cells, sizeOf, typeInfo, hq, hs, hst]
/-- A struct or an array is stored into the midst of a block. -/
theorem wpL_storeAgg {x y : Operand} {g off : Nat} {cs : Array Value} {t : TypeId} {vs : List Value} (hi : (P.info? T).map (·.size) = some vs.length) (h1 : ∀ v ∈ vs, v.oneCell' = true)
    (hx : a.eval x = .pointer (some ⟨g, off, none⟩)) (hy : a.eval y = .agg vs.toArray) (hg : w.heap[g]? = some (.cells cs t (0, 0))) (hfit : off + vs.length ≤ cs.size)
    (h : wpList P ops Q rest (a.put d undef) (w.setRow g (cs.toList.take off ++ vs ++ cs.toList.drop (off + vs.length)).toArray)) :
    wpList P ops Q ({ dst := d, op := .store T x y, type := ty, pos := pos, after := after, guard := none } :: rest) a w :=
  wpList_plain rfl fun K' hK' => by
    unfold Oper.wp execOp
    simp only [hx, hy, Instr.storeAt, Instr.sureAddr, Sem.run_bind, Sem.run_pure, Result.andThen_ok, run_storeAgg (P := P) (T := T) hg hi h1 hfit]
    exact hK' _ _ h
theorem setRow_alloc (w : World) (cs vs : Array Value) (t : TypeId) : (w.alloc (.cells cs t)).setRow w.heap.size vs = w.alloc (.cells vs t) := by
  have e : ∀ (h : Array Obj), (h.push (.cells cs t)).modify h.size (fun | .cells _ t f => .cells vs t f | o => o) = h.push (.cells vs t) := by
    intro h
    apply Array.ext
    · simp
    · intro i h1 h2
      simp only [Array.size_modify, Array.size_push] at h1
      simp only [Array.getElem_modify, Array.getElem_push]
      by_cases hi : i < h.size
      · simp [hi, Nat.ne_of_gt hi]
      · have : i = h.size := by omega
        subst this; simp
  exact congrArg (fun h => ({ w with heap := h } : World)) (e w.heap)
/-- A whole variable is stored into the block that has just been laid. -/
theorem wpL_storeNew {x y : Operand} {w0 : World} {cs : Array Value} {t : TypeId} {vs : List Value} (hw : w = w0.alloc (.cells cs t)) (hi : (P.info? T).map (·.size) = some vs.length) (h1 : ∀ v ∈ vs, v.oneCell' = true)
    (hx : a.eval x = .pointer (some ⟨w0.heap.size, 0, none⟩)) (hy : a.eval y = .agg vs.toArray) (hs : vs.length = cs.size)
    (h : wpList P ops Q rest (a.put d undef) (w0.alloc (.cells vs.toArray t))) :
    wpList P ops Q ({ dst := d, op := .store T x y, type := ty, pos := pos, after := after, guard := none } :: rest) a w := by
  subst hw
  refine wpL_storeAgg hi h1 hx hy (heap_alloc_new w0 _) (by omega) ?_
  rw [setRow_alloc]
  have e : (cs.toList.take 0 ++ vs ++ cs.toList.drop (0 + vs.length)).toArray = vs.toArray := by simp [hs]
  rw [e]; exact h
/-- A variable is laid. -/
theorem wpL_alloc {z : Value} (hz : (P.info? E).map (·.zero) = some (some z)) (h : wpList P ops Q rest (a.put d (.pointer (some ⟨w.heap.size, 0, none⟩))) (w.alloc (.cells z.cells E))) :
    wpList P ops Q ({ dst := d, op := .alloc E, type := ty, pos := pos, after := after, guard := none } :: rest) a w :=
  wpList_plain rfl fun K' hK' => by
    have hr : (Instr.alloc E true (.tuple #[])).run P w = .ok (.pointer (some ⟨w.heap.size, 0, none⟩)) (w.alloc (.cells z.cells E)) := by
      cases hq : P.info? E with
      | none => simp [hq] at hz
      | some i =>
        have hzz : i.zero = some z := by simpa [hq] using hz
        simp [Instr.alloc, zeroValue, typeInfo, hq, hzz, newVar, newRow]
    unfold Oper.wp execOp
    simp only [Sem.run_bind, hr, Result.andThen_ok, Sem.run_pure]
    exact hK' _ _ h
/-- A value is boxed. -/
theorem wpL_box {x : Operand} {v : Value} (hx : a.eval x = v) (h : wpList P ops Q rest (a.put d (.pointer (some ⟨w.heap.size, 0, none⟩))) (w.alloc (.cells v.cells E))) :
    wpList P ops Q ({ dst := d, op := .box E x, type := ty, pos := pos, after := after, guard := none } :: rest) a w :=
  wpList_plain rfl fun K' hK' => by
    have hr : (Instr.box E v).run P w = .ok (.pointer (some ⟨w.heap.size, 0, none⟩)) (w.alloc (.cells v.cells E)) := by
      simp [Instr.box, newVar, newRow]
    unfold Oper.wp execOp
    simp only [hx, Sem.run_bind, hr, Result.andThen_ok, Sem.run_pure]
    exact hK' _ _ h
/-- A struct, written out: by a closed fact of its own. -/
theorem wpL_build {ps : Array (Nat × Operand)} {qs : Array (Nat × Value)} {v : Value} (hb : ∀ w, (Instr.build T qs).run P w = .ok v w) (hp : ps.map (fun (i, x) => (i, a.eval x)) = qs)
    (h : wpList P ops Q rest (a.put d v) w) :
    wpList P ops Q ({ dst := d, op := .build T ps, type := ty, pos := pos, after := after, guard := none } :: rest) a w :=
  wpList_plain rfl fun K' hK' => by
    unfold Oper.wp execOp
    simp only [hp, Sem.run_bind, hb, Result.andThen_ok, Sem.run_pure]
    exact hK' _ _ h
end
end Go.Proofs.Ytoalnkhedebpbaa

/-! Bytes and rows of bytes in memory; wattlekeep.Same over bytes. -/
namespace Go.Proofs.Ytoalnkhedebpbaa
open Go.RowKit

def bv (b : UInt8) : Value := .int .u8 (b.toNat : Int)
theorem bv_inj {a b : UInt8} (h : ((a.toNat : Int)) = (b.toNat : Int)) : a = b := UInt8.toNat_inj.1 (by omega)
def BytesAt (w : World) (v : Value) (l : List UInt8) : Prop := SlAt w 5 v (l.map bv)
def RowsAt (w : World) (v : Value) (ls : List (List UInt8)) : Prop :=
  ∃ vs, SlAt w 43 v vs ∧ vs.length = ls.length ∧ ∀ i, i < ls.length → BytesAt w (vs.getD i undef) (ls.getD i [])
theorem BytesAt.gr {w w' : World} {v : Value} {l : List UInt8} (h : BytesAt w v l) (g : Gr w w') : BytesAt w' v l := SlAt.gr h g
theorem RowsAt.gr {w w' : World} {v : Value} {l : List (List UInt8)} (h : RowsAt w v l) (g : Gr w w') : RowsAt w' v l := by
  obtain ⟨vs, h1, h2, h3⟩ := h
  exact ⟨vs, h1.gr g, h2, fun i hi => (h3 i hi).gr g⟩
/-- The two forms of bytes in memory. -/
theorem BytesAt.cases {w : World} {v : Value} {l : List UInt8} (h : BytesAt w v l) :
    (l = [] ∧ ∃ a cap, v = .slice a 0 cap) ∨ ∃ b off cap, v = .slice (some ⟨b, off, none⟩) l.length cap ∧ l.length ≤ 9223372036854775807 ∧ b < w.heap.size ∧ ∀ i, i < l.length → w.cell? ⟨b, off + i, none⟩ = some (.int .u8 ((l.getD i 0).toNat : Int)) := by
  rcases h with ⟨h1, h2⟩ | ⟨b, off, cap, cs, fr, rfl, hb, hc, hl⟩
  · exact .inl ⟨by simpa using h1, h2⟩
  · refine .inr ⟨b, off, cap, by simp, by simpa using hl, heap_lt hb, fun i hi => ?_⟩
    rw [cell_of_row w b _ cs _ fr hb, hc i (by simpa using hi)]
    simp [hi, bv]

def sameB (a b : List UInt8) : Bool := decide (a = b)
theorem BytesAt.shape {w : World} {v : Value} {l : List UInt8} (h : BytesAt w v l) : ∃ a cap, v = .slice a l.length cap := by
  rcases h.cases with ⟨rfl, a, cap, rfl⟩ | ⟨b, off, cap, rfl, _⟩
  · exact ⟨a, cap, rfl⟩
  · exact ⟨_, cap, rfl⟩
set_option maxRecDepth 100000 in
set_option maxHeartbeats 800000 in
theorem same_len (x y : List UInt8) (a a2 : Option Addr) (cap cap2 : Nat) (w : World) (h : x.length ≠ y.length) :
    Calls Try.prog 27 #[.slice a x.length cap, .slice a2 y.length cap2] w fun e w' => e = .returned (.bool (sameB x y)) ∧ Gr w w' := by
  have hs : sameB x y = false := decide_eq_false (fun e => h (by rw [e]))
  rw [hs]
  have hb : ((x.length : Int) != (y.length : Int)) = true := by rw [bne_iff_ne]; omega
  clear h hs
  go_enter Try.func27, Try.ntmps27
  go_wp2
  go_ret
  exact ⟨rfl, Gr.refl _⟩
theorem getD_ext {x y : List UInt8} (h : x.length = y.length) (hk : ∀ j, j < x.length → x.getD j 0 = y.getD j 0) : x = y := by
  apply List.ext_getElem h
  intro i h1 h2
  have := hk i h1
  simpa [h1, h2] using this
set_option maxRecDepth 100000 in
set_option maxHeartbeats 800000 in
theorem same_cons (x y : List UInt8) (b off cap b2 off2 cap2 : Nat) (w : World) (hl : x.length ≤ 9223372036854775807) (h : x.length = y.length)
    (hc : ∀ i, i < x.length → w.cell? ⟨b, off + i, none⟩ = some (.int .u8 ((x.getD i 0).toNat : Int))) (hc2 : ∀ i, i < x.length → w.cell? ⟨b2, off2 + i, none⟩ = some (.int .u8 ((y.getD i 0).toNat : Int))) :
    Calls Try.prog 27 #[.slice (some ⟨b, off, none⟩) x.length cap, .slice (some ⟨b2, off2, none⟩) x.length cap2] w fun e w' => e = .returned (.bool (sameB x y)) ∧ Gr w w' := by
  have HC := Lib.hid hc; clear hc
  have HC2 := Lib.hid hc2; clear hc2
  have HL := Lib.hid h; clear h
  have hn : ((x.length : Int) != (x.length : Int)) = false := by simp
  go_enter Try.func27, Try.ntmps27
  go_wp2
  go_loopw [5] (fun i wr => ∃ k : Nat, k ≤ x.length ∧ i = .int .i64 k ∧ Hid (∀ j, j < k → x.getD j 0 = y.getD j 0) ∧ Gr w wr) (fun i _ => x.length - (intOf i).toNat)
  case atStart => exact ⟨0, Nat.zero_le _, rfl, fun _ h => by omega, Gr.refl _⟩
  case round =>
    obtain ⟨k, hk, rfl, hne, hg⟩ := hrel
    by_cases hlt : k < x.length
    · have k0 : (0 : Int) ≤ (k : Int) := by omega
      have k1 : (k : Int) < (x.length : Int) := by omega
      have c0 := hg.cell (HC.out k hlt)
      have c1 := hg.cell (HC2.out k hlt)
      obtain ⟨p, hp⟩ : ∃ p : Int, p = ((x.getD k 0).toNat : Int) := ⟨_, rfl⟩
      obtain ⟨q, hq⟩ : ∃ q : Int, q = ((y.getD k 0).toNat : Int) := ⟨_, rfl⟩
      rw [← hp] at c0; rw [← hq] at c1
      have HP := Lib.hid hp; clear hp
      have HQ := Lib.hid hq; clear hq
      go_wp2
      go_region_held3 (fun wx : World => wx.cell? ⟨b, off + k, none⟩ = some (.int .u8 p) ∧ wx.cell? ⟨b2, off2 + k, none⟩ = some (.int .u8 q)) (exact ⟨c0, c1⟩) (first | fail)
      by_cases hpq : p = q
      · have hb : (p != q) = false := by simp [hpq]
        have HE := Lib.hid hpq; clear hpq
        go_wp2
        go_roundw
        case rel => exact ⟨k + 1, by omega, by go_num, fun j hj => by
          by_cases e : j = k
          · subst e; exact bv_inj (by rw [← HP.out, ← HQ.out]; exact HE.out)
          · exact hne.out j (by omega), Below.drew hg⟩
        case measure => simp [intOf]; omega
      · have hb : (p != q) = true := by simp [hpq]
        have hs : sameB x y = false := decide_eq_false (fun e => hpq (by rw [HP.out, HQ.out, e]))
        have HS := Lib.hid hs; clear hs hpq
        go_wp2
        go_ret
        exact ⟨ret_bool HS.out.symm, Below.drew hg⟩
    · go_wp2
      go_ret
      exact ⟨ret_bool (decide_eq_true (getD_ext HL.out (fun j hj => hne.out j (by omega)))).symm, hg⟩
theorem same_any (x y : List UInt8) (u v : Value) (w : World) (hx : BytesAt w u x) (hy : BytesAt w v y) :
    Calls Try.prog 27 #[u, v] w fun e w' => e = .returned (.bool (sameB x y)) ∧ Gr w w' := by
  by_cases h : x.length = y.length
  · rcases hx.cases with ⟨rfl, a, cap, rfl⟩ | ⟨b, off, cap, rfl, hl, hb, hc⟩
    · have hy0 : y = [] := List.eq_nil_of_length_eq_zero h.symm
      subst hy0
      obtain ⟨a2, cap2, rfl⟩ := hy.shape
      simp only [List.length_nil]
      go_enter Try.func27, Try.ntmps27
      go_wp2
      refine wp_loop_once ?_
      go_wp2
      go_ret
      exact ⟨rfl, Gr.refl _⟩
    · rcases hy.cases with ⟨rfl, a2, cap2, rfl⟩ | ⟨b2, off2, cap2, rfl, hl2, hb2, hc2⟩
      · have hx0 : x = [] := List.eq_nil_of_length_eq_zero h
        subst hx0
        simp only [List.length_nil]
        go_enter Try.func27, Try.ntmps27
        go_wp2
        refine wp_loop_once ?_
        go_wp2
        go_ret
        exact ⟨rfl, Gr.refl _⟩
      · rw [← h]
        exact same_cons x y b off cap b2 off2 cap2 w hl h hc (fun i hi => hc2 i (by omega))
  · obtain ⟨a, cap, rfl⟩ := hx.shape
    obtain ⟨a2, cap2, rfl⟩ := hy.shape
    exact same_len x y a a2 cap cap2 w h
end Go.Proofs.Ytoalnkhedebpbaa

/-! The field of bytes, plainly: doubling, products, powers, inverses. -/
namespace Go.Proofs.Ytoalnkhedebpbaa

def dbl (a : UInt8) : UInt8 := if 128 ≤ a.toNat then (a <<< 1) ^^^ 29 else a <<< 1
def mulN : Nat → UInt8 → UInt8 → UInt8 → UInt8
  | 0, _, _, o => o
  | n + 1, a, b, o => mulN n (dbl a) (b >>> 1) (if b.toNat % 2 = 1 then o ^^^ a else o)
def gmul (a b : UInt8) : UInt8 := mulN 8 a b 0
def gpow : Nat → UInt8
  | 0 => 1
  | n + 1 => dbl (gpow n)
def glog (a : UInt8) : Option Nat := (List.range 255).find? fun n => gpow n == a
def ginv (a : UInt8) : UInt8 := if a = 0 then 0 else match glog a with | some n => gpow ((255 - n) % 255) | none => 0

theorem shl1 (a : UInt8) : (a <<< 1).toNat = a.toNat * 2 % 256 := by
  rw [UInt8.toNat_shiftLeft]; simp [Nat.shiftLeft_eq]
theorem shr1 (a : UInt8) : (a >>> 1).toNat = a.toNat / 2 := by
  rw [UInt8.toNat_shiftRight]; simp [Nat.shiftRight_eq_div_pow]
theorem mulN_zero : ∀ (n : Nat) (a o : UInt8), mulN n a 0 o = o
  | 0, _, _ => rfl
  | n + 1, a, o => by
    unfold mulN
    have h : (0 : UInt8) >>> 1 = 0 := by decide
    rw [h]; simp; exact mulN_zero n _ _
theorem bits_xor_u8 (a b : UInt8) : bits .xor .u8 (a.toNat : Int) (b.toNat : Int) = ((a ^^^ b).toNat : Int) := by
  unfold bits
  have ha := a.toNat_lt
  have hb := b.toNat_lt
  have e : ∀ x : UInt8, (BitVec.ofInt (IntKind.u8.bits) (x.toNat : Int)).toNat = x.toNat := by
    intro x
    have hx := x.toNat_lt
    simp [IntKind.bits]
  simp only [BitVec.toNat_xor, e, UInt8.toNat_xor]
  rw [IntKind.wrap_u8]
  have := Nat.xor_lt_two_pow (n := 8) ha hb
  omega
theorem bits_and1_u8 (b : UInt8) : bits .and .u8 (b.toNat : Int) 1 = ((b.toNat % 2 : Nat) : Int) := by
  unfold bits
  have hb := b.toNat_lt
  have e : (BitVec.ofInt (IntKind.u8.bits) (b.toNat : Int)).toNat = b.toNat := by
    simp [IntKind.bits]
  have e1 : (BitVec.ofInt (IntKind.u8.bits) (1 : Int)).toNat = 1 := by decide
  simp only [BitVec.toNat_and, e, e1]
  rw [IntKind.wrap_u8, Nat.and_one_is_mod]
  omega

/-! Sums: doubling and products respect them. -/
theorem xor_shl (a b : UInt8) : (a ^^^ b) <<< 1 = (a <<< 1) ^^^ (b <<< 1) := by
  apply UInt8.toBitVec_inj.1
  simp [BitVec.shiftLeft_xor_distrib]
theorem xor_shr (a b : UInt8) : (a ^^^ b) >>> 1 = (a >>> 1) ^^^ (b >>> 1) := by
  apply UInt8.toBitVec_inj.1
  simp [BitVec.ushiftRight_xor_distrib]
theorem msb8 (a : UInt8) : (128 ≤ a.toNat) ↔ a.toNat.testBit 7 = true := by
  have h := a.toNat_lt
  rw [Nat.testBit_eq_decide_div_mod_eq]
  simp; omega
theorem msb_xor (a b : UInt8) : (128 ≤ (a ^^^ b).toNat) ↔ ¬ ((128 ≤ a.toNat) ↔ (128 ≤ b.toNat)) := by
  rw [msb8, msb8, msb8, UInt8.toNat_xor, Nat.testBit_xor]
  cases a.toNat.testBit 7 <;> cases b.toNat.testBit 7 <;> simp
theorem par_xor (a b : UInt8) : (a ^^^ b).toNat % 2 = 1 ↔ ¬ (a.toNat % 2 = 1 ↔ b.toNat % 2 = 1) := by
  have e : ∀ x : Nat, x % 2 = 1 ↔ x.testBit 0 = true := fun x => by simp
  rw [e, e, e, UInt8.toNat_xor, Nat.testBit_xor]
  cases a.toNat.testBit 0 <;> cases b.toNat.testBit 0 <;> simp
theorem xc (a b c : UInt8) : a ^^^ b ^^^ c = a ^^^ c ^^^ b := by rw [UInt8.xor_assoc, UInt8.xor_comm b c, ← UInt8.xor_assoc]
theorem x4 (a b c d : UInt8) : (a ^^^ b) ^^^ (c ^^^ d) = (a ^^^ c) ^^^ (b ^^^ d) := by
  rw [← UInt8.xor_assoc, xc a b c, UInt8.xor_assoc]
theorem dbl_xor (a b : UInt8) : dbl (a ^^^ b) = dbl a ^^^ dbl b := by
  unfold dbl
  rw [xor_shl]
  by_cases ha : 128 ≤ a.toNat <;> by_cases hb : 128 ≤ b.toNat <;> simp only [msb_xor, ha, hb, if_true, if_false, iff_self, not_true, not_false_eq_true, iff_false, iff_true]
  · rw [x4, UInt8.xor_self, UInt8.xor_zero]
  · rw [xc]
  · rw [UInt8.xor_assoc]
theorem mulN_xor_left : ∀ (n : Nat) (a a' b o o' : UInt8), mulN n (a ^^^ a') b (o ^^^ o') = mulN n a b o ^^^ mulN n a' b o'
  | 0, _, _, _, _, _ => rfl
  | n + 1, a, a', b, o, o' => by
    unfold mulN
    rw [dbl_xor]
    split
    · rw [x4]; exact mulN_xor_left n _ _ _ _ _
    · exact mulN_xor_left n _ _ _ _ _
theorem mulN_xor_right : ∀ (n : Nat) (a b b' o o' : UInt8), mulN n a (b ^^^ b') (o ^^^ o') = mulN n a b o ^^^ mulN n a b' o'
  | 0, _, _, _, _, _ => rfl
  | n + 1, a, b, b', o, o' => by
    unfold mulN
    rw [xor_shr, ← mulN_xor_right n]
    congr 1
    by_cases h1 : b.toNat % 2 = 1 <;> by_cases h2 : b'.toNat % 2 = 1 <;> simp only [par_xor, h1, h2, if_true, if_false, iff_self, not_true, not_false_eq_true, iff_false, iff_true]
    · rw [x4, UInt8.xor_self, UInt8.xor_zero]
    · rw [xc]
    · rw [UInt8.xor_assoc]
theorem gmul_xor_left (a a' b : UInt8) : gmul (a ^^^ a') b = gmul a b ^^^ gmul a' b := by
  unfold gmul
  rw [← mulN_xor_left]; rfl
theorem gmul_xor_right (a b b' : UInt8) : gmul a (b ^^^ b') = gmul a b ^^^ gmul a b' := by
  unfold gmul
  rw [← mulN_xor_right]; rfl
theorem gmul_zero_left (b : UInt8) : gmul 0 b = 0 := by
  have h := gmul_xor_left 0 0 b
  rw [UInt8.xor_self] at h
  rw [h, UInt8.xor_self]
theorem gmul_one (a : UInt8) : gmul a 1 = a := by
  unfold gmul mulN
  have h : (1 : UInt8) >>> 1 = 0 := by decide
  rw [h, mulN_zero]; simp
/-! Inverses of the numbers that are divided by. -/
def invs : List UInt8 := (List.range 8).map gpow ++ (List.range 8).flatMap fun j => (List.range j).map fun k => gpow j ^^^ gpow k
def invOk (c : UInt8) : Bool := (fun i => (List.range 256).all fun x => gmul (gmul (UInt8.ofNat x) c) i == UInt8.ofNat x) (ginv c)
theorem invs_ok : invs.all invOk = true := by decide +kernel
theorem inv_of {c : UInt8} (h : c ∈ invs) (x : UInt8) : gmul (gmul x c) (ginv c) = x := by
  have h1 := List.all_eq_true.1 invs_ok c h
  have h2 := List.all_eq_true.1 h1 x.toNat (List.mem_range.2 x.toNat_lt)
  simpa using h2
theorem inv_pow {k : Nat} (h : k < 8) (x : UInt8) : gmul (gmul x (gpow k)) (ginv (gpow k)) = x :=
  inv_of (List.mem_append_left _ (List.mem_map.2 ⟨k, List.mem_range.2 h, rfl⟩)) x
theorem inv_two {j k : Nat} (hj : j < 8) (hk : k < 8) (hne : j ≠ k) (x : UInt8) : gmul (gmul x (gpow j ^^^ gpow k)) (ginv (gpow j ^^^ gpow k)) = x := by
  rcases Nat.lt_or_gt_of_ne hne with h | h
  · rw [UInt8.xor_comm]
    exact inv_of (List.mem_append_right _ (List.mem_flatMap.2 ⟨k, List.mem_range.2 hk, List.mem_map.2 ⟨j, List.mem_range.2 h, rfl⟩⟩)) x
  · exact inv_of (List.mem_append_right _ (List.mem_flatMap.2 ⟨j, List.mem_range.2 hj, List.mem_map.2 ⟨k, List.mem_range.2 h, rfl⟩⟩)) x
end Go.Proofs.Ytoalnkhedebpbaa

/-! gf.double, Mul, Pow, Log, Inv: what they answer. -/
namespace Go.Proofs.Ytoalnkhedebpbaa
open Go.RowKit

theorem ret_b {x : Int} {b : UInt8} (h : x = (b.toNat : Int)) : Ending.returned (.int .u8 x) = .returned (.int .u8 (b.toNat : Int)) := by rw [h]
theorem ret_b' {a b : UInt8} (h : a = b) : Ending.returned (.int .u8 (a.toNat : Int)) = .returned (.int .u8 (b.toNat : Int)) := by rw [h]
set_option maxRecDepth 100000 in
theorem double_any (a : UInt8) (w : World) :
    Calls Try.prog 147 #[.int .u8 (a.toNat : Int)] w fun e w' => e = .returned (.int .u8 ((dbl a).toNat : Int)) ∧ w = w' := by
  have h := a.toNat_lt
  have e1 : ((a <<< 1).toNat : Int) = (a.toNat : Int) * 2 % 256 := by rw [shl1]; omega
  by_cases hb : 128 ≤ a.toNat
  · have hd : dbl a = (a <<< 1) ^^^ 29 := by unfold dbl; rw [if_pos hb]
    have hx := bits_xor_u8 (a <<< 1) 29
    rw [← hd, e1] at hx
    have HX := Lib.hid hx; clear hx hd
    have E1 := Lib.hid e1; clear e1
    go_enter Try.func147, Try.ntmps147
    go_wp2
    go_ret
    exact ⟨ret_b HX.out, rfl⟩
  · have hd : dbl a = (a <<< 1) := by unfold dbl; rw [if_neg hb]
    rw [← hd] at e1
    have E1 := Lib.hid e1; clear e1 hd
    go_enter Try.func147, Try.ntmps147
    go_wp2
    go_ret
    exact ⟨ret_b (by rw [E1.out]; omega), rfl⟩
set_option maxRecDepth 100000 in
set_option maxHeartbeats 400000 in
theorem mul_any (a0 b0 : UInt8) (w : World) :
    Calls Try.prog 149 #[.int .u8 (a0.toNat : Int), .int .u8 (b0.toNat : Int)] w fun e w' => e = .returned (.int .u8 ((gmul a0 b0).toNat : Int)) ∧ w = w' := by
  have hb0 := b0.toNat_lt
  go_enter Try.func149, Try.ntmps149
  go_wp2
  go_loopw [0, 1, 5] (fun x y z wr => ∃ a b o : UInt8, ∃ n : Nat, x = .int .u8 (a.toNat : Int) ∧ y = .int .u8 (b.toNat : Int) ∧ z = .int .u8 (o.toNat : Int) ∧ b.toNat < 2 ^ n ∧ Hid (mulN n a b o = gmul a0 b0) ∧ w = wr) (fun _ y _ _ => (intOf y).toNat)
  case atStart => exact ⟨a0, b0, 0, 8, rfl, rfl, rfl, hb0, rfl, rfl⟩
  case round =>
    obtain ⟨a, b, o, n, rfl, rfl, rfl, hbn, hm, rfl⟩ := hrel
    have h2 := b.toNat_lt
    have hbn' := Lib.hid hbn; clear hbn
    by_cases hz : 0 < b.toNat
    · obtain ⟨n, rfl⟩ : ∃ m, n = m + 1 := by
        cases n with
        | zero => have := hbn'.out; omega
        | succ m => exact ⟨m, rfl⟩
      have hs : ((b >>> 1).toNat : Int) = (b.toNat : Int) / 2 := by rw [shr1]; omega
      have HS := Lib.hid hs; clear hs
      have hn : (b >>> 1).toNat < 2 ^ n := by
        rw [shr1]; have h := hbn'.out; rw [Nat.pow_succ] at h; omega
      have HN := Lib.hid hn; clear hn
      have hmu : mulN n (dbl a) (b >>> 1) (if b.toNat % 2 = 1 then o ^^^ a else o) = gmul a0 b0 := hm.out
      have HM := Lib.hid hmu; clear hmu
      by_cases hp : b.toNat % 2 = 1
      · have hp1 : (bits BinOp.and IntKind.u8 (b.toNat : Int) 1 == 1) = true := by rw [bits_and1_u8]; simp [hp]
        have hx := bits_xor_u8 o a
        have HM2 := HM.out; rw [if_pos hp] at HM2
        have HM3 := Lib.hid HM2; clear HM2 hp
        go_wp2_with fail
        refine (double_any a _).mono ?_
        rintro e w1 ⟨rfl, rfl⟩
        go_wp2
        go_roundw
        case rel => exact ⟨dbl a, b >>> 1, o ^^^ a, n, rfl, by rw [HS.out], rfl, HN.out, HM3.out, trivial⟩
        case measure => simp [intOf]; omega
      · have hp1 : (bits BinOp.and IntKind.u8 (b.toNat : Int) 1 == 1) = false := by rw [bits_and1_u8]; simp; omega
        have HM2 := HM.out; rw [if_neg hp] at HM2
        have HM3 := Lib.hid HM2; clear HM2 hp
        go_wp2_with fail
        refine (double_any a _).mono ?_
        rintro e w1 ⟨rfl, rfl⟩
        go_wp2
        go_roundw
        case rel => exact ⟨dbl a, b >>> 1, o, n, rfl, by rw [HS.out], rfl, HN.out, HM3.out, trivial⟩
        case measure => simp [intOf]; omega
    · go_wp2
      go_ret
      have hb : b = 0 := UInt8.toNat_inj.1 (by simp; omega)
      exact ⟨ret_b' (by rw [← hm.out, hb, mulN_zero]), rfl⟩
set_option maxRecDepth 100000 in
set_option maxHeartbeats 400000 in
theorem pow_lt (m : Nat) (w : World) (hm5 : m < 255) :
    Calls Try.prog 142 #[.int .i64 (m : Int)] w fun e w' => e = .returned (.int .u8 ((gpow m).toNat : Int)) ∧ w = w' := by
  have f0 : (m : Int) % 255 = m := by omega
  have f1 : ((m : Int) + 255) % 255 = m := by omega
  go_enter Try.func142, Try.ntmps142
  go_wp2
  rw [f0, f1]
  clear f0 f1
  go_loopw [3, 8] (fun x i wr => ∃ k : Nat, k ≤ m ∧ i = .int .i64 k ∧ x = .int .u8 ((gpow k).toNat : Int) ∧ w = wr) (fun _ i _ => m - (intOf i).toNat)
  case atStart => exact ⟨0, Nat.zero_le _, rfl, rfl, rfl⟩
  case round =>
    obtain ⟨k, hk, rfl, rfl, rfl⟩ := hrel
    by_cases hlt : k < m
    · go_wp2_with fail
      refine (double_any (gpow k) _).mono ?_
      rintro e w1 ⟨rfl, rfl⟩
      go_wp2
      go_roundw
      case rel => exact ⟨k + 1, by omega, by go_num, rfl, trivial⟩
      case measure => simp [intOf]; omega
    · obtain rfl : k = m := by omega
      go_wp2
      go_ret
      exact ⟨rfl, rfl⟩
set_option maxRecDepth 100000 in
set_option maxHeartbeats 400000 in
theorem pow_255 (w : World) :
    Calls Try.prog 142 #[.int .i64 255] w fun e w' => e = .returned (.int .u8 ((gpow 0).toNat : Int)) ∧ w = w' := by
  go_enter Try.func142, Try.ntmps142
  go_wp2
  refine wp_loop_once ?_
  go_wp2
  go_ret
  exact ⟨rfl, rfl⟩
theorem pow_any (n : Nat) (w : World) (hn : n ≤ 255) :
    Calls Try.prog 142 #[.int .i64 (n : Int)] w fun e w' => e = .returned (.int .u8 ((gpow (n % 255)).toNat : Int)) ∧ w = w' := by
  by_cases h : n = 255
  · subst h; exact pow_255 w
  · rw [show n % 255 = n from by omega]; exact pow_lt n w (by omega)
theorem glog_some {a : UInt8} {n : Nat} (hn : n < 255) (h : gpow n = a) (hl : ∀ j, j < n → gpow j ≠ a) : glog a = some n := by
  unfold glog
  rw [List.find?_range_eq_some]
  exact ⟨by simp [h], by simpa using hn, fun j hj => by simpa using hl j hj⟩
set_option maxRecDepth 100000 in
set_option maxHeartbeats 400000 in
theorem log_any (a : UInt8) (m : Nat) (hm : m < 255) (hp : gpow m = a) (w : World) :
    Calls Try.prog 148 #[.int .u8 (a.toNat : Int)] w fun e w' => ∃ n : Nat, n < 255 ∧ glog a = some n ∧ e = .returned (.int .i64 n) ∧ w = w' := by
  have HP := Lib.hid hp; clear hp
  go_enter Try.func148, Try.ntmps148
  go_wp2
  go_loopw [3, 5] (fun x i wr => ∃ k : Nat, k ≤ m ∧ i = .int .i64 k ∧ x = .int .u8 ((gpow k).toNat : Int) ∧ Hid (∀ j, j < k → gpow j ≠ a) ∧ w = wr) (fun _ i _ => m - (intOf i).toNat)
  case atStart => exact ⟨0, Nat.zero_le _, rfl, rfl, fun _ h => by omega, rfl⟩
  case round =>
    obtain ⟨k, hk, rfl, rfl, hne, rfl⟩ := hrel
    have hlt : (k : Int) < 255 := by omega
    by_cases he : gpow k = a
    · have hb : (((gpow k).toNat : Int) == (a.toNat : Int)) = true := by rw [he]; simp
      have HE := Lib.hid he; clear he
      go_wp2
      go_ret
      exact ⟨k, by omega, glog_some (by omega) HE.out hne.out, rfl, rfl⟩
    · have hb : (((gpow k).toNat : Int) == (a.toNat : Int)) = false := by
        rw [beq_eq_false_iff_ne]; exact fun h => he (bv_inj h)
      have HE := Lib.hid he; clear he
      have hkm : k < m := by
        rcases Nat.lt_or_ge k m with h | h
        · exact h
        · exact absurd HP.out (by rw [show m = k by omega]; exact HE.out)
      go_wp2_with fail
      refine (double_any (gpow k) _).mono ?_
      rintro e w1 ⟨rfl, rfl⟩
      go_wp2
      go_roundw
      case rel => exact ⟨k + 1, by omega, by go_num, rfl, fun j hj => by
        by_cases e : j = k
        · subst e; exact HE.out
        · exact hne.out j (by omega), trivial⟩
      case measure => simp [intOf]; omega
set_option maxRecDepth 100000 in
set_option maxHeartbeats 400000 in
theorem inv_any (a : UInt8) (m : Nat) (hm : m < 255) (hp : gpow m = a) (ha : a ≠ 0) (w : World) :
    Calls Try.prog 144 #[.int .u8 (a.toNat : Int)] w fun e w' => e = .returned (.int .u8 ((ginv a).toNat : Int)) ∧ w = w' := by
  have hb : ((a.toNat : Int) == 0) = false := by
    rw [beq_eq_false_iff_ne]; exact fun h => ha (UInt8.toNat_inj.1 (by simp; omega))
  have HA := Lib.hid ha; clear ha
  have HP := Lib.hid hp; clear hp
  go_enter Try.func144, Try.ntmps144
  go_wp2_with fail
  refine (log_any a m hm HP.out _).mono ?_
  rintro e w1 ⟨n, hn, hl, rfl, rfl⟩
  have HL := Lib.hid hl; clear hl
  obtain ⟨k, hk⟩ : ∃ k : Nat, (255 : Int) - n = k := ⟨255 - n, by omega⟩
  have hk2 : k ≤ 255 := by omega
  go_wp2_with fail
  have HK := Lib.hid hk; clear hk
  refine (pow_any k _ hk2).mono ?_
  rintro e w1 ⟨rfl, rfl⟩
  go_wp2
  go_ret
  refine ⟨ret_b' ?_, rfl⟩
  unfold ginv
  rw [if_neg HA.out, HL.out]
  have := HK.out
  simp only [show 255 - n = k from by omega]
end Go.Proofs.Ytoalnkhedebpbaa

/-! synd.Add, Scale: what they answer. -/
namespace Go.Proofs.Ytoalnkhedebpbaa
open Go.RowKit

theorem slU8 : Try.prog.underlying 43 = some (.slice 5) := by kernel_rfl
theorem infU8 : (Try.prog.info? 5).map (fun i => (i.zero, i.size, i.bytes)) = some (some (.int .u8 0), 1, 1) := by kernel_rfl
def addB (x y : List UInt8) : List UInt8 := (List.range x.length).map fun k => x.getD k 0 ^^^ y.getD k 0
def scaleB (x : List UInt8) (f : UInt8) : List UInt8 := (List.range x.length).map fun k => gmul (x.getD k 0) f
@[simp] theorem addB_length (x y : List UInt8) : (addB x y).length = x.length := by simp [addB]
@[simp] theorem scaleB_length (x : List UInt8) (f : UInt8) : (scaleB x f).length = x.length := by simp [scaleB]
theorem bvs_snoc (f : Nat → UInt8) (k : Nat) : ((List.range k).map fun j => bv (f j)) ++ [bv (f k)] = (List.range (k + 1)).map fun j => bv (f j) := by
  simp [List.range_succ]
theorem BytesAt.own {w : World} {base n : Nat} {v : Value} {f : Nat → UInt8} (h : w.ownsRow base 5 1 v n ((List.range n).map fun j => bv (f j))) (hn : n ≤ 9223372036854775807) : BytesAt w v ((List.range n).map f) := by
  have := SlAt.own h hn
  unfold BytesAt
  rw [List.map_map]; exact this

set_option maxRecDepth 100000 in
set_option maxHeartbeats 800000 in
theorem add_cons (x y : List UInt8) (b off cap b2 off2 cap2 : Nat) (w : World) (hl : x.length ≤ 1048576) (h : x.length = y.length)
    (hc : ∀ i, i < x.length → w.cell? ⟨b, off + i, none⟩ = some (.int .u8 ((x.getD i 0).toNat : Int))) (hc2 : ∀ i, i < x.length → w.cell? ⟨b2, off2 + i, none⟩ = some (.int .u8 ((y.getD i 0).toNat : Int))) :
    Calls Try.prog 135 #[.slice (some ⟨b, off, none⟩) x.length cap, .slice (some ⟨b2, off2, none⟩) x.length cap2] w fun e w' => ∃ r, e = .returned r ∧ BytesAt w' r (addB x y) ∧ Gr w w' := by
  have HC := Lib.hid hc; clear hc
  have HC2 := Lib.hid hc2; clear hc2
  have HL := Lib.hid h; clear h
  have hn : ((x.length : Int) != (x.length : Int)) = false := by simp
  go_enter Try.func135, Try.ntmps135
  go_wp2
  go_loopw [5, 15] (fun v i wr => ∃ k : Nat, k ≤ x.length ∧ i = .int .i64 k ∧ wr.ownsRow w.heap.size 5 1 v k ((List.range k).map fun j => bv (x.getD j 0 ^^^ y.getD j 0)) ∧ Gr w wr) (fun _ i _ => x.length - (intOf i).toNat)
  case atStart => exact ⟨0, Nat.zero_le _, rfl, World.ownsRow_nil _ _ _ _, Gr.refl _⟩
  case round =>
    obtain ⟨k, hk, rfl, hown, hg⟩ := hrel
    have hsz := hg.size
    by_cases hlt : k < x.length
    · have c0 := hg.cell (HC.out k hlt)
      have c1 := hg.cell (HC2.out k hlt)
      have hx := bits_xor_u8 (x.getD k 0) (y.getD k 0)
      obtain ⟨z, hz⟩ : ∃ z : UInt8, z = x.getD k 0 ^^^ y.getD k 0 := ⟨_, rfl⟩
      rw [← hz] at hx
      have HZ := Lib.hid hz; clear hz
      obtain ⟨p, hp⟩ : ∃ p : Int, p = ((x.getD k 0).toNat : Int) := ⟨_, rfl⟩
      obtain ⟨q, hq⟩ : ∃ q : Int, q = ((y.getD k 0).toNat : Int) := ⟨_, rfl⟩
      rw [← hp] at c0 hx; rw [← hq] at c1 hx
      have HP := Lib.hid hp; clear hp
      have HQ := Lib.hid hq; clear hq
      go_wp2_with ((with_reducible apply wpL_append1 slU8 infU8 rfl (by decide)); rfl; rfl; exact hown.alloc _; exact cell_new _ _ _ _ rfl; rfl; omega; (simp; omega); (intro v' w4 hown' hgr))
      go_roundw
      case rel =>
        refine ⟨k + 1, by omega, by go_num, ?_, ?_⟩
        · rw [← bvs_snoc, ← HZ.out]; exact hown'
        · exact Below.grown (Below.alloc hg (by omega) _) hgr (by simp; omega) (fun j hj => (hown.lt j hj).1)
      case measure => simp [intOf]; omega
    · obtain rfl : k = x.length := by omega
      go_wp2
      go_ret
      exact ⟨_, rfl, BytesAt.own hown (by omega), hg⟩
set_option maxRecDepth 100000 in
set_option maxHeartbeats 400000 in
theorem add_nil (a a2 : Option Addr) (cap cap2 : Nat) (w : World) :
    Calls Try.prog 135 #[.slice a 0 cap, .slice a2 0 cap2] w fun e w' => ∃ r, e = .returned r ∧ BytesAt w' r [] ∧ Gr w w' := by
  go_enter Try.func135, Try.ntmps135
  go_wp2
  refine wp_loop_once ?_
  go_wp2
  go_ret
  exact ⟨_, rfl, .inl ⟨rfl, none, 0, rfl⟩, Gr.refl _⟩
theorem add_any (x y : List UInt8) (u v : Value) (w : World) (hx : BytesAt w u x) (hy : BytesAt w v y) (h : x.length = y.length) (hl : x.length ≤ 1048576) :
    Calls Try.prog 135 #[u, v] w fun e w' => ∃ r, e = .returned r ∧ BytesAt w' r (addB x y) ∧ Gr w w' := by
  rcases hx.cases with ⟨rfl, a, cap, rfl⟩ | ⟨b, off, cap, rfl, _, hb, hc⟩
  · have hy0 : y = [] := List.eq_nil_of_length_eq_zero h.symm
    subst hy0
    obtain ⟨a2, cap2, rfl⟩ := hy.shape
    exact add_nil a a2 cap cap2 w
  · rcases hy.cases with ⟨rfl, a2, cap2, rfl⟩ | ⟨b2, off2, cap2, rfl, _, hb2, hc2⟩
    · have hx0 : x = [] := List.eq_nil_of_length_eq_zero h
      subst hx0
      exact add_nil _ a2 cap cap2 w
    · rw [← h]
      exact add_cons x y b off cap b2 off2 cap2 w hl h hc (fun i hi => hc2 i (by omega))
set_option maxRecDepth 100000 in
set_option maxHeartbeats 800000 in
theorem scale_cons (x : List UInt8) (f : UInt8) (b off cap : Nat) (w : World) (hl : x.length ≤ 1048576)
    (hc : ∀ i, i < x.length → w.cell? ⟨b, off + i, none⟩ = some (.int .u8 ((x.getD i 0).toNat : Int))) :
    Calls Try.prog 145 #[.slice (some ⟨b, off, none⟩) x.length cap, .int .u8 (f.toNat : Int)] w fun e w' => ∃ r, e = .returned r ∧ BytesAt w' r (scaleB x f) ∧ Gr w w' := by
  have HC := Lib.hid hc; clear hc
  go_enter Try.func145, Try.ntmps145
  go_wp2
  go_loopw [5, 10] (fun v i wr => ∃ k : Nat, k ≤ x.length ∧ i = .int .i64 k ∧ wr.ownsRow w.heap.size 5 1 v k ((List.range k).map fun j => bv (gmul (x.getD j 0) f)) ∧ Gr w wr) (fun _ i _ => x.length - (intOf i).toNat)
  case atStart => exact ⟨0, Nat.zero_le _, rfl, World.ownsRow_nil _ _ _ _, Gr.refl _⟩
  case round =>
    obtain ⟨k, hk, rfl, hown, hg⟩ := hrel
    have hsz := hg.size
    by_cases hlt : k < x.length
    · have c0 := hg.cell (HC.out k hlt)
      obtain ⟨p, hp⟩ : ∃ p : UInt8, p = x.getD k 0 := ⟨_, rfl⟩
      rw [← hp] at c0
      have HP := Lib.hid hp; clear hp
      go_wp2_with fail
      refine (mul_any p f _).mono ?_
      rintro e w1 ⟨rfl, rfl⟩
      go_wp2_with ((with_reducible apply wpL_append1 slU8 infU8 rfl (by decide)); rfl; rfl; exact hown.alloc _; exact cell_new _ _ _ _ rfl; rfl; omega; (simp; omega); (intro v' w4 hown' hgr))
      go_roundw
      case rel =>
        refine ⟨k + 1, by omega, by go_num, ?_, ?_⟩
        · rw [← bvs_snoc, ← HP.out]; exact hown'
        · exact Below.grown (Below.alloc hg (by omega) _) hgr (by simp; omega) (fun j hj => (hown.lt j hj).1)
      case measure => simp [intOf]; omega
    · obtain rfl : k = x.length := by omega
      go_wp2
      go_ret
      exact ⟨_, rfl, BytesAt.own hown (by omega), hg⟩
set_option maxRecDepth 100000 in
set_option maxHeartbeats 400000 in
theorem scale_any (x : List UInt8) (f : UInt8) (u : Value) (w : World) (hx : BytesAt w u x) (hl : x.length ≤ 1048576) :
    Calls Try.prog 145 #[u, .int .u8 (f.toNat : Int)] w fun e w' => ∃ r, e = .returned r ∧ BytesAt w' r (scaleB x f) ∧ Gr w w' := by
  rcases hx.cases with ⟨rfl, a, cap, rfl⟩ | ⟨b, off, cap, rfl, _, hb, hc⟩
  · go_enter Try.func145, Try.ntmps145
    go_wp2
    refine wp_loop_once ?_
    go_wp2
    go_ret
    exact ⟨_, rfl, .inl ⟨rfl, none, 0, rfl⟩, Gr.refl _⟩
  · exact scale_cons x f b off cap w hl hc
end Go.Proofs.Ytoalnkhedebpbaa

/-! Rows of bytes: forms in memory; make([]byte, n), make([][]byte, n). -/
namespace Go.Proofs.Ytoalnkhedebpbaa
open Go.RowKit

/-- n cells of one value. -/
def zrow (z : Value) (n : Nat) : Array Value := (List.replicate n z).toArray
theorem zrow_get {z : Value} {n i : Nat} (h : i < n) : (zrow z n)[i]? = some z := by simp [zrow, h]
theorem zrow_size (z : Value) (n : Nat) : (zrow z n).size = n := by simp [zrow]
theorem madeCells_zrow (z : Value) (n : Nat) : madeCells #[z] n = zrow z n := by
  apply Array.ext
  · simp [madeCells, zrow]
  · intro i h1 h2
    simp [madeCells, zrow, Nat.mod_one]
def zeros (n : Nat) : List UInt8 := List.replicate n 0
theorem zeros_length (n : Nat) : (zeros n).length = n := by simp [zeros]
theorem zeros_get (n i : Nat) : (zeros n).getD i 0 = 0 := by
  unfold zeros
  by_cases h : i < n <;> simp [h]
theorem SlAt.zrow {w : World} {b n cap : Nat} {E : TypeId} {fr : Nat × Nat} {z : Value} (h : w.heap[b]? = some (.cells (zrow z n) E fr)) (hn : n ≤ 9223372036854775807) : SlAt w E (.slice (some ⟨b, 0, none⟩) n cap) (List.replicate n z) := by
  refine .inr ⟨b, 0, cap, _, fr, by simp, h, fun i hi => ?_, by simpa using hn⟩
  have hi' : i < n := by simpa using hi
  rw [Nat.zero_add, zrow_get hi']; simp [hi']
theorem BytesAt.zeros {w : World} {b n cap : Nat} {fr : Nat × Nat} (h : w.heap[b]? = some (.cells (zrow (.int .u8 0) n) 5 fr)) (hn : n ≤ 9223372036854775807) : BytesAt w (.slice (some ⟨b, 0, none⟩) n cap) (zeros n) := by
  have := SlAt.zrow (cap := cap) h hn
  unfold BytesAt Go.Proofs.Ytoalnkhedebpbaa.zeros
  rw [List.map_replicate]; exact this
theorem RowsAt.cases {w : World} {v : Value} {ls : List (List UInt8)} (h : RowsAt w v ls) :
    (ls = [] ∧ ∃ a cap, v = .slice a 0 cap) ∨ ∃ (b off cap : Nat) (vs : List Value), v = .slice (some ⟨b, off, none⟩) ls.length cap ∧ ls.length ≤ 9223372036854775807 ∧ b < w.heap.size ∧ vs.length = ls.length ∧ (∀ i, i < ls.length → w.cell? ⟨b, off + i, none⟩ = some (vs.getD i undef)) ∧ ∀ i, i < ls.length → BytesAt w (vs.getD i undef) (ls.getD i []) := by
  obtain ⟨vs, h1, h2, h3⟩ := h
  rcases h1 with ⟨h4, h5⟩ | ⟨b, off, cap, cs, fr, rfl, hb, hc, hl⟩
  · exact .inl ⟨List.eq_nil_of_length_eq_zero (by rw [← h2, h4]; rfl), h5⟩
  · refine .inr ⟨b, off, cap, vs, by rw [h2], by omega, heap_lt hb, h2, fun i hi => ?_, h3⟩
    rw [cell_of_row w b _ cs _ fr hb, hc i (by omega)]
    simp [show i < vs.length from by omega]
theorem RowsAt.shape {w : World} {v : Value} {ls : List (List UInt8)} (h : RowsAt w v ls) : ∃ a cap, v = .slice a ls.length cap := by
  rcases h.cases with ⟨rfl, a, cap, rfl⟩ | ⟨b, off, cap, vs, rfl, _⟩
  · exact ⟨a, cap, rfl⟩
  · exact ⟨_, cap, rfl⟩
section
variable {P : Program} {ops : Array Oper} {Q : Exit → Act → World → Prop} {a : Act} {w : World} {rest : List Oper} {d : Option Tmp} {ty : TypeId} {pos : String} {after : Array Edge} {T E : TypeId}
theorem wpL_make1 {l c : Operand} {z : Value} {bytes n : Nat} (ht : P.underlying T = some (.slice E)) (hinfo : (P.info? E).map (fun i => (i.zero, i.size, i.bytes)) = some (some z, 1, bytes)) (hz1 : z.cells = #[z]) (hbytes : bytes ≤ 1024)
    (hl : a.eval l = .int .i64 (n : Int)) (hc : a.eval c = .int .i64 (n : Int)) (hn : n ≤ 1048576)
    (h : wpList P ops Q rest (a.put d (.slice (some ⟨w.heap.size, 0, none⟩) n n)) (w.alloc (.cells (zrow z n) E))) :
    wpList P ops Q ({ dst := d, op := .makeSlice T l c, type := ty, pos := pos, after := after, guard := none } :: rest) a w :=
  wpList_plain rfl fun K' hK' => by
    have hb : bytes * n ≤ 281474976710656 := by
      calc bytes * n ≤ 1024 * 1048576 := Nat.mul_le_mul hbytes hn
        _ ≤ 281474976710656 := by decide
    have hr := run_make_row' (P := P) T E z bytes ht hinfo hz1 .i64 .i64 n hb (by omega) w
    rw [madeCells_zrow] at hr
    unfold Oper.wp execOp
    simp only [hl, hc, Sem.run_bind, hr, Result.andThen_ok, Sem.run_pure]
    exact hK' _ _ h
end
end Go.Proofs.Ytoalnkhedebpbaa

/-! synd.sum, P, Q: what they answer for parts of one length. -/
namespace Go.Proofs.Ytoalnkhedebpbaa
open Go.RowKit

/-- The first k parts, each times a byte, added. -/
def sumTo (f : Nat → UInt8) (ps : List (List UInt8)) : Nat → List UInt8
  | 0 => zeros (ps.getD 0 []).length
  | k + 1 => addB (sumTo f ps k) (scaleB (ps.getD k []) (f k))
theorem sumTo_length (f : Nat → UInt8) (ps : List (List UInt8)) : ∀ k, (sumTo f ps k).length = (ps.getD 0 []).length
  | 0 => zeros_length _
  | k + 1 => by unfold sumTo; rw [addB_length]; exact sumTo_length f ps k
theorem p1_any (k : Nat) (w : World) :
    Calls Try.prog 141 #[.int .i64 (k : Int)] w fun e w' => e = .returned (.int .u8 ((1 : UInt8).toNat : Int)) ∧ w = w' := by
  go_enter Try.func141, Try.ntmps141
  go_wp2
  go_ret
  exact ⟨rfl, rfl⟩
def ones : Nat → UInt8 := fun _ => 1
theorem ones_any (k : Nat) (w : World) (_hk : k < 255) :
    Calls Try.prog 141 #[.int .i64 (k : Int)] w fun e w' => e = .returned (.int .u8 ((ones k).toNat : Int)) ∧ w = w' := p1_any k w

set_option maxRecDepth 100000 in
set_option maxHeartbeats 1000000 in
theorem sum1_cons (ps : List (List UInt8)) (n b off cap : Nat) (vs : List Value) (w : World) (hl : ps.length ≤ 8) (h0 : 0 < ps.length) (hn : n ≤ 1048576) (hv : vs.length = ps.length)
    (hlen : ∀ i, i < ps.length → (ps.getD i []).length = n)
    (hc : ∀ i, i < ps.length → w.cell? ⟨b, off + i, none⟩ = some (vs.getD i undef)) (hb : ∀ i, i < ps.length → BytesAt w (vs.getD i undef) (ps.getD i [])) :
    Calls Try.prog 140 #[.slice (some ⟨b, off, none⟩) ps.length cap, .func (.func 141) #[] #[]] w fun e w' => ∃ r, e = .returned r ∧ BytesAt w' r (sumTo ones ps ps.length) ∧ Gr w w' := by
  have HC := Lib.hid hc; clear hc
  have HB := Lib.hid hb; clear hb
  have HN := Lib.hid hlen; clear hlen
  have HV := Lib.hid hv; clear hv
  have hne : ((ps.length : Int) == 0) = false := by rw [beq_eq_false_iff_ne]; omega
  obtain ⟨a0, cap0, h00⟩ := (HB.out 0 h0).shape
  rw [HN.out 0 h0] at h00
  have c00 := HC.out 0 h0
  rw [h00, Nat.add_zero] at c00
  have H00 := Lib.hid h00; clear h00
  go_enter Try.func140, Try.ntmps140
  go_wp2_with ((with_reducible apply wpL_make1 (n := n) slU8 infU8 rfl (by decide)); rfl; rfl; exact hn)
  go_loopw [5, 18] (fun v i wr => ∃ k : Nat, k ≤ ps.length ∧ i = .int .i64 k ∧ BytesAt wr v (sumTo ones ps k) ∧ Gr w wr) (fun _ i _ => ps.length - (intOf i).toNat)
  case atStart =>
    refine ⟨0, Nat.zero_le _, rfl, ?_, Gr.alloc w _⟩
    unfold sumTo
    rw [HN.out 0 h0]
    exact BytesAt.zeros (heap_alloc_new w _) (by omega)
  case round =>
    obtain ⟨k, hk, rfl, hacc, hg⟩ := hrel
    by_cases hlt : k < ps.length
    · obtain ⟨ak, capk, hsk⟩ := (HB.out k hlt).shape
      rw [HN.out k hlt] at hsk
      have hbk := (HB.out k hlt).gr hg
      rw [hsk] at hbk
      have ck := hg.cell (HC.out k hlt)
      rw [hsk] at ck
      have hal : (sumTo ones ps k).length = n := by rw [sumTo_length]; exact HN.out 0 h0
      obtain ⟨aa, capa, hsa⟩ := hacc.shape
      rw [hal] at hsa
      subst hsa
      have HA := Lib.hid hacc; clear hacc
      have HBK := Lib.hid hbk; clear hbk
      have HSK := Lib.hid hsk; clear hsk
      have HAL := Lib.hid hal; clear hal
      have hnn : ((n : Int) != (n : Int)) = false := by simp
      go_wp2_with fail
      refine (ones_any k _ (by omega)).mono ?_
      rintro e w1 ⟨rfl, rfl⟩
      go_wp2_with fail
      refine (scale_any (ps.getD k []) (ones k) _ _ HBK.out (by rw [HN.out k hlt]; exact hn)).mono ?_
      rintro e w2 ⟨rs, rfl, hrs, hg2⟩
      go_wp2_with fail
      refine (add_any (sumTo ones ps k) (scaleB (ps.getD k []) (ones k)) _ _ _ (HA.out.gr hg2) hrs (by rw [HAL.out, scaleB_length, HN.out k hlt]) (by rw [HAL.out]; exact hn)).mono ?_
      rintro e w3 ⟨rt, rfl, hrt, hg3⟩
      go_wp2
      go_roundw
      case rel => exact ⟨k + 1, by omega, by go_num, hrt, (hg.trans hg2).trans hg3⟩
      case measure => simp [intOf]; omega
    · obtain rfl : k = ps.length := by omega
      go_wp2
      go_ret
      exact ⟨_, rfl, hacc, hg⟩
theorem P_any (ps : List (List UInt8)) (n : Nat) (v : Value) (w : World) (h : RowsAt w v ps) (hl : ps.length ≤ 8) (h0 : 0 < ps.length) (hn : n ≤ 1048576) (hlen : ∀ i, i < ps.length → (ps.getD i []).length = n) :
    Calls Try.prog 118 #[v] w fun e w' => ∃ r, e = .returned r ∧ BytesAt w' r (sumTo ones ps ps.length) ∧ Gr w w' := by
  rcases h.cases with ⟨rfl, _⟩ | ⟨b, off, cap, vs, rfl, _, _, hv, hc, hb⟩
  · simp at h0
  have H := Lib.hid hlen; clear hlen
  have HC := Lib.hid hc; clear hc
  have HB := Lib.hid hb; clear hb
  go_enter Try.func118, Try.ntmps118
  go_wp2_with fail
  refine (sum1_cons ps n b off cap vs _ hl h0 hn hv H.out HC.out HB.out).mono ?_
  rintro e w1 ⟨r, rfl, hr, hg⟩
  go_wp2
  go_ret
  exact ⟨r, rfl, hr, hg⟩

set_option maxRecDepth 100000 in
set_option maxHeartbeats 1000000 in
theorem sum2_cons (ps : List (List UInt8)) (n b off cap : Nat) (vs : List Value) (w : World) (hl : ps.length ≤ 8) (h0 : 0 < ps.length) (hn : n ≤ 1048576) (hv : vs.length = ps.length)
    (hlen : ∀ i, i < ps.length → (ps.getD i []).length = n)
    (hc : ∀ i, i < ps.length → w.cell? ⟨b, off + i, none⟩ = some (vs.getD i undef)) (hb : ∀ i, i < ps.length → BytesAt w (vs.getD i undef) (ps.getD i [])) :
    Calls Try.prog 140 #[.slice (some ⟨b, off, none⟩) ps.length cap, .func (.func 142) #[] #[]] w fun e w' => ∃ r, e = .returned r ∧ BytesAt w' r (sumTo gpow ps ps.length) ∧ Gr w w' := by
  have HC := Lib.hid hc; clear hc
  have HB := Lib.hid hb; clear hb
  have HN := Lib.hid hlen; clear hlen
  have HV := Lib.hid hv; clear hv
  have hne : ((ps.length : Int) == 0) = false := by rw [beq_eq_false_iff_ne]; omega
  obtain ⟨a0, cap0, h00⟩ := (HB.out 0 h0).shape
  rw [HN.out 0 h0] at h00
  have c00 := HC.out 0 h0
  rw [h00, Nat.add_zero] at c00
  have H00 := Lib.hid h00; clear h00
  go_enter Try.func140, Try.ntmps140
  go_wp2_with ((with_reducible apply wpL_make1 (n := n) slU8 infU8 rfl (by decide)); rfl; rfl; exact hn)
  go_loopw [5, 18] (fun v i wr => ∃ k : Nat, k ≤ ps.length ∧ i = .int .i64 k ∧ BytesAt wr v (sumTo gpow ps k) ∧ Gr w wr) (fun _ i _ => ps.length - (intOf i).toNat)
  case atStart =>
    refine ⟨0, Nat.zero_le _, rfl, ?_, Gr.alloc w _⟩
    unfold sumTo
    rw [HN.out 0 h0]
    exact BytesAt.zeros (heap_alloc_new w _) (by omega)
  case round =>
    obtain ⟨k, hk, rfl, hacc, hg⟩ := hrel
    by_cases hlt : k < ps.length
    · obtain ⟨ak, capk, hsk⟩ := (HB.out k hlt).shape
      rw [HN.out k hlt] at hsk
      have hbk := (HB.out k hlt).gr hg
      rw [hsk] at hbk
      have ck := hg.cell (HC.out k hlt)
      rw [hsk] at ck
      have hal : (sumTo gpow ps k).length = n := by rw [sumTo_length]; exact HN.out 0 h0
      obtain ⟨aa, capa, hsa⟩ := hacc.shape
      rw [hal] at hsa
      subst hsa
      have HA := Lib.hid hacc; clear hacc
      have HBK := Lib.hid hbk; clear hbk
      have HSK := Lib.hid hsk; clear hsk
      have HAL := Lib.hid hal; clear hal
      have hnn : ((n : Int) != (n : Int)) = false := by simp
      go_wp2_with fail
      refine (pow_lt k _ (by omega)).mono ?_
      rintro e w1 ⟨rfl, rfl⟩
      go_wp2_with fail
      refine (scale_any (ps.getD k []) (gpow k) _ _ HBK.out (by rw [HN.out k hlt]; exact hn)).mono ?_
      rintro e w2 ⟨rs, rfl, hrs, hg2⟩
      go_wp2_with fail
      refine (add_any (sumTo gpow ps k) (scaleB (ps.getD k []) (gpow k)) _ _ _ (HA.out.gr hg2) hrs (by rw [HAL.out, scaleB_length, HN.out k hlt]) (by rw [HAL.out]; exact hn)).mono ?_
      rintro e w3 ⟨rt, rfl, hrt, hg3⟩
      go_wp2
      go_roundw
      case rel => exact ⟨k + 1, by omega, by go_num, hrt, (hg.trans hg2).trans hg3⟩
      case measure => simp [intOf]; omega
    · obtain rfl : k = ps.length := by omega
      go_wp2
      go_ret
      exact ⟨_, rfl, hacc, hg⟩
theorem Q_any (ps : List (List UInt8)) (n : Nat) (v : Value) (w : World) (h : RowsAt w v ps) (hl : ps.length ≤ 8) (h0 : 0 < ps.length) (hn : n ≤ 1048576) (hlen : ∀ i, i < ps.length → (ps.getD i []).length = n) :
    Calls Try.prog 119 #[v] w fun e w' => ∃ r, e = .returned r ∧ BytesAt w' r (sumTo gpow ps ps.length) ∧ Gr w w' := by
  rcases h.cases with ⟨rfl, _⟩ | ⟨b, off, cap, vs, rfl, _, _, hv, hc, hb⟩
  · simp at h0
  have H := Lib.hid hlen; clear hlen
  have HC := Lib.hid hc; clear hc
  have HB := Lib.hid hb; clear hb
  go_enter Try.func119, Try.ntmps119
  go_wp2_with fail
  refine (sum2_cons ps n b off cap vs _ hl h0 hn hv H.out HC.out HB.out).mono ?_
  rintro e w1 ⟨r, rfl, hr, hg⟩
  go_wp2
  go_ret
  exact ⟨r, rfl, hr, hg⟩
end Go.Proofs.Ytoalnkhedebpbaa

/-! slices.ContainsFunc over rows of bytes; erase.fits, row.sectors: what they answer. -/
namespace Go.Proofs.Ytoalnkhedebpbaa
open Go.RowKit

def notSec (x : List UInt8) : Bool := decide (x.length ≠ 32)
def unfit (size : Nat) (x : List UInt8) : Bool := decide (0 < x.length ∧ x.length ≠ size)
set_option maxRecDepth 100000 in
theorem secf_any (x : List UInt8) (u : Value) (w : World) (h : BytesAt w u x) :
    Calls Try.prog 139 #[u] w fun e w' => e = .returned (.bool (notSec x)) ∧ w = w' := by
  obtain ⟨a, cap, rfl⟩ := h.shape
  clear h
  go_enter Try.func139, Try.ntmps139
  go_wp2
  go_ret
  refine ⟨ret_bool ?_, rfl⟩
  unfold notSec
  by_cases h : x.length = 32
  · rw [h]; simp
  · rw [decide_eq_true h, bne_iff_ne]; omega
set_option maxRecDepth 100000 in
theorem fitf_any (size : Nat) (x : List UInt8) (u : Value) (sb : Nat) (w : World) (h : BytesAt w u x) (hs : w.cell? ⟨sb, 0, none⟩ = some (.int .i64 (size : Int))) :
    Calls Try.prog 143 #[u, .pointer (some ⟨sb, 0, none⟩)] w fun e w' => e = .returned (.bool (unfit size x)) ∧ w = w' := by
  obtain ⟨a, cap, rfl⟩ := h.shape
  clear h
  by_cases h0 : 0 < x.length
  · have d0 : decide (0 < x.length) = true := by simpa using h0
    go_enter Try.func143, Try.ntmps143
    go_wp2
    go_ret
    refine ⟨ret_bool ?_, rfl⟩
    unfold unfit
    by_cases h : x.length = size
    · rw [h]; simp
    · rw [decide_eq_true ⟨h0, h⟩, bne_iff_ne]; omega
  · have d0 : decide (0 < x.length) = false := by simpa using h0
    go_enter Try.func143, Try.ntmps143
    go_wp2
    go_ret
    refine ⟨ret_bool ?_, rfl⟩
    unfold unfit
    rw [decide_eq_false (fun h => h0 h.1)]

set_option maxRecDepth 100000 in
set_option maxHeartbeats 1000000 in
theorem idxfS_cons (ps : List (List UInt8)) (b off cap : Nat) (vs : List Value) (w : World) (hl : ps.length ≤ 9223372036854775807)
    (hc : ∀ i, i < ps.length → w.cell? ⟨b, off + i, none⟩ = some (vs.getD i undef)) (hb : ∀ i, i < ps.length → BytesAt w (vs.getD i undef) (ps.getD i [])) :
    Calls Try.prog 146 #[.slice (some ⟨b, off, none⟩) ps.length cap, .func (.func 139) #[] #[]] w fun e w' => ∃ z : Int, e = .returned (.int .i64 z) ∧ decide (0 ≤ z) = ps.any notSec ∧ w = w' := by
  have HC := Lib.hid hc; clear hc
  have HB := Lib.hid hb; clear hb
  go_enter Try.func146, Try.ntmps146
  go_wp2
  go_loopw [8] (fun i wr => ∃ k : Nat, k ≤ ps.length ∧ i = .int .i64 k ∧ Hid (∀ j, j < k → notSec (ps.getD j []) = false) ∧ w = wr) (fun i _ => ps.length - (intOf i).toNat)
  case atStart => exact ⟨0, Nat.zero_le _, rfl, fun _ h => by omega, rfl⟩
  case round =>
    obtain ⟨k, hk, rfl, hne, rfl⟩ := hrel
    by_cases hlt : k < ps.length
    · have ck := HC.out k hlt
      obtain ⟨u, hu⟩ : ∃ u, u = vs.getD k undef := ⟨_, rfl⟩
      rw [← hu] at ck
      have hbk := HB.out k hlt
      rw [← hu] at hbk
      have hmm : ps.getD k [] ∈ ps := by rw [List.getD_eq_getElem?_getD, List.getElem?_eq_getElem hlt]; simp
      obtain ⟨x, hx⟩ : ∃ x, x = ps.getD k [] := ⟨_, rfl⟩
      rw [← hx] at hbk hmm
      have HM := Lib.hid hmm; clear hmm
      have HX := Lib.hid hx; clear hx
      obtain ⟨ak, capk, hsh⟩ := hbk.shape
      have HBK := Lib.hid hbk; clear hbk
      clear hu
      subst hsh
      go_wp2_with fail
      refine (secf_any x _ _ HBK.out).mono ?_
      rintro e w1 ⟨rfl, rfl⟩
      cases hp : notSec x
      · have HP := Lib.hid hp; clear hp
        go_wp2
        go_roundw
        case rel => exact ⟨k + 1, by omega, by go_num, fun j hj => by
          by_cases e : j = k
          · subst e; rw [← HX.out]; exact HP.out
          · exact hne.out j (by omega), trivial⟩
        case measure => simp [intOf]; omega
      · have HP := Lib.hid hp; clear hp
        go_wp2
        go_ret
        refine ⟨k, rfl, ?_, rfl⟩
        rw [List.any_eq_true.2 ⟨_, HM.out, HP.out⟩]; simp
    · go_wp2
      go_ret
      refine ⟨-1, rfl, ?_, rfl⟩
      have : ps.any notSec = false := by
        rw [List.any_eq_false]
        intro x hx
        obtain ⟨j, hj, rfl⟩ := List.getElem_of_mem hx
        have := hne.out j (by omega)
        rw [List.getD_eq_getElem?_getD, List.getElem?_eq_getElem hj] at this
        simpa using this
      rw [this]; rfl
set_option maxRecDepth 100000 in
set_option maxHeartbeats 1000000 in
theorem hasS_any (ps : List (List UInt8)) (v : Value) (w : World) (h : RowsAt w v ps) :
    Calls Try.prog 138 #[v, .func (.func 139) #[] #[]] w fun e w' => e = .returned (.bool (ps.any notSec)) ∧ w = w' := by
  rcases h.cases with ⟨rfl, a, cap, rfl⟩ | ⟨b, off, cap, vs, rfl, hl, _, _, hc, hb⟩
  · have hi : Calls Try.prog 146 #[.slice a 0 cap, .func (.func 139) #[] #[]] w fun e w' => e = .returned (.int .i64 (-1)) ∧ w = w' := by
      clear h
      go_enter Try.func146, Try.ntmps146
      go_wp2
      refine wp_loop_once ?_
      go_wp2
      go_ret
      exact ⟨rfl, rfl⟩
    have HI := Lib.hid hi; clear hi h
    go_enter Try.func138, Try.ntmps138
    go_wp2_with fail
    refine HI.out.mono ?_
    rintro e w1 ⟨rfl, rfl⟩
    go_wp2
    go_ret
    exact ⟨rfl, rfl⟩
  · have HI := Lib.hid (idxfS_cons ps b off cap vs w hl hc hb)
    clear h hc hb
    go_enter Try.func138, Try.ntmps138
    go_wp2_with fail
    refine HI.out.mono ?_
    rintro e w1 ⟨z, rfl, hz, rfl⟩
    have HZ := Lib.hid hz; clear hz
    go_wp2
    go_ret
    exact ⟨ret_bool HZ.out, rfl⟩

set_option maxRecDepth 100000 in
set_option maxHeartbeats 1000000 in
theorem idxfF_cons (ps : List (List UInt8)) (b off cap : Nat) (vs : List Value) (w : World) (size sb : Nat) (hs : w.cell? ⟨sb, 0, none⟩ = some (.int .i64 (size : Int))) (hl : ps.length ≤ 9223372036854775807)
    (hc : ∀ i, i < ps.length → w.cell? ⟨b, off + i, none⟩ = some (vs.getD i undef)) (hb : ∀ i, i < ps.length → BytesAt w (vs.getD i undef) (ps.getD i [])) :
    Calls Try.prog 146 #[.slice (some ⟨b, off, none⟩) ps.length cap, .func (.func 143) #[] #[.pointer (some ⟨sb, 0, none⟩)]] w fun e w' => ∃ z : Int, e = .returned (.int .i64 z) ∧ decide (0 ≤ z) = ps.any (unfit size) ∧ w = w' := by
  have HC := Lib.hid hc; clear hc
  have HB := Lib.hid hb; clear hb
  have HS := Lib.hid hs; clear hs
  go_enter Try.func146, Try.ntmps146
  go_wp2
  go_loopw [8] (fun i wr => ∃ k : Nat, k ≤ ps.length ∧ i = .int .i64 k ∧ Hid (∀ j, j < k → (unfit size) (ps.getD j []) = false) ∧ w = wr) (fun i _ => ps.length - (intOf i).toNat)
  case atStart => exact ⟨0, Nat.zero_le _, rfl, fun _ h => by omega, rfl⟩
  case round =>
    obtain ⟨k, hk, rfl, hne, rfl⟩ := hrel
    by_cases hlt : k < ps.length
    · have ck := HC.out k hlt
      obtain ⟨u, hu⟩ : ∃ u, u = vs.getD k undef := ⟨_, rfl⟩
      rw [← hu] at ck
      have hbk := HB.out k hlt
      rw [← hu] at hbk
      have hmm : ps.getD k [] ∈ ps := by rw [List.getD_eq_getElem?_getD, List.getElem?_eq_getElem hlt]; simp
      obtain ⟨x, hx⟩ : ∃ x, x = ps.getD k [] := ⟨_, rfl⟩
      rw [← hx] at hbk hmm
      have HM := Lib.hid hmm; clear hmm
      have HX := Lib.hid hx; clear hx
      obtain ⟨ak, capk, hsh⟩ := hbk.shape
      have HBK := Lib.hid hbk; clear hbk
      clear hu
      subst hsh
      go_wp2_with fail
      refine (fitf_any size x _ sb _ HBK.out HS.out).mono ?_
      rintro e w1 ⟨rfl, rfl⟩
      cases hp : (unfit size) x
      · have HP := Lib.hid hp; clear hp
        go_wp2
        go_roundw
        case rel => exact ⟨k + 1, by omega, by go_num, fun j hj => by
          by_cases e : j = k
          · subst e; rw [← HX.out]; exact HP.out
          · exact hne.out j (by omega), trivial⟩
        case measure => simp [intOf]; omega
      · have HP := Lib.hid hp; clear hp
        go_wp2
        go_ret
        refine ⟨k, rfl, ?_, rfl⟩
        rw [List.any_eq_true.2 ⟨_, HM.out, HP.out⟩]; simp
    · go_wp2
      go_ret
      refine ⟨-1, rfl, ?_, rfl⟩
      have : ps.any (unfit size) = false := by
        rw [List.any_eq_false]
        intro x hx
        obtain ⟨j, hj, rfl⟩ := List.getElem_of_mem hx
        have := hne.out j (by omega)
        rw [List.getD_eq_getElem?_getD, List.getElem?_eq_getElem hj] at this
        simpa using this
      rw [this]; rfl
set_option maxRecDepth 100000 in
set_option maxHeartbeats 1000000 in
theorem hasF_any (ps : List (List UInt8)) (v : Value) (w : World) (size sb : Nat) (hs : w.cell? ⟨sb, 0, none⟩ = some (.int .i64 (size : Int))) (h : RowsAt w v ps) :
    Calls Try.prog 138 #[v, .func (.func 143) #[] #[.pointer (some ⟨sb, 0, none⟩)]] w fun e w' => e = .returned (.bool (ps.any (unfit size))) ∧ w = w' := by
  rcases h.cases with ⟨rfl, a, cap, rfl⟩ | ⟨b, off, cap, vs, rfl, hl, _, _, hc, hb⟩
  · have hi : Calls Try.prog 146 #[.slice a 0 cap, .func (.func 143) #[] #[.pointer (some ⟨sb, 0, none⟩)]] w fun e w' => e = .returned (.int .i64 (-1)) ∧ w = w' := by
      clear h
      go_enter Try.func146, Try.ntmps146
      go_wp2
      refine wp_loop_once ?_
      go_wp2
      go_ret
      exact ⟨rfl, rfl⟩
    have HI := Lib.hid hi; clear hi h
    go_enter Try.func138, Try.ntmps138
    go_wp2_with fail
    refine HI.out.mono ?_
    rintro e w1 ⟨rfl, rfl⟩
    go_wp2
    go_ret
    exact ⟨rfl, rfl⟩
  · have HI := Lib.hid (idxfF_cons ps b off cap vs w size sb hs hl hc hb)
    clear h hc hb
    go_enter Try.func138, Try.ntmps138
    go_wp2_with fail
    refine HI.out.mono ?_
    rintro e w1 ⟨z, rfl, hz, rfl⟩
    have HZ := Lib.hid hz; clear hz
    go_wp2
    go_ret
    exact ⟨ret_bool HZ.out, rfl⟩

set_option maxRecDepth 100000 in
set_option maxHeartbeats 400000 in
theorem sectors_any (ps : List (List UInt8)) (v : Value) (w : World) (h : RowsAt w v ps) :
    Calls Try.prog 116 #[v] w fun e w' => e = .returned (.bool (!ps.any notSec)) ∧ w = w' := by
  obtain ⟨a, cap, hv⟩ := h.shape
  subst hv
  have H := Lib.hid h; clear h
  go_enter Try.func116, Try.ntmps116
  go_wp2_with fail
  refine (hasS_any ps _ _ H.out).mono ?_
  rintro e w1 ⟨rfl, rfl⟩
  go_wp2
  go_ret
  exact ⟨rfl, rfl⟩
set_option maxRecDepth 100000 in
set_option maxHeartbeats 400000 in
theorem fits_any (size : Nat) (ps : List (List UInt8)) (v : Value) (w : World) (h : RowsAt w v ps) :
    Calls Try.prog 132 #[.int .i64 (size : Int), v] w fun e w' => e = .returned (.bool (!ps.any (unfit size))) ∧ Gr w w' := by
  obtain ⟨a, cap, hv⟩ := h.shape
  subst hv
  have H := Lib.hid h; clear h
  have hmf : ∀ (fn : Fn) (first cap : Array Value) (w : World), (Instr.makeFunc fn first cap).run Try.prog w = .ok (.func fn first cap) w := fun _ _ _ _ => rfl
  go_enter Try.func132, Try.ntmps132
  go_wp2_with fail
  refine (hasF_any ps _ _ size _ (cell_new w _ _ _ rfl) (H.out.gr (Gr.alloc w _))).mono ?_
  rintro e w1 ⟨rfl, rfl⟩
  go_wp2
  go_ret
  exact ⟨rfl, Gr.alloc w _⟩
end Go.Proofs.Ytoalnkhedebpbaa

/-! Laws at one operation, besides: one cell stored into a known block; a row copied over another; appends to an own row of rows. -/
namespace Go.Proofs.Ytoalnkhedebpbaa
open Go.RowKit

theorem setRow_putB {w : World} {g : Nat} {cs : Array Value} {t : TypeId} {fr : Nat × Nat} (hg : w.heap[g]? = some (.cells cs t fr)) (vs : Array Value) : w.setRow g vs = putB w g (.cells vs t fr) := by
  have hlt : g < w.heap.size := (Array.getElem?_eq_some_iff.1 hg).1
  have hv : w.heap[g] = .cells cs t fr := (Array.getElem?_eq_some_iff.1 hg).2
  unfold World.setRow putB
  cases w with
  | mk heap tape drawn os output =>
    congr 1
    apply Array.ext
    · simp
    · intro k h1 h2
      rw [Array.getElem_setIfInBounds (by simpa using h2), Array.getElem_modify]
      by_cases hk : g = k
      · subst hk; simp at hv; simp [hv]
      · simp [hk]
theorem putB_alloc_new (w : World) (o o' : Obj) : putB (w.alloc o) w.heap.size o' = w.alloc o' := by
  have e : (w.heap.push o).setIfInBounds w.heap.size o' = w.heap.push o' := by
    apply Array.ext
    · simp
    · intro i h1 h2
      rw [Array.getElem_setIfInBounds (by simpa using h1)]
      by_cases hi : w.heap.size = i
      · subst hi; simp
      · rw [if_neg hi]
        have : i < w.heap.size := by simp at h2; omega
        rw [Array.getElem_push_lt this, Array.getElem_push_lt this]
  exact congrArg (fun h => ({ w with heap := h } : World)) e
/-- What reads stays where a row of another type has grown, or been written to. -/
theorem SlAt.grown {w w' : World} {E E' : TypeId} {v : Value} {vs : List Value} {row : Option Nat} (h : SlAt w E v vs) (g : w.grownBy w' row) (hr : ∀ k, row = some k → ∃ cs fr, w.heap[k]? = some (.cells cs E' fr)) (hne : E ≠ E') : SlAt w' E v vs := by
  rcases h with h | ⟨b, off, cap, cs, fr, hv, hb, hc, hl⟩
  · exact .inl h
  · refine .inr ⟨b, off, cap, cs, fr, hv, ?_, hc, hl⟩
    rw [g.block b (heap_lt hb) (fun e => ?_)]
    · exact hb
    · obtain ⟨cs', fr', h'⟩ := hr b e.symm
      rw [hb] at h'
      injection h' with h1
      injection h1 with _ h2 _
      exact hne h2
theorem own_row {w : World} {base n size : Nat} {E : TypeId} {v : Value} {xs : List Value} (h : w.ownsRow base E size v n xs) : ∀ k, v.ownBlock = some k → ∃ cs fr, w.heap[k]? = some (.cells cs E fr) := by
  intro k hk
  rcases h.2 with ⟨rfl, _⟩ | ⟨g, cap, cur, rfl, _, hg, _⟩
  · simp [Value.ownBlock] at hk
  · simp only [Value.ownBlock] at hk
    injection hk with hk
    subst hk
    exact ⟨cur, _, hg⟩
section
variable {P : Program} {ops : Array Oper} {Q : Exit → Act → World → Prop} {a : Act} {w : World} {rest : List Oper} {d : Option Tmp} {ty : TypeId} {pos : String} {after : Array Edge} {T E : TypeId}
theorem run_storeVals {g off : Nat} {cs : Array Value} {t : TypeId} {v : Value} {vs : List Value} (hv : v.cells = vs.toArray) (hg : w.heap[g]? = some (.cells cs t (0, 0)))
    (hi : (P.info? T).map (·.size) = some vs.length) (h1 : ∀ v ∈ vs, v.oneCell' = true) (hfit : off + vs.length ≤ cs.size) :
    (storeVar T ⟨g, off, none⟩ v).run P w = .ok () (putB w g (.cells (cs.toList.take off ++ vs ++ cs.toList.drop (off + vs.length)).toArray t)) := by
  have hst := run_storeCells_at P g off t vs 0 cs w hg (by simpa using hfit) h1
  cases hq : P.info? T with
  | none => simp [hq] at hi
  | some i =>
    have hs : i.size = vs.length := by simpa [hq] using hi
    simp only [Nat.add_zero] at hst
    rw [← setRow_putB hg]
    simp [storeVar, Sem.run_bind, hv, sizeOf, typeInfo, hq, hs, hst]
theorem set_splice (cs : Array Value) (off : Nat) (v : Value) (h : off < cs.size) : (cs.toList.take off ++ [v] ++ cs.toList.drop (off + 1)).toArray = cs.setIfInBounds off v := by
  apply Array.ext'
  rw [Array.toList_setIfInBounds]
  simp only [List.append_assoc, List.singleton_append]
  rw [List.set_eq_take_append_cons_drop, if_pos (by simpa using h)]
/-- One cell is stored into a block that is known whole. -/
theorem wpL_store1 {x y : Operand} {g off : Nat} {cs : Array Value} {t : TypeId} {v : Value} (hi : (P.info? T).map (·.size) = some 1) (hv : v.cells = #[v]) (h1 : v.oneCell' = true)
    (hx : a.eval x = .pointer (some ⟨g, off, none⟩)) (hy : a.eval y = v) (hg : w.heap[g]? = some (.cells cs t (0, 0))) (hfit : off < cs.size)
    (h : wpList P ops Q rest (a.put d undef) (putB w g (.cells (cs.setIfInBounds off v) t))) :
    wpList P ops Q ({ dst := d, op := .store T x y, type := ty, pos := pos, after := after, guard := none } :: rest) a w :=
  wpList_plain rfl fun K' hK' => by
    have hr := run_storeVals (P := P) (T := T) (off := off) (vs := [v]) hv hg hi (by simpa using h1) (by simp only [List.length_singleton]; omega)
    simp only [List.length_singleton] at hr
    rw [set_splice cs off v hfit] at hr
    unfold Oper.wp execOp
    simp only [hx, hy, Instr.storeAt, Instr.sureAddr, Sem.run_bind, Sem.run_pure, Result.andThen_ok, hr]
    exact hK' _ _ h
/-- A whole row of cells, or none, is copied into a row of n cells. -/
theorem wpL_copy {dT sT : TypeId} {x y : Operand} {g n cap sLen scap : Nat} {sp : Option Addr} {cur : Array Value} {t : TypeId} {cs : List Value} (hu : P.underlying dT = some (.slice E)) (hs : (P.info? E).map (·.size) = some 1)
    (hx : a.eval x = .slice (some ⟨g, 0, none⟩) n cap) (hy : a.eval y = .slice sp sLen scap) (hg : w.heap[g]? = some (.cells cur t (0, 0))) (hn : cur.size = n) (hl : cs.length = sLen)
    (h0 : sLen = 0 ∨ sLen = n) (hsrc : ∀ j v, cs[j]? = some v → ∃ b off, sp = some ⟨b, off, none⟩ ∧ w.cell? ⟨b, off + j, none⟩ = some v) (h1 : ∀ v ∈ cs, v.oneCell' = true)
    (h : wpList P ops Q rest (a.put d (.int .i64 (sLen : Int))) (putB w g (.cells (if sLen = 0 then cur else cs.toArray) t))) :
    wpList P ops Q ({ dst := d, op := .call { callee := .builtin .copy, args := #[x, y], argTypes := #[dT, sT] }, type := ty, pos := pos, after := after, guard := none } :: rest) a w := by
  cases cs with
  | nil =>
    have hl0 : sLen = 0 := by simpa using hl.symm
    subst hl0
    refine wpList_copy_nothing rfl x y dT sT rfl E hu hs _ _ n cap 0 scap hx hy (by show min 0 n = 0; omega) ?_
    have e : putB w g (.cells cur t (0, 0)) = w := by rw [← setRow_putB hg]; exact setRow_self w g cur t (0, 0) hg
    simp only [if_true, e] at h
    exact h
  | cons v vs =>
    obtain ⟨b, off, rfl, _⟩ := hsrc 0 v (by simp)
    have hsl : sLen = n := by
      rcases h0 with h0 | h0
      · rw [h0] at hl; simp at hl
      · exact h0
    subst hsl
    refine wpList_copy_own rfl x y dT sT rfl E hu hs g 0 sLen cap ⟨b, off, none⟩ sLen scap hx hy cur t hg (v :: vs) (by rw [hl]; show sLen = min sLen sLen; omega) (fun j u hj => ?_) (by omega) h1 ?_
    · obtain ⟨b', off', e, hc⟩ := hsrc j u hj
      have e' := Option.some.inj e
      obtain ⟨rfl, rfl⟩ : b = b' ∧ off = off' := by injection e' with e1 e2; exact ⟨e1, e2⟩
      rw [addr_add0]; exact hc
    · rw [setRow_putB hg]
      have e : (cur.toList.take 0 ++ ((v :: vs) ++ cur.toList.drop (0 + (v :: vs).length))).toArray = (v :: vs).toArray := by
        have : cur.toList.drop (0 + (v :: vs).length) = [] := by rw [List.drop_eq_nil_iff]; simp only [Array.length_toList]; omega
        rw [this]; simp
      rw [e, hl]
      have hne : ¬ sLen = 0 := by intro hh; rw [hh] at hl; simp at hl
      rw [if_neg hne] at h
      exact h
/-- A variable that fills its block is stored anew. -/
theorem wpL_storeAll {x y : Operand} {g : Nat} {cs : Array Value} {t : TypeId} {vs : List Value} (hi : (P.info? T).map (·.size) = some vs.length) (h1 : ∀ v ∈ vs, v.oneCell' = true)
    (hx : a.eval x = .pointer (some ⟨g, 0, none⟩)) (hy : a.eval y = .agg vs.toArray) (hg : w.heap[g]? = some (.cells cs t (0, 0))) (hs : cs.size = vs.length)
    (h : wpList P ops Q rest (a.put d undef) (putB w g (.cells vs.toArray t))) :
    wpList P ops Q ({ dst := d, op := .store T x y, type := ty, pos := pos, after := after, guard := none } :: rest) a w := by
  refine wpL_storeAgg hi h1 hx hy hg (by omega) ?_
  have e : (cs.toList.take 0 ++ vs ++ cs.toList.drop (0 + vs.length)).toArray = vs.toArray := by
    have : cs.toList.drop (0 + vs.length) = [] := by rw [List.drop_eq_nil_iff]; simp only [Array.length_toList]; omega
    rw [this]; simp
  rw [e, setRow_putB hg]; exact h
end
end Go.Proofs.Ytoalnkhedebpbaa
