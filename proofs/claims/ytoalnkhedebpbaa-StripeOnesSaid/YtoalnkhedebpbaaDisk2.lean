/- (*Disk).put: what it answers. -/
import Derived.Test.YtoalnkhedebpbaaBench2
namespace Go.Proofs.Ytoalnkhedebpbaa
open Go.RowKit

section
variable {P : Program} {ops : Array Oper} {Q : Exit → Act → World → Prop} {a : Act} {w : World} {rest : List Oper} {d : Option Tmp} {ty : TypeId} {pos : String} {after : Array Edge} {T E : TypeId}
/-- A whole row of cells is copied into the midst of a block. -/
theorem wpL_copyAt {dT sT : TypeId} {x y : Operand} {g o n cap scap b off : Nat} {cur : Array Value} {t : TypeId} {cs new : List Value} (hu : P.underlying dT = some (.slice E)) (hs : (P.info? E).map (·.size) = some 1)
    (hx : a.eval x = .slice (some ⟨g, o, none⟩) n cap) (hy : a.eval y = .slice (some ⟨b, off, none⟩) n scap) (hg : w.heap[g]? = some (.cells cur t (0, 0))) (hl : cs.length = n) (hfit : o + n ≤ cur.size)
    (hsrc : ∀ j v, cs[j]? = some v → w.cell? ⟨b, off + j, none⟩ = some v) (h1 : ∀ v ∈ cs, v.oneCell' = true) (hnew : cur.toList.take o ++ (cs ++ cur.toList.drop (o + n)) = new)
    (h : wpList P ops Q rest (a.put d (.int .i64 (n : Int))) (putB w g (.cells new.toArray t))) :
    wpList P ops Q ({ dst := d, op := .call { callee := .builtin .copy, args := #[x, y], argTypes := #[dT, sT] }, type := ty, pos := pos, after := after, guard := none } :: rest) a w := by
  subst hl
  refine wpList_copy_own rfl x y dT sT rfl E hu hs g o cs.length cap ⟨b, off, none⟩ cs.length scap hx hy cur t hg cs (by show cs.length = min cs.length cs.length; omega) (fun j u hj => ?_) hfit h1 ?_
  · rw [addr_add0]; exact hsrc j u hj
  · rw [setRow_putB hg, hnew]
    exact h
end
def zw : Array Value := ((Value.int .i64 0) :: List.replicate 32 (Value.int .u8 0)).toArray
def vw (a : Int) : List Value := (Value.int .i64 a) :: List.replicate 32 (Value.int .u8 0)
theorem z122 : (Try.prog.info? 122).map (·.zero) = some (some (.agg zw)) := by kernel_rfl
theorem build122 (a : Int) (w : World) : (Instr.build 122 #[(0, .int .i64 a)]).run Try.prog w = .ok (.agg (vw a).toArray) w := by kernel_rfl
theorem vw_length (a : Int) : (vw a).length = 33 := rfl
theorem vw_one (a : Int) : ∀ v ∈ vw a, v.oneCell' = true := by
  intro v hv
  rcases List.mem_cons.1 hv with rfl | hv
  · rfl
  · rw [(List.mem_replicate.1 hv).2]; rfl
theorem zw_size : zw.size = 33 := rfl
theorem results_cell_tmpW {fn : Func} {p u : Tmp} (h : fn.results = #[.cell p 122, .tmp u]) (tmps : Array Value) (w : World) (g : Nat) (t : TypeId) (cs : Array Value) (fr : Nat × Nat) (vs : List Value)
    (hp : tmps.getD p undef = .pointer (some ⟨g, 0, none⟩)) (hg : w.heap[g]? = some (.cells cs t fr)) (hl : vs.length = 33) (hvs : ∀ j, j < 33 → cs[j]? = vs[j]?) :
    (results fn tmps).run Try.prog w = .ok (.tuple #[.agg vs.toArray, tmps.getD u undef]) w := by
  have hld : (loadVar 122 ⟨g, 0, none⟩).run Try.prog w = .ok (.agg vs.toArray) w := by
    obtain ⟨ds, hu, hd⟩ := und122
    cases ds with
    | struct f => exact run_loadAgg hg hu rfl (by rw [hl]; exact inf122) (fun j hj => by rw [Nat.zero_add]; exact hvs j (by omega))
    | array n e => exact run_loadAgg hg hu rfl (by rw [hl]; exact inf122) (fun j hj => by rw [Nat.zero_add]; exact hvs j (by omega))
    | _ => exact absurd hd Bool.false_ne_true
  rw [results_cell_tmp h, hp]
  simp only [asAddr, Sem.run_pure, Result.andThen_ok, hld]
theorem putB_alloc_at (w : World) (o o' : Obj) (k : Nat) (h : k = w.heap.size) : putB (w.alloc o) k o' = w.alloc o' := by subst h; exact putB_alloc_new w o o'
set_option maxRecDepth 100000 in
set_option maxHeartbeats 1000000 in
theorem dput_ok (d : DM) (at' : Nat) (x : List UInt8) (b : Nat) (g : Option Nat) (u : Value) (w : World) (h : DiskAt w b g d) (hm : mayF d at' = 0) (hx : BytesAt w u x) (hl : x.length = 32) :
    Calls Try.prog 112 #[.pointer (some ⟨b, 0, none⟩), .int .i64 at', u] w fun e w' => e = .returned (.tuple #[.agg (wvals (at', x)).toArray, .int .i64 0]) ∧ Gr w w' := by
  rcases hx.cases with ⟨rfl, _⟩ | ⟨xb, xo, xc, rfl, _, _, hxc⟩
  · simp at hl
  have hsrc : ∀ w', Gr w w' → ∀ j v, (x.map bv)[j]? = some v → w'.cell? ⟨xb, xo + j, none⟩ = some v := fun w' g j v hj => by
    obtain ⟨b', off', e, hc'⟩ := bytes_src hx j v hj
    have e := Option.some.inj e
    injection e with e1 e2
    subst e1; subst e2
    exact g.cell hc'
  have hwl := wvals_length (x := (at', x)) hl
  have hw1 := wvals_one (at', x)
  have hnew : (vw at').toArray.toList.take 1 ++ (x.map bv ++ (vw at').toArray.toList.drop (1 + 32)) = wvals (at', x) := by
    have e : (vw at').toArray.toList.drop (1 + 32) = [] := rfl
    rw [e, List.append_nil]; rfl
  obtain ⟨V, hV⟩ : ∃ V, V = vw at' := ⟨_, rfl⟩
  have hV1 := vw_one at'
  have hVl := vw_length at'
  have hbu := build122 at'
  rw [← hV] at hnew hV1 hVl hbu
  obtain ⟨Z, hZ⟩ : ∃ Z, Z = zw := ⟨_, rfl⟩
  have hZ1 := z122
  have hZs := zw_size
  rw [← hZ] at hZ1 hZs
  obtain ⟨wv, hwv⟩ : ∃ wv, wv = wvals (at', x) := ⟨_, rfl⟩
  rw [← hwv] at hwl hw1 hnew ⊢
  rw [hl]
  have HNEW := Lib.hid hnew; clear hnew
  have HV1 := Lib.hid hV1; clear hV1
  have HVL := Lib.hid hVl; clear hVl
  have HBU := Lib.hid hbu; clear hbu
  have HZ1 := Lib.hid hZ1; clear hZ1
  have HZS := Lib.hid hZs; clear hZs
  have HWL := Lib.hid hwl; clear hwl
  have HW1 := Lib.hid hw1; clear hw1
  have HV := Lib.hid hV; clear hV
  clear hZ hwv
  have H := Lib.hid h; clear h
  have HM := Lib.hid hm; clear hm
  have HS := Lib.hid hsrc; clear hsrc
  have HL := Lib.hid hl; clear hl
  clear hxc hx
  go_enter Try.func112, Try.ntmps112
  go_wp2_with (first | ((with_reducible apply wpL_alloc HZ1.out)))
  refine (dmay_any d at' b g _ (H.out.gr (Gr.alloc _ _))).mono ?_
  rintro e w1 ⟨rfl, rfl⟩
  rw [HM.out]
  have g1 : Gr w ((w.alloc (.cells Z 122)).alloc (.cells V.toArray 122)) := (Gr.alloc _ _).trans (Gr.alloc _ _)
  go_wp2_with (first
    | ((with_reducible apply wpL_build HBU.out); rfl)
    | ((with_reducible apply wpL_alloc HZ1.out))
    | ((with_reducible apply wpL_storeNew (w0 := w.alloc (.cells Z 122)) (vs := V)); rfl; (rw [HVL.out]; exact inf122); exact HV1.out; rfl; (rw [HV.out]; rfl); (rw [HVL.out]; exact HZS.out.symm))
    | ((with_reducible apply wpL_copyAt (cs := x.map bv) (new := wv) slU8 infU8s); rfl; rfl; go_must (exact heap_alloc_at _ _ _ (by simp)); go_must (rw [List.length_map]; exact HL.out); go_must (simp only [List.size_toArray, HVL.out]; decide); go_must (exact HS.out _ g1); exact bvs_one x; go_must (exact HNEW.out); rw [putB_alloc_at (w.alloc (.cells Z 122)) _ _ _ (by simp)])
    | ((with_reducible apply wpL_loadW (vs := wv)); exact HWL.out; rfl; go_must (exact heap_alloc_at _ _ _ (by simp)); go_must (intro j _; rw [Nat.zero_add]; simp))
    | ((with_reducible apply wpL_storeAll (vs := wv)); go_must (rw [HWL.out]; exact inf122); exact HW1.out; rfl; rfl; go_must (exact heap_alloc_lt (heap_alloc_new w _) _); go_must (rw [HWL.out]; exact HZS.out)))
  have hw : w.heap.size < ((w.alloc (.cells Z 122)).alloc (.cells wv.toArray 122)).heap.size := by simp; omega
  refine bodyPost_ret (results_cell_tmpW rfl _ _ w.heap.size _ _ _ wv rfl (putB_get_self hw _) HWL.out (fun j _ => by simp)) rfl ?_
  exact ⟨rfl, below_putB ((Gr.alloc _ _).trans (Gr.alloc _ _)) (Nat.le_refl _) _⟩
end Go.Proofs.Ytoalnkhedebpbaa
