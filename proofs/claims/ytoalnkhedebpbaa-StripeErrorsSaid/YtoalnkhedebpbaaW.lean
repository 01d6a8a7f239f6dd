/- disk.Clone, Write; bench's counter, Write: what they do. -/
import Derived.Test.YtoalnkhedebpbaaH
namespace Go.Proofs.Ytoalnkhedebpbaa
open Go.RowKit

theorem slW : Try.prog.underlying 126 = some (.slice 122) := by kernel_rfl
theorem infW : (Try.prog.info? 122).map (fun i => (i.zero, i.size, i.bytes)) = some (some (.agg zw), 33, 40) := by kernel_rfl
theorem own_empty' (w : World) (E : TypeId) (cap base k size : Nat) (hk : k = w.heap.size) (hb : base ≤ k) (hc : cap = 0) : (w.alloc (.cells #[] E)).ownsRow base E size (.slice (some ⟨k, 0, none⟩) 0 cap) 0 [] := by
  subst hk; subst hc
  exact ⟨by simp, .inr ⟨w.heap.size, 0, #[], rfl, hb, heap_alloc_new w _, Nat.le_refl _, Nat.zero_le _, by simp, by simp⟩⟩
theorem pvals_length : ∀ (ps : List (Nat × List UInt8)) (_ : ∀ x, x ∈ ps → x.2.length = 32), (pvals ps).length = ps.length * 33
  | [], _ => rfl
  | x :: r, h => by
    have e : pvals (x :: r) = wvals x ++ pvals r := by simp [pvals]
    rw [e, List.length_append, wvals_length (h x List.mem_cons_self), pvals_length r (fun y hy => h y (List.mem_cons_of_mem _ hy)), List.length_cons]
    omega
theorem pvals_one : ∀ (ps : List (Nat × List UInt8)), ∀ v ∈ pvals ps, v.oneCell' = true := by
  intro ps v hv
  obtain ⟨x, _, hx⟩ := List.mem_flatMap.1 hv
  exact wvals_one x v hx
section
variable {P : Program} {ops : Array Oper} {Q : Exit → Act → World → Prop} {a : Act} {w : World} {rest : List Oper} {d : Option Tmp} {ty : TypeId} {pos : String} {after : Array Edge} {T E : TypeId}
/-- 'append(out, s...)' onto a slice of the call's own, of writes. -/
theorem wpL_appendW {s x : Operand} {z v : Value} {base n m c : Nat} {ad : Addr} {xs news : List Value} (ht : P.underlying T = some (.slice E)) (hinfo : (P.info? E).map (fun i => (i.zero, i.size, i.bytes)) = some (some z, 33, 40)) (hzs : z.cells.size = 33)
    (hs : a.eval s = v) (hx : a.eval x = .slice (some ad) m c) (hown : w.ownsRow base E 33 v n xs) (hl : news.length = m * 33) (hnews : ∀ j u, news[j]? = some u → w.cell? (ad.add j) = some u) (h1 : ∀ u ∈ news, u.oneCell' = true) (hn : n + m ≤ 1048577) (hbase : base ≤ w.heap.size)
    (h : ∀ v' w', w'.ownsRow base E 33 v' (n + m) (xs ++ news) → w.grownBy w' v.ownBlock → wpList P ops Q rest (a.put d v') w') :
    wpList P ops Q ({ dst := d, op := .call { callee := .builtin .append, args := #[s, x], argTypes := #[T, T] }, type := ty, pos := pos, after := after, guard := none } :: rest) a w := by
  cases hi : P.info? E with
  | none => simp [hi] at hinfo
  | some i =>
    obtain ⟨h1z, h2z, h3z⟩ : i.zero = some z ∧ i.size = 33 ∧ i.bytes = 40 := by simpa [hi] using hinfo
    refine wpList_append_own w rfl s x T rfl base E i z 33 40 ht hi h1z h2z h3z hzs (by decide) v n xs hs hown ad m c news hx hl hnews h1 (by unfold maxLen; omega) ?_ hbase (fun v' w' a1 a2 _ => h v' w' a1 a2)
    omega
end
theorem own_base {w : World} {b c n size : Nat} {E : TypeId} {v : Value} {xs : List Value} (h : w.ownsRow b E size v n xs) (hc : c ≤ b) : w.ownsRow c E size v n xs := by
  refine ⟨h.1, ?_⟩
  rcases h.2 with h2 | ⟨g, cap, cur, hv, hb, r⟩
  · exact .inl h2
  · exact .inr ⟨g, cap, cur, hv, Nat.le_trans hc hb, r⟩
theorem zw_cells : (Value.agg zw).cells.size = 33 := rfl
set_option maxRecDepth 100000 in
set_option maxHeartbeats 400000 in
theorem clonew_some (ps : List (Nat × List UInt8)) (v : Value) (w : World) (h : w.ownsRow 0 122 33 v ps.length (pvals ps)) (hs : ∀ x, x ∈ ps → x.2.length = 32) (hl : ps.length ≤ 1048576) (h0 : ps ≠ []) :
    Calls Try.prog 114 #[v] w fun e w' => ∃ r, e = .returned r ∧ w'.ownsRow w.heap.size 122 33 r ps.length (pvals ps) ∧ Gr w w' := by
  rcases h.2 with ⟨_, hp0⟩ | ⟨gg, cap, cur, rfl, _, hgg, hcap, _, hcs, htk⟩
  · exact absurd (List.eq_nil_of_length_eq_zero hp0) h0
  have hn : ∀ w', Gr w w' → ∀ j u, (pvals ps)[j]? = some u → w'.cell? ((⟨gg, 0, none⟩ : Addr).add j) = some u := fun w' g j u hj => by
    rw [addr_add0, Nat.zero_add]
    refine g.cell ?_
    rw [cell_of_row w gg _ cur _ _ hgg]
    rw [← htk, List.getElem?_take] at hj
    split at hj
    · simpa using hj
    · simp at hj
  have HN := Lib.hid hn; clear hn
  have hpl := pvals_length ps hs
  have hp1 := pvals_one ps
  obtain ⟨V, hV⟩ : ∃ V, V = pvals ps := ⟨_, rfl⟩
  rw [← hV] at HN hpl hp1 ⊢
  obtain ⟨n, hnn⟩ : ∃ n, n = ps.length := ⟨_, rfl⟩
  rw [← hnn] at hl hpl ⊢
  have HPL := Lib.hid hpl; clear hpl
  have HP1 := Lib.hid hp1; clear hp1
  clear h hgg hcap hcs htk hs hV hnn h0
  have he : ∀ w : World, (binOp .eql 126 (.slice (some ⟨gg, 0, none⟩) n cap) (.slice none 0 0)).run Try.prog w = .ok (.bool false) w := fun _ => rfl
  go_enter Try.func114, Try.ntmps114
  go_wp2_with ((with_reducible apply wpL_appendW (xs := []) (news := V) slW infW zw_cells); rfl; rfl; exact own_empty' w _ _ w.heap.size w.heap.size 33 rfl (Nat.le_refl _) rfl; exact HPL.out; exact HN.out _ (Gr.alloc _ _); exact HP1.out; omega; (simp); (intro v' w4 hown' hgr))
  go_ret
  have g2 : Gr w w4 := Below.grown (Gr.alloc w _) hgr (by simp) (fun j hj => Nat.le_of_eq (Option.some.inj hj))
  rw [Nat.zero_add, List.nil_append] at hown'
  exact ⟨v', rfl, hown', g2⟩
theorem own_sl {w : World} {base n size : Nat} {E : TypeId} {v : Value} {xs : List Value} (h : w.ownsRow base E size v n xs) : ∃ a k c, v = .slice a k c := by
  rcases h.2 with ⟨rfl, _⟩ | ⟨g, cap, cur, rfl, _⟩
  · exact ⟨_, _, _, rfl⟩
  · exact ⟨_, _, _, rfl⟩
theorem own_nil {w : World} {base n size : Nat} {E : TypeId} {v : Value} {xs : List Value} (h : w.ownsRow base E size v n xs) (hb : v.ownBlock = none) : v = .slice none 0 0 ∧ n = 0 := by
  rcases h.2 with h2 | ⟨g, cap, cur, rfl, _⟩
  · exact h2
  · simp [Value.ownBlock] at hb
theorem clonew_any (ps : List (Nat × List UInt8)) (v : Value) (w : World) (h : w.ownsRow 0 122 33 v ps.length (pvals ps)) (hs : ∀ x, x ∈ ps → x.2.length = 32) (hl : ps.length ≤ 1048576) (h0 : ps = [] → v.ownBlock = none) :
    Calls Try.prog 114 #[v] w fun e w' => ∃ r, e = .returned r ∧ w'.ownsRow w.heap.size 122 33 r ps.length (pvals ps) ∧ (ps = [] → r.ownBlock = none) ∧ Gr w w' := by
  by_cases hp : ps = []
  · obtain ⟨rfl, _⟩ := own_nil h (h0 hp)
    subst hp
    refine (clonew_nil w).mono ?_
    rintro e w1 ⟨rfl, rfl⟩
    exact ⟨_, rfl, ⟨rfl, .inl ⟨rfl, rfl⟩⟩, fun _ => rfl, Gr.refl _⟩
  · refine (clonew_some ps v w h hs hl hp).mono ?_
    rintro e w1 ⟨r, rfl, h1, h2⟩
    exact ⟨r, rfl, h1, fun e => absurd e hp, h2⟩
theorem und128 : ∃ ds, Try.prog.underlying 128 = some ds ∧ (match ds with | .struct _ | .array _ _ => true | _ => false) = true := agg_of (by kernel_rfl)
theorem zdisk_size : zdisk.size = 1666 := (zd_end 1664).1
section
variable {ops : Array Oper} {Q : Exit → Act → World → Prop} {a : Act} {w : World} {rest : List Oper} {d : Option Tmp} {ty : TypeId} {pos : String} {after : Array Edge}
theorem wpL_loadD {x : Operand} {g off : Nat} {cs : Array Value} {t : TypeId} {fr : Nat × Nat} (vs : List Value) (hl : vs.length = 1666)
    (hx : a.eval x = .pointer (some ⟨g, off, none⟩)) (hg : w.heap[g]? = some (.cells cs t fr)) (hvs : ∀ j, j < 1666 → cs[off + j]? = vs[j]?)
    (h : wpList Try.prog ops Q rest (a.put d (.agg vs.toArray)) w) :
    wpList Try.prog ops Q ({ dst := d, op := .load 128 x, type := ty, pos := pos, after := after, guard := none } :: rest) a w := by
  obtain ⟨ds, hu, hd⟩ := und128
  cases ds with
  | struct f => exact wpL_loadAgg vs hu rfl (by rw [hl]; exact inf128) hx hg (fun j hj => hvs j (by omega)) h
  | array n e => exact wpL_loadAgg vs hu rfl (by rw [hl]; exact inf128) hx hg (fun j hj => hvs j (by omega)) h
  | _ => exact absurd hd Bool.false_ne_true
end
/-- The cells of a disk are cells each. -/
theorem DiskAt.one {w : World} {b : Nat} {g : Option Nat} {d : DM} (h : DiskAt w b g d) : ∃ (cs : List Value) (pv : Value), w.heap[b]? = some (.cells cs.toArray 128 (0, 0)) ∧ cs.length = 1666 ∧ (∀ v ∈ cs, v.oneCell' = true) ∧ cs[1664]? = some pv ∧ w.cell? ⟨b, 1664, none⟩ = some pv ∧ w.ownsRow 0 122 33 pv d.pend.length (pvals d.pend) ∧ (d.pend = [] → pv.ownBlock = none) ∧ pv.ownBlock = g ∧ (∀ x, x ∈ d.pend → x.1 < 52 ∧ x.2.length = 32) ∧
    (∀ (w' : World) (k : Nat) (g' : Option Nat) (r : Value), w'.heap[k]? = some (.cells (cs.set 1664 r).toArray 128 (0, 0)) → w'.ownsRow 0 122 33 r d.pend.length (pvals d.pend) → (r.ownBlock = g' ∧ (d.pend = [] → g' = none)) → DiskAt w' k g' d) ∧
    ∀ (w' : World) (k : Nat) (g' : Option Nat) (r : Value) (d' : DM), d'.sec = d.sec → d'.failed = d.failed → (∀ x, x ∈ d'.pend → x.1 < 52 ∧ x.2.length = 32) → w'.heap[k]? = some (.cells (cs.set 1664 r).toArray 128 (0, 0)) → w'.ownsRow 0 122 33 r d'.pend.length (pvals d'.pend) → (r.ownBlock = g' ∧ (d'.pend = [] → g' = none)) → DiskAt w' k g' d' := by
  obtain ⟨cs, pv, h1, h2, h3, h4, h5, h6, h7, h8, h9⟩ := h
  have key : ∀ (w' : World) (k : Nat) (g' : Option Nat) (r : Value) (d' : DM), d'.sec = d.sec → d'.failed = d.failed → (∀ x, x ∈ d'.pend → x.1 < 52 ∧ x.2.length = 32) → w'.heap[k]? = some (.cells (cs.toList.set 1664 r).toArray 128 (0, 0)) → w'.ownsRow 0 122 33 r d'.pend.length (pvals d'.pend) → (r.ownBlock = g' ∧ (d'.pend = [] → g' = none)) → DiskAt w' k g' d' := by
    intro w' k g' r d' e1 e2 e3 hk ho hr
    refine ⟨_, r, hk, by simp [h2], fun a ha => by rw [e1]; exact h3 a ha, fun a ha j hj => ?_, by simp [h2], ?_, ho, hr, e3⟩
    · rw [e1, ← h4 a ha j hj]
      rw [List.getElem?_toArray, List.getElem?_set_ne (by omega)]
      simp
    · rw [e2, ← h6, List.getElem?_toArray, List.getElem?_set_ne (by decide)]
      simp
  refine ⟨cs.toList, pv, by simpa using h1, by simpa using h2, fun v hv => ?_, by simpa using h5, cell_blk h1 h5, h7, fun e => h8.1.trans (h8.2 e), h8.1, h9, fun w' k g' r hk ho hr => key w' k g' r d rfl rfl h9 hk ho hr, key⟩
  obtain ⟨i, hi, rfl⟩ := List.getElem_of_mem hv
  have hi' : i < 1666 := by simpa [h2] using hi
  have hcs : cs[i]? = some cs.toList[i] := by simp
  by_cases h64 : i < 1664
  · have e := h4 (i / 32) (by omega) (i % 32) (by omega)
    rw [show i / 32 * 32 + i % 32 = i from by omega, hcs] at e
    have hm := List.mem_of_getElem? e.symm
    exact bvs_one _ _ hm
  · by_cases e64 : i = 1664
    · subst e64
      rw [hcs] at h5
      have e := Option.some.inj h5
      rw [e]
      rcases h7.2 with ⟨rfl, _⟩ | ⟨gg, cap, cur, rfl, _⟩ <;> rfl
    · obtain rfl : i = 1665 := by omega
      rw [hcs] at h6
      have e := Option.some.inj h6
      rw [e]; rfl
set_option maxRecDepth 100000 in
set_option maxHeartbeats 1000000 in
theorem dclone_any (d : DM) (b : Nat) (g : Option Nat) (w : World) (h : DiskAt w b g d) (hp : d.pend.length ≤ 1048576) :
    Calls Try.prog 103 #[.pointer (some ⟨b, 0, none⟩)] w fun e w' => ∃ g', e = .returned (.pointer (some ⟨w.heap.size, 0, none⟩)) ∧ DiskAt w' w.heap.size g' d ∧ (∀ x, g' = some x → w.heap.size ≤ x) ∧ Gr w w' := by
  obtain ⟨cs, pv, h1, h2, h3, h4, c5, h7, h8, _, h9, hmk, _⟩ := h.one
  have hb0 := heap_lt h1
  obtain ⟨Z, hZ⟩ : ∃ Z, Z = zdisk := ⟨_, rfl⟩
  have hZ1 := z128
  have hZs := zdisk_size
  rw [← hZ] at hZ1 hZs
  have HZ1 := Lib.hid hZ1; clear hZ1
  have HZS := Lib.hid hZs; clear hZs hZ
  have HB := Lib.hid h1; clear h1
  have H2 := Lib.hid h2; clear h2
  have H3 := Lib.hid h3; clear h3
  have H4 := Lib.hid h4; clear h4
  have H7 := Lib.hid h7; clear h7
  have H8 := Lib.hid h8; clear h8
  have H9 := Lib.hid h9; clear h9
  have HMK := Lib.hid hmk; clear hmk
  have HP := Lib.hid hp; clear hp
  clear h
  go_enter Try.func103, Try.ntmps103
  go_wp2_with (first | ((with_reducible apply wpL_alloc HZ1.out)) | ((with_reducible apply wpL_loadD (vs := cs)); exact H2.out; rfl; exact HB.out; go_must (intro j _; rw [Nat.zero_add]; simp)) | ((with_reducible apply wpL_storeNew (w0 := w) (vs := cs)); rfl; go_must (rw [H2.out]; exact inf128); exact H3.out; rfl; rfl; go_must (rw [H2.out]; exact HZS.out.symm)))
  refine (clonew_any d.pend pv _ (own_gr H7.out (Gr.alloc _ _)) (fun x hx => (H9.out x hx).2) HP.out H8.out).mono ?_
  rintro e w1 ⟨r, rfl, ho, hr0, hg⟩
  have hk := hg.get (heap_alloc_new w (.cells cs.toArray 128))
  have ck := cell_blk (off := 1664) (v := pv) hk (by simpa using H4.out)
  have fk : w1.frozen? ⟨w.heap.size, 1664, none⟩ = false := by simp [World.frozen?, hk]
  have HK := Lib.hid hk; clear hk
  obtain ⟨ra, rn, rc, hrs⟩ := own_sl ho
  subst hrs
  have HO := Lib.hid ho; clear ho
  have HR0 := Lib.hid hr0; clear hr0
  go_wp2
  go_ret
  rw [setCell_putB HK.out]
  have hlt := heap_lt HK.out
  have g2 : Gr w w1 := (Gr.alloc _ _).trans hg
  refine ⟨(Value.slice ra rn rc).ownBlock, rfl, HMK.out _ _ _ _ ?_ ?_ ⟨rfl, HR0.out⟩, fun x hx => ?_, below_putB g2 (Nat.le_refl _) _⟩
  · rw [putB_get_self hlt]
    simp
  · refine own_base (b := w.heap.size) (own_keep (F := fun k => k = w.heap.size) (own_base HO.out (by simp)) ⟨rfl, rfl, rfl, by simp, fun k _ hk => putB_get_other w1 hk _⟩ (fun x hx => ?_)) (Nat.zero_le _)
    have := (HO.out.lt x hx).1
    simp at this
    omega
  · have := (HO.out.lt x hx).1
    simp at this
    omega
theorem rangeAt_alloc {w : World} {b o : Nat} {vs : List Value} (h : w.rangeAt b o vs) (x : Obj) : (w.alloc x).rangeAt b o vs := fun j v hj => (Gr.alloc w x).cell (h j v hj)
theorem rangeAt_gr {w w' : World} {b o : Nat} {vs : List Value} (h : w.rangeAt b o vs) (g : Gr w w') : w'.rangeAt b o vs := fun j v hj => g.cell (h j v hj)
theorem rangeAt_grown {w w' : World} {b o : Nat} {vs : List Value} {row : Option Nat} (h : w.rangeAt b o vs) (g : w.grownBy w' row) (hne : some b ≠ row) : w'.rangeAt b o vs := fun j v hj => g.cell (h j v hj) hne
theorem rangeAt_cell {w : World} {b o k off : Nat} {vs : List Value} {u : Value} (h : w.rangeAt b o vs) (hne : b ≠ k) : (w.setCell ⟨k, off, none⟩ u).rangeAt b o vs := fun j v hj => cell_apart (h j v hj) hne
section
variable {P : Program} {ops : Array Oper} {o : Oper} {a : Act} {w : World} {K : Act → World → Prop} {Q : Exit → Act → World → Prop} {E : Prop} {T : TypeId}
theorem step_loadAgg {x : Operand} (hgd : o.guard = none) (ho : o.op = .load T x) {g off : Nat} {cs : Array Value} {t : TypeId} {fr : Nat × Nat} (vs : List Value) {ds : TypeDesc} (hu : P.underlying T = some ds)
    (hd : (match ds with | .struct _ | .array _ _ => true | _ => false) = true) (hi : (P.info? T).map (·.size) = some vs.length)
    (hx : a.eval x = .pointer (some ⟨g, off, none⟩)) (hg : w.heap[g]? = some (.cells cs t fr)) (hvs : ∀ j, j < vs.length → cs[off + j]? = vs[j]?)
    (h : K (a.put o.dst (.agg vs.toArray)) w) : if Region.wanted o (yielded ops a.tmps) = true then Oper.wp P o a w K Q else E := by
  have hw : Region.wanted o (yielded ops a.tmps) = true := by simp [Region.wanted, hgd]
  rw [if_pos hw]
  unfold Oper.wp execOp
  simp only [ho, hx, Instr.loadAt, Instr.sureAddr, Sem.run_bind, Sem.run_pure, Result.andThen_ok, run_loadAgg hg hu hd hi hvs]
  exact h
end
theorem step_loadW {ops : Array Oper} {o : Oper} {a : Act} {w : World} {K : Act → World → Prop} {Q : Exit → Act → World → Prop} {E : Prop} {x : Operand} (hgd : o.guard = none) (ho : o.op = .load 122 x) {g off : Nat} {cs : Array Value} {t : TypeId} {fr : Nat × Nat} (vs : List Value) (hl : vs.length = 33)
    (hx : a.eval x = .pointer (some ⟨g, off, none⟩)) (hg : w.heap[g]? = some (.cells cs t fr)) (hvs : ∀ j, j < 33 → cs[off + j]? = vs[j]?)
    (h : K (a.put o.dst (.agg vs.toArray)) w) : if Region.wanted o (yielded ops a.tmps) = true then Oper.wp Try.prog o a w K Q else E := by
  obtain ⟨ds, hu, hd⟩ := und122
  cases ds with
  | struct f => exact step_loadAgg hgd ho vs hu rfl (by rw [hl]; exact inf122) hx hg (fun j hj => hvs j (by omega)) h
  | array n e => exact step_loadAgg hgd ho vs hu rfl (by rw [hl]; exact inf122) hx hg (fun j hj => hvs j (by omega)) h
  | _ => exact absurd hd Bool.false_ne_true
theorem fold_set : ∀ (l : List Value) (k : Nat) (A : Array Value), k + l.length ≤ A.size → ((l.zipIdx k).foldl (fun cs x => cs.setIfInBounds x.snd x.fst) A).size = A.size ∧ ∀ i, ((l.zipIdx k).foldl (fun cs x => cs.setIfInBounds x.snd x.fst) A)[i]? = if k ≤ i ∧ i < k + l.length then l[i - k]? else A[i]?
  | [], k, A, _ => ⟨rfl, fun i => by rw [if_neg (by simp)]; rfl⟩
  | x :: r, k, A, h => by
    rw [List.zipIdx_cons, List.foldl_cons]
    have hl : (x :: r).length = r.length + 1 := rfl
    obtain ⟨h1, h2⟩ := fold_set r (k + 1) (A.setIfInBounds k x) (by simp; omega)
    refine ⟨by simpa using h1, fun i => ?_⟩
    show (List.foldl _ (A.setIfInBounds k x) (r.zipIdx (k + 1)))[i]? = _
    rw [h2 i]
    by_cases e : i = k
    · subst e
      rw [if_neg (by omega), if_pos (by omega)]
      simp [show i < A.size from by omega]
    · by_cases e2 : k + 1 ≤ i ∧ i < k + 1 + r.length
      · rw [if_pos e2, if_pos (by omega)]
        obtain ⟨m, rfl⟩ : ∃ m, i = k + 1 + m := ⟨i - (k + 1), by omega⟩
        rw [show k + 1 + m - (k + 1) = m from by omega, show k + 1 + m - k = m + 1 from by omega]
        rfl
      · rw [if_neg e2, if_neg (by omega), Array.getElem?_setIfInBounds_ne (Ne.symm e)]
theorem fold_all (l : List Value) (A : Array Value) (h : l.length = A.size) : (l.zipIdx).foldl (fun cs x => cs.setIfInBounds x.snd x.fst) A = l.toArray := by
  obtain ⟨h1, h2⟩ := fold_set l 0 A (by omega)
  apply Array.ext_getElem?
  intro i
  rw [h2 i]
  by_cases hi : i < l.length
  · rw [if_pos (by omega)]; simp
  · rw [if_neg (by omega), Array.getElem?_eq_none (by omega)]
    simp; omega
theorem run_build1 (wv : List Value) (hl : wv.length = 33) (w : World) : (Instr.buildSlice 126 1 #[(0, .agg wv.toArray)]).run Try.prog w = .ok (.slice (some ⟨w.heap.size, 0, none⟩) 1 1) (w.alloc (.cells wv.toArray 122)) := by
  go_simp
  rw [fold_all wv _ (by rw [hl]; rfl)]
theorem step_buildW {ops : Array Oper} {o : Oper} {a : Act} {w : World} {K : Act → World → Prop} {Q : Exit → Act → World → Prop} {E : Prop} {x : Operand} (hgd : o.guard = none) (ho : o.op = .buildSlice 126 1 #[(0, x)]) (wv : List Value) (hl : wv.length = 33) (hx : a.eval x = .agg wv.toArray)
    (h : K (a.put o.dst (.slice (some ⟨w.heap.size, 0, none⟩) 1 1)) (w.alloc (.cells wv.toArray 122))) : if Region.wanted o (yielded ops a.tmps) = true then Oper.wp Try.prog o a w K Q else E := by
  have hw : Region.wanted o (yielded ops a.tmps) = true := by simp [Region.wanted, hgd]
  rw [if_pos hw]
  unfold Oper.wp execOp
  simp only [ho, List.map_toArray, List.map_cons, List.map_nil, hx, Sem.run_bind, Sem.run_pure, Result.andThen_ok, run_build1 wv hl]
  exact h
set_option maxRecDepth 100000 in
set_option maxHeartbeats 1000000 in
theorem dwrite_ok (d : DM) (at' : Nat) (x : List UInt8) (b : Nat) (g : Option Nat) (u : Value) (w : World) (h : DiskAt w b g d) (hm : mayF d at' = 0) (hx : BytesAt w u x) (hl : x.length = 32) (hp : d.pend.length ≤ 1048576) :
    Calls Try.prog 127 #[.pointer (some ⟨b, 0, none⟩), .int .i64 at', u] w fun e w' => e = .returned (.int .i64 0) ∧ ∃ g', DStep w b g w' g' ∧ DiskAt w' b g' (d.push at' x) := by
  have ha : at' < 52 := by
    unfold mayF at hm
    split at hm
    · simp at hm
    · split at hm
      · simp at hm
      · omega
  obtain ⟨a, cap, hu⟩ := hx.shape
  rw [hl] at hu
  subst hu
  obtain ⟨cs, pv, h1, h2, h3, h4, c5, h7, h8, h10, h9, _, hmk⟩ := h.one
  have hb0 := heap_lt h1
  have hwl := wvals_length (x := (at', x)) hl
  have hw1 := wvals_one (at', x)
  obtain ⟨wv, hwv⟩ : ∃ wv, wv = wvals (at', x) := ⟨_, rfl⟩
  rw [← hwv] at hwl hw1
  have HWL := Lib.hid hwl; clear hwl
  have HW1 := Lib.hid hw1; clear hw1
  have key : ∀ (wa w4 : World) (gg cap4 : Nat), Gr w wa → w4.ownsRow 0 122 33 (.slice (some ⟨gg, 0, none⟩) (d.pend.length + 1) cap4) (d.pend.length + 1) (pvals d.pend ++ wv) → wa.grownBy w4 pv.ownBlock → (pv.ownBlock = some gg ∨ w.heap.size ≤ gg) →
      DStep w b g (w4.setCell ⟨b, 1664, none⟩ (.slice (some ⟨gg, 0, none⟩) (d.pend.length + 1) cap4)) (some gg) ∧ DiskAt (w4.setCell ⟨b, 1664, none⟩ (.slice (some ⟨gg, 0, none⟩) (d.pend.length + 1) cap4)) b (some gg) (d.push at' x) := by
    intro wa w4 gg cap4 ga ho hgr hat
    have hne : some b ≠ pv.ownBlock := fun e => by
      obtain ⟨cs', fr', e'⟩ := own_row h7 _ e.symm
      exact type_ne h1 e' (by decide) rfl
    have hb4 : w4.heap[b]? = some (.cells cs.toArray 128 (0, 0)) := (hgr.block b (heap_lt (ga.get h1)) hne).trans (ga.get h1)
    have hlt := heap_lt hb4
    rw [setCell_putB hb4]
    refine ⟨⟨hgr.os.trans ga.os, hgr.tape.trans ga.tape, hgr.output.trans ga.output, by rw [putB_size]; exact Nat.le_trans ga.size hgr.size, fun k hk hkb hkg => ?_, ?_⟩, ?_⟩
    · rw [putB_get_other w4 hkb, hgr.block k (Nat.lt_of_lt_of_le hk ga.size) (fun e => hkg (by rw [← h10]; exact e.symm)), ga.block k hk]
    · rcases hat with e | e
      · exact .inl (by rw [← h10, e])
      · exact .inr (fun x hx => by rw [← Option.some.inj hx]; exact e)
    · refine hmk _ b (some gg) (.slice (some ⟨gg, 0, none⟩) (d.pend.length + 1) cap4) (d.push at' x) rfl rfl (fun y hy => ?_) ?_ ?_ ⟨rfl, fun e => absurd e (by simp [DM.push])⟩
      · rcases List.mem_append.1 hy with hy | hy
        · exact h9 y hy
        · rw [List.mem_singleton.1 hy]; exact ⟨ha, hl⟩
      · rw [putB_get_self hlt]; simp
      · have e1 : (d.push at' x).pend.length = d.pend.length + 1 := by simp [DM.push]
        have e2 : pvals (d.push at' x).pend = pvals d.pend ++ wv := by rw [hwv]; simp [DM.push, pvals]
        rw [e1, e2]
        refine own_keep (F := fun k => k = b) ho ⟨rfl, rfl, rfl, by simp, fun k _ hk => putB_get_other w4 hk _⟩ (fun y hy => ?_)
        obtain ⟨cs', fr', e'⟩ := own_row ho _ hy
        exact type_ne e' hb4 (by decide)
  have KEY := Lib.hid key; clear key
  have HWV := Lib.hid hwv; clear hwv
  obtain ⟨Z, hZ⟩ : ∃ Z, Z = zw := ⟨_, rfl⟩
  have hZ1 := z122
  have hZs := zw_size
  rw [← hZ] at hZ1 hZs
  have HZ1 := Lib.hid hZ1; clear hZ1
  have HZS := Lib.hid hZs; clear hZs hZ
  obtain ⟨i0, hi0, hz0, hz1, hz2⟩ := info_parts infW
  have HM := Lib.hid hm; clear hm
  have HX := Lib.hid hx; clear hx
  have HL := Lib.hid hl; clear hl
  have H := Lib.hid h; clear h
  have HB := Lib.hid h1; clear h1
  have H2 := Lib.hid h2; clear h2
  have H4 := Lib.hid h4; clear h4
  have H7 := Lib.hid h7; clear h7
  have H8 := Lib.hid h8; clear h8
  have H9 := Lib.hid h9; clear h9
  have H10 := Lib.hid h10; clear h10
  have HMK := Lib.hid hmk; clear hmk
  have HP := Lib.hid hp; clear hp
  clear h3
  go_enter Try.func127, Try.ntmps127
  go_wp2_with fail
  refine (dput_ok d at' x b g _ _ H.out HM.out HX.out HL.out).mono ?_
  rintro e w1 ⟨rfl, g1⟩
  rw [← HWV.out]
  go_wp2_with (first | ((with_reducible apply wpL_alloc HZ1.out)) | ((with_reducible apply wpL_storeNew (w0 := w1) (vs := wv)); rfl; go_must (rw [HWL.out]; exact inf122); exact HW1.out; rfl; rfl; go_must (rw [HWL.out]; exact HZS.out.symm)))
  obtain ⟨wm, hwm⟩ : ∃ wm, wm = w1.alloc (.cells wv.toArray 122) := ⟨_, rfl⟩
  have gm : Gr w wm := by rw [hwm]; exact g1.trans (Gr.alloc _ _)
  have hrg : wm.rangeAt w1.heap.size 0 wv := fun j v hj => by
    rw [hwm, cell_of_row _ _ _ _ _ _ (heap_alloc_new w1 _), Nat.zero_add]
    simpa using hj
  have hsz : wm.heap.size = w1.heap.size + 1 := by rw [hwm]; simp
  have HSZ := Lib.hid hsz; clear hsz
  rw [← hwm]
  have hw1s := g1.size
  have HWB : Hid (wm.heap[w1.heap.size]? = some (.cells wv.toArray 122 (0, 0))) := Lib.hid (by rw [hwm]; exact heap_alloc_new w1 _)
  clear hwm
  have hbm := gm.get HB.out
  have c5m := gm.cell c5
  have c5b := (Gr.alloc wm (.cells wv.toArray 122)).cell c5m
  have f5b : (wm.alloc (.cells wv.toArray 122)).frozen? ⟨b, 1664, none⟩ = false := by
    have := (Gr.alloc wm (.cells wv.toArray 122)).get hbm
    simp [World.frozen?, this]
  have hne : some b ≠ pv.ownBlock := fun e => by
    obtain ⟨cs', fr', e'⟩ := own_row H7.out _ e.symm
    exact type_ne HB.out e' (by decide) rfl
  have hne2 : some w1.heap.size ≠ pv.ownBlock := fun e => by
    have := (H7.out.lt _ e.symm).2
    omega
  have n2 : w1.heap.size ≠ b := by omega
  have hbs := heap_lt hbm
  clear hbm
  refine wp_region_any (by kernel_rfl) ?_
  change wpAny _ _ _ _ _ _ _ (World.drew _)
  refine wpAny_take (i := 0) (v := .pointer (some ⟨b, 0, none⟩)) rfl (by kernel_rfl) (by kernel_rfl) (by kernel_rfl) (fun _ _ _ h => h) (Or.inl ⟨by rfl, fun w => by go_simp⟩) ?_
  refine wpAny_take (i := 1) (v := .pointer (some ⟨b, 0, none⟩)) rfl (by kernel_rfl) (by kernel_rfl) (by kernel_rfl) (fun _ _ _ h => h) (Or.inl ⟨by rfl, fun w => by go_simp⟩) ?_
  refine wpAny_take (i := 2) (v := .pointer (some ⟨b, 0, none⟩)) rfl (by kernel_rfl) (by kernel_rfl) (by kernel_rfl) (fun _ _ _ h => h) (Or.inl ⟨by rfl, fun w => by go_simp⟩) ?_
  refine wpAny_take (i := 3) (v := .pointer (some ⟨b, 1664, none⟩)) rfl (by kernel_rfl) (by kernel_rfl) (by kernel_rfl) (fun _ _ _ h => h) (Or.inl ⟨by rfl, fun w => by go_simp⟩) ?_
  have hwb : wm.heap[w1.heap.size]? = some (.cells wv.toArray 122 (0, 0)) := HWB.out
  refine wpAny_ready (rs := [4, 5]) (by kernel_rfl) (by simp) ?_
  refine AllReady.cons rfl (fun K hK => ?_) (AllReady.cons rfl (fun K hK => ?_) AllReady.nil)
  · go_simp
    refine hK _ _ ?_
    clear hK K
    refine wpAny_ready (rs := [5]) (by kernel_rfl) (by simp) ?_
    refine AllReady.cons rfl (fun K hK => ?_) AllReady.nil
    refine step_loadW rfl rfl wv HWL.out rfl (w := wm.drew) (hwb) (fun j _ => by rw [Nat.zero_add]; simp) ?_
    refine hK _ _ ?_
    clear hK K
    refine wpAny_ready (rs := [6]) (by kernel_rfl) (by simp) ?_
    refine AllReady.cons rfl (fun K hK => ?_) AllReady.nil
    refine step_buildW rfl rfl wv HWL.out rfl ?_
    refine hK _ _ ?_
    clear hK K
    refine wpAny_ready (rs := [7]) (by kernel_rfl) (by simp) ?_
    refine AllReady.cons rfl (fun K hK => ?_) AllReady.nil
    refine step_append_lies _ rfl _ _ _ rfl 0 122 i0 _ 33 40 slW hi0 hz0 hz1 hz2 rfl (by omega) pv d.pend.length _ rfl (own_gr H7.out (gm.trans ((Gr.drew _).trans (Gr.alloc _ _)))) ⟨wm.heap.size, 0, none⟩ 1 1 wv rfl HWL.out (World.news_of_block (cs := wv.toArray) (t := 122) (fr := (0, 0)) (heap_alloc_new wm.drew _)) HW1.out (by omega) (by unfold maxLen; have := HP.out; omega) (by have := HP.out; omega) (Nat.zero_le _) (wm.heap.size + 1) (by simp) ?_
    intro gg cap4 w4 hown4 hgr hat hltg
    refine hK _ _ ?_
    clear hK K
    have c54 := (hgr.cell_far ⟨b, 1664, none⟩ (by simp; omega) hne).trans c5b
    have f54 := (hgr.frozen_far ⟨b, 1664, none⟩ (by simp; omega) hne).trans f5b
    refine wpAny_take (i := 8) (v := .pointer (some ⟨b, 0, none⟩)) rfl (by kernel_rfl) (by kernel_rfl) (by kernel_rfl) (fun _ _ _ h => h) (Or.inl ⟨by rfl, fun w => by go_simp⟩) ?_
    refine wpAny_take (i := 9) (v := .pointer (some ⟨b, 1664, none⟩)) rfl (by kernel_rfl) (by kernel_rfl) (by kernel_rfl) (fun _ _ _ h => h) (Or.inl ⟨by rfl, fun w => by go_simp⟩) ?_
    refine wpAny_ready (rs := [10]) (by kernel_rfl) (by simp) ?_
    refine AllReady.cons rfl (fun K hK => ?_) AllReady.nil
    go_simp
    refine hK _ _ ?_
    clear hK K
    refine wpAny_done (by kernel_rfl) ?_ _
    go_wp2
    go_ret
    exact ⟨rfl, _, KEY.out _ _ gg cap4 (gm.trans ((Gr.drew _).trans (Gr.alloc _ _))) hown4 hgr (hat.imp (fun e => e) (fun e => by have := gm.size; omega))⟩
  · refine step_loadW rfl rfl wv HWL.out rfl (w := wm.drew) (hwb) (fun j _ => by rw [Nat.zero_add]; simp) ?_
    refine hK _ _ ?_
    clear hK K
    refine wpAny_ready (rs := [4, 6]) (by kernel_rfl) (by simp) ?_
    refine AllReady.cons rfl (fun K hK => ?_) (AllReady.cons rfl (fun K hK => ?_) AllReady.nil)
    · go_simp
      refine hK _ _ ?_
      clear hK K
      refine wpAny_ready (rs := [6]) (by kernel_rfl) (by simp) ?_
      refine AllReady.cons rfl (fun K hK => ?_) AllReady.nil
      refine step_buildW rfl rfl wv HWL.out rfl ?_
      refine hK _ _ ?_
      clear hK K
      refine wpAny_ready (rs := [7]) (by kernel_rfl) (by simp) ?_
      refine AllReady.cons rfl (fun K hK => ?_) AllReady.nil
      refine step_append_lies _ rfl _ _ _ rfl 0 122 i0 _ 33 40 slW hi0 hz0 hz1 hz2 rfl (by omega) pv d.pend.length _ rfl (own_gr H7.out (gm.trans ((Gr.drew _).trans (Gr.alloc _ _)))) ⟨wm.heap.size, 0, none⟩ 1 1 wv rfl HWL.out (World.news_of_block (cs := wv.toArray) (t := 122) (fr := (0, 0)) (heap_alloc_new wm.drew _)) HW1.out (by omega) (by unfold maxLen; have := HP.out; omega) (by have := HP.out; omega) (Nat.zero_le _) (wm.heap.size + 1) (by simp) ?_
      intro gg cap4 w4 hown4 hgr hat hltg
      refine hK _ _ ?_
      clear hK K
      have c54 := (hgr.cell_far ⟨b, 1664, none⟩ (by simp; omega) hne).trans c5b
      have f54 := (hgr.frozen_far ⟨b, 1664, none⟩ (by simp; omega) hne).trans f5b
      refine wpAny_take (i := 8) (v := .pointer (some ⟨b, 0, none⟩)) rfl (by kernel_rfl) (by kernel_rfl) (by kernel_rfl) (fun _ _ _ h => h) (Or.inl ⟨by rfl, fun w => by go_simp⟩) ?_
      refine wpAny_take (i := 9) (v := .pointer (some ⟨b, 1664, none⟩)) rfl (by kernel_rfl) (by kernel_rfl) (by kernel_rfl) (fun _ _ _ h => h) (Or.inl ⟨by rfl, fun w => by go_simp⟩) ?_
      refine wpAny_ready (rs := [10]) (by kernel_rfl) (by simp) ?_
      refine AllReady.cons rfl (fun K hK => ?_) AllReady.nil
      go_simp
      refine hK _ _ ?_
      clear hK K
      refine wpAny_done (by kernel_rfl) ?_ _
      go_wp2
      go_ret
      exact ⟨rfl, _, KEY.out _ _ gg cap4 (gm.trans ((Gr.drew _).trans (Gr.alloc _ _))) hown4 hgr (hat.imp (fun e => e) (fun e => by have := gm.size; omega))⟩
    · refine step_buildW rfl rfl wv HWL.out rfl ?_
      refine hK _ _ ?_
      clear hK K
      refine wpAny_ready (rs := [4]) (by kernel_rfl) (by simp) ?_
      refine AllReady.cons rfl (fun K hK => ?_) AllReady.nil
      go_simp
      refine hK _ _ ?_
      clear hK K
      refine wpAny_ready (rs := [7]) (by kernel_rfl) (by simp) ?_
      refine AllReady.cons rfl (fun K hK => ?_) AllReady.nil
      refine step_append_lies _ rfl _ _ _ rfl 0 122 i0 _ 33 40 slW hi0 hz0 hz1 hz2 rfl (by omega) pv d.pend.length _ rfl (own_gr H7.out (gm.trans ((Gr.alloc _ _).trans (Gr.drew _)))) ⟨wm.heap.size, 0, none⟩ 1 1 wv rfl HWL.out (World.news_of_block (cs := wv.toArray) (t := 122) (fr := (0, 0)) (heap_alloc_new wm _)) HW1.out (by omega) (by unfold maxLen; have := HP.out; omega) (by have := HP.out; omega) (Nat.zero_le _) (wm.heap.size + 1) (by simp) ?_
      intro gg cap4 w4 hown4 hgr hat hltg
      refine hK _ _ ?_
      clear hK K
      have c54 := (hgr.cell_far ⟨b, 1664, none⟩ (by simp; omega) hne).trans c5b
      have f54 := (hgr.frozen_far ⟨b, 1664, none⟩ (by simp; omega) hne).trans f5b
      refine wpAny_take (i := 8) (v := .pointer (some ⟨b, 0, none⟩)) rfl (by kernel_rfl) (by kernel_rfl) (by kernel_rfl) (fun _ _ _ h => h) (Or.inl ⟨by rfl, fun w => by go_simp⟩) ?_
      refine wpAny_take (i := 9) (v := .pointer (some ⟨b, 1664, none⟩)) rfl (by kernel_rfl) (by kernel_rfl) (by kernel_rfl) (fun _ _ _ h => h) (Or.inl ⟨by rfl, fun w => by go_simp⟩) ?_
      refine wpAny_ready (rs := [10]) (by kernel_rfl) (by simp) ?_
      refine AllReady.cons rfl (fun K hK => ?_) AllReady.nil
      go_simp
      refine hK _ _ ?_
      clear hK K
      refine wpAny_done (by kernel_rfl) ?_ _
      go_wp2
      go_ret
      exact ⟨rfl, _, KEY.out _ _ gg cap4 (gm.trans ((Gr.alloc _ _).trans (Gr.drew _))) hown4 hgr (hat.imp (fun e => e) (fun e => by have := gm.size; omega))⟩
end Go.Proofs.Ytoalnkhedebpbaa
