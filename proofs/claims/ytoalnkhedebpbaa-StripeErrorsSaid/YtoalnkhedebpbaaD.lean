/- One disk in memory; (*Disk).may, Failed, Read: what they answer. (*Disk).Read: what it answers. A bench in memory: its blocks, what changes when one of its disks does. bench: Len, is, may, Failed, Read: what they answer. stripe.up, Read: what they answer while there is power. stripe.Read, while there is power. disk.New, bench.New. (*Disk).put: what it answers. stripe.One, while there is power. (*Disk).Damage where nothing is pending. bench.Damage (nothing pending), Fail. -/
import Derived.Test.YtoalnkhedebpbaaC
import Derived.Deep.AppendLies
import Derived.Deep.RegionLaw
import Derived.Test.YtoalnkhedebpbaaA
import Derived.Deep.MidRow

/-! One disk in memory; (*Disk).may, Failed, Read: what they answer. -/
namespace Go.Proofs.Ytoalnkhedebpbaa
open Go.RowKit

structure DM where
  sec : Nat → List UInt8
  pend : List (Nat × List UInt8)
  failed : Bool
def wvals (x : Nat × List UInt8) : List Value := .int .i64 x.1 :: x.2.map bv
def pvals (l : List (Nat × List UInt8)) : List Value := l.flatMap wvals
/-- A disk at block b, what is pending at block g. -/
def DiskAt (w : World) (b : Nat) (g : Option Nat) (d : DM) : Prop :=
  ∃ (cs : Array Value) (pv : Value), w.heap[b]? = some (.cells cs 128 (0, 0)) ∧ cs.size = 1666 ∧ (∀ a, a < 52 → (d.sec a).length = 32) ∧ (∀ a, a < 52 → ∀ j, j < 32 → cs[a * 32 + j]? = ((d.sec a).map bv)[j]?) ∧
    cs[1664]? = some pv ∧ cs[1665]? = some (.bool d.failed) ∧ w.ownsRow 0 122 33 pv d.pend.length (pvals d.pend) ∧ (pv.ownBlock = g ∧ (d.pend = [] → g = none)) ∧ ∀ x, x ∈ d.pend → x.1 < 52 ∧ x.2.length = 32
theorem DiskAt.gr {w w' : World} {b : Nat} {g : Option Nat} {d : DM} (h : DiskAt w b g d) (k : Gr w w') : DiskAt w' b g d := by
  obtain ⟨cs, pv, h1, h2, h3, h4, h5, h6, h7, h8, h9⟩ := h
  exact ⟨cs, pv, k.get h1, h2, h3, h4, h5, h6, own_gr h7 k, h8, h9⟩
/-- What stands against something at a place. -/
def mayF (d : DM) (at' : Int) : Int := if d.failed then 5 else if at' < 0 ∨ 52 ≤ at' then 4 else 0
theorem cell_blk {w : World} {b off : Nat} {cs : Array Value} {t : TypeId} {fr : Nat × Nat} {v : Value} (h : w.heap[b]? = some (.cells cs t fr)) (hv : cs[off]? = some v) : w.cell? ⟨b, off, none⟩ = some v := by
  rw [cell_of_row w b _ cs _ fr h]; exact hv
set_option maxRecDepth 100000 in
set_option maxHeartbeats 400000 in
theorem dmay_any (d : DM) (at' : Int) (b : Nat) (g : Option Nat) (w : World) (h : DiskAt w b g d) :
    Calls Try.prog 129 #[.pointer (some ⟨b, 0, none⟩), .int .i64 at'] w fun e w' => e = .returned (.int .i64 (mayF d at')) ∧ w = w' := by
  obtain ⟨cs, pv, h1, h2, h3, h4, h5, h6, h7, h8, h9⟩ := h
  have c6 := cell_blk h1 h6
  clear h1 h2 h3 h4 h5 h6 h7 h8 h9
  obtain ⟨f, hf⟩ : ∃ f, d.failed = f := ⟨_, rfl⟩
  rw [hf] at c6
  cases f with
  | true =>
    have hm : mayF d at' = 5 := by unfold mayF; rw [hf]; rfl
    rw [hm]; clear hm hf
    go_enter Try.func129, Try.ntmps129
    go_wp2
    go_ret
    exact ⟨rfl, rfl⟩
  | false =>
    by_cases hb : at' < 0
    · have hm : mayF d at' = 4 := by unfold mayF; rw [hf, if_neg (by decide), if_pos (.inl hb)]
      have d0 : decide (at' < 0) = true := decide_eq_true hb
      rw [hm]; clear hm hf hb
      go_enter Try.func129, Try.ntmps129
      go_wp2
      go_ret
      exact ⟨rfl, rfl⟩
    · by_cases hc : 52 ≤ at'
      · have hm : mayF d at' = 4 := by unfold mayF; rw [hf, if_neg (by decide), if_pos (.inr hc)]
        have d0 : decide (at' < 0) = false := decide_eq_false hb
        have d1 : decide (52 ≤ at') = true := decide_eq_true hc
        rw [hm]; clear hm hf hb hc
        go_enter Try.func129, Try.ntmps129
        go_wp2
        go_ret
        exact ⟨rfl, rfl⟩
      · have hm : mayF d at' = 0 := by unfold mayF; rw [hf, if_neg (by decide), if_neg (by omega)]
        have d0 : decide (at' < 0) = false := decide_eq_false hb
        have d1 : decide (52 ≤ at') = false := decide_eq_false hc
        rw [hm]; clear hm hf hb hc
        go_enter Try.func129, Try.ntmps129
        go_wp2
        go_ret
        exact ⟨rfl, rfl⟩
set_option maxRecDepth 100000 in
theorem dfailed_any (d : DM) (b : Nat) (g : Option Nat) (w : World) (h : DiskAt w b g d) :
    Calls Try.prog 100 #[.pointer (some ⟨b, 0, none⟩)] w fun e w' => e = .returned (.bool d.failed) ∧ w = w' := by
  obtain ⟨cs, pv, h1, h2, h3, h4, h5, h6, h7, h8, h9⟩ := h
  have c6 := cell_blk h1 h6
  clear h1 h2 h3 h4 h5 h6 h7 h8 h9
  go_enter Try.func100, Try.ntmps100
  go_wp2
  go_ret
  exact ⟨rfl, rfl⟩
/-- What is read: the last one that is pending there; or what stays. -/
def rdTo (d : DM) (a k : Nat) : List UInt8 := (d.pend.take k).foldl (fun b x => if x.1 = a then x.2 else b) (d.sec a)
def rd (d : DM) (a : Nat) : List UInt8 := rdTo d a d.pend.length
theorem rdTo_len {d : DM} {a : Nat} (h : (d.sec a).length = 32) (hp : ∀ x, x ∈ d.pend → x.1 < 52 ∧ x.2.length = 32) : ∀ k, (rdTo d a k).length = 32 := by
  intro k
  unfold rdTo
  have : ∀ (l : List (Nat × List UInt8)) (b : List UInt8), (∀ x, x ∈ l → x.2.length = 32) → b.length = 32 → (l.foldl (fun b x => if x.1 = a then x.2 else b) b).length = 32 := by
    intro l
    induction l with
    | nil => intro b _ hb; exact hb
    | cons x r ih =>
      intro b hl hb
      refine ih _ (fun y hy => hl y (List.mem_cons_of_mem _ hy)) ?_
      show (if x.1 = a then x.2 else b).length = 32
      by_cases e : x.1 = a
      · rw [if_pos e]; exact hl x List.mem_cons_self
      · rw [if_neg e]; exact hb
  exact this _ _ (fun x hx => (hp x (List.mem_of_mem_take hx)).2) h
theorem rdTo_succ {d : DM} {a k : Nat} (hk : k < d.pend.length) : rdTo d a (k + 1) = if (d.pend.getD k (0, [])).1 = a then (d.pend.getD k (0, [])).2 else rdTo d a k := by
  unfold rdTo
  have e : d.pend.take (k + 1) = d.pend.take k ++ [d.pend.getD k (0, [])] := by
    rw [List.take_add_one, List.getElem?_eq_getElem hk]; simp [hk]
  rw [e, List.foldl_append]
  rfl
theorem wvals_length {x : Nat × List UInt8} (h : x.2.length = 32) : (wvals x).length = 33 := by simp [wvals, h]
theorem pvals_get : ∀ (l : List (Nat × List UInt8)) (_ : ∀ x, x ∈ l → x.2.length = 32) (k j : Nat), k < l.length → j < 33 → (pvals l)[k * 33 + j]? = (wvals (l.getD k (0, [])))[j]?
  | [], _, k, j, hk, _ => by simp at hk
  | x :: r, h, k, j, hk, hj => by
    have hx := wvals_length (h x List.mem_cons_self)
    have e : pvals (x :: r) = wvals x ++ pvals r := by simp [pvals]
    rw [e]
    cases k with
    | zero =>
      rw [List.getElem?_append_left (by omega)]
      simp
    | succ k =>
      rw [List.getElem?_append_right (by omega)]
      have := pvals_get r (fun y hy => h y (List.mem_cons_of_mem _ hy)) k j (by simpa using hk) hj
      have e2 : (k + 1) * 33 + j - (wvals x).length = k * 33 + j := by omega
      rw [e2, this]
      simp
theorem inf120 : (Try.prog.info? 120).map (·.size) = some 32 := by kernel_rfl
theorem und120 : Try.prog.underlying 120 = some (.array 32 5) := by kernel_rfl
theorem inf122 : (Try.prog.info? 122).map (·.size) = some 33 := by kernel_rfl
theorem agg_of {P : Program} {T : TypeId} (h : (P.underlying T).map (fun ds => match ds with | .struct _ | .array _ _ => true | _ => false) = some true) : ∃ ds, P.underlying T = some ds ∧ (match ds with | .struct _ | .array _ _ => true | _ => false) = true := by
  cases hu : P.underlying T with
  | none => rw [hu] at h; simp at h
  | some ds => rw [hu] at h; exact ⟨ds, rfl, by simpa using h⟩
theorem und122 : ∃ ds, Try.prog.underlying 122 = some ds ∧ (match ds with | .struct _ | .array _ _ => true | _ => false) = true := agg_of (by kernel_rfl)
section
variable {ops : Array Oper} {Q : Exit → Act → World → Prop} {a : Act} {w : World} {rest : List Oper} {d : Option Tmp} {ty : TypeId} {pos : String} {after : Array Edge}
/-- A write, a sector is loaded out of the midst of a block. -/
theorem wpL_loadW {x : Operand} {g off : Nat} {cs : Array Value} {t : TypeId} {fr : Nat × Nat} (vs : List Value) (hl : vs.length = 33)
    (hx : a.eval x = .pointer (some ⟨g, off, none⟩)) (hg : w.heap[g]? = some (.cells cs t fr)) (hvs : ∀ j, j < 33 → cs[off + j]? = vs[j]?)
    (h : wpList Try.prog ops Q rest (a.put d (.agg vs.toArray)) w) :
    wpList Try.prog ops Q ({ dst := d, op := .load 122 x, type := ty, pos := pos, after := after, guard := none } :: rest) a w := by
  obtain ⟨ds, hu, hd⟩ := und122
  cases ds with
  | struct f => exact wpL_loadAgg vs hu rfl (by rw [hl]; exact inf122) hx hg (fun j hj => hvs j (by omega)) h
  | array n e => exact wpL_loadAgg vs hu rfl (by rw [hl]; exact inf122) hx hg (fun j hj => hvs j (by omega)) h
  | _ => exact absurd hd Bool.false_ne_true
theorem wpL_loadS {x : Operand} {g off : Nat} {cs : Array Value} {t : TypeId} {fr : Nat × Nat} (vs : List Value) (hl : vs.length = 32)
    (hx : a.eval x = .pointer (some ⟨g, off, none⟩)) (hg : w.heap[g]? = some (.cells cs t fr)) (hvs : ∀ j, j < 32 → cs[off + j]? = vs[j]?)
    (h : wpList Try.prog ops Q rest (a.put d (.agg vs.toArray)) w) :
    wpList Try.prog ops Q ({ dst := d, op := .load 120 x, type := ty, pos := pos, after := after, guard := none } :: rest) a w :=
  wpL_loadAgg vs und120 rfl (by rw [hl]; exact inf120) hx hg (fun j hj => hvs j (by omega)) h
end
theorem wvals_one (x : Nat × List UInt8) : ∀ v ∈ wvals x, v.oneCell' = true := by
  intro v hv
  rcases List.mem_cons.1 hv with rfl | hv
  · rfl
  · exact bvs_one _ v hv
end Go.Proofs.Ytoalnkhedebpbaa

/-! (*Disk).Read: what it answers. -/
namespace Go.Proofs.Ytoalnkhedebpbaa
open Go.RowKit

theorem rd_nil {d : DM} (h : d.pend = []) (a : Nat) : rd d a = d.sec a := by unfold rd rdTo; rw [h]; rfl
set_option maxRecDepth 100000 in
set_option maxHeartbeats 800000 in
theorem dread_bad (d : DM) (at' : Int) (b : Nat) (g : Option Nat) (w : World) (h : DiskAt w b g d) (hm : mayF d at' ≠ 0) :
    Calls Try.prog 102 #[.pointer (some ⟨b, 0, none⟩), .int .i64 at'] w fun e w' => e = .returned (.tuple #[.slice none 0 0, .int .i64 (mayF d at')]) ∧ w = w' := by
  have H := Lib.hid h; clear h
  have hb : (mayF d at' != 0) = true := by simpa using hm
  obtain ⟨m, hmm⟩ : ∃ m, m = mayF d at' := ⟨_, rfl⟩
  rw [← hmm] at hb
  have HM := Lib.hid hmm; clear hmm hm
  go_enter Try.func102, Try.ntmps102
  go_wp2_with fail
  refine (dmay_any d at' b g _ H.out).mono ?_
  rintro e w1 ⟨rfl, rfl⟩
  rw [← HM.out]
  go_wp2
  go_ret2
  rw [← HM.out]
  exact ⟨rfl, rfl⟩
/-- The clone of an array's bytes. -/
theorem clone_arr (x : List UInt8) (k n : Nat) (t : TypeId) (fr : Nat × Nat) (w : World) (hk : w.heap[k]? = some (.cells (x.map bv).toArray t fr)) (hx : x.length = n) (hn : n ≤ 1048576) :
    Calls Try.prog 117 #[.slice (some ⟨k, 0, none⟩) n n] w fun e w' => ∃ r, e = .returned r ∧ BytesAt w' r x ∧ Gr w w' := by
  subst hx
  refine clone_some x ⟨k, 0, none⟩ x.length w hn (fun w' g j u hj => ?_)
  rw [addr_add0, Nat.zero_add, cell_of_row w' k _ _ _ _ (g.get hk)]
  simpa using hj
set_option maxRecDepth 100000 in
set_option maxHeartbeats 800000 in
theorem dread_ok (d : DM) (at' : Nat) (b : Nat) (g : Option Nat) (w : World) (h : DiskAt w b g d) (hm : mayF d at' = 0) (hlp : d.pend.length ≤ 1048576) :
    Calls Try.prog 102 #[.pointer (some ⟨b, 0, none⟩), .int .i64 at'] w fun e w' => ∃ r, e = .returned (.tuple #[r, .int .i64 0]) ∧ BytesAt w' r (rd d at') ∧ Gr w w' := by
  have ha : at' < 52 := by
    unfold mayF at hm
    split at hm
    · simp at hm
    · split at hm
      · simp at hm
      · omega
  have H := Lib.hid h
  obtain ⟨cs, pv, h1, h2, h3, h4, h5, h6, h7, h8, h9⟩ := h
  rcases h7.2 with ⟨rfl, hp0⟩ | ⟨gg, cap, cur, rfl, _, hgg, hcap, _, hcs, htk⟩
  · have hp : d.pend = [] := List.eq_nil_of_length_eq_zero hp0
    clear hp0
    have c5 := cell_blk h1 h5
    have hb0 := heap_lt h1
    have HB := Lib.hid h1; clear h1
    have HM := Lib.hid hm; clear hm
    have hl := h3 at' ha
    have H4 := Lib.hid (h4 at' ha); clear h4
    have HR := Lib.hid (rd_nil hp at'); clear hp
    rw [← HR.out] at H4 hl
    obtain ⟨x, hx⟩ : ∃ x, x = rd d at' := ⟨_, rfl⟩
    rw [← hx] at H4 hl ⊢
    have HL := Lib.hid hl
    clear hx hl
    clear h2 h3 h5 h6 h7 h8 h9
    go_enter Try.func102, Try.ntmps102
    go_wp2_with fail
    refine (dmay_any d at' b g _ H.out).mono ?_
    rintro e w1 ⟨rfl, rfl⟩
    rw [HM.out]
    go_wp2_with (first | ((with_reducible apply wpL_loadAgg (vs := x.map bv) und120); rfl; (rw [List.length_map, HL.out]; exact inf120); rfl; exact HB.out; exact fun j hj => H4.out j (by simpa [HL.out] using hj)) | ((with_reducible apply wpL_storeNew (w0 := w) (vs := x.map bv)); rfl; (rw [List.length_map, HL.out]; exact inf120); exact bvs_one x; rfl; rfl; (rw [List.length_map, HL.out]; rfl)))
    refine wp_loop_once ?_
    go_wp2_with fail
    refine (clone_arr x w.heap.size 32 _ _ _ (heap_alloc_new w _) HL.out (by decide)).mono ?_
    rintro e w2 ⟨r, rfl, hr, g2⟩
    go_wp2
    go_ret2
    exact ⟨r, rfl, hr, (Gr.alloc _ _).trans g2⟩
  · have c5 := cell_blk h1 h5
    have hb0 := heap_lt h1
    have hg0 := heap_lt hgg
    obtain ⟨n, hn⟩ : ∃ n, n = d.pend.length := ⟨_, rfl⟩
    have hcur : ∀ k, k < n → ∀ j, j < 33 → cur[k * 33 + j]? = (wvals (d.pend.getD k (0, [])))[j]? := fun k hk j hj => by
      rw [← pvals_get d.pend (fun x hx => (h9 x hx).2) k j (by omega) hj, ← htk, List.getElem?_take, if_pos (by omega)]
      simp
    have hpl : ∀ k, k < n → (d.pend.getD k (0, [])).2.length = 32 ∧ (d.pend.getD k (0, [])).1 < 52 := fun k hk => by
      have : d.pend.getD k (0, []) ∈ d.pend := by
        rw [List.getD_eq_getElem?_getD, List.getElem?_eq_getElem (by omega)]; simp
      exact ⟨(h9 _ this).2, (h9 _ this).1⟩
    have hrl := rdTo_len (h3 at' ha) h9
    have hl := h3 at' ha
    have H4 := Lib.hid (h4 at' ha); clear h4
    rw [← hn] at c5 hlp hcap
    have HB := Lib.hid h1; clear h1
    have HG := Lib.hid hgg; clear hgg
    have HM := Lib.hid hm; clear hm
    have HC := Lib.hid hcur; clear hcur
    have HPL := Lib.hid hpl; clear hpl
    have HRL := Lib.hid hrl; clear hrl
    have HL := Lib.hid hl; clear hl
    have HN := Lib.hid hn; clear hn
    clear h2 h3 h5 h6 h7 h8 h9 hcs htk
    go_enter Try.func102, Try.ntmps102
    go_wp2_with fail
    refine (dmay_any d at' b g _ H.out).mono ?_
    rintro e w1 ⟨rfl, rfl⟩
    rw [HM.out]
    go_wp2_with (first | ((with_reducible apply wpL_loadS (vs := (d.sec at').map bv)); (rw [List.length_map]; exact HL.out); rfl; exact HB.out; exact H4.out) | ((with_reducible apply wpL_storeNew (w0 := w) (vs := (d.sec at').map bv)); rfl; (rw [List.length_map, HL.out]; exact inf120); exact bvs_one _; rfl; rfl; (rw [List.length_map, HL.out]; rfl)))
    have hV : (w.alloc (.cells ((rdTo d at' 0).map bv).toArray 120)).heap[w.heap.size]? = some (.cells ((rdTo d at' 0).map bv).toArray 120 (0, 0)) := heap_alloc_new w _
    have HV := Lib.hid hV; clear hV
    go_loopw [27] (fun i wr => ∃ k : Nat, k ≤ n ∧ i = .int .i64 k ∧ Hid (wr.heap[w.heap.size]? = some (.cells ((rdTo d at' k).map bv).toArray 120 (0, 0))) ∧ Gr w wr) (fun i _ => n - (intOf i).toNat)
    case atStart => exact ⟨0, by omega, rfl, HV, Gr.alloc _ _⟩
    case round =>
      obtain ⟨k, hk, rfl, hvar, hg⟩ := hrel
      have hsz := hg.size
      have hvlt := heap_lt hvar.out
      by_cases hlt : k < n
      · obtain ⟨⟨p, x⟩, hpx⟩ : ∃ px : Nat × List UInt8, px = d.pend.getD k (0, []) := ⟨_, rfl⟩
        have hpl := HPL.out k hlt
        have hck := HC.out k hlt
        rw [← hpx] at hpl hck
        have hs := rdTo_succ (d := d) (a := at') (k := k) (by have := HN.out; omega)
        rw [← hpx] at hs
        obtain ⟨hxl, hp52⟩ := hpl
        simp only at hxl hp52 hs
        have HXL := Lib.hid hxl; clear hxl
        have HCK := Lib.hid hck; clear hck
        have HS := Lib.hid hs; clear hs
        have HGr := Lib.hid (hg.get HG.out)
        clear hpx
        have hwl := wvals_length (x := (p, x)) HXL.out
        obtain ⟨wv, hwv⟩ : ∃ wv, wv = wvals (p, x) := ⟨_, rfl⟩
        have hw1 := wvals_one (p, x)
        rw [← hwv] at hwl hw1 HCK
        have HWL := Lib.hid hwl; clear hwl
        have HWV := Lib.hid hwv; clear hwv
        have HW1 := Lib.hid hw1; clear hw1
        have hl0 : (wr.alloc (.cells wv.toArray 122)).cell? ⟨wr.heap.size, 0, none⟩ = some (.int .i64 p) := by
          rw [cell_of_row _ _ _ _ _ _ (heap_alloc_new wr _), HWV.out]; rfl
        have hl1 : ∀ j, j < 32 → wv.toArray[1 + j]? = (x.map bv)[j]? := fun j _ => by rw [HWV.out, Nat.add_comm]; simp [wvals]
        have HL1 := Lib.hid hl1; clear hl1
        by_cases hpa : p = at'
        · have hd : ((p : Int) == (at' : Int)) = true := by rw [beq_iff_eq]; omega
          rw [if_pos hpa] at HS
          clear hpa
          go_wp2_with (first | ((with_reducible apply wpL_loadW (vs := wv)); exact HWL.out; rfl; exact HGr.out; exact HCK.out) | ((with_reducible apply wpL_storeNew (w0 := wr) (vs := wv)); rfl; (rw [HWL.out]; exact inf122); exact HW1.out; rfl; rfl; (rw [HWL.out]; rfl)) | ((with_reducible apply wpL_loadS (vs := x.map bv)); (rw [List.length_map]; exact HXL.out); rfl; exact heap_alloc_new wr _; exact HL1.out) | ((with_reducible apply wpL_storeAll (vs := x.map bv)); (rw [List.length_map, HXL.out]; exact inf120); exact bvs_one x; rfl; rfl; exact heap_alloc_lt hvar.out _; (simp [HRL.out, HXL.out])))
          go_roundw
          case rel =>
            refine ⟨k + 1, by omega, by go_num, Lib.hid ?_, below_putB (hg.trans (Gr.alloc _ _)) (Nat.le_refl _) _⟩
            rw [HS.out]
            exact putB_get_self (by simp; omega) _
          case measure => simp [intOf]; omega
        · have hd : ((p : Int) == (at' : Int)) = false := by rw [beq_eq_false_iff_ne]; omega
          rw [if_neg hpa] at HS
          clear hpa
          go_wp2_with (first | ((with_reducible apply wpL_loadW (vs := wv)); exact HWL.out; rfl; exact HGr.out; exact HCK.out) | ((with_reducible apply wpL_storeNew (w0 := wr) (vs := wv)); rfl; (rw [HWL.out]; exact inf122); exact HW1.out; rfl; rfl; (rw [HWL.out]; rfl)) | ((with_reducible apply wpL_loadS (vs := x.map bv)); (rw [List.length_map]; exact HXL.out); rfl; exact heap_alloc_new wr _; exact HL1.out) | ((with_reducible apply wpL_storeAll (vs := x.map bv)); (rw [List.length_map, HXL.out]; exact inf120); exact bvs_one x; rfl; rfl; exact heap_alloc_lt hvar.out _; (simp [HRL.out, HXL.out])))
          go_roundw
          case rel =>
            refine ⟨k + 1, by omega, by go_num, Lib.hid ?_, hg.trans (Gr.alloc _ _)⟩
            rw [HS.out]
            exact heap_alloc_lt hvar.out _
          case measure => simp [intOf]; omega
      · obtain rfl : k = n := by omega
        have hrd : rdTo d at' k = rd d at' := by unfold rd; rw [← HN.out]
        rw [hrd] at hvar
        have hrl := HRL.out k
        rw [hrd] at hrl
        have HR := Lib.hid hrl; clear hrl hrd
        go_wp2_with fail
        refine (clone_arr (rd d at') w.heap.size 32 _ _ _ hvar.out HR.out (by decide)).mono ?_
        rintro e w2 ⟨r, rfl, hr, g2⟩
        go_wp2
        go_ret2
        exact ⟨r, rfl, hr, hg.trans g2⟩
end Go.Proofs.Ytoalnkhedebpbaa

/-! A bench in memory: its blocks, what changes when one of its disks does. -/
namespace Go.Proofs.Ytoalnkhedebpbaa
open Go.RowKit

structure BM where
  ds : List DM
  writes : Int
  left : Int
  down : Bool
def dm0 : DM := ⟨fun _ => zeros 32, [], false⟩
/-- A disk of a bench. -/
def BM.d (m : BM) (i : Nat) : DM := m.ds.getD i dm0
def ptr (b : Nat) : Value := .pointer (some ⟨b, 0, none⟩)
def bty (t : TypeId) : Prop := t = 88 ∨ t = 108 ∨ t = 128 ∨ t = 122
/-- All blocks but those of F are as they were. -/
structure Keep (F : Nat → Prop) (w w' : World) : Prop where
  os : w'.os = w.os
  tape : w'.tape = w.tape
  output : w'.output = w.output
  size : w.heap.size ≤ w'.heap.size
  block : ∀ k, k < w.heap.size → ¬ F k → w'.heap[k]? = w.heap[k]?
/-- .. and F has grown by new blocks at most. -/
def St (F : Nat → Prop) (w : World) (F' : Nat → Prop) (w' : World) : Prop := Keep F w w' ∧ ∀ k, F' k → F k ∨ w.heap.size ≤ k
theorem Keep.gr {F : Nat → Prop} {w w' : World} (h : Gr w w') : Keep F w w' := ⟨h.os, h.tape, h.output, h.size, fun k hk _ => h.block k hk⟩
theorem St.refl (F : Nat → Prop) (w : World) : St F w F w := ⟨Keep.gr (Gr.refl w), fun _ h => .inl h⟩
theorem St.gr {F : Nat → Prop} {w w' : World} (h : Gr w w') : St F w F w' := ⟨Keep.gr h, fun _ h => .inl h⟩
theorem St.trans {F F' F'' : Nat → Prop} {w w' w'' : World} (h : St F w F' w') (k : St F' w' F'' w'') : St F w F'' w'' := by
  refine ⟨⟨k.1.os.trans h.1.os, k.1.tape.trans h.1.tape, k.1.output.trans h.1.output, Nat.le_trans h.1.size k.1.size, fun j hj hf => ?_⟩, fun j hj => ?_⟩
  · rw [k.1.block j (Nat.lt_of_lt_of_le hj h.1.size) (fun hf' => ?_), h.1.block j hj hf]
    rcases h.2 j hf' with e | e
    · exact hf e
    · omega
  · rcases k.2 j hj with e | e
    · exact h.2 j e
    · exact .inr (Nat.le_trans h.1.size e)
/-- Since a world in which none of F was. -/
theorem St.since {F F' : Nat → Prop} {w0 w w' : World} (h : St F w F' w') (g : Gr w0 w) (hF : ∀ k, F k → w0.heap.size ≤ k) : Gr w0 w' ∧ ∀ k, F' k → w0.heap.size ≤ k := by
  refine ⟨⟨h.1.os.trans g.os, h.1.tape.trans g.tape, h.1.output.trans g.output, Nat.le_trans g.size h.1.size, fun k hk => ?_⟩, fun k hk => ?_⟩
  · rw [h.1.block k (Nat.lt_of_lt_of_le hk g.size) (fun hf => by have := hF k hf; omega), g.block k hk]
  · rcases h.2 k hk with e | e
    · exact hF k e
    · exact Nat.le_trans g.size e
/-- A bench at block bb, whose blocks are among F. -/
def BenchAt (w : World) (F : Nat → Prop) (bb : Nat) (m : BM) : Prop :=
  ∃ (lv : Value) (bs : List Nat) (gs : List (Option Nat)),
    w.heap[bb]? = some (.cells #[.int .i64 m.writes, .int .i64 m.left, .bool m.down, lv] 88 (0, 0)) ∧
    w.ownsRow 0 108 1 lv m.ds.length (bs.map ptr) ∧ bs.length = m.ds.length ∧ gs.length = m.ds.length ∧
    (∀ i, i < m.ds.length → DiskAt w (bs.getD i 0) (gs.getD i none) (m.ds.getD i dm0)) ∧
    bs.Nodup ∧ (∀ i j, i < m.ds.length → j < m.ds.length → i ≠ j → ∀ x, gs.getD i none = some x → gs.getD j none ≠ some x) ∧
    F bb ∧ (∀ x, lv.ownBlock = some x → F x) ∧ (∀ i, i < m.ds.length → F (bs.getD i 0)) ∧ (∀ i, i < m.ds.length → ∀ x, gs.getD i none = some x → F x) ∧
    ∀ k, F k → ∃ cs t fr, w.heap[k]? = some (.cells cs t fr) ∧ bty t
theorem BenchAt.gr {w w' : World} {F : Nat → Prop} {bb : Nat} {m : BM} (h : BenchAt w F bb m) (g : Gr w w') : BenchAt w' F bb m := by
  obtain ⟨lv, bs, gs, h1, h2, h3, h4, h5, h6, h7, h8, h9, h10, h11, h12⟩ := h
  exact ⟨lv, bs, gs, g.get h1, own_gr h2 g, h3, h4, fun i hi => (h5 i hi).gr g, h6, h7, h8, h9, h10, h11, fun k hk => by
    obtain ⟨cs, t, fr, e, hb⟩ := h12 k hk
    exact ⟨cs, t, fr, g.get e, hb⟩⟩
theorem BenchAt.typed {w : World} {F : Nat → Prop} {bb : Nat} {m : BM} (h : BenchAt w F bb m) : ∀ k, F k → ∃ cs t fr, w.heap[k]? = some (.cells cs t fr) ∧ bty t := by
  obtain ⟨lv, bs, gs, h1, h2, h3, h4, h5, h6, h7, h8, h9, h10, h11, h12⟩ := h
  exact h12
theorem BenchAt.lt {w : World} {F : Nat → Prop} {bb : Nat} {m : BM} (h : BenchAt w F bb m) : ∀ k, F k → k < w.heap.size := fun k hk => by
  obtain ⟨cs, t, fr, e, _⟩ := h.typed k hk
  exact heap_lt e
/-- What reads as a row of another type stays. -/
theorem SlAt.keep {w w' : World} {F : Nat → Prop} {E : TypeId} {v : Value} {vs : List Value} (h : SlAt w E v vs) (k : Keep F w w') (ht : ∀ k, F k → ∃ cs t fr, w.heap[k]? = some (.cells cs t fr) ∧ bty t) (hne : ¬ bty E) : SlAt w' E v vs := by
  rcases h with h | ⟨b, off, cap, cs, fr, hv, hb, hc, hl⟩
  · exact .inl h
  · refine .inr ⟨b, off, cap, cs, fr, hv, ?_, hc, hl⟩
    rw [k.block b (heap_lt hb) (fun hf => ?_)]
    · exact hb
    · obtain ⟨cs', t, fr', e, hb'⟩ := ht b hf
      rw [hb] at e
      injection e with e
      injection e with _ e2 _
      exact hne (e2 ▸ hb')
theorem bty_u8 : ¬ bty 5 := by unfold bty; decide
theorem bty_rows : ¬ bty 43 := by unfold bty; decide
theorem bty_int : ¬ bty 3 := by unfold bty; decide
theorem bty_bool : ¬ bty 4 := by unfold bty; decide
theorem BytesAt.st {w w' : World} {F F' : Nat → Prop} {bb : Nat} {m : BM} {v : Value} {x : List UInt8} (h : BytesAt w v x) (b : BenchAt w F bb m) (k : St F w F' w') : BytesAt w' v x := SlAt.keep h k.1 b.typed bty_u8
theorem RowsAt.st {w w' : World} {F F' : Nat → Prop} {bb : Nat} {m : BM} {v : Value} {x : List (List UInt8)} (h : RowsAt w v x) (b : BenchAt w F bb m) (k : St F w F' w') : RowsAt w' v x := by
  obtain ⟨vs, h1, h2, h3⟩ := h
  exact ⟨vs, SlAt.keep h1 k.1 b.typed bty_rows, h2, fun i hi => (h3 i hi).st b k⟩
/-- One disk has changed. -/
structure DStep (w : World) (b : Nat) (g : Option Nat) (w' : World) (g' : Option Nat) : Prop where
  os : w'.os = w.os
  tape : w'.tape = w.tape
  output : w'.output = w.output
  size : w.heap.size ≤ w'.heap.size
  block : ∀ k, k < w.heap.size → k ≠ b → g ≠ some k → w'.heap[k]? = w.heap[k]?
  grown : g' = g ∨ ∀ x, g' = some x → w.heap.size ≤ x
theorem DiskAt.keep {w w' : World} {F : Nat → Prop} {b : Nat} {g : Option Nat} {d : DM} (h : DiskAt w b g d) (k : Keep F w w') (hb : ¬ F b) (hg : ∀ x, g = some x → ¬ F x) : DiskAt w' b g d := by
  obtain ⟨cs, pv, h1, h2, h3, h4, h5, h6, h7, h8, h9⟩ := h
  refine ⟨cs, pv, (k.block b (heap_lt h1) hb).trans h1, h2, h3, h4, h5, h6, ?_, h8, h9⟩
  refine ⟨h7.1, ?_⟩
  rcases h7.2 with e | ⟨gg, cap, cur, rfl, e1, e2, r⟩
  · exact .inl e
  · exact .inr ⟨gg, cap, cur, rfl, e1, (k.block gg (heap_lt e2) (hg gg h8.1.symm)).trans e2, r⟩
theorem own_keep {w w' : World} {F : Nat → Prop} {base n size : Nat} {E : TypeId} {v : Value} {xs : List Value} (h : w.ownsRow base E size v n xs) (k : Keep F w w') (hg : ∀ x, v.ownBlock = some x → ¬ F x) : w'.ownsRow base E size v n xs := by
  refine ⟨h.1, ?_⟩
  rcases h.2 with e | ⟨gg, cap, cur, rfl, e1, e2, r⟩
  · exact .inl e
  · exact .inr ⟨gg, cap, cur, rfl, e1, (k.block gg (heap_lt e2) (hg gg rfl)).trans e2, r⟩
theorem DiskAt.blk {w : World} {b : Nat} {g : Option Nat} {d : DM} (h : DiskAt w b g d) : ∃ cs, w.heap[b]? = some (.cells cs 128 (0, 0)) := by
  obtain ⟨cs, pv, h1, _⟩ := h
  exact ⟨cs, h1⟩
theorem DiskAt.pblk {w : World} {b : Nat} {g : Option Nat} {d : DM} (h : DiskAt w b g d) : ∀ x, g = some x → ∃ cs, w.heap[x]? = some (.cells cs 122 (0, 0)) := by
  obtain ⟨cs, pv, h1, h2, h3, h4, h5, h6, h7, h8, h9⟩ := h
  intro x hx
  replace h8 := h8.1
  rcases h7.2 with ⟨rfl, _⟩ | ⟨gg, cap, cur, rfl, e1, e2, r⟩
  · rw [hx] at h8; simp [Value.ownBlock] at h8
  · rw [hx] at h8
    have := Option.some.inj h8
    subst this
    exact ⟨cur, e2⟩
theorem getD_set_self {α : Type} {l : List α} {i : Nat} {x d : α} (h : i < l.length) : (l.set i x).getD i d = x := by simp [h]
theorem getD_set_ne {α : Type} {l : List α} {i j : Nat} {x d : α} (h : i ≠ j) : (l.set i x).getD j d = l.getD j d := by simp [List.getElem?_set_ne h]
theorem type_ne {w : World} {a b : Nat} {cs cs' : Array Value} {t t' : TypeId} {fr fr' : Nat × Nat} (h : w.heap[a]? = some (.cells cs t fr)) (h' : w.heap[b]? = some (.cells cs' t' fr')) (hne : t ≠ t') : a ≠ b := by
  intro e
  subst e
  rw [h] at h'
  injection h' with h'
  injection h' with _ e _
  exact hne e
/-- A bench one of whose disks has changed. -/
theorem BenchAt.disk {w : World} {F : Nat → Prop} {bb : Nat} {m : BM} (h : BenchAt w F bb m) : ∃ (lv : Value) (bs : List Nat) (gs : List (Option Nat)), w.heap[bb]? = some (.cells #[.int .i64 m.writes, .int .i64 m.left, .bool m.down, lv] 88 (0, 0)) ∧ w.ownsRow 0 108 1 lv m.ds.length (bs.map ptr) ∧ bs.length = m.ds.length ∧
    ∀ i, i < m.ds.length → DiskAt w (bs.getD i 0) (gs.getD i none) (m.ds.getD i dm0) ∧
      ∀ (w' : World) (g' : Option Nat) (d' : DM), DStep w (bs.getD i 0) (gs.getD i none) w' g' → DiskAt w' (bs.getD i 0) g' d' → ∃ F', BenchAt w' F' bb { m with ds := m.ds.set i d' } ∧ St F w F' w' := by
  obtain ⟨lv, bs, gs, h1, h2, h3, h4, h5, h6, h7, h8, h9, h10, h11, h12⟩ := h
  refine ⟨lv, bs, gs, h1, h2, h3, fun i hi => ⟨h5 i hi, fun w' g' d' st hd => ?_⟩⟩
  have hbi := (h5 i hi).blk
  have hgi := (h5 i hi).pblk
  obtain ⟨csi, hbi⟩ := hbi
  have same : ∀ (k : Nat) (cs : Array Value) (t : TypeId) (fr : Nat × Nat), w.heap[k]? = some (Obj.cells cs t fr) → k ≠ bs.getD i 0 → gs.getD i none ≠ some k → w'.heap[k]? = some (Obj.cells cs t fr) := fun k cs t fr hk a b => (st.block k (heap_lt hk) a b).trans hk
  have other : ∀ (k : Nat) (cs : Array Value) (t : TypeId) (fr : Nat × Nat), w.heap[k]? = some (Obj.cells cs t fr) → t ≠ 128 → t ≠ 122 → w'.heap[k]? = some (Obj.cells cs t fr) := fun k cs t fr hk a b => by
    refine same k cs t fr hk (type_ne hk hbi a) (fun e => ?_)
    obtain ⟨cs', e'⟩ := hgi k e
    exact type_ne hk e' b rfl
  refine ⟨fun k => (F k ∧ gs.getD i none ≠ some k) ∨ g' = some k, ⟨lv, bs, gs.set i g', ?_, ?_, by simpa using h3, by simpa using h4, ?_, h6, ?_, ?_, ?_, ?_, ?_, ?_⟩, ⟨⟨st.os, st.tape, st.output, st.size, fun k hk hf => ?_⟩, ?_⟩⟩
  · exact other bb _ _ _ h1 (by decide) (by decide)
  · refine ⟨by simpa using h2.1, ?_⟩
    rcases h2.2 with ⟨e1, e2⟩ | ⟨gg, cap, cur, rfl, e1, e2, r⟩
    · exact .inl ⟨e1, by simpa using e2⟩
    · refine .inr ⟨gg, cap, cur, by simp, e1, other gg _ _ _ e2 (by decide) (by decide), by simpa using r⟩
  · intro j hj
    have hj' : j < m.ds.length := by simpa using hj
    by_cases e : i = j
    · subst e
      rw [getD_set_self (by omega), getD_set_self hi]
      exact hd
    · rw [getD_set_ne e, getD_set_ne e]
      obtain ⟨cs, pv, k1, k2, k3, k4, k5, k6, k7, k8, k9⟩ := h5 j hj'
      have hne : bs.getD j 0 ≠ bs.getD i 0 := fun eq => by
        have a1 : bs.getD j 0 = bs[j]'(by omega) := by simp [show j < bs.length from by omega]
        have a2 : bs.getD i 0 = bs[i]'(by omega) := by simp [show i < bs.length from by omega]
        rw [a1, a2] at eq
        exact e ((List.getElem_inj h6).1 eq).symm
      refine ⟨cs, pv, same _ _ _ _ k1 hne (fun eq => ?_), k2, k3, k4, k5, k6, ⟨k7.1, ?_⟩, k8, k9⟩
      · obtain ⟨cs', e'⟩ := hgi _ eq
        exact type_ne k1 e' (by decide) rfl
      · rcases k7.2 with e0 | ⟨gg, cap, cur, rfl, e1, e2, r⟩
        · exact .inl e0
        · refine .inr ⟨gg, cap, cur, rfl, e1, same _ _ _ _ e2 (type_ne e2 hbi (by decide)) (fun eq => h7 i j hi hj' e gg eq k8.1.symm), r⟩
  · intro j k hj hk hjk x hx hx'
    have hj' : j < m.ds.length := by simpa using hj
    have hk' : k < m.ds.length := by simpa using hk
    have fresh : ∀ j, j < m.ds.length → i ≠ j → ∀ x, g' = some x → gs.getD j none ≠ some x := fun j hj e x hx hx' => by
      rcases st.grown with eg | eg
      · exact h7 i j hi hj e x (eg ▸ hx) hx'
      · obtain ⟨cs, e'⟩ := (h5 j hj).pblk x hx'
        have := heap_lt e'
        have := eg x hx
        omega
    by_cases ej : i = j
    · subst ej
      rw [getD_set_self (by omega)] at hx
      rw [getD_set_ne hjk] at hx'
      exact fresh k hk' hjk x hx hx'
    · rw [getD_set_ne ej] at hx
      by_cases ek : i = k
      · subst ek
        rw [getD_set_self (by omega)] at hx'
        exact fresh j hj' ej x hx' hx
      · rw [getD_set_ne ek] at hx'
        exact h7 j k hj' hk' hjk x hx hx'
  · refine .inl ⟨h8, fun eq => ?_⟩
    obtain ⟨cs', e'⟩ := hgi _ eq
    exact type_ne h1 e' (by decide) rfl
  · intro x hx
    refine .inl ⟨h9 x hx, fun eq => ?_⟩
    obtain ⟨cs', e'⟩ := hgi _ eq
    obtain ⟨cs, fr, e2⟩ := own_row h2 x hx
    exact type_ne e2 e' (by decide) rfl
  · intro j hj
    have hj' : j < m.ds.length := by simpa using hj
    refine .inl ⟨h10 j hj', fun eq => ?_⟩
    obtain ⟨cs', e'⟩ := hgi _ eq
    obtain ⟨cs, e2⟩ := (h5 j hj').blk
    exact type_ne e2 e' (by decide) rfl
  · intro j hj x hx
    have hj' : j < m.ds.length := by simpa using hj
    by_cases e : i = j
    · subst e
      rw [getD_set_self (by omega)] at hx
      exact .inr hx
    · rw [getD_set_ne e] at hx
      exact .inl ⟨h11 j hj' x hx, fun eq => h7 i j hi hj' e x eq hx⟩
  · intro k hk
    rcases hk with ⟨hk, hn⟩ | hk
    · obtain ⟨cs, t, fr, e, hb⟩ := h12 k hk
      by_cases eb : k = bs.getD i 0
      · obtain ⟨cs', e'⟩ := hd.blk
        rw [eb]
        exact ⟨cs', _, _, e', .inr (.inr (.inl rfl))⟩
      · exact ⟨cs, t, fr, same k cs t fr e eb hn, hb⟩
    · obtain ⟨cs', e'⟩ := hd.pblk k hk
      exact ⟨cs', _, _, e', .inr (.inr (.inr rfl))⟩
  · exact st.block k hk (fun e => hf (e ▸ h10 i hi)) (fun e => hf (h11 i hi k e))
  · intro k hk
    rcases hk with ⟨hk, _⟩ | hk
    · exact .inl hk
    · rcases st.grown with eg | eg
      · exact .inl (h11 i hi k (eg ▸ hk))
      · exact .inr (eg k hk)
/-- The cells by which a bench is read. -/
theorem BenchAt.at {w : World} {F : Nat → Prop} {bb : Nat} {m : BM} (h : BenchAt w F bb m) {i : Nat} (hi : i < m.ds.length) : ∃ (lb cap b : Nat) (g : Option Nat), w.cell? ⟨bb, 3, none⟩ = some (.slice (some ⟨lb, 0, none⟩) m.ds.length cap) ∧
    w.cell? ⟨lb, i, none⟩ = some (.pointer (some ⟨b, 0, none⟩)) ∧ DiskAt w b g (m.d i) ∧ ∀ (w' : World) (g' : Option Nat) (d' : DM), DStep w b g w' g' → DiskAt w' b g' d' → ∃ F', BenchAt w' F' bb { m with ds := m.ds.set i d' } ∧ St F w F' w' := by
  obtain ⟨lv, bs, gs, h1, h2, h3, h4⟩ := h.disk
  rcases h2.2 with ⟨_, h0⟩ | ⟨lb, cap, cur, rfl, _, e2, e3, e4, e5, e6⟩
  · omega
  · refine ⟨lb, cap, bs.getD i 0, gs.getD i none, cell_blk h1 rfl, ?_, (h4 i hi).1, (h4 i hi).2⟩
    rw [cell_of_row w lb _ cur _ _ e2]
    have e : cur[i]? = (cur.toList.take (m.ds.length * 1))[i]? := by
      rw [List.getElem?_take, if_pos (by omega)]; simp
    rw [e, e6]
    simp [ptr, show i < bs.length from by omega]
theorem BenchAt.head {w : World} {F : Nat → Prop} {bb : Nat} {m : BM} (h : BenchAt w F bb m) : ∃ a cap, w.cell? ⟨bb, 3, none⟩ = some (.slice a m.ds.length cap) ∧ w.cell? ⟨bb, 2, none⟩ = some (.bool m.down) ∧ w.cell? ⟨bb, 1, none⟩ = some (.int .i64 m.left) ∧ w.cell? ⟨bb, 0, none⟩ = some (.int .i64 m.writes) := by
  obtain ⟨lv, bs, gs, h1, h2, h3, h4⟩ := h.disk
  rcases h2.2 with ⟨rfl, h0⟩ | ⟨lb, cap, cur, rfl, _⟩
  · rw [h0]
    exact ⟨none, 0, cell_blk h1 rfl, cell_blk h1 rfl, cell_blk h1 rfl, cell_blk h1 rfl⟩
  · exact ⟨_, cap, cell_blk h1 rfl, cell_blk h1 rfl, cell_blk h1 rfl, cell_blk h1 rfl⟩
end Go.Proofs.Ytoalnkhedebpbaa

/-! bench: Len, is, may, Failed, Read: what they answer. -/
namespace Go.Proofs.Ytoalnkhedebpbaa
open Go.RowKit

/-- A pointer to a bench. -/
abbrev bp (bb : Nat) : Value := .pointer (some ⟨bb, 0, none⟩)
def isB (m : BM) (d : Int) : Bool := decide (0 ≤ d) && decide (d < m.ds.length)
def mayB (m : BM) (d : Int) : Int := if isB m d then (if m.down then 6 else 0) else 1
set_option maxRecDepth 100000 in
theorem blen_any (m : BM) (F : Nat → Prop) (bb : Nat) (w : World) (h : BenchAt w F bb m) :
    Calls Try.prog 85 #[bp bb] w fun e w' => e = .returned (.int .i64 m.ds.length) ∧ w = w' := by
  obtain ⟨a, cap, c3, _⟩ := h.head
  clear h
  go_enter Try.func85, Try.ntmps85
  go_wp2
  go_ret
  exact ⟨rfl, rfl⟩
set_option maxRecDepth 100000 in
theorem is_any (m : BM) (F : Nat → Prop) (bb : Nat) (d : Int) (w : World) (h : BenchAt w F bb m) :
    Calls Try.prog 81 #[bp bb, .int .i64 d] w fun e w' => e = .returned (.bool (isB m d)) ∧ w = w' := by
  obtain ⟨a, cap, c3, _⟩ := h.head
  clear h
  by_cases h0 : 0 ≤ d
  · have hm : isB m d = decide (d < m.ds.length) := by unfold isB; rw [decide_eq_true h0]; rfl
    rw [hm]
    have d0 : decide (0 ≤ d) = true := decide_eq_true h0
    clear h0 hm
    go_enter Try.func81, Try.ntmps81
    go_wp2
    go_ret
    exact ⟨rfl, rfl⟩
  · have hm : isB m d = false := by unfold isB; rw [decide_eq_false h0]; rfl
    rw [hm]
    have d0 : decide (0 ≤ d) = false := decide_eq_false h0
    clear h0 hm
    go_enter Try.func81, Try.ntmps81
    go_wp2
    go_ret
    exact ⟨rfl, rfl⟩
set_option maxRecDepth 100000 in
theorem bmay_any (m : BM) (F : Nat → Prop) (bb : Nat) (d : Int) (w : World) (h : BenchAt w F bb m) :
    Calls Try.prog 101 #[bp bb, .int .i64 d] w fun e w' => e = .returned (.int .i64 (mayB m d)) ∧ w = w' := by
  have H := Lib.hid h
  obtain ⟨a, cap, c3, c2, _⟩ := h.head
  clear h
  by_cases hi : isB m d = true
  · cases hd : m.down
    · have hm : mayB m d = 0 := by unfold mayB; rw [hi, hd]; rfl
      rw [hd] at c2
      rw [hm]; clear hm hd
      have HI := Lib.hid hi; clear hi
      go_enter Try.func101, Try.ntmps101
      go_wp2_with fail
      refine (is_any m F bb d _ H.out).mono ?_
      rintro e w1 ⟨rfl, rfl⟩
      rw [HI.out]
      go_wp2
      go_ret
      exact ⟨rfl, rfl⟩
    · have hm : mayB m d = 6 := by unfold mayB; rw [hi, hd]; rfl
      rw [hd] at c2
      rw [hm]; clear hm hd
      have HI := Lib.hid hi; clear hi
      go_enter Try.func101, Try.ntmps101
      go_wp2_with fail
      refine (is_any m F bb d _ H.out).mono ?_
      rintro e w1 ⟨rfl, rfl⟩
      rw [HI.out]
      go_wp2
      go_ret
      exact ⟨rfl, rfl⟩
  · have hi' : isB m d = false := by simpa using hi
    have hm : mayB m d = 1 := by unfold mayB; rw [hi']; rfl
    rw [hm]; clear hm hi
    have HI := Lib.hid hi'; clear hi'
    go_enter Try.func101, Try.ntmps101
    go_wp2_with fail
    refine (is_any m F bb d _ H.out).mono ?_
    rintro e w1 ⟨rfl, rfl⟩
    rw [HI.out]
    go_wp2
    go_ret
    exact ⟨rfl, rfl⟩
set_option maxRecDepth 100000 in
set_option maxHeartbeats 400000 in
theorem bfailed_any (m : BM) (F : Nat → Prop) (bb i : Nat) (w : World) (h : BenchAt w F bb m) :
    Calls Try.prog 59 #[bp bb, .int .i64 i] w fun e w' => e = .returned (.bool (decide (i < m.ds.length) && (m.d i).failed)) ∧ w = w' := by
  have H := Lib.hid h
  by_cases hi : i < m.ds.length
  · have his : isB m i = true := by unfold isB; simp [hi]
    have hr : (decide (i < m.ds.length) && (m.d i).failed) = (m.d i).failed := by simp [hi]
    rw [hr]; clear hr
    obtain ⟨lb, cap, b, g, c3, ci, hd, _⟩ := h.at hi
    obtain ⟨x, hx⟩ : ∃ x, x = m.d i := ⟨_, rfl⟩
    rw [← hx] at hd ⊢
    clear hx
    have HD := Lib.hid hd
    have HI := Lib.hid his
    clear h his hd
    go_enter Try.func59, Try.ntmps59
    go_wp2_with fail
    refine (is_any m F bb i _ H.out).mono ?_
    rintro e w1 ⟨rfl, rfl⟩
    rw [HI.out]
    go_wp2_with fail
    refine (dfailed_any _ b g _ HD.out).mono ?_
    rintro e w1 ⟨rfl, rfl⟩
    go_wp2
    go_ret
    exact ⟨rfl, rfl⟩
  · have his : isB m i = false := by unfold isB; simp [hi]
    have hr : (decide (i < m.ds.length) && (m.d i).failed) = false := by simp [hi]
    rw [hr]; clear hr
    have HI := Lib.hid his
    clear h his hi
    go_enter Try.func59, Try.ntmps59
    go_wp2_with fail
    refine (is_any m F bb i _ H.out).mono ?_
    rintro e w1 ⟨rfl, rfl⟩
    rw [HI.out]
    go_wp2
    go_ret
    exact ⟨rfl, rfl⟩
/-- What stands against a read or a write of a disk. -/
def rwE (m : BM) (i : Nat) (at' : Int) : Int := if mayB m i = 0 then mayF (m.d i) at' else mayB m i
set_option maxRecDepth 100000 in
set_option maxHeartbeats 400000 in
theorem bread_any (m : BM) (F : Nat → Prop) (bb i at' : Nat) (w : World) (h : BenchAt w F bb m) (hp : ∀ j, (m.d j).pend.length ≤ 1048576) :
    Calls Try.prog 60 #[bp bb, .int .i64 i, .int .i64 at'] w fun e w' => ∃ r, e = .returned (.tuple #[r, .int .i64 (rwE m i at')]) ∧ (rwE m i at' ≠ 0 → r = .slice none 0 0) ∧ (rwE m i at' = 0 → BytesAt w' r (rd (m.d i) at')) ∧ Gr w w' := by
  have H := Lib.hid h
  by_cases hm : mayB m i = 0
  · have hi : i < m.ds.length := by
      unfold mayB isB at hm
      by_cases hi : i < m.ds.length
      · exact hi
      · simp [hi] at hm
    have he : rwE m i at' = mayF (m.d i) at' := by unfold rwE; rw [if_pos hm]
    rw [he]
    obtain ⟨lb, cap, b, g, c3, ci, hd, _⟩ := h.at hi
    replace hp := hp i
    clear he
    obtain ⟨x, hx⟩ : ∃ x, x = m.d i := ⟨_, rfl⟩
    rw [← hx] at hd hp ⊢
    clear hx
    have HD := Lib.hid hd
    have HM := Lib.hid hm
    have HP := Lib.hid hp
    clear h hm hd hp
    by_cases hf : mayF x at' = 0
    · rw [hf]
      have HF := Lib.hid hf; clear hf
      go_enter Try.func60, Try.ntmps60
      go_wp2_with fail
      refine (bmay_any m F bb i _ H.out).mono ?_
      rintro e w1 ⟨rfl, rfl⟩
      rw [HM.out]
      go_wp2_with fail
      refine (dread_ok _ at' b g _ HD.out HF.out HP.out).mono ?_
      rintro e w1 ⟨r, rfl, hr, hg⟩
      go_wp2
      go_ret2
      exact ⟨r, rfl, fun e => absurd rfl e, fun _ => hr, hg⟩
    · have HF := Lib.hid hf; clear hf
      go_enter Try.func60, Try.ntmps60
      go_wp2_with fail
      refine (bmay_any m F bb i _ H.out).mono ?_
      rintro e w1 ⟨rfl, rfl⟩
      rw [HM.out]
      go_wp2_with fail
      refine (dread_bad _ at' b g _ HD.out HF.out).mono ?_
      rintro e w1 ⟨rfl, rfl⟩
      go_wp2
      go_ret2
      exact ⟨_, rfl, fun _ => rfl, fun e => absurd e HF.out, Gr.refl _⟩
  · have he : rwE m i at' = mayB m i := by unfold rwE; rw [if_neg hm]
    rw [he]
    have hb : (mayB m i != 0) = true := by simpa using hm
    obtain ⟨z, hz⟩ : ∃ z, z = mayB m i := ⟨_, rfl⟩
    rw [← hz] at hb hm ⊢
    have HZ := Lib.hid hz
    have HM := Lib.hid hm
    clear h hm he hp hz
    go_enter Try.func60, Try.ntmps60
    go_wp2_with fail
    refine (bmay_any m F bb i _ H.out).mono ?_
    rintro e w1 ⟨rfl, rfl⟩
    rw [← HZ.out]
    go_wp2
    go_ret2
    exact ⟨_, rfl, fun _ => rfl, fun e => absurd e HM.out, Gr.refl _⟩
end Go.Proofs.Ytoalnkhedebpbaa

/-! stripe.up, Read: what they answer while there is power. -/
namespace Go.Proofs.Ytoalnkhedebpbaa
open Go.RowKit

def BoolsAt (w : World) (v : Value) (l : List Bool) : Prop := SlAt w 4 v (l.map Value.bool)
theorem BoolsAt.gr {w w' : World} {v : Value} {l : List Bool} (h : BoolsAt w v l) (g : Gr w w') : BoolsAt w' v l := SlAt.gr h g
theorem BoolsAt.shape {w : World} {v : Value} {l : List Bool} (h : BoolsAt w v l) : ∃ a cap, v = .slice a l.length cap := by
  rcases h with ⟨h1, a, cap, rfl⟩ | ⟨b, off, cap, cs, fr, rfl, _⟩
  · have : l = [] := by simpa using h1
    subst this
    exact ⟨a, cap, rfl⟩
  · exact ⟨some ⟨b, off, none⟩, cap, by simp⟩
theorem BoolsAt.cells {w : World} {v : Value} {l : List Bool} (h : BoolsAt w v l) (h0 : 0 < l.length) : ∃ b off cap, v = .slice (some ⟨b, off, none⟩) l.length cap ∧ ∀ i, i < l.length → w.cell? ⟨b, off + i, none⟩ = some (.bool (l.getD i false)) := by
  rcases h with ⟨h1, _⟩ | ⟨b, off, cap, cs, fr, rfl, hb, hc, _⟩
  · have : l = [] := by simpa using h1
    subst this
    simp at h0
  · refine ⟨b, off, cap, by simp, fun i hi => ?_⟩
    rw [cell_of_row w b _ cs _ fr hb, hc i (by simpa using hi)]
    simp [hi]
def upF (m : BM) (l : List Bool) (d : Nat) : Bool := decide (d < m.ds.length) && decide (d < l.length) && l.getD d false && !(m.d d).failed
set_option maxRecDepth 100000 in
set_option maxHeartbeats 400000 in
theorem up_any (m : BM) (l : List Bool) (F : Nat → Prop) (bb d : Nat) (v : Value) (w : World) (h : BenchAt w F bb m) (hv : BoolsAt w v l) :
    Calls Try.prog 77 #[bp bb, v, .int .i64 d] w fun e w' => e = .returned (.bool (upF m l d)) ∧ w = w' := by
  have H := Lib.hid h; clear h
  by_cases h1 : d < m.ds.length
  · by_cases h2 : d < l.length
    · obtain ⟨b, off, cap, rfl, hc⟩ := hv.cells (by omega)
      have c0 := hc d h2
      clear hc hv
      obtain ⟨x, hx⟩ : ∃ x, x = l.getD d false := ⟨_, rfl⟩
      rw [← hx] at c0
      cases x with
      | true =>
        have hu : upF m l d = !(m.d d).failed := by unfold upF; rw [decide_eq_true h1, decide_eq_true h2, ← hx]; rfl
        have HF : Hid ((decide (d < m.ds.length) && (m.d d).failed) = (m.d d).failed) := Lib.hid (by rw [decide_eq_true h1]; rfl)
        rw [hu]
        clear hu hx
        go_enter Try.func77, Try.ntmps77
        go_wp2_with fail
        refine (blen_any m F bb _ H.out).mono ?_
        rintro e w1 ⟨rfl, rfl⟩
        go_wp2_with fail
        refine (bfailed_any m F bb d _ H.out).mono ?_
        rintro e w1 ⟨rfl, rfl⟩
        rw [HF.out]
        go_wp2
        go_ret
        exact ⟨rfl, rfl⟩
      | false =>
        have hu : upF m l d = false := by unfold upF; rw [← hx]; simp
        rw [hu]
        clear hu hx
        go_enter Try.func77, Try.ntmps77
        go_wp2_with fail
        refine (blen_any m F bb _ H.out).mono ?_
        rintro e w1 ⟨rfl, rfl⟩
        go_wp2
        go_ret
        exact ⟨rfl, rfl⟩
    · have hu : upF m l d = false := by unfold upF; rw [decide_eq_false h2]; simp
      rw [hu]
      obtain ⟨a, cap, rfl⟩ := hv.shape
      have d2 : decide (d < l.length) = false := decide_eq_false h2
      clear hu hv h2
      go_enter Try.func77, Try.ntmps77
      go_wp2_with fail
      refine (blen_any m F bb _ H.out).mono ?_
      rintro e w1 ⟨rfl, rfl⟩
      go_wp2
      go_ret
      exact ⟨rfl, rfl⟩
  · have hu : upF m l d = false := by unfold upF; rw [decide_eq_false h1]; simp
    rw [hu]
    have d1 : decide (d < m.ds.length) = false := decide_eq_false h1
    clear hu h1
    obtain ⟨a, cap, rfl⟩ := hv.shape
    clear hv
    go_enter Try.func77, Try.ntmps77
    go_wp2_with fail
    refine (blen_any m F bb _ H.out).mono ?_
    rintro e w1 ⟨rfl, rfl⟩
    go_wp2
    go_ret
    exact ⟨rfl, rfl⟩
/-- What is seen of a row on the bench. -/
def seenTo (m : BM) (l : List Bool) (D a : Nat) : Nat → List (List UInt8)
  | 0 => List.replicate D []
  | k + 1 => if upF m l k then (seenTo m l D a k).set k (rd (m.d k) a) else seenTo m l D a k
def seen (m : BM) (l : List Bool) (D a : Nat) : List (List UInt8) := seenTo m l D a D
theorem seenTo_length (m : BM) (l : List Bool) (D a : Nat) : ∀ k, (seenTo m l D a k).length = D
  | 0 => by simp [seenTo]
  | k + 1 => by
    unfold seenTo
    split
    · rw [List.length_set]; exact seenTo_length m l D a k
    · exact seenTo_length m l D a k
theorem seenTo_get (m : BM) (l : List Bool) (D a : Nat) {j : Nat} (hj : j < D) : ∀ k, (seenTo m l D a k).getD j [] = if j < k ∧ upF m l j = true then rd (m.d j) a else []
  | 0 => by simp [seenTo, hj]
  | k + 1 => by
    unfold seenTo
    by_cases e : j = k
    · subst e
      by_cases hu : upF m l j = true
      · rw [if_pos hu, getD_set_self (by rw [seenTo_length]; exact hj), if_pos ⟨by omega, hu⟩]
      · rw [if_neg hu, seenTo_get m l D a hj, if_neg (by omega), if_neg (fun h => hu h.2)]
    · have hs := seenTo_get m l D a hj k
      have h1 : (j < k ∧ upF m l j = true) ↔ (j < k + 1 ∧ upF m l j = true) := by constructor <;> (rintro ⟨a, b⟩; exact ⟨by omega, b⟩)
      simp only [h1] at hs
      split
      · rw [getD_set_ne (Ne.symm e)]; exact hs
      · exact hs
theorem seen_get (m : BM) (l : List Bool) (D a : Nat) {j : Nat} (hj : j < D) : (seen m l D a).getD j [] = if upF m l j = true then rd (m.d j) a else [] := by
  unfold seen
  rw [seenTo_get m l D a hj]
  simp [hj]
theorem BenchAt.rdlen {w : World} {F : Nat → Prop} {bb : Nat} {m : BM} (h : BenchAt w F bb m) {i a : Nat} (hi : i < m.ds.length) (ha : a < 52) : (rd (m.d i) a).length = 32 := by
  obtain ⟨lb, cap, b, g, _, _, hd, _⟩ := h.at hi
  obtain ⟨cs, pv, h1, h2, h3, h4, h5, h6, h7, h8, h9⟩ := hd
  exact rdTo_len (h3 a ha) h9 _
theorem upF_lt {m : BM} {l : List Bool} {d : Nat} (h : upF m l d = true) : d < m.ds.length ∧ d < l.length ∧ l.getD d false = true ∧ (m.d d).failed = false := by
  unfold upF at h
  simpa [Bool.and_eq_true, and_assoc] using h
theorem rwE_ok {m : BM} {d a : Nat} (hd : m.down = false) (h : d < m.ds.length) (hf : (m.d d).failed = false) (ha : a < 52) : rwE m d a = 0 := by
  unfold rwE mayB isB
  simp [h, hd, mayF, hf]
  omega
end Go.Proofs.Ytoalnkhedebpbaa

/-! stripe.Read, while there is power. -/
namespace Go.Proofs.Ytoalnkhedebpbaa
open Go.RowKit

/-- The code of a row that is lost, or is not. -/
def lostE (b : Bool) : Int := if b then 7 else 0
/-- No disk has too much pending. -/
def Calm (m : BM) : Prop := ∀ j, (m.d j).pend.length ≤ 1048576
set_option maxRecDepth 100000 in
set_option maxHeartbeats 2000000 in
theorem sread_ok (m : BM) (l : List Bool) (F : Nat → Prop) (L D C : Int) (r bb : Nat) (v : Value) (w : World) (h : BenchAt w F bb m) (hv : BoolsAt w v l) (hg : goodG L D C = true) (hr : r < 16) (hdn : m.down = false) (hcalm : Calm m) :
    Calls Try.prog 24 #[bp bb, v, gv L D C, .int .i64 r] w fun e w' => ∃ x, e = .returned (.tuple #[x, .int .i64 (lostE (lostR L D C r (seen m l D.toNat (36 + r))))]) ∧ (lostR L D C r (seen m l D.toNat (36 + r)) = false → RowsAt w' x (takeR L D C r (seen m l D.toNat (36 + r)))) ∧ (lostR L D C r (seen m l D.toNat (36 + r)) = true → x = .slice none 0 0) ∧ Gr w w' := by
  obtain ⟨hL1, hL2, hD1, hD2, hC1, hC2, _⟩ := goodG_bds hg
  obtain ⟨a, cap, rfl⟩ := hv.shape
  obtain ⟨DN, hDN⟩ : ∃ DN : Nat, D = DN := ⟨D.toNat, by omega⟩
  subst hDN
  have hDT : ((DN : Int)).toNat = DN := by omega
  rw [hDT]
  clear hDT
  have H := Lib.hid h; clear h
  have HV := Lib.hid hv; clear hv
  have HG := Lib.hid hg; clear hg
  have HDW := Lib.hid hdn; clear hdn
  have HCA := Lib.hid hcalm; clear hcalm
  have r0 : decide ((r : Int) < 0) = false := by rw [decide_eq_false_iff_not]; omega
  have r1 : decide ((r : Int) ≥ 16) = false := by rw [decide_eq_false_iff_not]; omega
  go_enter Try.func24, Try.ntmps24
  go_wp2_with fail
  refine (check_good L DN C _ HG.out).mono ?_
  rintro e w1 ⟨rfl, hg⟩
  have g1 : Gr w w1 := (Gr.alloc w _).trans hg
  obtain ⟨c0, c1, c2⟩ := box3 (hg.get (heap_alloc_new w _))
  clear hg
  go_wp2_with ((with_reducible apply wpL_make1 (n := DN) slRows infRows rfl (by decide)); rfl; rfl; omega)
  obtain ⟨g, hgg⟩ : ∃ g, g = w1.heap.size := ⟨_, rfl⟩
  have hO : ORows (w1.alloc (.cells (zrow (.slice none 0 0) DN) 43)) g DN (seenTo m l DN (36 + r) 0) := by
    rw [hgg]; exact ORows.make (heap_alloc_new w1 _)
  rw [← hgg]
  have hG : Gr w1 (w1.alloc (.cells (zrow (.slice none 0 0) DN) 43)) := Gr.alloc _ _
  obtain ⟨wm, hwm⟩ : ∃ wm, wm = w1.alloc (.cells (zrow (.slice none 0 0) DN) 43) := ⟨_, rfl⟩
  rw [← hwm] at hO hG
  rw [← hwm]
  clear hwm
  have HO := Lib.hid hO; clear hO
  have hgl : w1.heap.size ≤ g := Nat.le_of_eq hgg.symm
  clear hgg
  go_loopw [32] (fun i wr => ∃ k : Nat, k ≤ DN ∧ i = .int .i64 k ∧ Hid (ORows wr g DN (seenTo m l DN (36 + r) k)) ∧ Gr w1 wr) (fun i _ => DN - (intOf i).toNat)
  case atStart => exact ⟨0, by omega, rfl, HO, hG⟩
  case round =>
    obtain ⟨k, hk, rfl, hrow, hg⟩ := hrel
    by_cases hlt : k < DN
    · obtain ⟨x, hu⟩ : ∃ x, x = upF m l k := ⟨_, rfl⟩
      go_wp2_with fail
      refine (up_any m l F bb k _ _ (H.out.gr (g1.trans hg)) (HV.out.gr (g1.trans hg))).mono ?_
      rintro e w3 ⟨rfl, rfl⟩
      rw [← hu]
      cases x with
      | false =>
        have HU := Lib.hid hu; clear hu
        go_wp2
        go_roundw
        case rel =>
          refine ⟨k + 1, by omega, by go_num, Lib.hid ?_, hg⟩
          unfold seenTo
          rw [if_neg (by rw [← HU.out]; decide)]
          exact hrow.out
        case measure => simp [intOf]; omega
      | true =>
        have HU := Lib.hid hu; clear hu
        have hul := upF_lt HU.out.symm
        have HE := Lib.hid (rwE_ok (a := 36 + r) HDW.out hul.1 hul.2.2.2 (by omega))
        clear hul
        go_wp2_with fail
        have e36 : (36 : Int) + (r : Int) = ((36 + r : Nat) : Int) := by omega
        rw [e36]
        clear e36
        refine (bread_any m F bb k (36 + r) _ (H.out.gr (g1.trans hg)) HCA.out).mono ?_
        rintro e w3 ⟨x, rfl, _, hx, hg3⟩
        replace hx := hx HE.out
        rw [HE.out]
        have HO4 := Lib.hid (hrow.out.gr hg3)
        obtain ⟨⟨ud, cd⟩, fd⟩ := HO4.out.cell hlt
        obtain ⟨ax, nx, capx, hsx⟩ := hx.sl
        subst hsx
        have HX := Lib.hid hx; clear hx
        go_wp2
        go_roundw
        case rel =>
          refine ⟨k + 1, by omega, by go_num, Lib.hid ?_, gr_setCell (hg.trans hg3) HO4.out hgl⟩
          unfold seenTo
          rw [if_pos HU.out.symm]
          exact HO4.out.set hlt HX.out
        case measure => simp [intOf]; omega
    · obtain rfl : k = DN := by omega
      have hlen : ((seen m l k (36 + r)).length : Int) = (k : Int) := by unfold seen; rw [seenTo_length]
      have hsec : ∀ i, i < (seen m l k (36 + r)).length → sec0 ((seen m l k (36 + r)).getD i []) := fun i hi => by
        have hi' : i < k := by omega
        rw [seen_get m l k _ hi']
        split
        · rename_i hu
          exact .inr (H.out.rdlen (upF_lt hu).1 (by omega))
        · exact .inl rfl
      have HL := Lib.hid hlen; clear hlen
      have HS := Lib.hid hsec; clear hsec
      have HR : Hid (RowsAt wr (.slice (some ⟨g, 0, none⟩) k k) (seen m l k (36 + r))) := Lib.hid (hrow.out.rows (by omega) k)
      have b0 := hg.cell c0
      have b1 := hg.cell c1
      have b2 := hg.cell c2
      clear hrow hlt hk
      obtain ⟨ds, hds⟩ : ∃ ds, ds = seen m l k (36 + r) := ⟨_, rfl⟩
      rw [← hds] at HL HS HR
      have HDS := Lib.hid hds; clear hds
      go_wp2_with fail
      refine (take_good L k C r ds _ _ HG.out (by omega) (by omega) HR.out HL.out HS.out).mono ?_
      rintro e w3 ⟨x, rfl, hx, hg3⟩
      obtain ⟨t, ht⟩ : ∃ t, t = lostR L k C r ds := ⟨_, rfl⟩
      rw [← ht] at hx ⊢
      have HT := Lib.hid ht; clear ht
      cases t with
      | true =>
        go_wp2
        go_ret2
        rw [← HDS.out, ← HT.out]
        exact ⟨_, rfl, (fun e => absurd e (by decide)), (fun _ => rfl), (g1.trans hg).trans hg3⟩
      | false =>
        have HX := Lib.hid (hx rfl); clear hx
        go_wp2
        go_ret2
        rw [← HDS.out, ← HT.out]
        exact ⟨x, rfl, (fun _ => HX.out), (fun e => absurd e (by decide)), (g1.trans hg).trans hg3⟩
end Go.Proofs.Ytoalnkhedebpbaa

/-! disk.New, bench.New. -/
namespace Go.Proofs.Ytoalnkhedebpbaa
open Go.RowKit

def zdisk : Array Value := (List.replicate 1664 (Value.int .u8 0) ++ [Value.slice none 0 0, Value.bool false]).toArray
theorem z128 : (Try.prog.info? 128).map (·.zero) = some (some (.agg zdisk)) := by kernel_rfl
set_option maxRecDepth 100000 in
theorem dnew_any (w : World) : Calls Try.prog 93 #[] w fun e w' => e = .returned (.pointer (some ⟨w.heap.size, 0, none⟩)) ∧ w' = w.alloc (.cells zdisk 128) := by
  go_enter Try.func93, Try.ntmps93
  go_wp2_with fail
  go_ret
  exact ⟨rfl, rfl⟩
theorem slDisks : Try.prog.underlying 86 = some (.slice 108) := by kernel_rfl
theorem infDisks : (Try.prog.info? 108).map (fun i => (i.zero, i.size, i.bytes)) = some (some (.pointer none), 1, 8) := by kernel_rfl
theorem own_drew {w : World} {base n size : Nat} {E : TypeId} {v : Value} {xs : List Value} (h : w.ownsRow base E size v n xs) : w.drew.ownsRow base E size v n xs := own_gr h (Gr.drew w)
/-- A bench that is being made: k disks. -/
def Making (w wr : World) (k : Nat) : Prop := ∃ (lv : Value) (bs : List Nat), wr.heap[w.heap.size]? = some (.cells #[.int .i64 0, .int .i64 (-1), .bool false, lv] 88 (0, 0)) ∧ wr.ownsRow w.heap.size 108 1 lv k (bs.map ptr) ∧
  bs.length = k ∧ bs.Nodup ∧ ∀ b, b ∈ bs → w.heap.size ≤ b ∧ wr.heap[b]? = some (.cells zdisk 128 (0, 0))
theorem Making.step {w wr w4 : World} {k gg cap : Nat} {lv : Value} {bs : List Nat} (hg : Gr w wr) (m1 : wr.heap[w.heap.size]? = some (.cells #[.int .i64 0, .int .i64 (-1), .bool false, lv] 88 (0, 0))) (m2 : wr.ownsRow w.heap.size 108 1 lv k (bs.map ptr))
    (m3 : bs.length = k) (m4 : bs.Nodup) (m5 : ∀ b, b ∈ bs → w.heap.size ≤ b ∧ wr.heap[b]? = some (.cells zdisk 128 (0, 0)))
    (ho : w4.ownsRow w.heap.size 108 1 (.slice (some ⟨gg, 0, none⟩) (k + 1) cap) (k + 1) (bs.map ptr ++ [ptr wr.heap.size]))
    (hgr : ((wr.alloc (.cells zdisk 128)).alloc (.cells #[.pointer (some ⟨wr.heap.size, 0, none⟩)] 108)).drew.grownBy w4 lv.ownBlock) :
    Making w (w4.setCell ⟨w.heap.size, 3, none⟩ (.slice (some ⟨gg, 0, none⟩) (k + 1) cap)) (k + 1) ∧ Gr w (w4.setCell ⟨w.heap.size, 3, none⟩ (.slice (some ⟨gg, 0, none⟩) (k + 1) cap)) := by
  have hB := heap_lt m1
  have notown : ∀ b cs t fr, wr.heap[b]? = some (Obj.cells cs t fr) → t ≠ 108 → some b ≠ lv.ownBlock := fun b cs t fr h hne e => by
    obtain ⟨cs', fr', e'⟩ := own_row m2 _ e.symm
    exact type_ne h e' hne rfl
  have old : ∀ (b : Nat) (cs : Array Value) (t : TypeId) (fr : Nat × Nat), wr.heap[b]? = some (Obj.cells cs t fr) → t ≠ 108 → w4.heap[b]? = some (Obj.cells cs t fr) := fun b cs t fr h hne => by
    rw [hgr.block b (by have := heap_lt h; simp; omega) (notown b cs t fr h hne)]
    exact heap_alloc_lt (heap_alloc_lt h _) _
  have new : w4.heap[wr.heap.size]? = some (.cells zdisk 128 (0, 0)) := by
    rw [hgr.block wr.heap.size (by simp; omega) (fun e => ?_)]
    · exact heap_alloc_lt (heap_alloc_new wr _) _
    · have := (m2.lt _ e.symm).2
      omega
  have b4 := old _ _ _ _ m1 (by decide)
  have h4 := heap_lt b4
  rw [setCell_putB b4]
  have g4 : Gr w w4 := Below.grown (Below.drew ((hg.trans (Gr.alloc _ _)).trans (Gr.alloc _ _))) hgr (by simp; omega) (fun j hj => (m2.lt j hj).1)
  refine ⟨⟨.slice (some ⟨gg, 0, none⟩) (k + 1) cap, bs ++ [wr.heap.size], ?_, ?_, by simp [m3], ?_, fun b hb => ?_⟩, below_putB g4 (Nat.le_refl _) _⟩
  · rw [putB_get_self h4]; rfl
  · rw [List.map_append]
    refine ⟨ho.1, ?_⟩
    rcases ho.2 with e | ⟨g', cap', cur, e0, e1, e2, r⟩
    · exact .inl e
    · refine .inr ⟨g', cap', cur, e0, e1, ?_, r⟩
      rw [putB_get_other w4 (type_ne e2 b4 (by decide))]
      exact e2
  · rw [List.nodup_append]
    refine ⟨m4, by simp, fun a ha b hb e => ?_⟩
    have : b = wr.heap.size := by simpa using hb
    have := heap_lt (m5 a ha).2
    omega
  · rcases List.mem_append.1 hb with hb | hb
    · refine ⟨(m5 b hb).1, ?_⟩
      have e := old _ _ _ _ (m5 b hb).2 (by decide)
      rw [putB_get_other w4 (type_ne e b4 (by decide))]
      exact e
    · have : b = wr.heap.size := by simpa using hb
      subst this
      refine ⟨hg.size, ?_⟩
      rw [putB_get_other w4 (type_ne new b4 (by decide))]
      exact new
set_option maxRecDepth 100000 in
set_option maxHeartbeats 2000000 in
theorem bnew_ok (n : Nat) (w : World) (h0 : 1 ≤ n) (hn : n ≤ 8) :
    Calls Try.prog 46 #[.int .i64 n] w fun e w' => e = .returned (.tuple #[bp w.heap.size, .int .i64 0]) ∧ Making w w' n ∧ Gr w w' := by
  have d0 : decide ((n : Int) < 1) = false := by rw [decide_eq_false_iff_not]; omega
  have d1 : decide ((n : Int) > 8) = false := by rw [decide_eq_false_iff_not]; omega
  obtain ⟨i0, hi0, hz0, hz1, hz2⟩ := info_parts infDisks
  go_enter Try.func46, Try.ntmps46
  go_wp2_with fail
  go_loopw [15] (fun i wr => ∃ k : Nat, k ≤ n ∧ i = .int .i64 k ∧ Hid (Making w wr k) ∧ Gr w wr) (fun i _ => n - (intOf i).toNat)
  case atStart => exact ⟨0, by omega, rfl, Lib.hid ⟨_, [], heap_alloc_new w _, World.ownsRow_nil _ _ _ _, rfl, List.nodup_nil, fun b hb => by simp at hb⟩, Gr.alloc _ _⟩
  case round =>
    obtain ⟨k, hk, rfl, hmk, hg⟩ := hrel
    by_cases hlt : k < n
    · obtain ⟨lv, bs, m1, m2, m3, m4, m5⟩ := hmk.out
      have c3 := cell_blk (off := 3) (v := lv) m1 rfl
      have f3 : wr.frozen? ⟨w.heap.size, 3, none⟩ = false := by simp [World.frozen?, m1]
      have hB := heap_lt m1
      have M1 := Lib.hid m1
      have M2 := Lib.hid m2
      have hne : some w.heap.size ≠ lv.ownBlock := fun e => by
        obtain ⟨cs, fr, e'⟩ := own_row m2 _ e.symm
        exact type_ne m1 e' (by decide) rfl
      have M3 := Lib.hid m3
      have M4 := Lib.hid m4
      have M5 := Lib.hid m5
      clear m1 m2 m3 m4 m5 hmk
      go_wp2_with fail
      go_region_law (first | (refine step_append_lies _ (by rfl) _ _ _ (by rfl) w.heap.size 108 i0 _ 1 8 slDisks hi0 hz0 hz1 hz2 rfl (by omega) lv k _ (by rfl) (((own_drew M2.out).alloc _).alloc _) ⟨wr.heap.size + 1, 0, none⟩ 1 1 [ptr wr.heap.size] (by rfl) (by rfl) (World.news_of_block (cs := #[ptr wr.heap.size]) (t := 108) (fr := (0, 0)) (heap_alloc_at _ _ _ (by simp))) (by simp [ptr, Value.oneCell']) (by omega) (by unfold maxLen; omega) (by omega) (by simp; omega) (wr.heap.size + 2) (by simp) ?_; intro gg cap w4 hown4 hgr hat hltg; have c34 := (hgr.cell_far ⟨w.heap.size, 3, none⟩ (by simp; omega) hne); have f34 := (hgr.frozen_far ⟨w.heap.size, 3, none⟩ (by simp; omega) hne)) | (go_simp; go_at_call 93; refine (dnew_any _).mono ?_; rintro e w3 ⟨rfl, rfl⟩))
      all_goals (
        have hst := Making.step hg M1.out M2.out M3.out M4.out M5.out hown4 hgr
        have HST := Lib.hid hst; clear hst
        go_wp2
        go_roundw)
      all_goals first | exact ⟨k + 1, by omega, by go_num, Lib.hid HST.out.1, HST.out.2⟩ | (simp [intOf]; omega)
    · obtain rfl : k = n := by omega
      go_wp2
      go_ret2
      exact ⟨rfl, hmk.out, hg⟩
/-- A new bench. -/
def bm0 (n : Nat) : BM := ⟨List.replicate n dm0, 0, -1, false⟩
def zd (n : Nat) : Array Value := (List.replicate n (Value.int .u8 0) ++ [Value.slice none 0 0, Value.bool false]).toArray
theorem zd_get {n i : Nat} (h : i < n) : (zd n)[i]? = some (.int .u8 0) := by
  unfold zd
  rw [List.getElem?_toArray, List.getElem?_append_left (by simpa using h)]
  simp [h]
theorem zd_end (n : Nat) : (zd n).size = n + 2 ∧ (zd n)[n]? = some (.slice none 0 0) ∧ (zd n)[n + 1]? = some (.bool false) := by
  unfold zd
  refine ⟨by simp, ?_, ?_⟩
  · rw [List.getElem?_toArray, List.getElem?_append_right (by simp)]; simp
  · rw [List.getElem?_toArray, List.getElem?_append_right (by simp)]; simp
theorem zeros_map (n j : Nat) (h : j < n) : ((zeros n).map bv)[j]? = some (.int .u8 0) := by
  unfold zeros
  rw [List.map_replicate, List.getElem?_replicate, if_pos h]; rfl
theorem DiskAt.made {w : World} {b : Nat} (h : w.heap[b]? = some (.cells zdisk 128 (0, 0))) : DiskAt w b none dm0 := by
  obtain ⟨e1, e2, e3⟩ := zd_end 1664
  refine ⟨zd 1664, .slice none 0 0, h, e1, fun a _ => zeros_length 32, fun a ha j hj => ?_, e2, e3, ⟨rfl, .inl ⟨rfl, rfl⟩⟩, ⟨rfl, fun _ => rfl⟩, fun x hx => absurd hx List.not_mem_nil⟩
  rw [zd_get (by omega)]
  exact (zeros_map 32 j hj).symm
theorem Making.bench {w wr : World} {n : Nat} (h : Making w wr n) : ∃ F, BenchAt wr F w.heap.size (bm0 n) ∧ ∀ k, F k → w.heap.size ≤ k := by
  obtain ⟨lv, bs, m1, m2, m3, m4, m5⟩ := h
  have hlen : (bm0 n).ds.length = n := by simp [bm0]
  have hget : ∀ i, i < n → bs.getD i 0 ∈ bs := fun i hi => by
    have : bs.getD i 0 = bs[i]'(by omega) := by simp [show i < bs.length from by omega]
    rw [this]; exact List.getElem_mem _
  have hnone : ∀ i, (List.replicate n (none : Option Nat)).getD i none = none := fun i => by
    by_cases hi : i < n <;> simp [hi]
  refine ⟨fun k => k = w.heap.size ∨ k ∈ bs ∨ lv.ownBlock = some k, ⟨lv, bs, List.replicate n none, m1, ?_, by rw [hlen]; exact m3, by rw [hlen]; simp, ?_, m4, ?_, .inl rfl, fun x hx => .inr (.inr hx), ?_, ?_, ?_⟩, ?_⟩
  · rw [hlen]
    refine ⟨m2.1, ?_⟩
    rcases m2.2 with e | ⟨g, cap, cur, e0, _, r⟩
    · exact .inl e
    · exact .inr ⟨g, cap, cur, e0, Nat.zero_le _, r⟩
  · intro i hi
    rw [hlen] at hi
    rw [hnone]
    have e : (bm0 n).ds.getD i dm0 = dm0 := by simp [bm0, hi]
    rw [e]
    exact DiskAt.made (m5 _ (hget i hi)).2
  · intro i j _ _ _ x hx
    rw [hnone] at hx
    cases hx
  · intro i hi
    rw [hlen] at hi
    exact .inr (.inl (hget i hi))
  · intro i _ x hx
    rw [hnone] at hx
    cases hx
  · intro k hk
    rcases hk with rfl | hk | hk
    · exact ⟨_, _, _, m1, .inl rfl⟩
    · exact ⟨_, _, _, (m5 k hk).2, .inr (.inr (.inl rfl))⟩
    · obtain ⟨cs, fr, e⟩ := own_row m2 k hk
      exact ⟨cs, _, fr, e, .inr (.inl rfl)⟩
  · intro k hk
    rcases hk with rfl | hk | hk
    · exact Nat.le_refl _
    · exact (m5 k hk).1
    · exact (m2.lt k hk).1
theorem bnew_any (n : Nat) (w : World) (h0 : 1 ≤ n) (hn : n ≤ 8) :
    Calls Try.prog 46 #[.int .i64 n] w fun e w' => e = .returned (.tuple #[bp w.heap.size, .int .i64 0]) ∧ (∃ F, BenchAt w' F w.heap.size (bm0 n) ∧ ∀ k, F k → w.heap.size ≤ k) ∧ Gr w w' :=
  (bnew_ok n w h0 hn).mono fun _ _ h => ⟨h.1, h.2.1.bench, h.2.2⟩
end Go.Proofs.Ytoalnkhedebpbaa

/-! (*Disk).put: what it answers. -/
namespace Go.Proofs.Ytoalnkhedebpbaa
open Go.RowKit

section
variable {P : Program} {ops : Array Oper} {Q : Exit → Act → World → Prop} {a : Act} {w : World} {rest : List Oper} {d : Option Tmp} {ty : TypeId} {pos : String} {after : Array Edge} {T E : TypeId}
/-- A whole row of cells is copied into the midst of a block. -/
theorem wpL_copyAt {dT sT : TypeId} {x y : Operand} {g o n cap scap b off : Nat} {cur : Array Value} {t : TypeId} {cs new : List Value} (hu : P.underlying dT = some (.slice E)) (hs : (P.info? E).map (·.size) = some 1)
    (hx : a.eval x = .slice (some ⟨g, o, none⟩) n cap) (hy : a.eval y = .slice (some ⟨b, off, none⟩) n scap) (hg : w.heap[g]? = some (.cells cur t (0, 0))) (hl : cs.length = n) (hfit : o + n ≤ cur.size)
    (hsrc : ∀ j v, cs[j]? = some v → w.cell? ⟨b, off + j, none⟩ = some v) (h1 : ∀ v ∈ cs, v.oneCell' = true) (hnew : cur.toList.take o ++ (cs ++ cur.toList.drop (o + n)) = new)
    (h : wpList P ops Q rest (a.put d (.int .i64 (n : Int))) (putB w g (.cells new.toArray t))) :
    wpList P ops Q ({ dst := d, op := .call { callee := .builtin .copy, args := #[x, y], argTypes := #[dT, sT] }, type := ty, pos := pos, after := after, guard := none } :: rest) a w := by
  subst hl
  refine wpList_copy_own rfl x y dT sT rfl E hu hs g o cs.length cap ⟨b, off, none⟩ cs.length scap hx hy cur t hg cs (by show cs.length = min cs.length cs.length; omega) (fun j u hj => ?_) hfit h1 ?_
  · rw [addr_add0]; exact hsrc j u hj
  · rw [setRow_putB hg, hnew]
    exact h
end
def zw : Array Value := ((Value.int .i64 0) :: List.replicate 32 (Value.int .u8 0)).toArray
def vw (a : Int) : List Value := (Value.int .i64 a) :: List.replicate 32 (Value.int .u8 0)
theorem z122 : (Try.prog.info? 122).map (·.zero) = some (some (.agg zw)) := by kernel_rfl
theorem build122 (a : Int) (w : World) : (Instr.build 122 #[(0, .int .i64 a)]).run Try.prog w = .ok (.agg (vw a).toArray) w := by kernel_rfl
theorem vw_length (a : Int) : (vw a).length = 33 := rfl
theorem vw_one (a : Int) : ∀ v ∈ vw a, v.oneCell' = true := by
  intro v hv
  rcases List.mem_cons.1 hv with rfl | hv
  · rfl
  · rw [(List.mem_replicate.1 hv).2]; rfl
theorem zw_size : zw.size = 33 := rfl
theorem results_cell_tmpW {fn : Func} {p u : Tmp} (h : fn.results = #[.cell p 122, .tmp u]) (tmps : Array Value) (w : World) (g : Nat) (t : TypeId) (cs : Array Value) (fr : Nat × Nat) (vs : List Value)
    (hp : tmps.getD p undef = .pointer (some ⟨g, 0, none⟩)) (hg : w.heap[g]? = some (.cells cs t fr)) (hl : vs.length = 33) (hvs : ∀ j, j < 33 → cs[j]? = vs[j]?) :
    (results fn tmps).run Try.prog w = .ok (.tuple #[.agg vs.toArray, tmps.getD u undef]) w := by
  have hld : (loadVar 122 ⟨g, 0, none⟩).run Try.prog w = .ok (.agg vs.toArray) w := by
    obtain ⟨ds, hu, hd⟩ := und122
    cases ds with
    | struct f => exact run_loadAgg hg hu rfl (by rw [hl]; exact inf122) (fun j hj => by rw [Nat.zero_add]; exact hvs j (by omega))
    | array n e => exact run_loadAgg hg hu rfl (by rw [hl]; exact inf122) (fun j hj => by rw [Nat.zero_add]; exact hvs j (by omega))
    | _ => exact absurd hd Bool.false_ne_true
  rw [results_cell_tmp h, hp]
  simp only [asAddr, Sem.run_pure, Result.andThen_ok, hld]
theorem putB_alloc_at (w : World) (o o' : Obj) (k : Nat) (h : k = w.heap.size) : putB (w.alloc o) k o' = w.alloc o' := by subst h; exact putB_alloc_new w o o'
set_option maxRecDepth 100000 in
set_option maxHeartbeats 1000000 in
theorem dput_ok (d : DM) (at' : Nat) (x : List UInt8) (b : Nat) (g : Option Nat) (u : Value) (w : World) (h : DiskAt w b g d) (hm : mayF d at' = 0) (hx : BytesAt w u x) (hl : x.length = 32) :
    Calls Try.prog 112 #[.pointer (some ⟨b, 0, none⟩), .int .i64 at', u] w fun e w' => e = .returned (.tuple #[.agg (wvals (at', x)).toArray, .int .i64 0]) ∧ Gr w w' := by
  rcases hx.cases with ⟨rfl, _⟩ | ⟨xb, xo, xc, rfl, _, _, hxc⟩
  · simp at hl
  have hsrc : ∀ w', Gr w w' → ∀ j v, (x.map bv)[j]? = some v → w'.cell? ⟨xb, xo + j, none⟩ = some v := fun w' g j v hj => by
    obtain ⟨b', off', e, hc'⟩ := bytes_src hx j v hj
    have e := Option.some.inj e
    injection e with e1 e2
    subst e1; subst e2
    exact g.cell hc'
  have hwl := wvals_length (x := (at', x)) hl
  have hw1 := wvals_one (at', x)
  have hnew : (vw at').toArray.toList.take 1 ++ (x.map bv ++ (vw at').toArray.toList.drop (1 + 32)) = wvals (at', x) := by
    have e : (vw at').toArray.toList.drop (1 + 32) = [] := rfl
    rw [e, List.append_nil]; rfl
  obtain ⟨V, hV⟩ : ∃ V, V = vw at' := ⟨_, rfl⟩
  have hV1 := vw_one at'
  have hVl := vw_length at'
  have hbu := build122 at'
  rw [← hV] at hnew hV1 hVl hbu
  obtain ⟨Z, hZ⟩ : ∃ Z, Z = zw := ⟨_, rfl⟩
  have hZ1 := z122
  have hZs := zw_size
  rw [← hZ] at hZ1 hZs
  obtain ⟨wv, hwv⟩ : ∃ wv, wv = wvals (at', x) := ⟨_, rfl⟩
  rw [← hwv] at hwl hw1 hnew ⊢
  rw [hl]
  have HNEW := Lib.hid hnew; clear hnew
  have HV1 := Lib.hid hV1; clear hV1
  have HVL := Lib.hid hVl; clear hVl
  have HBU := Lib.hid hbu; clear hbu
  have HZ1 := Lib.hid hZ1; clear hZ1
  have HZS := Lib.hid hZs; clear hZs
  have HWL := Lib.hid hwl; clear hwl
  have HW1 := Lib.hid hw1; clear hw1
  have HV := Lib.hid hV; clear hV
  clear hZ hwv
  have H := Lib.hid h; clear h
  have HM := Lib.hid hm; clear hm
  have HS := Lib.hid hsrc; clear hsrc
  have HL := Lib.hid hl; clear hl
  clear hxc hx
  go_enter Try.func112, Try.ntmps112
  go_wp2_with (first | ((with_reducible apply wpL_alloc HZ1.out)))
  refine (dmay_any d at' b g _ (H.out.gr (Gr.alloc _ _))).mono ?_
  rintro e w1 ⟨rfl, rfl⟩
  rw [HM.out]
  have g1 : Gr w ((w.alloc (.cells Z 122)).alloc (.cells V.toArray 122)) := (Gr.alloc _ _).trans (Gr.alloc _ _)
  go_wp2_with (first
    | ((with_reducible apply wpL_build HBU.out); rfl)
    | ((with_reducible apply wpL_alloc HZ1.out))
    | ((with_reducible apply wpL_storeNew (w0 := w.alloc (.cells Z 122)) (vs := V)); rfl; (rw [HVL.out]; exact inf122); exact HV1.out; rfl; (rw [HV.out]; rfl); (rw [HVL.out]; exact HZS.out.symm))
    | ((with_reducible apply wpL_copyAt (cs := x.map bv) (new := wv) slU8 infU8s); rfl; rfl; go_must (exact heap_alloc_at _ _ _ (by simp)); go_must (rw [List.length_map]; exact HL.out); go_must (simp only [List.size_toArray, HVL.out]; decide); go_must (exact HS.out _ g1); exact bvs_one x; go_must (exact HNEW.out); rw [putB_alloc_at (w.alloc (.cells Z 122)) _ _ _ (by simp)])
    | ((with_reducible apply wpL_loadW (vs := wv)); exact HWL.out; rfl; go_must (exact heap_alloc_at _ _ _ (by simp)); go_must (intro j _; rw [Nat.zero_add]; simp))
    | ((with_reducible apply wpL_storeAll (vs := wv)); go_must (rw [HWL.out]; exact inf122); exact HW1.out; rfl; rfl; go_must (exact heap_alloc_lt (heap_alloc_new w _) _); go_must (rw [HWL.out]; exact HZS.out)))
  have hw : w.heap.size < ((w.alloc (.cells Z 122)).alloc (.cells wv.toArray 122)).heap.size := by simp; omega
  refine bodyPost_ret (results_cell_tmpW rfl _ _ w.heap.size _ _ _ wv rfl (putB_get_self hw _) HWL.out (fun j _ => by simp)) rfl ?_
  exact ⟨rfl, below_putB ((Gr.alloc _ _).trans (Gr.alloc _ _)) (Nat.le_refl _) _⟩
end Go.Proofs.Ytoalnkhedebpbaa

/-! stripe.One, while there is power. -/
namespace Go.Proofs.Ytoalnkhedebpbaa
open Go.RowKit

def dOf (L D C n : Int) : Nat := (dskOf L D C (rowOf L D C n) (colOf L D C n)).toNat
def oneLost (m : BM) (l : List Bool) (L D C n : Int) : Bool := !upF m l (dOf L D C n) && lostR L D C (rowOf L D C n) (seen m l D.toNat (36 + (rowOf L D C n).toNat))
def oneV (m : BM) (l : List Bool) (L D C n : Int) : List UInt8 :=
  if upF m l (dOf L D C n) then rd (m.d (dOf L D C n)) (36 + (rowOf L D C n).toNat) else (takeR L D C (rowOf L D C n) (seen m l D.toNat (36 + (rowOf L D C n).toNat))).getD (colOf L D C n).toNat []
theorem lostF_solved {p q : List UInt8} {ps : List (List UInt8)} : (solvedF p q ps).length = ps.length := by
  unfold solvedF
  simp only
  split
  · simp
  · split <;> simp
  · simp
theorem takeR_length (L D C r : Int) (ds : List (List UInt8)) : (takeR L D C r ds).length = (D - (L - 4)).toNat := by
  unfold takeR
  rw [lostF_solved, partsOf_length]
theorem ints_cells {w : World} {v : Value} {zs : List Int} (h : SlAt w 3 v (ints zs)) (h0 : 0 < zs.length) : ∃ b off cap, v = .slice (some ⟨b, off, none⟩) zs.length cap ∧ ∀ i, i < zs.length → w.cell? ⟨b, off + i, none⟩ = some (.int .i64 (zs.getD i 0)) := by
  rcases h with ⟨h1, _⟩ | ⟨b, off, cap, cs, fr, rfl, hb, hc, _⟩
  · have : zs = [] := by simpa [ints] using h1
    subst this
    simp at h0
  · refine ⟨b, off, cap, by simp [ints], fun i hi => ?_⟩
    rw [cell_of_row w b _ cs _ fr hb, hc i (by simpa [ints] using hi)]
    simp [ints, hi]
theorem numsOf_get {L D C r : Int} {i : Nat} (hi : i < (D - (L - 4)).toNat) : (numsOf L D C r).getD i 0 = numOf L D C r i := by simp [numsOf, hi]
theorem numsOf_length (L D C r : Int) : (numsOf L D C r).length = (D - (L - 4)).toNat := by simp [numsOf]
set_option maxRecDepth 100000 in
set_option maxHeartbeats 2000000 in
theorem sone_ok (m : BM) (l : List Bool) (F : Nat → Prop) (L D C n : Int) (bb : Nat) (v : Value) (w : World) (h : BenchAt w F bb m) (hv : BoolsAt w v l) (hg : goodG L D C = true) (hn : 0 ≤ n) (hn' : n < (D - (L - 4)) * 16) (hdn : m.down = false) (hcalm : Calm m) :
    Calls Try.prog 26 #[bp bb, v, gv L D C, .int .i64 n] w fun e w' => ∃ x, e = .returned (.tuple #[x, .int .i64 (lostE (oneLost m l L D C n))]) ∧ (oneLost m l L D C n = false → BytesAt w' x (oneV m l L D C n)) ∧ (oneLost m l L D C n = true → x = .slice none 0 0) ∧ Gr w w' := by
  obtain ⟨hL1, hL2, hD1, hD2, hC1, hC2, _⟩ := goodG_bds hg
  obtain ⟨a, cap, rfl⟩ := hv.shape
  obtain ⟨_, _, _, _, _, _, _, _, _, r0, r1, k0, k1⟩ := of_bds hg hn hn'
  obtain ⟨hd0, hd1⟩ := dskOf_bds hg (rowOf L D C n) (colOf L D C n)
  obtain ⟨r, hr⟩ : ∃ r : Nat, rowOf L D C n = r := ⟨(rowOf L D C n).toNat, by omega⟩
  obtain ⟨k, hk⟩ : ∃ k : Nat, colOf L D C n = k := ⟨(colOf L D C n).toNat, by omega⟩
  obtain ⟨d, hd⟩ : ∃ d : Nat, dskOf L D C r k = d := ⟨(dskOf L D C r k).toNat, by rw [← hr, ← hk]; omega⟩
  have hdo : dOf L D C n = d := by unfold dOf; rw [hr, hk, hd]; rfl
  have hnum : numOf L D C r k = n := by
    rw [← hr, ← hk]
    exact num_row.resolve_right (fun h => h hg)
  rw [hr] at r0 r1
  rw [hk] at k0 k1
  rw [hr, hk, hd] at hd0 hd1
  have hlo : oneLost m l L D C n = (!upF m l d && lostR L D C r (seen m l D.toNat (36 + r))) := by unfold oneLost; rw [hdo, hr]; rfl
  have hva : oneV m l L D C n = if upF m l d then rd (m.d d) (36 + r) else (takeR L D C r (seen m l D.toNat (36 + r))).getD k [] := by unfold oneV; rw [hdo, hr, hk]; rfl
  have r16 : r < 16 := by omega
  have H := Lib.hid h; clear h
  have HV := Lib.hid hv; clear hv
  have HG := Lib.hid hg; clear hg
  have HDW := Lib.hid hdn; clear hdn
  have HCA := Lib.hid hcalm; clear hcalm
  have HLO := Lib.hid hlo; clear hlo
  have HVA := Lib.hid hva; clear hva
  have HNUM := Lib.hid hnum; clear hnum
  have HN := Lib.hid (show 0 ≤ n ∧ n < (D - (L - 4)) * 16 from ⟨hn, hn'⟩)
  have HR := Lib.hid hr; clear hr
  have HK := Lib.hid hk; clear hk
  have HD := Lib.hid hd; clear hd
  clear hdo hn hn'
  obtain ⟨u, hu⟩ : ∃ u, u = upF m l d := ⟨_, rfl⟩
  have HU := Lib.hid hu
  go_enter Try.func26, Try.ntmps26
  go_wp2_with fail
  refine (of_good L D C n _ HG.out HN.out.1 HN.out.2).mono ?_
  rintro e w1 ⟨rfl, hg⟩
  rw [HR.out, HK.out, HD.out]
  have g1 : Gr w w1 := (Gr.alloc w _).trans hg
  obtain ⟨c0, c1, c2⟩ := box3 (hg.get (heap_alloc_new w _))
  clear hg
  go_wp2_with fail
  refine (up_any m l F bb d _ _ (H.out.gr g1) (HV.out.gr g1)).mono ?_
  rintro e w2 ⟨rfl, rfl⟩
  rw [← hu]
  clear hu
  cases u with
  | true =>
    have hul := upF_lt HU.out.symm
    have HE := Lib.hid (rwE_ok (a := 36 + r) HDW.out hul.1 hul.2.2.2 (by omega))
    clear hul
    have hlo : oneLost m l L D C n = false := by rw [HLO.out, ← HU.out]; rfl
    have hva : oneV m l L D C n = rd (m.d d) (36 + r) := by rw [HVA.out, if_pos HU.out.symm]
    have HLO := Lib.hid hlo; clear hlo
    have HVA := Lib.hid hva; clear hva
    go_wp2_with fail
    have e36 : (36 : Int) + (r : Int) = ((36 + r : Nat) : Int) := by omega
    rw [e36]
    clear e36
    refine (bread_any m F bb d (36 + r) _ (H.out.gr g1) HCA.out).mono ?_
    rintro e w3 ⟨x, rfl, _, hx, hg3⟩
    replace hx := hx HE.out
    rw [HE.out]
    have HX := Lib.hid hx; clear hx
    go_wp2
    go_ret2
    rw [HLO.out, HVA.out]
    exact ⟨x, rfl, (fun _ => HX.out), (fun e => absurd e (by decide)), g1.trans hg3⟩
  | false =>
    have hlo : oneLost m l L D C n = lostR L D C r (seen m l D.toNat (36 + r)) := by rw [HLO.out, ← HU.out]; rfl
    have hva : oneV m l L D C n = (takeR L D C r (seen m l D.toNat (36 + r))).getD k [] := by rw [HVA.out, if_neg (by rw [← HU.out]; decide)]
    have HLO := Lib.hid hlo; clear hlo
    have HVA := Lib.hid hva; clear hva
    go_wp2_with fail
    refine (sread_ok m l F L D C r bb _ _ (H.out.gr g1) (HV.out.gr g1) HG.out r16 HDW.out HCA.out).mono ?_
    rintro e w3 ⟨x, rfl, hx, hx', hg3⟩
    rw [← HLO.out]
    rw [← HLO.out] at hx hx'
    obtain ⟨t, ht⟩ : ∃ t, t = oneLost m l L D C n := ⟨_, rfl⟩
    rw [← ht]
    rw [← ht] at hx hx'
    have HT := Lib.hid ht; clear ht
    have b0 := hg3.cell c0
    have b1 := hg3.cell c1
    have b2 := hg3.cell c2
    replace g1 := g1.trans hg3
    cases t with
    | true =>
      go_wp2
      go_ret2
      rw [← HT.out]
      exact ⟨_, rfl, (fun e => absurd e (by decide)), (fun _ => rfl), g1⟩
    | false =>
      have HX := Lib.hid (hx rfl)
      clear hx hx' hg3
      have hlen := takeR_length L D C r (seen m l D.toNat (36 + r))
      obtain ⟨ds, hds⟩ : ∃ ds, ds = takeR L D C r (seen m l D.toNat (36 + r)) := ⟨_, rfl⟩
      rw [← hds] at HX hlen
      have HDS := Lib.hid hds; clear hds
      obtain ⟨W, hW⟩ : ∃ W : Nat, D - (L - 4) = W := ⟨(D - (L - 4)).toNat, by omega⟩
      have hW' : (D - (L - 4)).toNat = W := by omega
      rw [hW'] at hlen
      clear hW'
      rw [hW] at k1
      have hkW : k < W := by omega
      have hW8 : W < 8 := by omega
      have HWW := Lib.hid hW; clear hW k1
      go_wp2_with fail
      refine (numbers_good L D C r _ HG.out (by omega) (by omega)).mono ?_
      rintro e w4 ⟨nv, rfl, hnv, hg4⟩
      have hWn : (D - (L - 4)).toNat = W := by have := HWW.out; omega
      obtain ⟨nb, no, nc, rfl, hnc⟩ := ints_cells hnv (by rw [numsOf_length, hWn]; omega)
      rw [numsOf_length, hWn] at hnc ⊢
      have HNC : Hid (∀ i, i < W → w4.cell? ⟨nb, no + i, none⟩ = some (.int .i64 (numOf L D C r i))) := Lib.hid fun i hi => by
        rw [hnc i hi, numsOf_get (by rw [hWn]; exact hi)]
      clear hnc hnv
      have hX4 := HX.out.gr hg4
      rcases hX4.cases with ⟨rfl, _⟩ | ⟨xb, xo, xc, xs, rfl, _, _, hxl, hxc, hxb⟩
      · simp at hlen; omega
      rw [hlen] at hxc hxb ⊢
      have hxk := hxc k hkW
      have hbk := hxb k hkW
      obtain ⟨ak, nk, ck, hsk⟩ := hbk.sl
      rw [hsk] at hxk hbk
      have HBK := Lib.hid hbk
      have HINJ : Hid (∀ i : Nat, i < k → numOf L D C r i ≠ n) := Lib.hid fun i hi e => by
        have e2 := num_inj (k := i) (k' := k) hC1 (e.trans HNUM.out.symm)
        omega
      clear hX4 hbk hsk hxb hxc hxl hWn hlen b0 b1 b2 c0 c1 c2 hL1 hL2 hD1 hD2 hC1 hC2
      go_wp2_with fail
      go_loopw [52] (fun i wr => ∃ j : Nat, j ≤ k ∧ i = .int .i64 j ∧ Gr w4 wr) (fun i _ => k + 1 - (intOf i).toNat)
      case atStart => exact ⟨0, by omega, rfl, Gr.refl _⟩
      case round =>
        obtain ⟨j, hj, rfl, hgr⟩ := hrel
        have hjW : j < W := by omega
        have cj := hgr.cell (HNC.out j hjW)
        by_cases hjk : j < k
        · have hne := HINJ.out j hjk
          obtain ⟨z, hz⟩ : ∃ z, z = numOf L D C r j := ⟨_, rfl⟩
          rw [← hz] at cj hne
          clear hz
          have hb : (z == n) = false := by rw [beq_eq_false_iff_ne]; exact hne
          clear hne
          go_wp2
          go_roundw
          case rel => exact ⟨j + 1, by omega, by go_num, hgr⟩
          case measure => simp [intOf]; omega
        · obtain rfl : j = k := by omega
          rw [HNUM.out] at cj
          have hb : (n == n) = true := by simp
          have hxk' := hgr.cell hxk
          clear hj hjk
          go_wp2
          go_ret2
          rw [← HT.out, HVA.out, ← HDS.out]
          exact ⟨_, rfl, (fun _ => HBK.out.gr hgr), (fun e => absurd e (by decide)), (g1.trans hg4).trans hgr⟩
end Go.Proofs.Ytoalnkhedebpbaa

/-! (*Disk).Damage where nothing is pending. -/
namespace Go.Proofs.Ytoalnkhedebpbaa
open Go.RowKit

theorem putB_self {w : World} {g : Nat} {o : Obj} (h : w.heap[g]? = some o) : putB w g o = w := by
  have hlt := heap_lt h
  unfold putB
  have e : w.heap.setIfInBounds g o = w.heap := by
    apply Array.ext
    · simp
    · intro i h1 h2
      rw [Array.getElem_setIfInBounds (by simpa using h1)]
      by_cases hi : g = i
      · subst hi
        rw [if_pos rfl]
        have := (Array.getElem?_eq_some_iff.1 h).2
        exact this.symm
      · rw [if_neg hi]
  rw [e]
theorem putB_putB (w : World) (g : Nat) (o o' : Obj) : putB (putB w g o) g o' = putB w g o' := by
  unfold putB
  simp
/-- Cells stored one after the other into a block. -/
theorem setCells_putB (g : Nat) (t : TypeId) (fr : Nat × Nat) : ∀ (vs : List Value) (o : Nat) (cs : Array Value) (w : World), w.heap[g]? = some (.cells cs t fr) → o + vs.length ≤ cs.size →
    ∃ cs' : Array Value, w.setCells g o vs = putB w g (.cells cs' t fr) ∧ cs'.size = cs.size ∧ ∀ i, cs'[i]? = if o ≤ i ∧ i < o + vs.length then vs[i - o]? else cs[i]?
  | [], o, cs, w, h, hl => ⟨cs, (putB_self h).symm, rfl, fun i => by rw [if_neg (by rw [List.length_nil]; omega)]⟩
  | v :: r, o, cs, w, h, hl => by
    simp only [List.length_cons] at hl
    have h' := putB_get_self (heap_lt h) (.cells (cs.setIfInBounds o v) t fr)
    obtain ⟨cs', e1, e2, e3⟩ := setCells_putB g t fr r (o + 1) (cs.setIfInBounds o v) _ h' (by rw [Array.size_setIfInBounds]; omega)
    refine ⟨cs', ?_, by simpa using e2, fun i => ?_⟩
    · rw [World.setCells, setCell_putB h, e1, putB_putB]
    · rw [e3 i]
      by_cases hi : o + 1 ≤ i ∧ i < o + 1 + r.length
      · rw [if_pos hi, if_pos (by rw [List.length_cons]; omega)]
        have e : i - o = (i - (o + 1)) + 1 := by omega
        rw [e, List.getElem?_cons_succ]
      · rw [if_neg hi]
        by_cases ho : i = o
        · subst ho
          rw [if_pos (by simp)]
          simp [show i < cs.size from by omega]
        · rw [if_neg (by rw [List.length_cons]; omega), Array.getElem?_setIfInBounds_ne (Ne.symm ho)]
set_option maxRecDepth 100000 in
theorem clonew_nil (w : World) : Calls Try.prog 114 #[.slice none 0 0] w fun e w' => e = .returned (.slice none 0 0) ∧ w = w' := by
  have he : ∀ w : World, (binOp .eql 126 (.slice none 0 0) (.slice none 0 0)).run Try.prog w = .ok (.bool true) w := fun _ => rfl
  go_enter Try.func114, Try.ntmps114
  go_wp2
  go_ret
  exact ⟨rfl, rfl⟩
set_option maxRecDepth 100000 in
theorem idxw_nil (f : Value) (w : World) : Calls Try.prog 137 #[.slice none 0 0, f] w fun e w' => e = .returned (.int .i64 (-1)) ∧ w = w' := by
  go_enter Try.func137, Try.ntmps137
  go_wp2
  refine wp_loop_once ?_
  go_wp2
  go_ret
  exact ⟨rfl, rfl⟩
set_option maxRecDepth 100000 in
theorem delw_nil (f : Value) (w : World) : Calls Try.prog 113 #[.slice none 0 0, f] w fun e w' => e = .returned (.slice none 0 0) ∧ w = w' := by
  go_enter Try.func113, Try.ntmps113
  go_wp2_with fail
  refine (idxw_nil f _).mono ?_
  rintro e w1 ⟨rfl, rfl⟩
  go_wp2
  go_ret
  exact ⟨rfl, rfl⟩
/-- A sector is another one. -/
def DM.put (d : DM) (a : Nat) (x : List UInt8) : DM := { d with sec := fun k => if k = a then x else d.sec k }
set_option maxRecDepth 100000 in
set_option maxHeartbeats 1000000 in
theorem ddamage_ok (d : DM) (at' : Nat) (x : List UInt8) (b : Nat) (g : Option Nat) (u : Value) (w : World) (h : DiskAt w b g d) (hp : d.pend = []) (hm : mayF d at' = 0) (hx : BytesAt w u x) (hl : x.length = 32) :
    Calls Try.prog 82 #[.pointer (some ⟨b, 0, none⟩), .int .i64 at', u] w fun e w' => e = .returned (.int .i64 0) ∧ DStep w b g w' g ∧ DiskAt w' b g (d.put at' x) := by
  have ha : at' < 52 := by
    unfold mayF at hm
    split at hm
    · simp at hm
    · split at hm
      · simp at hm
      · omega
  obtain ⟨a, cap, hu⟩ := hx.shape
  rw [hl] at hu
  subst hu
  obtain ⟨cs, pv, h1, h2, h3, h4, h5, h6, h7, h8, h9⟩ := id h
  have hg0 := h8.2 hp
  subst hg0
  have hpv : pv = .slice none 0 0 := by
    rcases h7.2 with ⟨e, _⟩ | ⟨gg, cap, cur, rfl, _⟩
    · exact e
    · have := h8.1; simp [Value.ownBlock] at this
  subst hpv
  have c5 := cell_blk h1 h5
  have hb0 := heap_lt h1
  have hwl := wvals_length (x := (at', x)) hl
  have hw1 := wvals_one (at', x)
  obtain ⟨wv, hwv⟩ : ∃ wv, wv = wvals (at', x) := ⟨_, rfl⟩
  rw [← hwv] at hwl hw1
  have HWV := Lib.hid hwv; clear hwv
  have HWL := Lib.hid hwl; clear hwl
  have HW1 := Lib.hid hw1; clear hw1
  obtain ⟨Z, hZ⟩ : ∃ Z, Z = zw := ⟨_, rfl⟩
  have hZ1 := z122
  have hZs := zw_size
  rw [← hZ] at hZ1 hZs
  have HZ1 := Lib.hid hZ1; clear hZ1
  have HZS := Lib.hid hZs; clear hZs hZ
  have HM := Lib.hid hm; clear hm
  have HX := Lib.hid hx; clear hx
  have HL := Lib.hid hl; clear hl
  have H := Lib.hid h; clear h
  have HB := Lib.hid h1
  have H2 := Lib.hid h2
  have H3 := Lib.hid h3
  have H4 := Lib.hid h4
  have H5 := Lib.hid h5
  have H6 := Lib.hid h6
  have H7 := Lib.hid h7
  have H8 := Lib.hid h8
  have H9 := Lib.hid h9
  have HPE := Lib.hid hp
  clear h1 h2 h3 h4 h5 h6 h7 h8 h9 hp
  go_enter Try.func82, Try.ntmps82
  go_wp2_with fail
  refine (dput_ok d at' x b none _ _ (H.out.gr (Gr.alloc _ _)) HM.out (HX.out.gr (Gr.alloc _ _)) HL.out).mono ?_
  rintro e w1 ⟨rfl, g1⟩
  rw [← HWV.out]
  have ct := g1.cell (cell_new w (.int .i64 at') 3 w.heap.size rfl)
  replace g1 := (Gr.alloc w _).trans g1
  go_wp2_with (first | ((with_reducible apply wpL_alloc HZ1.out)) | ((with_reducible apply wpL_storeNew (w0 := w1) (vs := wv)); rfl; (rw [HWL.out]; exact inf122); exact HW1.out; rfl; rfl; (rw [HWL.out]; exact HZS.out.symm)))
  obtain ⟨y, hy⟩ : ∃ y, y = x.map bv := ⟨_, rfl⟩
  have hyl : y.length = 32 := by rw [hy, List.length_map]; exact HL.out
  have hy1 : ∀ v ∈ y, v.oneCell' = true := by rw [hy]; exact bvs_one x
  have hwy : wv = .int .i64 at' :: y := by rw [HWV.out, hy]; rfl
  obtain ⟨wm, hwm⟩ : ∃ wm, wm = w1.alloc (.cells wv.toArray 122) := ⟨_, rfl⟩
  have gm : Gr w wm := by rw [hwm]; exact g1.trans (Gr.alloc _ _)
  have ctm : wm.cell? ⟨w.heap.size, 0, none⟩ = some (.int .i64 at') := by rw [hwm]; exact (Gr.alloc _ _).cell ct
  have hrg : wm.rangeAt w1.heap.size 1 y := fun j v hj => by
    rw [hwm, cell_of_row _ _ _ _ _ _ (heap_alloc_new w1 _), hwy, Nat.add_comm]
    simpa using hj
  have hbm : wm.heap[b]? = some (.cells cs 128 (0, 0)) := gm.get HB.out
  have hth : wm.there b (at' * 32) 32 := fun j hj => by
    rw [cell_of_row _ _ _ _ _ _ hbm]
    have := H2.out
    refine ⟨by simp [show at' * 32 + j < cs.size from by omega], by simp [World.frozen?, hbm]⟩
  have HBM := Lib.hid hbm; clear hbm
  have HY := Lib.hid hy; clear hy
  rw [← hwm]
  have g1s := g1.size
  clear hwm ct g1 hwy
  have hu := und120
  have hi : (Try.prog.info? 120).map (·.size) = some y.length := by rw [hyl]; exact inf120
  have ha' : (at' : Int) < 52 := by omega
  have n1 : w.heap.size ≠ b := by omega
  have n2 : w1.heap.size ≠ b := by have := g1s; omega
  have ctm2 : (wm.drew.setCells b (at' * 32) y).cell? ⟨w.heap.size, 0, none⟩ = some (.int .i64 at') := by
    rw [World.cell?_setCells_out _ _ _ _ _ (fun e _ => absurd e n1)]; exact (Gr.drew wm).cell ctm
  have hrg2 : (wm.drew.setCells b (at' * 32) y).rangeAt w1.heap.size 1 y := World.rangeAt_setCells_apart ((World.rangeAt_drew _ _ _ _).2 hrg) _ _ _ (.inl n2)
  have hth2 : (wm.drew.setCells b (at' * 32) y).there b (at' * 32) 32 := World.there_setCells ((World.there_drew _ _ _ _).2 hth) _ _ _
  go_region_held3 (fun w' => w'.cell? ⟨w.heap.size, 0, none⟩ = some (.int .i64 at') ∧ w'.rangeAt w1.heap.size 1 y ∧ w'.there b (at' * 32) 32) (first | exact ⟨ctm, hrg, hth⟩ | exact ⟨ctm2, hrg2, hth2⟩) (fail)
  obtain ⟨cs', e1, e2, e3⟩ := setCells_putB b 128 (0, 0) y (at' * 32) cs wm.drew HBM.out (by have := H2.out; omega)
  rw [hyl] at e3
  have hlt : b < wm.drew.heap.size := heap_lt HBM.out
  rw [e1]
  have hbX := putB_get_self hlt (.cells cs' 128 (0, 0))
  have k5 : cs'[1664]? = some (.slice none 0 0) := by rw [e3, if_neg (by omega)]; exact H5.out
  have cX := cell_blk hbX k5
  have fX : (putB wm.drew b (.cells cs' 128 (0, 0))).frozen? ⟨b, 1664, none⟩ = false := by simp [World.frozen?, hbX]
  obtain ⟨wX, hwX⟩ : ∃ wX, wX = putB wm.drew b (.cells cs' 128 (0, 0)) := ⟨_, rfl⟩
  rw [← hwX] at hbX cX fX ⊢
  have HWX := Lib.hid hwX
  have HBX := Lib.hid hbX
  have E3 := Lib.hid e3
  have E2 := Lib.hid e2
  clear e1 e2 e3 hwX hbX ctm2 hrg2 hth2 ctm hrg hth
  go_wp2_with fail
  refine (clonew_nil _).mono ?_
  rintro e w3 ⟨rfl, rfl⟩
  go_wp2_with fail
  refine (delw_nil _ _).mono ?_
  rintro e w3 ⟨rfl, rfl⟩
  go_wp2
  go_ret
  rw [setCell_putB HBX.out]
  have hX := HWX.out
  have hsz : wX.heap.size = wm.heap.size := by rw [hX, putB_size]; rfl
  have hbl := heap_lt HBX.out
  have c2 := H2.out
  have e2 := E2.out
  refine ⟨rfl, ⟨?_, ?_, ?_, ?_, fun k hk hkb _ => ?_, .inl rfl⟩, ⟨cs'.setIfInBounds 1664 (.slice none 0 0), .slice none 0 0, putB_get_self hbl _, by simp; omega, fun a ha => ?_, fun a ha j hj => ?_, ?_, ?_, ?_, ⟨rfl, fun _ => rfl⟩, H9.out⟩⟩
  · rw [show (putB wX b _).os = wX.os from rfl, hX]; exact gm.os
  · rw [show (putB wX b _).tape = wX.tape from rfl, hX]; exact gm.tape
  · rw [show (putB wX b _).output = wX.output from rfl, hX]; exact gm.output
  · rw [putB_size, hsz]; exact gm.size
  · rw [putB_get_other wX hkb, hX, putB_get_other wm.drew hkb]
    exact gm.block k hk
  · show (if a = at' then x else d.sec a).length = 32
    by_cases e : a = at'
    · rw [if_pos e]; exact HL.out
    · rw [if_neg e]; exact H3.out a ha
  · show _ = ((if a = at' then x else d.sec a).map bv)[j]?
    rw [Array.getElem?_setIfInBounds_ne (by omega), E3.out]
    by_cases e : a = at'
    · subst e
      rw [if_pos (by omega), if_pos rfl, HY.out]
      congr 1
      omega
    · rw [if_neg (by omega), if_neg e]
      exact H4.out a ha j hj
  · simp [show 1664 < cs'.size from by omega]
  · rw [Array.getElem?_setIfInBounds_ne (by decide), E3.out, if_neg (by omega)]
    exact H6.out
  · show World.ownsRow _ 0 _ 33 (.slice none 0 0) d.pend.length (pvals d.pend)
    rw [HPE.out]
    exact ⟨rfl, .inl ⟨rfl, rfl⟩⟩
end Go.Proofs.Ytoalnkhedebpbaa

/-! bench.Damage (nothing pending), Fail. -/
namespace Go.Proofs.Ytoalnkhedebpbaa
open Go.RowKit

/-- A disk of the bench is another one. -/
def BM.set (m : BM) (i : Nat) (d : DM) : BM := { m with ds := m.ds.set i d }
theorem BM.set_d (m : BM) {i j : Nat} (d : DM) (hi : i < m.ds.length) : (m.set i d).d j = if j = i then d else m.d j := by
  unfold BM.set BM.d
  by_cases e : j = i
  · subst e; rw [if_pos rfl]; exact getD_set_self hi
  · rw [if_neg e]; exact getD_set_ne (fun h => e h.symm)
theorem BM.set_len (m : BM) (i : Nat) (d : DM) : (m.set i d).ds.length = m.ds.length := by simp [BM.set]
set_option maxRecDepth 100000 in
set_option maxHeartbeats 400000 in
theorem bdamage_ok (m : BM) (F : Nat → Prop) (bb i at' : Nat) (x : List UInt8) (u : Value) (w : World) (h : BenchAt w F bb m) (hi : i < m.ds.length) (hp : (m.d i).pend = []) (hm : mayF (m.d i) at' = 0) (hx : BytesAt w u x) (hl : x.length = 32) :
    Calls Try.prog 28 #[bp bb, .int .i64 i, .int .i64 at', u] w fun e w' => e = .returned (.int .i64 0) ∧ ∃ F', BenchAt w' F' bb (m.set i ((m.d i).put at' x)) ∧ St F w F' w' := by
  have H := Lib.hid h
  have his : isB m i = true := by unfold isB; simp [hi]
  have HI := Lib.hid his; clear his
  obtain ⟨lb, cap, b, g, c3, ci, hd, hst⟩ := h.at hi
  have HD := Lib.hid hd; clear hd
  have HST := Lib.hid hst; clear hst
  have HX := Lib.hid hx
  have HP := Lib.hid hp; clear hp
  have HM := Lib.hid hm; clear hm
  have HL := Lib.hid hl
  obtain ⟨a, ucap, hu⟩ := hx.shape
  rw [hl] at hu
  subst hu
  clear h hx hl
  go_enter Try.func28, Try.ntmps28
  go_wp2_with fail
  refine (is_any m F bb i _ H.out).mono ?_
  rintro e w1 ⟨rfl, rfl⟩
  rw [HI.out]
  go_wp2_with fail
  refine (ddamage_ok (m.d i) at' x b g _ _ HD.out HP.out HM.out HX.out HL.out).mono ?_
  rintro e w1 ⟨rfl, hs, hd⟩
  have HR := Lib.hid (HST.out w1 g _ hs hd)
  clear hs hd
  go_wp2
  go_ret
  exact ⟨rfl, HR.out⟩
def dfail : DM := ⟨fun _ => zeros 32, [], true⟩
def zdf : List Value := List.replicate 1664 (Value.int .u8 0) ++ [Value.slice none 0 0, Value.bool true]
theorem inf128 : (Try.prog.info? 128).map (·.size) = some 1666 := by kernel_rfl
theorem build128 (w : World) : (Instr.build 128 #[(2, .bool true)]).run Try.prog w = .ok (.agg zdf.toArray) w := by kernel_rfl
def zf (n : Nat) : List Value := List.replicate n (Value.int .u8 0) ++ [Value.slice none 0 0, Value.bool true]
theorem zf_get {n i : Nat} (h : i < n) : (zf n).toArray[i]? = some (.int .u8 0) := by
  unfold zf
  rw [List.getElem?_toArray, List.getElem?_append_left (by simpa using h)]
  simp [h]
theorem zf_end (n : Nat) : (zf n).length = n + 2 ∧ (zf n).toArray[n]? = some (.slice none 0 0) ∧ (zf n).toArray[n + 1]? = some (.bool true) ∧ ∀ v ∈ zf n, v.oneCell' = true := by
  unfold zf
  refine ⟨by simp, ?_, ?_, fun v hv => ?_⟩
  · rw [List.getElem?_toArray, List.getElem?_append_right (by simp)]; simp
  · rw [List.getElem?_toArray, List.getElem?_append_right (by simp)]; simp
  · rcases List.mem_append.1 hv with hv | hv
    · rw [(List.mem_replicate.1 hv).2]; rfl
    · rcases List.mem_cons.1 hv with rfl | hv
      · rfl
      · rcases List.mem_cons.1 hv with rfl | hv
        · rfl
        · simp at hv
theorem DiskAt.dead {w : World} {b : Nat} (h : w.heap[b]? = some (.cells zdf.toArray 128 (0, 0))) : DiskAt w b none dfail := by
  obtain ⟨e1, e2, e3, _⟩ := zf_end 1664
  refine ⟨(zf 1664).toArray, .slice none 0 0, h, e1, fun a _ => zeros_length 32, fun a ha j hj => ?_, e2, e3, ⟨rfl, .inl ⟨rfl, rfl⟩⟩, ⟨rfl, fun _ => rfl⟩, fun x hx => absurd hx List.not_mem_nil⟩
  rw [zf_get (by omega)]
  exact (zeros_map 32 j hj).symm
set_option maxRecDepth 100000 in
set_option maxHeartbeats 1000000 in
theorem dfail_any (d : DM) (b : Nat) (g : Option Nat) (w : World) (h : DiskAt w b g d) :
    Calls Try.prog 84 #[.pointer (some ⟨b, 0, none⟩)] w fun e w' => e = .returned (.tuple #[]) ∧ DStep w b g w' none ∧ DiskAt w' b none dfail := by
  obtain ⟨cs, pv, h1, h2, _⟩ := h
  have hlt := heap_lt h1
  have hz := zf_end 1664
  have HB := Lib.hid h1
  have H2 := Lib.hid h2
  have HZ1 : Hid (zdf.length = 1666) := Lib.hid hz.1
  have HZ2 : Hid (∀ v ∈ zdf, v.oneCell' = true) := Lib.hid hz.2.2.2
  clear h1 h2 hz
  go_enter Try.func84, Try.ntmps84
  go_wp2_with (first | ((with_reducible apply wpL_storeAll (vs := zdf)); (rw [HZ1.out]; exact inf128); exact HZ2.out; rfl; rfl; exact HB.out; (rw [HZ1.out]; exact H2.out)))
  go_end0
  exact ⟨rfl, ⟨rfl, rfl, rfl, Nat.le_of_eq (putB_size _ _ _).symm, fun k hk hkb _ => putB_get_other w hkb _, .inr (fun x hx => absurd hx (by simp))⟩, DiskAt.dead (putB_get_self hlt _)⟩
set_option maxRecDepth 100000 in
set_option maxHeartbeats 400000 in
theorem bfail_ok (m : BM) (F : Nat → Prop) (bb i : Nat) (w : World) (h : BenchAt w F bb m) (hi : i < m.ds.length) :
    Calls Try.prog 32 #[bp bb, .int .i64 i] w fun e w' => e = .returned (.int .i64 0) ∧ ∃ F', BenchAt w' F' bb (m.set i dfail) ∧ St F w F' w' := by
  have H := Lib.hid h
  have his : isB m i = true := by unfold isB; simp [hi]
  have HI := Lib.hid his; clear his
  obtain ⟨lb, cap, b, g, c3, ci, hd, hst⟩ := h.at hi
  have HD := Lib.hid hd; clear hd
  have HST := Lib.hid hst; clear hst
  clear h
  go_enter Try.func32, Try.ntmps32
  go_wp2_with fail
  refine (is_any m F bb i _ H.out).mono ?_
  rintro e w1 ⟨rfl, rfl⟩
  rw [HI.out]
  go_wp2_with fail
  refine (dfail_any (m.d i) b g _ HD.out).mono ?_
  rintro e w1 ⟨rfl, hs, hd⟩
  have HR := Lib.hid (HST.out w1 none _ hs hd)
  clear hs hd
  go_wp2
  go_ret
  exact ⟨rfl, HR.out⟩
end Go.Proofs.Ytoalnkhedebpbaa
