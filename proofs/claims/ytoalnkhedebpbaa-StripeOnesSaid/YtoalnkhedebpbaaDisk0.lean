/- One disk in memory; (*Disk).may, Failed, Read: what they answer. -/
import Derived.Test.YtoalnkhedebpbaaFill
namespace Go.Proofs.Ytoalnkhedebpbaa
open Go.RowKit

structure DM where
  sec : Nat → List UInt8
  pend : List (Nat × List UInt8)
  failed : Bool
def wvals (x : Nat × List UInt8) : List Value := .int .i64 x.1 :: x.2.map bv
def pvals (l : List (Nat × List UInt8)) : List Value := l.flatMap wvals
/-- A disk at block b, what is pending at block g. -/
def DiskAt (w : World) (b : Nat) (g : Option Nat) (d : DM) : Prop :=
  ∃ (cs : Array Value) (pv : Value), w.heap[b]? = some (.cells cs 128 (0, 0)) ∧ cs.size = 1666 ∧ (∀ a, a < 52 → (d.sec a).length = 32) ∧ (∀ a, a < 52 → ∀ j, j < 32 → cs[a * 32 + j]? = ((d.sec a).map bv)[j]?) ∧
    cs[1664]? = some pv ∧ cs[1665]? = some (.bool d.failed) ∧ w.ownsRow 0 122 33 pv d.pend.length (pvals d.pend) ∧ (pv.ownBlock = g ∧ (d.pend = [] → g = none)) ∧ ∀ x, x ∈ d.pend → x.1 < 52 ∧ x.2.length = 32
theorem DiskAt.gr {w w' : World} {b : Nat} {g : Option Nat} {d : DM} (h : DiskAt w b g d) (k : Gr w w') : DiskAt w' b g d := by
  obtain ⟨cs, pv, h1, h2, h3, h4, h5, h6, h7, h8, h9⟩ := h
  exact ⟨cs, pv, k.get h1, h2, h3, h4, h5, h6, own_gr h7 k, h8, h9⟩
/-- What stands against something at a place. -/
def mayF (d : DM) (at' : Int) : Int := if d.failed then 5 else if at' < 0 ∨ 52 ≤ at' then 4 else 0
theorem cell_blk {w : World} {b off : Nat} {cs : Array Value} {t : TypeId} {fr : Nat × Nat} {v : Value} (h : w.heap[b]? = some (.cells cs t fr)) (hv : cs[off]? = some v) : w.cell? ⟨b, off, none⟩ = some v := by
  rw [cell_of_row w b _ cs _ fr h]; exact hv
set_option maxRecDepth 100000 in
set_option maxHeartbeats 400000 in
theorem dmay_any (d : DM) (at' : Int) (b : Nat) (g : Option Nat) (w : World) (h : DiskAt w b g d) :
    Calls Try.prog 129 #[.pointer (some ⟨b, 0, none⟩), .int .i64 at'] w fun e w' => e = .returned (.int .i64 (mayF d at')) ∧ w = w' := by
  obtain ⟨cs, pv, h1, h2, h3, h4, h5, h6, h7, h8, h9⟩ := h
  have c6 := cell_blk h1 h6
  clear h1 h2 h3 h4 h5 h6 h7 h8 h9
  obtain ⟨f, hf⟩ : ∃ f, d.failed = f := ⟨_, rfl⟩
  rw [hf] at c6
  cases f with
  | true =>
    have hm : mayF d at' = 5 := by unfold mayF; rw [hf]; rfl
    rw [hm]; clear hm hf
    go_enter Try.func129, Try.ntmps129
    go_wp2
    go_ret
    exact ⟨rfl, rfl⟩
  | false =>
    by_cases hb : at' < 0
    · have hm : mayF d at' = 4 := by unfold mayF; rw [hf, if_neg (by decide), if_pos (.inl hb)]
      have d0 : decide (at' < 0) = true := decide_eq_true hb
      rw [hm]; clear hm hf hb
      go_enter Try.func129, Try.ntmps129
      go_wp2
      go_ret
      exact ⟨rfl, rfl⟩
    · by_cases hc : 52 ≤ at'
      · have hm : mayF d at' = 4 := by unfold mayF; rw [hf, if_neg (by decide), if_pos (.inr hc)]
        have d0 : decide (at' < 0) = false := decide_eq_false hb
        have d1 : decide (52 ≤ at') = true := decide_eq_true hc
        rw [hm]; clear hm hf hb hc
        go_enter Try.func129, Try.ntmps129
        go_wp2
        go_ret
        exact ⟨rfl, rfl⟩
      · have hm : mayF d at' = 0 := by unfold mayF; rw [hf, if_neg (by decide), if_neg (by omega)]
        have d0 : decide (at' < 0) = false := decide_eq_false hb
        have d1 : decide (52 ≤ at') = false := decide_eq_false hc
        rw [hm]; clear hm hf hb hc
        go_enter Try.func129, Try.ntmps129
        go_wp2
        go_ret
        exact ⟨rfl, rfl⟩
set_option maxRecDepth 100000 in
theorem dfailed_any (d : DM) (b : Nat) (g : Option Nat) (w : World) (h : DiskAt w b g d) :
    Calls Try.prog 100 #[.pointer (some ⟨b, 0, none⟩)] w fun e w' => e = .returned (.bool d.failed) ∧ w = w' := by
  obtain ⟨cs, pv, h1, h2, h3, h4, h5, h6, h7, h8, h9⟩ := h
  have c6 := cell_blk h1 h6
  clear h1 h2 h3 h4 h5 h6 h7 h8 h9
  go_enter Try.func100, Try.ntmps100
  go_wp2
  go_ret
  exact ⟨rfl, rfl⟩
/-- What is read: the last one that is pending there; or what stays. -/
def rdTo (d : DM) (a k : Nat) : List UInt8 := (d.pend.take k).foldl (fun b x => if x.1 = a then x.2 else b) (d.sec a)
def rd (d : DM) (a : Nat) : List UInt8 := rdTo d a d.pend.length
theorem rdTo_len {d : DM} {a : Nat} (h : (d.sec a).length = 32) (hp : ∀ x, x ∈ d.pend → x.1 < 52 ∧ x.2.length = 32) : ∀ k, (rdTo d a k).length = 32 := by
  intro k
  unfold rdTo
  have : ∀ (l : List (Nat × List UInt8)) (b : List UInt8), (∀ x, x ∈ l → x.2.length = 32) → b.length = 32 → (l.foldl (fun b x => if x.1 = a then x.2 else b) b).length = 32 := by
    intro l
    induction l with
    | nil => intro b _ hb; exact hb
    | cons x r ih =>
      intro b hl hb
      refine ih _ (fun y hy => hl y (List.mem_cons_of_mem _ hy)) ?_
      show (if x.1 = a then x.2 else b).length = 32
      by_cases e : x.1 = a
      · rw [if_pos e]; exact hl x List.mem_cons_self
      · rw [if_neg e]; exact hb
  exact this _ _ (fun x hx => (hp x (List.mem_of_mem_take hx)).2) h
theorem rdTo_succ {d : DM} {a k : Nat} (hk : k < d.pend.length) : rdTo d a (k + 1) = if (d.pend.getD k (0, [])).1 = a then (d.pend.getD k (0, [])).2 else rdTo d a k := by
  unfold rdTo
  have e : d.pend.take (k + 1) = d.pend.take k ++ [d.pend.getD k (0, [])] := by
    rw [List.take_add_one, List.getElem?_eq_getElem hk]; simp [hk]
  rw [e, List.foldl_append]
  rfl
theorem wvals_length {x : Nat × List UInt8} (h : x.2.length = 32) : (wvals x).length = 33 := by simp [wvals, h]
theorem pvals_get : ∀ (l : List (Nat × List UInt8)) (_ : ∀ x, x ∈ l → x.2.length = 32) (k j : Nat), k < l.length → j < 33 → (pvals l)[k * 33 + j]? = (wvals (l.getD k (0, [])))[j]?
  | [], _, k, j, hk, _ => by simp at hk
  | x :: r, h, k, j, hk, hj => by
    have hx := wvals_length (h x List.mem_cons_self)
    have e : pvals (x :: r) = wvals x ++ pvals r := by simp [pvals]
    rw [e]
    cases k with
    | zero =>
      rw [List.getElem?_append_left (by omega)]
      simp
    | succ k =>
      rw [List.getElem?_append_right (by omega)]
      have := pvals_get r (fun y hy => h y (List.mem_cons_of_mem _ hy)) k j (by simpa using hk) hj
      have e2 : (k + 1) * 33 + j - (wvals x).length = k * 33 + j := by omega
      rw [e2, this]
      simp
theorem inf120 : (Try.prog.info? 120).map (·.size) = some 32 := by kernel_rfl
theorem und120 : Try.prog.underlying 120 = some (.array 32 5) := by kernel_rfl
theorem inf122 : (Try.prog.info? 122).map (·.size) = some 33 := by kernel_rfl
theorem agg_of {P : Program} {T : TypeId} (h : (P.underlying T).map (fun ds => match ds with | .struct _ | .array _ _ => true | _ => false) = some true) : ∃ ds, P.underlying T = some ds ∧ (match ds with | .struct _ | .array _ _ => true | _ => false) = true := by
  cases hu : P.underlying T with
  | none => rw [hu] at h; simp at h
  | some ds => rw [hu] at h; exact ⟨ds, rfl, by simpa using h⟩
theorem und122 : ∃ ds, Try.prog.underlying 122 = some ds ∧ (match ds with | .struct _ | .array _ _ => true | _ => false) = true := agg_of (by kernel_rfl)
section
variable {ops : Array Oper} {Q : Exit → Act → World → Prop} {a : Act} {w : World} {rest : List Oper} {d : Option Tmp} {ty : TypeId} {pos : String} {after : Array Edge}
/-- A write, a sector is loaded out of the midst of a block. -/
theorem wpL_loadW {x : Operand} {g off : Nat} {cs : Array Value} {t : TypeId} {fr : Nat × Nat} (vs : List Value) (hl : vs.length = 33)
    (hx : a.eval x = .pointer (some ⟨g, off, none⟩)) (hg : w.heap[g]? = some (.cells cs t fr)) (hvs : ∀ j, j < 33 → cs[off + j]? = vs[j]?)
    (h : wpList Try.prog ops Q rest (a.put d (.agg vs.toArray)) w) :
    wpList Try.prog ops Q ({ dst := d, op := .load 122 x, type := ty, pos := pos, after := after, guard := none } :: rest) a w := by
  obtain ⟨ds, hu, hd⟩ := und122
  cases ds with
  | struct f => exact wpL_loadAgg vs hu rfl (by rw [hl]; exact inf122) hx hg (fun j hj => hvs j (by omega)) h
  | array n e => exact wpL_loadAgg vs hu rfl (by rw [hl]; exact inf122) hx hg (fun j hj => hvs j (by omega)) h
  | _ => exact absurd hd Bool.false_ne_true
theorem wpL_loadS {x : Operand} {g off : Nat} {cs : Array Value} {t : TypeId} {fr : Nat × Nat} (vs : List Value) (hl : vs.length = 32)
    (hx : a.eval x = .pointer (some ⟨g, off, none⟩)) (hg : w.heap[g]? = some (.cells cs t fr)) (hvs : ∀ j, j < 32 → cs[off + j]? = vs[j]?)
    (h : wpList Try.prog ops Q rest (a.put d (.agg vs.toArray)) w) :
    wpList Try.prog ops Q ({ dst := d, op := .load 120 x, type := ty, pos := pos, after := after, guard := none } :: rest) a w :=
  wpL_loadAgg vs und120 rfl (by rw [hl]; exact inf120) hx hg (fun j hj => hvs j (by omega)) h
end
theorem wvals_one (x : Nat × List UInt8) : ∀ v ∈ wvals x, v.oneCell' = true := by
  intro v hv
  rcases List.mem_cons.1 hv with rfl | hv
  · rfl
  · exact bvs_one _ v hv
end Go.Proofs.Ytoalnkhedebpbaa
