/- wattlelaw14: lost, can: what they answer; stripe.Read, One where there is no such row, no such sector. -/
import Derived.Test.YtoalnkhedebpbaaBack0
namespace Go.Proofs.Ytoalnkhedebpbaa
open Go.RowKit

theorem mapIB : Try.prog.underlying 52 = some (.map 3 4) := by kernel_rfl
theorem zeroB (w : World) : (zeroValue 4).run Try.prog w = .ok (.bool false) w := by kernel_rfl
theorem mfind_no (k : Int) : ∀ (m : List (Int × Value)), (∀ p ∈ m, p.1 ≠ k) → mfind k m = none
  | [], _ => rfl
  | (k', v) :: r, h => by
    unfold mfind
    rw [if_neg (fun e => h (k', v) List.mem_cons_self e.symm), mfind_no k r (fun p hp => h p (List.mem_cons_of_mem _ hp))]
theorem mfind_app (k : Int) : ∀ (m n : List (Int × Value)), mfind k (m ++ n) = (mfind k m).or (mfind k n)
  | [], n => by simp [mfind]
  | (k', v) :: r, n => by
    show (if k = k' then some v else mfind k (r ++ n)) = (if k = k' then some v else mfind k r).or (mfind k n)
    by_cases e : k = k'
    · rw [if_pos e, if_pos e]; rfl
    · rw [if_neg e, if_neg e]; exact mfind_app k r n
theorem mset_no (k : Int) (v : Value) : ∀ (m : List (Int × Value)), (∀ p ∈ m, p.1 ≠ k) → mset k v m = m ++ [(k, v)]
  | [], _ => rfl
  | (k', u) :: r, h => by
    unfold mset
    rw [if_neg (fun e => h (k', u) List.mem_cons_self e.symm), mset_no k v r (fun p hp => h p (List.mem_cons_of_mem _ hp))]; rfl
/-- The disks below k that can't be asked. -/
def lostEs (f : Nat → Bool) (k : Nat) : List (Int × Value) := ((List.range k).filter fun d => !f d).map fun d : Nat => ((d : Int), Value.bool true)
theorem lostEs_succ (f : Nat → Bool) (k : Nat) : lostEs f (k + 1) = lostEs f k ++ if f k then [] else [((k : Int), Value.bool true)] := by
  unfold lostEs
  rw [List.range_succ, List.filter_append, List.map_append, List.filter_cons]
  cases f k <;> rfl
theorem lostEs_lt (f : Nat → Bool) (k : Nat) : ∀ p ∈ lostEs f k, p.1 < (k : Int) := fun p hp => by
  obtain ⟨d, hd, rfl⟩ := List.mem_map.1 hp
  have := List.mem_range.1 (List.mem_filter.1 hd).1
  show (d : Int) < k
  omega
theorem lostEs_find (f : Nat → Bool) (d : Nat) : ∀ k, mfind (d : Int) (lostEs f k) = if d < k ∧ f d = false then some (.bool true) else none
  | 0 => by simp [lostEs, mfind]
  | k + 1 => by
    rw [lostEs_succ, mfind_app, lostEs_find f d k]
    by_cases e : d = k
    · subst e
      rw [if_neg (by omega)]
      cases hf : f d
      · simp [mfind]
      · simp [mfind]
    · have h2 : mfind (d : Int) (if f k then [] else [((k : Int), Value.bool true)]) = none := by
        cases f k
        · refine mfind_no _ _ (fun p hp => ?_)
          have : p = ((k : Int), Value.bool true) := by simpa using hp
          rw [this]
          show (k : Int) ≠ d
          omega
        · rfl
      rw [h2]
      by_cases c : d < k ∧ f d = false
      · rw [if_pos c, if_pos ⟨by omega, c.2⟩]; rfl
      · rw [if_neg c, if_neg (fun c' => c ⟨by omega, c'.2⟩)]; rfl
theorem lostEs_get (f : Nat → Bool) {d k : Nat} (h : d < k) : (mfind (d : Int) (lostEs f k)).getD (.bool false) = .bool (!f d) := by
  rw [lostEs_find]
  cases hf : f d
  · rw [if_pos ⟨h, rfl⟩]; rfl
  · rw [if_neg (fun c => absurd c.2 (by decide))]; rfl
set_option maxRecDepth 100000 in
set_option maxHeartbeats 1000000 in
theorem lost_any (m : BM) (l : List Bool) (F : Nat → Prop) (L D C : Int) (bb DN : Nat) (v : Value) (w : World) (h : BenchAt w F bb m) (hv : BoolsAt w v l) (hDN : D = DN) (h8 : DN ≤ 8) (h0 : 0 < DN) (hml : DN ≤ m.ds.length) (hll : DN ≤ l.length) :
    Calls Try.prog 33 #[bp bb, v, gv L D C] w fun e w' => ∃ r, e = .returned (.map (some r)) ∧ w'.heap[r]? = some (mapObj (lostEs (upF m l) DN)) ∧ w.heap.size ≤ r ∧ Gr w w' := by
  subst hDN
  obtain ⟨b, off, cap, rfl, hc⟩ := hv.cells (by omega)
  have H := Lib.hid h; clear h
  have HC := Lib.hid hc; clear hc hv
  have g0 := heap_alloc_new w (.cells #[.int .i64 L, .int .i64 DN, .int .i64 C] 23)
  have G0 := Lib.hid (heap_alloc_lt g0 (mapObj [])); clear g0
  have hM0 : Hid (((w.alloc (.cells #[.int .i64 L, .int .i64 DN, .int .i64 C] 23)).alloc (mapObj [])).heap[w.heap.size + 1]? = some (mapObj (lostEs (upF m l) 0))) := Lib.hid (heap_alloc_at _ _ _ (by simp))
  obtain ⟨ln, hln⟩ : ∃ ln, ln = l.length := ⟨_, rfl⟩
  rw [← hln] at hll ⊢
  have HLN := Lib.hid hln; clear hln
  have hkl : ∀ k : Nat, k < DN → k < ln := fun k hk => by omega
  go_enter Try.func33, Try.ntmps33
  go_wp2_with (with_reducible refine wpL_makeMap ?_)
  have HKL := Lib.hid hkl; clear hkl
  go_loopw [8] (fun i wr => ∃ k : Nat, k ≤ DN ∧ i = .int .i64 k ∧ Hid (wr.heap[w.heap.size]? = some (.cells #[.int .i64 L, .int .i64 DN, .int .i64 C] 23 (0, 0))) ∧ Hid (wr.heap[w.heap.size + 1]? = some (mapObj (lostEs (upF m l) k))) ∧ Gr w wr) (fun i _ => DN - (intOf i).toNat)
  case atStart => exact ⟨0, by omega, rfl, G0, hM0, (Gr.alloc _ _).trans (Gr.alloc _ _)⟩
  case round =>
    obtain ⟨k, hk, rfl, hgb, hmp, hg⟩ := hrel
    obtain ⟨c0, c1, c2⟩ := box3 hgb.out
    by_cases hlt : k < DN
    · have hkl := HKL.out k hlt
      have ck := hg.cell (HC.out k (by have := HLN.out; omega))
      have hds : decide (k < m.ds.length) = true := decide_eq_true (by omega)
      have hne : ∀ p ∈ lostEs (upF m l) k, p.1 ≠ (k : Int) := fun p hp => by have := lostEs_lt _ _ p hp; omega
      have hset := mset_no k (.bool true) (lostEs (upF m l) k) hne
      have hsuc := lostEs_succ (upF m l) k
      have hll2 : decide (k < l.length) = true := decide_eq_true (by have := HLN.out; omega)
      have hHB := H.out.gr hg
      obtain ⟨x, hx⟩ : ∃ x, x = l.getD k false := ⟨_, rfl⟩
      rw [← hx] at ck
      have HSET := Lib.hid hset; clear hset hne
      cases x with
      | false =>
        have hu : upF m l k = false := by unfold upF; rw [← hx]; simp
        rw [hu] at hsuc
        have HSUC := Lib.hid hsuc; clear hsuc hu hds hll2 hx
        go_wp2_with (first | ((with_reducible apply wpL_update mapIB int64t); rfl; rfl; rfl; exact hmp.out))
        go_roundw
        case rel =>
          refine ⟨k + 1, by omega, by go_num, Lib.hid ((putB_get_other wr (by omega) _).trans hgb.out), Lib.hid ?_, below_putB hg (by omega) _⟩
          rw [putB_get_self (heap_lt hmp.out), HSET.out, HSUC.out]; rfl
        case measure => simp [intOf]; omega
      | true =>
        obtain ⟨f, hff⟩ : ∃ f, f = (m.d k).failed := ⟨_, rfl⟩
        have hf : (decide (k < m.ds.length) && (m.d k).failed) = f := by rw [hds, hff]; rfl
        have hu : upF m l k = !f := by unfold upF; rw [← hx, hds, hll2, hff]; rfl
        rw [hu] at hsuc
        have HF := Lib.hid hf; clear hf
        have HHB := Lib.hid hHB; clear hHB
        have HSUC := Lib.hid hsuc; clear hsuc hu hds hll2 hx hff
        have hkm : (k : Int) < (m.ds.length : Int) := by omega
        cases f with
        | true =>
          go_wp2_with fail
          refine (bfailed_any m F bb k _ HHB.out).mono ?_
          rintro e w3 ⟨rfl, rfl⟩
          rw [HF.out]
          go_wp2_with (first | ((with_reducible apply wpL_update mapIB int64t); rfl; rfl; rfl; exact hmp.out))
          go_roundw
          case rel =>
            refine ⟨k + 1, by omega, by go_num, Lib.hid ((putB_get_other wr (by omega) _).trans hgb.out), Lib.hid ?_, below_putB hg (by omega) _⟩
            rw [putB_get_self (heap_lt hmp.out), HSET.out, HSUC.out]; rfl
          case measure => simp [intOf]; omega
        | false =>
          go_wp2_with fail
          refine (bfailed_any m F bb k _ HHB.out).mono ?_
          rintro e w3 ⟨rfl, rfl⟩
          rw [HF.out]
          go_wp2_with fail
          refine (blen_any m F bb _ HHB.out).mono ?_
          rintro e w3 ⟨rfl, rfl⟩
          go_wp2
          go_roundw
          case rel => exact ⟨k + 1, by omega, by go_num, hgb, Lib.hid (by rw [HSUC.out]; simpa using hmp.out), hg⟩
          case measure => simp [intOf]; omega
    · obtain rfl : k = DN := by omega
      go_wp2
      go_ret
      exact ⟨_, rfl, hmp.out, by omega, hg⟩
/-- Of the disks below k: data that is lost, parity that is there. -/
def canTo (f : Nat → Bool) (par : Nat → Bool) : Nat → Nat × Nat
  | 0 => (0, 0)
  | k + 1 => if par k then ((canTo f par k).1, (canTo f par k).2 + if f k then 1 else 0) else ((canTo f par k).1 + if f k then 0 else 1, (canTo f par k).2)
theorem canTo_le (f par : Nat → Bool) : ∀ k, (canTo f par k).1 ≤ k ∧ (canTo f par k).2 ≤ k
  | 0 => ⟨Nat.le_refl _, Nat.le_refl _⟩
  | k + 1 => by
    obtain ⟨h1, h2⟩ := canTo_le f par k
    unfold canTo
    split <;> simp only <;> constructor <;> (try split) <;> omega
theorem canTo_sum (f par : Nat → Bool) : ∀ k, (canTo f par k).1 + ((List.range k).filter par).length = (canTo f par k).2 + ((List.range k).filter fun d => !f d).length
  | 0 => rfl
  | k + 1 => by
    have ih := canTo_sum f par k
    unfold canTo
    rw [List.range_succ, List.filter_append, List.filter_append, List.length_append, List.length_append, List.filter_cons, List.filter_cons]
    cases hp : par k <;> cases hf : f k <;> simp <;> omega
theorem filter_one (a : Nat) : ∀ n, ((List.range n).filter fun d => decide (d = a)).length = if a < n then 1 else 0
  | 0 => by simp
  | n + 1 => by
    rw [List.range_succ, List.filter_append, List.length_append, filter_one a n, List.filter_cons]
    by_cases e : n = a
    · subst e; simp
    · rw [decide_eq_false e]
      simp only [Bool.false_eq_true, if_false, List.filter_nil, List.length_nil]
      split <;> split <;> omega
theorem filter_pair {a b : Nat} (h : a ≠ b) : ∀ n, ((List.range n).filter fun d => decide (d = a) || decide (d = b)).length = (if a < n then 1 else 0) + if b < n then 1 else 0
  | 0 => by simp
  | n + 1 => by
    rw [List.range_succ, List.filter_append, List.length_append, filter_pair h n, List.filter_cons]
    by_cases e : n = a
    · subst e
      rw [decide_eq_true rfl]
      simp only [Bool.true_or, if_true, List.filter_nil, List.length_cons, List.length_nil]
      rw [if_neg (Nat.lt_irrefl n), if_pos (Nat.lt_succ_self n)]
      split <;> split <;> omega
    · by_cases e2 : n = b
      · subst e2
        rw [decide_eq_false e, decide_eq_true rfl]
        simp only [Bool.false_or, if_true, List.filter_nil, List.length_cons, List.length_nil]
        rw [if_neg (Nat.lt_irrefl n), if_pos (Nat.lt_succ_self n)]
        split <;> split <;> omega
      · rw [decide_eq_false e, decide_eq_false e2]
        simp only [Bool.or_false, Bool.false_eq_true, if_false, List.filter_nil, List.length_nil]
        split <;> split <;> split <;> split <;> omega
def parB (L D C : Int) (r : Nat) (d : Nat) : Bool := decide ((d : Int) = parP D C r) || decide ((d : Int) = parQ L D C r)
theorem par_count {L D C : Int} (h : goodG L D C = true) (r : Nat) : (((List.range D.toNat).filter (parB L D C r)).length : Int) = L - 4 := by
  obtain ⟨hL1, hL2, hD1, hD2, hC1, hC2, hw⟩ := goodG_bds h
  obtain ⟨p0, p1⟩ := parP_range (D := D) (C := C) (r := r) (by omega)
  by_cases h5 : L = 5
  · have e : ((List.range D.toNat).filter (parB L D C r)).length = ((List.range D.toNat).filter fun d => decide (d = (parP D C r).toNat)).length := filter_len_congr (fun d hd => by
      have hq : parQ L D C r = -1 := by unfold parQ; rw [if_pos h5]
      unfold parB
      rw [hq]
      have a1 : decide ((d : Int) = -1) = false := decide_eq_false (by omega)
      have a2 : ((d : Int) = parP D C r) ↔ d = (parP D C r).toNat := by omega
      rw [a1, Bool.or_false]
      exact decide_eq_decide.2 a2)
    rw [e, filter_one, if_pos (by omega), h5]; rfl
  · obtain ⟨q0, q1⟩ := parQ_six h r h5
    have hne := q_ne_p h r h5
    have e : ((List.range D.toNat).filter (parB L D C r)).length = ((List.range D.toNat).filter fun d => decide (d = (parP D C r).toNat) || decide (d = (parQ L D C r).toNat)).length := filter_len_congr (fun d hd => by
      unfold parB
      have a1 : ((d : Int) = parP D C r) ↔ d = (parP D C r).toNat := by omega
      have a2 : ((d : Int) = parQ L D C r) ↔ d = (parQ L D C r).toNat := by omega
      rw [decide_eq_decide.2 a1, decide_eq_decide.2 a2])
    rw [e, filter_pair (by omega), if_pos (by omega), if_pos (by omega)]
    omega
/-- A row can be told, if no more disks are lost than its geometry bears. -/
theorem can_count {L D C : Int} (h : goodG L D C = true) (r : Nat) (f : Nat → Bool) : decide ((canTo f (parB L D C r) D.toNat).1 ≤ (canTo f (parB L D C r) D.toNat).2) = decide ((((List.range D.toNat).filter fun d => !f d).length : Int) ≤ L - 4) := by
  have h1 := canTo_sum f (parB L D C r) D.toNat
  have h2 := par_count h r
  exact decide_eq_decide.2 (by omega)
set_option maxRecDepth 100000 in
set_option maxHeartbeats 1000000 in
theorem can_any (f : Nat → Bool) (L D C : Int) (r mp : Nat) (w : World) (h : goodG L D C = true) (hr : r < 16) (hm : w.heap[mp]? = some (mapObj (lostEs f D.toNat))) :
    Calls Try.prog 34 #[gv L D C, .int .i64 r, .map (some mp)] w fun e w' => e = .returned (.bool (decide ((((List.range D.toNat).filter fun d => !f d).length : Int) ≤ L - 4))) ∧ Gr w w' := by
  obtain ⟨hL1, hL2, hD1, hD2, hC1, hC2, hw⟩ := goodG_bds h
  rw [← can_count h r f]
  obtain ⟨DN, hDN⟩ : ∃ DN : Nat, D = DN := ⟨D.toNat, by omega⟩
  subst hDN
  rw [show (DN : Int).toNat = DN from by omega] at hm ⊢
  have H := Lib.hid h; clear h
  have HM := Lib.hid hm; clear hm
  obtain ⟨P, hP⟩ : ∃ P, P = parB L DN C r := ⟨_, rfl⟩
  rw [← hP]
  have HPD : Hid (∀ k : Nat, P k = (decide ((k : Int) = parP DN C r) || decide ((k : Int) = parQ L DN C r))) := Lib.hid fun k => by rw [hP]; rfl
  clear hP
  go_enter Try.func34, Try.ntmps34
  go_wp2_with fail
  refine (rparity_good L DN C r _ H.out (by omega) (by omega)).mono ?_
  rintro e w1 ⟨rfl, hg⟩
  obtain ⟨p, hp⟩ : ∃ p, p = parP DN C r := ⟨_, rfl⟩
  obtain ⟨q, hq⟩ : ∃ q, q = parQ L DN C r := ⟨_, rfl⟩
  rw [← hp, ← hq] at HPD ⊢
  have g1 : Gr w w1 := (Gr.alloc w _).trans hg
  have HG1 := Lib.hid (hg.get (heap_alloc_new w (.cells #[.int .i64 L, .int .i64 DN, .int .i64 C] 23)))
  have HM1 := Lib.hid (g1.get HM.out)
  clear hg hp hq HM
  go_wp2_with fail
  go_loop [9, 10, 11] (fun a b i => ∃ k : Nat, k ≤ DN ∧ i = .int .i64 k ∧ a = .int .i64 ((canTo f P k).1 : Nat) ∧ b = .int .i64 ((canTo f P k).2 : Nat)) (fun _ _ i => DN - (intOf i).toNat)
  case atStart => exact ⟨0, by omega, rfl, rfl, rfl⟩
  case round =>
    obtain ⟨k, hk, rfl, rfl, rfl⟩ := hrel
    obtain ⟨c0, c1, c2⟩ := box3 HG1.out
    obtain ⟨l1, l2⟩ := canTo_le f P k
    by_cases hlt : k < DN
    · have hget := lostEs_get f hlt
      have hsu : canTo f P (k + 1) = if P k then ((canTo f P k).1, (canTo f P k).2 + if f k then 1 else 0) else ((canTo f P k).1 + if f k then 0 else 1, (canTo f P k).2) := rfl
      obtain ⟨x, hx⟩ : ∃ x, x = (canTo f P k).1 := ⟨_, rfl⟩
      obtain ⟨y, hy⟩ : ∃ y, y = (canTo f P k).2 := ⟨_, rfl⟩
      rw [← hx] at hsu l1
      rw [← hy] at hsu l2
      rw [← hx, ← hy]
      obtain ⟨t, ht⟩ : ∃ t, t = f k := ⟨_, rfl⟩
      rw [← ht] at hsu hget
      have hx8 : (x : Int) ≤ 8 := by omega
      have hy8 : (y : Int) ≤ 8 := by omega
      have HGET := Lib.hid hget; clear hget
      by_cases hpk : (k : Int) = p
      · have hP : P k = true := by rw [HPD.out, decide_eq_true hpk]; rfl
        have bp : ((k : Int) == p) = true := beq_iff_eq.2 hpk
        rw [hP, if_pos rfl] at hsu
        have HSU := Lib.hid hsu; clear hsu hP hpk ht hx hy
        cases t
        all_goals
          go_wp2_with (first | ((with_reducible apply wpL_lookup mapIB int64t zeroB); rfl; rfl; exact HM1.out; exact HGET.out))
          go_round
        all_goals first | exact ⟨k + 1, by omega, by go_num, by rw [HSU.out], by rw [HSU.out]; go_num⟩ | (simp [intOf]; omega)
      · have bp : ((k : Int) == p) = false := beq_eq_false_iff_ne.2 hpk
        by_cases hqk : (k : Int) = q
        · have hP : P k = true := by rw [HPD.out, decide_eq_true hqk, Bool.or_true]
          have bq : ((k : Int) == q) = true := beq_iff_eq.2 hqk
          rw [hP, if_pos rfl] at hsu
          have HSU := Lib.hid hsu; clear hsu hP hpk hqk ht hx hy
          cases t
          all_goals
            go_wp2_with (first | ((with_reducible apply wpL_lookup mapIB int64t zeroB); rfl; rfl; exact HM1.out; exact HGET.out))
            go_round
          all_goals first | exact ⟨k + 1, by omega, by go_num, by rw [HSU.out], by rw [HSU.out]; go_num⟩ | (simp [intOf]; omega)
        · have hP : P k = false := by rw [HPD.out, decide_eq_false hqk, decide_eq_false hpk]; rfl
          have bq : ((k : Int) == q) = false := beq_eq_false_iff_ne.2 hqk
          rw [hP, if_neg (by decide)] at hsu
          have HSU := Lib.hid hsu; clear hsu hP hpk hqk ht hx hy
          cases t
          all_goals
            go_wp2_with (first | ((with_reducible apply wpL_lookup mapIB int64t zeroB); rfl; rfl; exact HM1.out; exact HGET.out))
            go_round
          all_goals first | exact ⟨k + 1, by omega, by go_num, by rw [HSU.out]; go_num, by rw [HSU.out]⟩ | (simp [intOf]; omega)
    · obtain rfl : k = DN := by omega
      go_wp2
      go_ret
      exact ⟨rfl, g1⟩
set_option maxRecDepth 100000 in
theorem sread_row (m : BM) (F : Nat → Prop) (L D C r : Int) (bb : Nat) (v : Value) (w : World) (_h : BenchAt w F bb m) (hg : goodG L D C = true) (hr : r < 0 ∨ 16 ≤ r) :
    Calls Try.prog 24 #[bp bb, v, gv L D C, .int .i64 r] w fun e w' => e = .returned (.tuple #[.slice none 0 0, .int .i64 1]) ∧ Gr w w' := by
  have HG := Lib.hid hg; clear hg _h
  rcases hr with hr | hr
  · have d0 : decide (r < 0) = true := decide_eq_true hr
    go_enter Try.func24, Try.ntmps24
    go_wp2_with fail
    refine (check_good L D C _ HG.out).mono ?_
    rintro e w1 ⟨rfl, hg⟩
    go_wp2
    go_ret2
    exact ⟨rfl, (Gr.alloc _ _).trans hg⟩
  · have d0 : decide (r < 0) = false := decide_eq_false (by omega)
    have d1 : decide (16 ≤ r) = true := decide_eq_true hr
    go_enter Try.func24, Try.ntmps24
    go_wp2_with fail
    refine (check_good L D C _ HG.out).mono ?_
    rintro e w1 ⟨rfl, hg⟩
    go_wp2
    go_ret2
    exact ⟨rfl, (Gr.alloc _ _).trans hg⟩
set_option maxRecDepth 100000 in
theorem sone_none (m : BM) (F : Nat → Prop) (L D C n : Int) (bb : Nat) (v : Value) (w : World) (_h : BenchAt w F bb m) (hg : goodG L D C = true) (hn : n < 0 ∨ (D - (L - 4)) * 16 ≤ n) :
    Calls Try.prog 26 #[bp bb, v, gv L D C, .int .i64 n] w fun e w' => e = .returned (.tuple #[.slice none 0 0, .int .i64 4]) ∧ Gr w w' := by
  have HG := Lib.hid hg; clear hg _h
  rcases hn with hn | hn
  · go_enter Try.func26, Try.ntmps26
    go_wp2_with fail
    refine (of_low L D C n _ hn).mono ?_
    rintro e w1 ⟨rfl, hg⟩
    go_wp2
    go_ret2
    exact ⟨rfl, (Gr.alloc _ _).trans hg⟩
  · go_enter Try.func26, Try.ntmps26
    go_wp2_with fail
    refine (of_high L D C n _ HG.out hn).mono ?_
    rintro e w1 ⟨rfl, hg⟩
    go_wp2
    go_ret2
    exact ⟨rfl, (Gr.alloc _ _).trans hg⟩
end Go.Proofs.Ytoalnkhedebpbaa
