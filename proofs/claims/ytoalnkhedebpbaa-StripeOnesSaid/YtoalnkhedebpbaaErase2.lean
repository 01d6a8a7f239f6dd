/- erase.Solve: what it answers for sectors. -/
import Derived.Test.YtoalnkhedebpbaaErase1
import Derived.Deep.RegionHeld3
namespace Go.Proofs.Ytoalnkhedebpbaa
open Go.RowKit

theorem goneTo_mem {ps : List (List UInt8)} {k i : Nat} : i ∈ goneTo ps k ↔ i < k ∧ (ps.getD i []).length = 0 := by
  unfold goneTo
  rw [List.mem_filter, List.mem_range, decide_eq_true_iff]
theorem goneTo_nodup (ps : List (List UInt8)) (k : Nat) : (goneTo ps k).Nodup := List.Pairwise.filter _ List.nodup_range
/-- What is answered, if it is. -/
def solvedF (p q : List UInt8) (ps : List (List UInt8)) : List (List UInt8) :=
  let l := ps.map (fillZ 32)
  match goneTo ps ps.length with
  | [j, k] => (l.set j (twoX p q l j k)).set k (twoY p q l j k)
  | [j] => if 0 < p.length then l.set j (addB p (sumTo ones l l.length)) else l.set j (byQF q l j)
  | _ => l
def lostF (p q : List UInt8) (ps : List (List UInt8)) : Bool := decide (2 < (goneTo ps ps.length).length + (goneTo [p, q] 2).length)
/-- A row of rows, in one block. -/
def ORows (w : World) (g n : Nat) (L : List (List UInt8)) : Prop :=
  L.length = n ∧ ∃ (cur : Array Value) (us : List Value), w.heap[g]? = some (.cells cur 43 (0, 0)) ∧ n ≤ cur.size ∧ us.length = n ∧ (∀ i, i < n → cur[i]? = us[i]?) ∧ ∀ i, i < n → BytesAt w (us.getD i undef) (L.getD i [])
theorem ORows.rows {w : World} {g n : Nat} {L : List (List UInt8)} (h : ORows w g n L) (hn : n ≤ 9223372036854775807) (cap : Nat) : RowsAt w (.slice (some ⟨g, 0, none⟩) n cap) L := by
  obtain ⟨h1, cur, us, h2, h3, h4, h5, h6⟩ := h
  refine ⟨us, .inr ⟨g, 0, cap, cur, (0, 0), by rw [h4], h2, fun i hi => ?_, by omega⟩, by omega, fun i hi => h6 i (by omega)⟩
  rw [Nat.zero_add]; exact h5 i (by omega)
theorem ORows.gr {w w' : World} {g n : Nat} {L : List (List UInt8)} (h : ORows w g n L) (k : Gr w w') : ORows w' g n L := by
  obtain ⟨h1, cur, us, h2, h3, h4, h5, h6⟩ := h
  exact ⟨h1, cur, us, k.get h2, h3, h4, h5, fun i hi => (h6 i hi).gr k⟩
theorem SlAt.put {w : World} {E E' : TypeId} {v : Value} {vs : List Value} {g : Nat} {cs : Array Value} {fr : Nat × Nat} (h : SlAt w E v vs) (hg : w.heap[g]? = some (.cells cs E' fr)) (hne : E ≠ E') (o : Obj) : SlAt (putB w g o) E v vs := by
  rcases h with h | ⟨b, off, cap, cs', fr', hv, hb, hc, hl⟩
  · exact .inl h
  · refine .inr ⟨b, off, cap, cs', fr', hv, ?_, hc, hl⟩
    rw [putB_get_other w (fun e => ?_)]
    · exact hb
    · rw [e, hg] at hb
      injection hb with h1
      injection h1 with _ h2 _
      exact hne h2.symm
theorem setCell_putB {w : World} {g off : Nat} {cs : Array Value} {t : TypeId} {fr : Nat × Nat} (hg : w.heap[g]? = some (.cells cs t fr)) (v : Value) : w.setCell ⟨g, off, none⟩ v = putB w g (.cells (cs.setIfInBounds off v) t fr) := by
  rw [setCell_eq_setRow w g off cs t fr v hg, setRow_putB hg]
/-- One row of them is another one. -/
theorem ORows.set {w : World} {g n j : Nat} {L : List (List UInt8)} {x : List UInt8} {v : Value} (h : ORows w g n L) (hj : j < n) (hv : BytesAt w v x) : ORows (w.setCell ⟨g, j, none⟩ v) g n (L.set j x) := by
  obtain ⟨h1, cur, us, h2, h3, h4, h5, h6⟩ := h
  have hlt := heap_lt h2
  rw [setCell_putB h2]
  refine ⟨by simpa using h1, cur.setIfInBounds j v, us.set j v, putB_get_self hlt _, by simpa using h3, by simpa using h4, fun i hi => ?_, fun i hi => ?_⟩
  · by_cases e : i = j
    · subst e; simp [show i < cur.size from by omega, show i < us.length from by omega]
    · rw [Array.getElem?_setIfInBounds_ne (Ne.symm e), List.getElem?_set_ne (Ne.symm e)]; exact h5 i hi
  · refine SlAt.put (E' := 43) ?_ h2 (by decide) _
    by_cases e : i = j
    · subst e
      have e1 : (us.set i v).getD i undef = v := by simp [show i < us.length from by omega]
      have e2 : (L.set i x).getD i [] = x := by simp [show i < L.length from by omega]
      rw [e1, e2]; exact hv
    · have e1 : (us.set j v).getD i undef = us.getD i undef := by simp [List.getElem?_set_ne (Ne.symm e)]
      have e2 : (L.set j x).getD i [] = L.getD i [] := by simp [List.getElem?_set_ne (Ne.symm e)]
      rw [e1, e2]; exact h6 i hi
theorem BytesAt.setCell {w : World} {g j n : Nat} {L : List (List UInt8)} {u v : Value} {y : List UInt8} (h : ORows w g n L) (hv : BytesAt w v y) : BytesAt (w.setCell ⟨g, j, none⟩ u) v y := by
  obtain ⟨h1, cur, us, h2, h3, h4, h5, h6⟩ := h
  rw [setCell_putB h2]
  exact SlAt.put (E' := 43) hv h2 (by decide) _
theorem ORows.cell {w : World} {g n j : Nat} {L : List (List UInt8)} (h : ORows w g n L) (hj : j < n) : (∃ u, w.cell? ⟨g, j, none⟩ = some u) ∧ w.frozen? ⟨g, j, none⟩ = false := by
  obtain ⟨h1, cur, us, h2, h3, h4, h5, h6⟩ := h
  refine ⟨⟨us.getD j undef, ?_⟩, by simp [World.frozen?, h2]⟩
  rw [cell_of_row w g _ cur _ _ h2, h5 j hj]
  simp [show j < us.length from by omega]
theorem gr_setCell {w w' : World} {g j n : Nat} {L : List (List UInt8)} {v : Value} (h : Gr w w') (ho : ORows w' g n L) (hg : w.heap.size ≤ g) : Gr w (w'.setCell ⟨g, j, none⟩ v) := by
  obtain ⟨h1, cur, us, h2, _⟩ := ho
  rw [setCell_putB h2]
  exact below_putB h hg _
theorem SlAt.setCell {w : World} {g j n : Nat} {L : List (List UInt8)} {u v : Value} {E : TypeId} {vs : List Value} (h : ORows w g n L) (hv : SlAt w E v vs) (hne : E ≠ 43) : SlAt (w.setCell ⟨g, j, none⟩ u) E v vs := by
  obtain ⟨h1, cur, us, h2, _⟩ := h
  rw [setCell_putB h2]
  exact SlAt.put hv h2 hne _
theorem ORows.own {w : World} {base n : Nat} {r : Value} {us : List Value} {L : List (List UInt8)} (h : w.ownsRow base 43 1 r n us) (hn : 0 < n) (hl : L.length = n) (hb : ∀ i, i < n → BytesAt w (us.getD i undef) (L.getD i [])) :
    ∃ g cap, r = .slice (some ⟨g, 0, none⟩) n cap ∧ base ≤ g ∧ ORows w g n L := by
  rcases h.2 with ⟨_, h0⟩ | ⟨g, cap, cur, rfl, h1, h2, h3, h4, h5, h6⟩
  · omega
  · refine ⟨g, cap, rfl, h1, hl, cur, us, h2, by omega, by simpa using h.1, fun i hi => ?_, hb⟩
    rw [← h6]
    simp [hi]
/-- The cells of a row of one, or two, numbers. -/
theorem gi_cells {w : World} {v : Value} {l : List Nat} (h : SlAt w 3 v (gi l)) (hl : 0 < l.length) : ∃ b off cap, v = .slice (some ⟨b, off, none⟩) l.length cap ∧ ∀ i, i < l.length → w.cell? ⟨b, off + i, none⟩ = some (.int .i64 (l.getD i 0 : Nat)) := by
  rcases h with ⟨h1, _⟩ | ⟨b, off, cap, cs, fr, rfl, hb, hc, _⟩
  · have : (gi l).length = 0 := by rw [h1]; rfl
    rw [gi_length] at this; omega
  · refine ⟨b, off, cap, by rw [gi_length], fun i hi => ?_⟩
    rw [cell_of_row w b _ cs _ fr hb, hc i (by simpa using hi)]
    simp [gi, hi]
theorem RowsAt.two {w : World} {k : Nat} {u v : Value} {p q : List UInt8} (hk : k = w.heap.size) (hp : BytesAt w u p) (hq : BytesAt w v q) : RowsAt (w.alloc (.cells #[u, v] 43)) (.slice (some ⟨k, 0, none⟩) 2 2) [p, q] := by
  subst hk
  refine ⟨[u, v], SlAt.lit (cap := 2) [u, v] (heap_alloc_new w _) (by simp), rfl, fun i hi => ?_⟩
  have hi' : i < 2 := hi
  match i, hi' with
  | 0, _ => exact hp.gr (Gr.alloc w _)
  | 1, _ => exact hq.gr (Gr.alloc w _)
theorem ORows.ne {w : World} {g n b off : Nat} {L : List (List UInt8)} {v : Value} {l : List Nat} {len cap : Nat} (h : ORows w g n L) (hv : SlAt w 3 v (gi l)) (e : v = .slice (some ⟨b, off, none⟩) len cap) (hl : 0 < l.length) : b ≠ g := by
  obtain ⟨h1, cur, us, h2, _⟩ := h
  rcases hv with ⟨h0, _⟩ | ⟨b', off', cap', cs, fr, hv, hb, _⟩
  · have e0 : (gi l).length = 0 := by rw [h0]; rfl
    rw [gi_length] at e0; omega
  · rw [hv] at e
    injection e with e1
    injection e1 with e2
    injection e2 with e3
    intro hh
    rw [← hh, ← e3, hb] at h2
    injection h2 with h4
    injection h4 with _ h5 _
    exact absurd h5 (by decide)
theorem BytesAt.sl {w : World} {v : Value} {l : List UInt8} (h : BytesAt w v l) : ∃ a n cap, v = .slice a n cap := by
  obtain ⟨a, cap, e⟩ := h.shape
  exact ⟨a, l.length, cap, e⟩
/-- What the walk wants of two stores, in either order. -/
theorem ORows.stores {w : World} {g n j k : Nat} {L : List (List UInt8)} (r s : Value) (h : ORows w g n L) (hj : j < n) (hk : k < n) (hne : j ≠ k) :
    (∃ uj, w.cell? ⟨g, j, none⟩ = some uj ∧ (w.setCell ⟨g, k, none⟩ s).cell? ⟨g, j, none⟩ = some uj) ∧ (∃ uk, w.cell? ⟨g, k, none⟩ = some uk ∧ (w.setCell ⟨g, j, none⟩ r).cell? ⟨g, k, none⟩ = some uk) ∧
    w.frozen? ⟨g, j, none⟩ = false ∧ w.frozen? ⟨g, k, none⟩ = false ∧ (w.setCell ⟨g, k, none⟩ s).frozen? ⟨g, j, none⟩ = false ∧ (w.setCell ⟨g, j, none⟩ r).frozen? ⟨g, k, none⟩ = false := by
  obtain ⟨⟨uj, cj⟩, fj⟩ := h.cell hj
  obtain ⟨⟨uk, ck⟩, fk⟩ := h.cell hk
  refine ⟨⟨uj, cj, ?_⟩, ⟨uk, ck, ?_⟩, fj, fk, ?_, ?_⟩
  · rw [World.cell?_setCell_other _ _ _ _ (by intro e; injection e with _ e2 _; exact hne e2.symm)]; exact cj
  · rw [World.cell?_setCell_other _ _ _ _ (by intro e; injection e with _ e2 _; exact hne e2)]; exact ck
  · rw [World.frozen?_setCell]; exact fj
  · rw [World.frozen?_setCell]; exact fk
theorem cell_apart {w : World} {b off g j : Nat} {u v : Value} (h : w.cell? ⟨b, off, none⟩ = some u) (hne : b ≠ g) : (w.setCell ⟨g, j, none⟩ v).cell? ⟨b, off, none⟩ = some u := by
  rw [World.cell?_setCell_other _ _ _ _ (by intro e; injection e with e1 _ _; exact hne e1.symm)]; exact h
end Go.Proofs.Ytoalnkhedebpbaa
