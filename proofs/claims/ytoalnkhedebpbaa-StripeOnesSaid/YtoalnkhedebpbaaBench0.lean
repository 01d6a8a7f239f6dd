/- A bench in memory: its blocks, what changes when one of its disks does. -/
import Derived.Test.YtoalnkhedebpbaaDisk1
namespace Go.Proofs.Ytoalnkhedebpbaa
open Go.RowKit

structure BM where
  ds : List DM
  writes : Int
  left : Int
  down : Bool
def dm0 : DM := ⟨fun _ => zeros 32, [], false⟩
/-- A disk of a bench. -/
def BM.d (m : BM) (i : Nat) : DM := m.ds.getD i dm0
def ptr (b : Nat) : Value := .pointer (some ⟨b, 0, none⟩)
def bty (t : TypeId) : Prop := t = 88 ∨ t = 108 ∨ t = 128 ∨ t = 122
/-- All blocks but those of F are as they were. -/
structure Keep (F : Nat → Prop) (w w' : World) : Prop where
  os : w'.os = w.os
  tape : w'.tape = w.tape
  output : w'.output = w.output
  size : w.heap.size ≤ w'.heap.size
  block : ∀ k, k < w.heap.size → ¬ F k → w'.heap[k]? = w.heap[k]?
/-- .. and F has grown by new blocks at most. -/
def St (F : Nat → Prop) (w : World) (F' : Nat → Prop) (w' : World) : Prop := Keep F w w' ∧ ∀ k, F' k → F k ∨ w.heap.size ≤ k
theorem Keep.gr {F : Nat → Prop} {w w' : World} (h : Gr w w') : Keep F w w' := ⟨h.os, h.tape, h.output, h.size, fun k hk _ => h.block k hk⟩
theorem St.refl (F : Nat → Prop) (w : World) : St F w F w := ⟨Keep.gr (Gr.refl w), fun _ h => .inl h⟩
theorem St.gr {F : Nat → Prop} {w w' : World} (h : Gr w w') : St F w F w' := ⟨Keep.gr h, fun _ h => .inl h⟩
theorem St.trans {F F' F'' : Nat → Prop} {w w' w'' : World} (h : St F w F' w') (k : St F' w' F'' w'') : St F w F'' w'' := by
  refine ⟨⟨k.1.os.trans h.1.os, k.1.tape.trans h.1.tape, k.1.output.trans h.1.output, Nat.le_trans h.1.size k.1.size, fun j hj hf => ?_⟩, fun j hj => ?_⟩
  · rw [k.1.block j (Nat.lt_of_lt_of_le hj h.1.size) (fun hf' => ?_), h.1.block j hj hf]
    rcases h.2 j hf' with e | e
    · exact hf e
    · omega
  · rcases k.2 j hj with e | e
    · exact h.2 j e
    · exact .inr (Nat.le_trans h.1.size e)
/-- Since a world in which none of F was. -/
theorem St.since {F F' : Nat → Prop} {w0 w w' : World} (h : St F w F' w') (g : Gr w0 w) (hF : ∀ k, F k → w0.heap.size ≤ k) : Gr w0 w' ∧ ∀ k, F' k → w0.heap.size ≤ k := by
  refine ⟨⟨h.1.os.trans g.os, h.1.tape.trans g.tape, h.1.output.trans g.output, Nat.le_trans g.size h.1.size, fun k hk => ?_⟩, fun k hk => ?_⟩
  · rw [h.1.block k (Nat.lt_of_lt_of_le hk g.size) (fun hf => by have := hF k hf; omega), g.block k hk]
  · rcases h.2 k hk with e | e
    · exact hF k e
    · exact Nat.le_trans g.size e
/-- A bench at block bb, whose blocks are among F. -/
def BenchAt (w : World) (F : Nat → Prop) (bb : Nat) (m : BM) : Prop :=
  ∃ (lv : Value) (bs : List Nat) (gs : List (Option Nat)),
    w.heap[bb]? = some (.cells #[.int .i64 m.writes, .int .i64 m.left, .bool m.down, lv] 88 (0, 0)) ∧
    w.ownsRow 0 108 1 lv m.ds.length (bs.map ptr) ∧ bs.length = m.ds.length ∧ gs.length = m.ds.length ∧
    (∀ i, i < m.ds.length → DiskAt w (bs.getD i 0) (gs.getD i none) (m.ds.getD i dm0)) ∧
    bs.Nodup ∧ (∀ i j, i < m.ds.length → j < m.ds.length → i ≠ j → ∀ x, gs.getD i none = some x → gs.getD j none ≠ some x) ∧
    F bb ∧ (∀ x, lv.ownBlock = some x → F x) ∧ (∀ i, i < m.ds.length → F (bs.getD i 0)) ∧ (∀ i, i < m.ds.length → ∀ x, gs.getD i none = some x → F x) ∧
    ∀ k, F k → ∃ cs t fr, w.heap[k]? = some (.cells cs t fr) ∧ bty t
theorem BenchAt.gr {w w' : World} {F : Nat → Prop} {bb : Nat} {m : BM} (h : BenchAt w F bb m) (g : Gr w w') : BenchAt w' F bb m := by
  obtain ⟨lv, bs, gs, h1, h2, h3, h4, h5, h6, h7, h8, h9, h10, h11, h12⟩ := h
  exact ⟨lv, bs, gs, g.get h1, own_gr h2 g, h3, h4, fun i hi => (h5 i hi).gr g, h6, h7, h8, h9, h10, h11, fun k hk => by
    obtain ⟨cs, t, fr, e, hb⟩ := h12 k hk
    exact ⟨cs, t, fr, g.get e, hb⟩⟩
theorem BenchAt.typed {w : World} {F : Nat → Prop} {bb : Nat} {m : BM} (h : BenchAt w F bb m) : ∀ k, F k → ∃ cs t fr, w.heap[k]? = some (.cells cs t fr) ∧ bty t := by
  obtain ⟨lv, bs, gs, h1, h2, h3, h4, h5, h6, h7, h8, h9, h10, h11, h12⟩ := h
  exact h12
theorem BenchAt.lt {w : World} {F : Nat → Prop} {bb : Nat} {m : BM} (h : BenchAt w F bb m) : ∀ k, F k → k < w.heap.size := fun k hk => by
  obtain ⟨cs, t, fr, e, _⟩ := h.typed k hk
  exact heap_lt e
/-- What reads as a row of another type stays. -/
theorem SlAt.keep {w w' : World} {F : Nat → Prop} {E : TypeId} {v : Value} {vs : List Value} (h : SlAt w E v vs) (k : Keep F w w') (ht : ∀ k, F k → ∃ cs t fr, w.heap[k]? = some (.cells cs t fr) ∧ bty t) (hne : ¬ bty E) : SlAt w' E v vs := by
  rcases h with h | ⟨b, off, cap, cs, fr, hv, hb, hc, hl⟩
  · exact .inl h
  · refine .inr ⟨b, off, cap, cs, fr, hv, ?_, hc, hl⟩
    rw [k.block b (heap_lt hb) (fun hf => ?_)]
    · exact hb
    · obtain ⟨cs', t, fr', e, hb'⟩ := ht b hf
      rw [hb] at e
      injection e with e
      injection e with _ e2 _
      exact hne (e2 ▸ hb')
theorem bty_u8 : ¬ bty 5 := by unfold bty; decide
theorem bty_rows : ¬ bty 43 := by unfold bty; decide
theorem bty_int : ¬ bty 3 := by unfold bty; decide
theorem bty_bool : ¬ bty 4 := by unfold bty; decide
theorem BytesAt.st {w w' : World} {F F' : Nat → Prop} {bb : Nat} {m : BM} {v : Value} {x : List UInt8} (h : BytesAt w v x) (b : BenchAt w F bb m) (k : St F w F' w') : BytesAt w' v x := SlAt.keep h k.1 b.typed bty_u8
theorem RowsAt.st {w w' : World} {F F' : Nat → Prop} {bb : Nat} {m : BM} {v : Value} {x : List (List UInt8)} (h : RowsAt w v x) (b : BenchAt w F bb m) (k : St F w F' w') : RowsAt w' v x := by
  obtain ⟨vs, h1, h2, h3⟩ := h
  exact ⟨vs, SlAt.keep h1 k.1 b.typed bty_rows, h2, fun i hi => (h3 i hi).st b k⟩
/-- One disk has changed. -/
structure DStep (w : World) (b : Nat) (g : Option Nat) (w' : World) (g' : Option Nat) : Prop where
  os : w'.os = w.os
  tape : w'.tape = w.tape
  output : w'.output = w.output
  size : w.heap.size ≤ w'.heap.size
  block : ∀ k, k < w.heap.size → k ≠ b → g ≠ some k → w'.heap[k]? = w.heap[k]?
  grown : g' = g ∨ ∀ x, g' = some x → w.heap.size ≤ x
theorem DiskAt.keep {w w' : World} {F : Nat → Prop} {b : Nat} {g : Option Nat} {d : DM} (h : DiskAt w b g d) (k : Keep F w w') (hb : ¬ F b) (hg : ∀ x, g = some x → ¬ F x) : DiskAt w' b g d := by
  obtain ⟨cs, pv, h1, h2, h3, h4, h5, h6, h7, h8, h9⟩ := h
  refine ⟨cs, pv, (k.block b (heap_lt h1) hb).trans h1, h2, h3, h4, h5, h6, ?_, h8, h9⟩
  refine ⟨h7.1, ?_⟩
  rcases h7.2 with e | ⟨gg, cap, cur, rfl, e1, e2, r⟩
  · exact .inl e
  · exact .inr ⟨gg, cap, cur, rfl, e1, (k.block gg (heap_lt e2) (hg gg h8.1.symm)).trans e2, r⟩
theorem own_keep {w w' : World} {F : Nat → Prop} {base n size : Nat} {E : TypeId} {v : Value} {xs : List Value} (h : w.ownsRow base E size v n xs) (k : Keep F w w') (hg : ∀ x, v.ownBlock = some x → ¬ F x) : w'.ownsRow base E size v n xs := by
  refine ⟨h.1, ?_⟩
  rcases h.2 with e | ⟨gg, cap, cur, rfl, e1, e2, r⟩
  · exact .inl e
  · exact .inr ⟨gg, cap, cur, rfl, e1, (k.block gg (heap_lt e2) (hg gg rfl)).trans e2, r⟩
theorem DiskAt.blk {w : World} {b : Nat} {g : Option Nat} {d : DM} (h : DiskAt w b g d) : ∃ cs, w.heap[b]? = some (.cells cs 128 (0, 0)) := by
  obtain ⟨cs, pv, h1, _⟩ := h
  exact ⟨cs, h1⟩
theorem DiskAt.pblk {w : World} {b : Nat} {g : Option Nat} {d : DM} (h : DiskAt w b g d) : ∀ x, g = some x → ∃ cs, w.heap[x]? = some (.cells cs 122 (0, 0)) := by
  obtain ⟨cs, pv, h1, h2, h3, h4, h5, h6, h7, h8, h9⟩ := h
  intro x hx
  replace h8 := h8.1
  rcases h7.2 with ⟨rfl, _⟩ | ⟨gg, cap, cur, rfl, e1, e2, r⟩
  · rw [hx] at h8; simp [Value.ownBlock] at h8
  · rw [hx] at h8
    have := Option.some.inj h8
    subst this
    exact ⟨cur, e2⟩
theorem getD_set_self {α : Type} {l : List α} {i : Nat} {x d : α} (h : i < l.length) : (l.set i x).getD i d = x := by simp [h]
theorem getD_set_ne {α : Type} {l : List α} {i j : Nat} {x d : α} (h : i ≠ j) : (l.set i x).getD j d = l.getD j d := by simp [List.getElem?_set_ne h]
theorem type_ne {w : World} {a b : Nat} {cs cs' : Array Value} {t t' : TypeId} {fr fr' : Nat × Nat} (h : w.heap[a]? = some (.cells cs t fr)) (h' : w.heap[b]? = some (.cells cs' t' fr')) (hne : t ≠ t') : a ≠ b := by
  intro e
  subst e
  rw [h] at h'
  injection h' with h'
  injection h' with _ e _
  exact hne e
/-- A bench one of whose disks has changed. -/
theorem BenchAt.disk {w : World} {F : Nat → Prop} {bb : Nat} {m : BM} (h : BenchAt w F bb m) : ∃ (lv : Value) (bs : List Nat) (gs : List (Option Nat)), w.heap[bb]? = some (.cells #[.int .i64 m.writes, .int .i64 m.left, .bool m.down, lv] 88 (0, 0)) ∧ w.ownsRow 0 108 1 lv m.ds.length (bs.map ptr) ∧ bs.length = m.ds.length ∧
    ∀ i, i < m.ds.length → DiskAt w (bs.getD i 0) (gs.getD i none) (m.ds.getD i dm0) ∧
      ∀ (w' : World) (g' : Option Nat) (d' : DM), DStep w (bs.getD i 0) (gs.getD i none) w' g' → DiskAt w' (bs.getD i 0) g' d' → ∃ F', BenchAt w' F' bb { m with ds := m.ds.set i d' } ∧ St F w F' w' := by
  obtain ⟨lv, bs, gs, h1, h2, h3, h4, h5, h6, h7, h8, h9, h10, h11, h12⟩ := h
  refine ⟨lv, bs, gs, h1, h2, h3, fun i hi => ⟨h5 i hi, fun w' g' d' st hd => ?_⟩⟩
  have hbi := (h5 i hi).blk
  have hgi := (h5 i hi).pblk
  obtain ⟨csi, hbi⟩ := hbi
  have same : ∀ (k : Nat) (cs : Array Value) (t : TypeId) (fr : Nat × Nat), w.heap[k]? = some (Obj.cells cs t fr) → k ≠ bs.getD i 0 → gs.getD i none ≠ some k → w'.heap[k]? = some (Obj.cells cs t fr) := fun k cs t fr hk a b => (st.block k (heap_lt hk) a b).trans hk
  have other : ∀ (k : Nat) (cs : Array Value) (t : TypeId) (fr : Nat × Nat), w.heap[k]? = some (Obj.cells cs t fr) → t ≠ 128 → t ≠ 122 → w'.heap[k]? = some (Obj.cells cs t fr) := fun k cs t fr hk a b => by
    refine same k cs t fr hk (type_ne hk hbi a) (fun e => ?_)
    obtain ⟨cs', e'⟩ := hgi k e
    exact type_ne hk e' b rfl
  refine ⟨fun k => (F k ∧ gs.getD i none ≠ some k) ∨ g' = some k, ⟨lv, bs, gs.set i g', ?_, ?_, by simpa using h3, by simpa using h4, ?_, h6, ?_, ?_, ?_, ?_, ?_, ?_⟩, ⟨⟨st.os, st.tape, st.output, st.size, fun k hk hf => ?_⟩, ?_⟩⟩
  · exact other bb _ _ _ h1 (by decide) (by decide)
  · refine ⟨by simpa using h2.1, ?_⟩
    rcases h2.2 with ⟨e1, e2⟩ | ⟨gg, cap, cur, rfl, e1, e2, r⟩
    · exact .inl ⟨e1, by simpa using e2⟩
    · refine .inr ⟨gg, cap, cur, by simp, e1, other gg _ _ _ e2 (by decide) (by decide), by simpa using r⟩
  · intro j hj
    have hj' : j < m.ds.length := by simpa using hj
    by_cases e : i = j
    · subst e
      rw [getD_set_self (by omega), getD_set_self hi]
      exact hd
    · rw [getD_set_ne e, getD_set_ne e]
      obtain ⟨cs, pv, k1, k2, k3, k4, k5, k6, k7, k8, k9⟩ := h5 j hj'
      have hne : bs.getD j 0 ≠ bs.getD i 0 := fun eq => by
        have a1 : bs.getD j 0 = bs[j]'(by omega) := by simp [show j < bs.length from by omega]
        have a2 : bs.getD i 0 = bs[i]'(by omega) := by simp [show i < bs.length from by omega]
        rw [a1, a2] at eq
        exact e ((List.getElem_inj h6).1 eq).symm
      refine ⟨cs, pv, same _ _ _ _ k1 hne (fun eq => ?_), k2, k3, k4, k5, k6, ⟨k7.1, ?_⟩, k8, k9⟩
      · obtain ⟨cs', e'⟩ := hgi _ eq
        exact type_ne k1 e' (by decide) rfl
      · rcases k7.2 with e0 | ⟨gg, cap, cur, rfl, e1, e2, r⟩
        · exact .inl e0
        · refine .inr ⟨gg, cap, cur, rfl, e1, same _ _ _ _ e2 (type_ne e2 hbi (by decide)) (fun eq => h7 i j hi hj' e gg eq k8.1.symm), r⟩
  · intro j k hj hk hjk x hx hx'
    have hj' : j < m.ds.length := by simpa using hj
    have hk' : k < m.ds.length := by simpa using hk
    have fresh : ∀ j, j < m.ds.length → i ≠ j → ∀ x, g' = some x → gs.getD j none ≠ some x := fun j hj e x hx hx' => by
      rcases st.grown with eg | eg
      · exact h7 i j hi hj e x (eg ▸ hx) hx'
      · obtain ⟨cs, e'⟩ := (h5 j hj).pblk x hx'
        have := heap_lt e'
        have := eg x hx
        omega
    by_cases ej : i = j
    · subst ej
      rw [getD_set_self (by omega)] at hx
      rw [getD_set_ne hjk] at hx'
      exact fresh k hk' hjk x hx hx'
    · rw [getD_set_ne ej] at hx
      by_cases ek : i = k
      · subst ek
        rw [getD_set_self (by omega)] at hx'
        exact fresh j hj' ej x hx' hx
      · rw [getD_set_ne ek] at hx'
        exact h7 j k hj' hk' hjk x hx hx'
  · refine .inl ⟨h8, fun eq => ?_⟩
    obtain ⟨cs', e'⟩ := hgi _ eq
    exact type_ne h1 e' (by decide) rfl
  · intro x hx
    refine .inl ⟨h9 x hx, fun eq => ?_⟩
    obtain ⟨cs', e'⟩ := hgi _ eq
    obtain ⟨cs, fr, e2⟩ := own_row h2 x hx
    exact type_ne e2 e' (by decide) rfl
  · intro j hj
    have hj' : j < m.ds.length := by simpa using hj
    refine .inl ⟨h10 j hj', fun eq => ?_⟩
    obtain ⟨cs', e'⟩ := hgi _ eq
    obtain ⟨cs, e2⟩ := (h5 j hj').blk
    exact type_ne e2 e' (by decide) rfl
  · intro j hj x hx
    have hj' : j < m.ds.length := by simpa using hj
    by_cases e : i = j
    · subst e
      rw [getD_set_self (by omega)] at hx
      exact .inr hx
    · rw [getD_set_ne e] at hx
      exact .inl ⟨h11 j hj' x hx, fun eq => h7 i j hi hj' e x eq hx⟩
  · intro k hk
    rcases hk with ⟨hk, hn⟩ | hk
    · obtain ⟨cs, t, fr, e, hb⟩ := h12 k hk
      by_cases eb : k = bs.getD i 0
      · obtain ⟨cs', e'⟩ := hd.blk
        rw [eb]
        exact ⟨cs', _, _, e', .inr (.inr (.inl rfl))⟩
      · exact ⟨cs, t, fr, same k cs t fr e eb hn, hb⟩
    · obtain ⟨cs', e'⟩ := hd.pblk k hk
      exact ⟨cs', _, _, e', .inr (.inr (.inr rfl))⟩
  · exact st.block k hk (fun e => hf (e ▸ h10 i hi)) (fun e => hf (h11 i hi k e))
  · intro k hk
    rcases hk with ⟨hk, _⟩ | hk
    · exact .inl hk
    · rcases st.grown with eg | eg
      · exact .inl (h11 i hi k (eg ▸ hk))
      · exact .inr (eg k hk)
/-- The cells by which a bench is read. -/
theorem BenchAt.at {w : World} {F : Nat → Prop} {bb : Nat} {m : BM} (h : BenchAt w F bb m) {i : Nat} (hi : i < m.ds.length) : ∃ (lb cap b : Nat) (g : Option Nat), w.cell? ⟨bb, 3, none⟩ = some (.slice (some ⟨lb, 0, none⟩) m.ds.length cap) ∧
    w.cell? ⟨lb, i, none⟩ = some (.pointer (some ⟨b, 0, none⟩)) ∧ DiskAt w b g (m.d i) ∧ ∀ (w' : World) (g' : Option Nat) (d' : DM), DStep w b g w' g' → DiskAt w' b g' d' → ∃ F', BenchAt w' F' bb { m with ds := m.ds.set i d' } ∧ St F w F' w' := by
  obtain ⟨lv, bs, gs, h1, h2, h3, h4⟩ := h.disk
  rcases h2.2 with ⟨_, h0⟩ | ⟨lb, cap, cur, rfl, _, e2, e3, e4, e5, e6⟩
  · omega
  · refine ⟨lb, cap, bs.getD i 0, gs.getD i none, cell_blk h1 rfl, ?_, (h4 i hi).1, (h4 i hi).2⟩
    rw [cell_of_row w lb _ cur _ _ e2]
    have e : cur[i]? = (cur.toList.take (m.ds.length * 1))[i]? := by
      rw [List.getElem?_take, if_pos (by omega)]; simp
    rw [e, e6]
    simp [ptr, show i < bs.length from by omega]
theorem BenchAt.head {w : World} {F : Nat → Prop} {bb : Nat} {m : BM} (h : BenchAt w F bb m) : ∃ a cap, w.cell? ⟨bb, 3, none⟩ = some (.slice a m.ds.length cap) ∧ w.cell? ⟨bb, 2, none⟩ = some (.bool m.down) ∧ w.cell? ⟨bb, 1, none⟩ = some (.int .i64 m.left) ∧ w.cell? ⟨bb, 0, none⟩ = some (.int .i64 m.writes) := by
  obtain ⟨lv, bs, gs, h1, h2, h3, h4⟩ := h.disk
  rcases h2.2 with ⟨rfl, h0⟩ | ⟨lb, cap, cur, rfl, _⟩
  · rw [h0]
    exact ⟨none, 0, cell_blk h1 rfl, cell_blk h1 rfl, cell_blk h1 rfl, cell_blk h1 rfl⟩
  · exact ⟨_, cap, cell_blk h1 rfl, cell_blk h1 rfl, cell_blk h1 rfl, cell_blk h1 rfl⟩
end Go.Proofs.Ytoalnkhedebpbaa
