/- erase.Missing, filled, byQ, two: what they answer. erase.Solve: what it answers for sectors. erase.Solve: the walk. row.Take: what it answers. slices.Clone of bytes; row.Fill: what it answers. -/
import Derived.Test.YtoalnkhedebpbaaB
import Derived.Test.YtoalnkhedebpbaaA
import Derived.Deep.RegionHeld3

/-! erase.Missing, filled, byQ, two: what they answer. -/
namespace Go.Proofs.Ytoalnkhedebpbaa
open Go.RowKit

/-- The places, of the first k, of parts that are not there. -/
def goneTo (ps : List (List UInt8)) (k : Nat) : List Nat := (List.range k).filter fun i => decide ((ps.getD i []).length = 0)
theorem goneTo_succ (ps : List (List UInt8)) (k : Nat) : goneTo ps (k + 1) = goneTo ps k ++ if (ps.getD k []).length = 0 then [k] else [] := by
  unfold goneTo
  rw [List.range_succ, List.filter_append]
  congr 1
  by_cases h : (ps.getD k []).length = 0
  · rw [if_pos h, List.filter_cons_of_pos (by simpa using h)]; rfl
  · rw [if_neg h, List.filter_cons_of_neg (by simpa using h)]; rfl
theorem goneTo_length (ps : List (List UInt8)) : ∀ k, (goneTo ps k).length ≤ k
  | 0 => Nat.le_refl _
  | k + 1 => by
    rw [goneTo_succ, List.length_append]
    have := goneTo_length ps k
    split
    · simp; omega
    · simp; omega
def gi (l : List Nat) : List Value := l.map fun i : Nat => Value.int .i64 i
theorem gi_snoc (l : List Nat) (k : Nat) : gi l ++ [.int .i64 k] = gi (l ++ [k]) := by simp [gi]
@[simp] theorem gi_length (l : List Nat) : (gi l).length = l.length := by simp [gi]

set_option maxRecDepth 100000 in
set_option maxHeartbeats 800000 in
theorem missing_cons (ps : List (List UInt8)) (b off cap : Nat) (vs : List Value) (w : World) (hl : ps.length ≤ 1048576)
    (hc : ∀ i, i < ps.length → w.cell? ⟨b, off + i, none⟩ = some (vs.getD i undef)) (hb : ∀ i, i < ps.length → BytesAt w (vs.getD i undef) (ps.getD i [])) :
    Calls Try.prog 131 #[.slice (some ⟨b, off, none⟩) ps.length cap] w fun e w' => ∃ r, e = .returned r ∧ SlAt w' 3 r (gi (goneTo ps ps.length)) ∧ Gr w w' := by
  have HC := Lib.hid hc; clear hc
  have HB := Lib.hid hb; clear hb
  go_enter Try.func131, Try.ntmps131
  go_wp2
  go_loopw [3, 8] (fun v i wr => ∃ (k : Nat) (l : List Nat), k ≤ ps.length ∧ i = .int .i64 k ∧ Hid (l = goneTo ps k) ∧ l.length ≤ k ∧ wr.ownsRow w.heap.size 3 1 v l.length (gi l) ∧ Gr w wr) (fun _ i _ => ps.length - (intOf i).toNat)
  case atStart => exact ⟨0, [], Nat.zero_le _, rfl, rfl, Nat.le_refl _, World.ownsRow_nil _ _ _ _, Gr.refl _⟩
  case round =>
    obtain ⟨k, l, hk, rfl, hlk, hll, hown, hg⟩ := hrel
    have hsz := hg.size
    by_cases hlt : k < ps.length
    · have ck := hg.cell (HC.out k hlt)
      obtain ⟨ak, capk, hsh⟩ := (HB.out k hlt).shape
      rw [hsh] at ck
      clear hsh
      by_cases h0 : (ps.getD k []).length = 0
      · rw [h0] at ck
        have hs := goneTo_succ ps k
        rw [if_pos h0] at hs
        clear h0
        have HS := Lib.hid hs; clear hs
        go_wp2_with ((with_reducible apply wpL_append1 slInt infInt rfl (by decide)); rfl; rfl; exact hown.alloc _; exact cell_new _ _ _ _ rfl; rfl; omega; (simp; omega); (intro v' w4 hown' hgr))
        go_roundw
        case rel =>
          refine ⟨k + 1, l ++ [k], by omega, by go_num, by rw [HS.out, ← hlk.out]; exact Lib.hid rfl, by simp; omega, ?_, ?_⟩
          · rw [← gi_snoc, List.length_append]; exact hown'
          · exact Below.grown (Below.alloc hg (by omega) _) hgr (by simp; omega) (fun j hj => (hown.lt j hj).1)
        case measure => simp [intOf]; omega
      · have hs := goneTo_succ ps k
        rw [if_neg h0, List.append_nil] at hs
        obtain ⟨n, hn⟩ : ∃ n, n = (ps.getD k []).length := ⟨_, rfl⟩
        rw [← hn] at h0 ck
        clear hn
        have hd : ((n : Int) == 0) = false := by rw [beq_eq_false_iff_ne]; omega
        clear h0
        have HS := Lib.hid hs; clear hs
        go_wp2
        go_roundw
        case rel => exact ⟨k + 1, l, by omega, by go_num, by rw [HS.out]; exact hlk, by omega, hown, hg⟩
        case measure => simp [intOf]; omega
    · obtain rfl : k = ps.length := by omega
      go_wp2
      go_ret
      refine ⟨_, rfl, ?_, hg⟩
      rw [← hlk.out]
      exact SlAt.own hown (by omega)
set_option maxRecDepth 100000 in
set_option maxHeartbeats 400000 in
theorem missing_any (ps : List (List UInt8)) (v : Value) (w : World) (h : RowsAt w v ps) (hl : ps.length ≤ 1048576) :
    Calls Try.prog 131 #[v] w fun e w' => ∃ r, e = .returned r ∧ SlAt w' 3 r (gi (goneTo ps ps.length)) ∧ Gr w w' := by
  rcases h.cases with ⟨rfl, a, cap, rfl⟩ | ⟨b, off, cap, vs, rfl, _, _, hv, hc, hb⟩
  · go_enter Try.func131, Try.ntmps131
    go_wp2
    refine wp_loop_once ?_
    go_wp2
    go_ret
    exact ⟨_, rfl, .inl ⟨rfl, none, 0, rfl⟩, Gr.refl _⟩
  · exact missing_cons ps b off cap vs w hl hc hb

/-- A part, or noughts where it is missing. -/
def fillZ (n : Nat) (x : List UInt8) : List UInt8 := if x.length = 0 then zeros n else x
theorem slRows : Try.prog.underlying 38 = some (.slice 43) := by kernel_rfl
theorem infRows : (Try.prog.info? 43).map (fun i => (i.zero, i.size, i.bytes)) = some (some (.slice none 0 0), 1, 24) := by kernel_rfl
theorem infU8s : (Try.prog.info? 5).map (·.size) = some 1 := by kernel_rfl
theorem bvs_one (x : List UInt8) : ∀ v ∈ x.map bv, v.oneCell' = true := by
  intro v hv
  obtain ⟨b, _, rfl⟩ := List.mem_map.1 hv
  rfl
/-- The cells of a row of bytes, as a copy wants them. -/
theorem bytes_src {x : List UInt8} {w : World} {a : Option Addr} {n cap : Nat} (h : BytesAt w (.slice a n cap) x) : ∀ j v, (x.map bv)[j]? = some v → ∃ b off, a = some ⟨b, off, none⟩ ∧ w.cell? ⟨b, off + j, none⟩ = some v := by
  intro j v hj
  have hjl : j < x.length := by
    have := (List.getElem?_eq_some_iff.1 hj).1
    simpa using this
  rcases h with ⟨h1, _⟩ | ⟨b, off, cap', cs, fr, hv, hb, hc, hl⟩
  · rw [h1] at hj; simp at hj
  · injection hv with e1 e2 e3
    refine ⟨b, off, e1, ?_⟩
    rw [cell_of_row w b _ cs _ fr hb, hc j (by simpa using hjl)]
    exact hj
theorem madeB (x : List UInt8) (n : Nat) : (if x.length = 0 then zrow (.int .u8 0) n else (x.map bv).toArray) = ((fillZ n x).map bv).toArray := by
  unfold fillZ
  by_cases h0 : x.length = 0
  · rw [if_pos h0, if_pos h0]; simp [zeros, zrow, bv]
  · rw [if_neg h0, if_neg h0]
theorem fillZ_length (n : Nat) (x : List UInt8) (h : x.length = 0 ∨ x.length = n) : (fillZ n x).length = n := by
  unfold fillZ
  by_cases h0 : x.length = 0
  · rw [if_pos h0, zeros_length]
  · rw [if_neg h0]; omega
theorem BytesAt.lit {w : World} {b n cap : Nat} {fr : Nat × Nat} {x : List UInt8} (hb : w.heap[b]? = some (.cells (x.map bv).toArray 5 fr)) (hn : x.length = n) (hl : n ≤ 9223372036854775807) : BytesAt w (.slice (some ⟨b, 0, none⟩) n cap) x := by
  have h := SlAt.lit (cap := cap) (x.map bv) hb (by simp; omega)
  unfold BytesAt
  rw [List.length_map, hn] at h
  exact h
theorem getD_snoc_lt {α : Type} {l : List α} {x d : α} {i : Nat} (h : i < l.length) : (l ++ [x]).getD i d = l.getD i d := by
  simp [h, List.getElem?_append_left h]
theorem getD_snoc_eq {α : Type} {l : List α} {x d : α} {i : Nat} (h : i = l.length) : (l ++ [x]).getD i d = x := by
  subst h; simp
/-- A row of rows, of the call's own: a longer one. -/
theorem rows_snoc {w' : World} {vs : List Value} {v : Value} {f : Nat → List UInt8} {k : Nat} (hl : vs.length = k) (h : ∀ j, j < k → BytesAt w' (vs.getD j undef) (f j)) (hv : BytesAt w' v (f k)) :
    ∀ j, j < k + 1 → BytesAt w' ((vs ++ [v]).getD j undef) (f j) := by
  intro j hj
  by_cases e : j < k
  · rw [getD_snoc_lt (by omega)]; exact h j e
  · have : j = k := by omega
    subst this
    rw [getD_snoc_eq (by omega)]; exact hv
theorem BytesAt.grown {w w' : World} {v v0 : Value} {x : List UInt8} {base n : Nat} {xs : List Value} (h : BytesAt w v x) (ho : w.ownsRow base 43 1 v0 n xs) (g : w.grownBy w' v0.ownBlock) : BytesAt w' v x :=
  SlAt.grown (E' := 43) h g (own_row ho) (by decide)

set_option maxRecDepth 100000 in
set_option maxHeartbeats 1000000 in
theorem filled_cons (ps : List (List UInt8)) (n b off cap : Nat) (vs : List Value) (w : World) (hl : ps.length ≤ 1048576) (hn : n ≤ 1048576) (hlen : ∀ i, i < ps.length → (ps.getD i []).length = 0 ∨ (ps.getD i []).length = n)
    (hc : ∀ i, i < ps.length → w.cell? ⟨b, off + i, none⟩ = some (vs.getD i undef)) (hb : ∀ i, i < ps.length → BytesAt w (vs.getD i undef) (ps.getD i [])) :
    Calls Try.prog 133 #[.int .i64 n, .slice (some ⟨b, off, none⟩) ps.length cap] w fun e w' => ∃ r us, e = .returned r ∧ w'.ownsRow w.heap.size 43 1 r ps.length us ∧ (∀ i, i < ps.length → BytesAt w' (us.getD i undef) (fillZ n (ps.getD i []))) ∧ Gr w w' := by
  have HC := Lib.hid hc; clear hc
  have HB := Lib.hid hb; clear hb
  have HN := Lib.hid hlen; clear hlen
  go_enter Try.func133, Try.ntmps133
  go_wp2
  go_loopw [5, 11] (fun v i wr => ∃ (k : Nat) (us : List Value), k ≤ ps.length ∧ i = .int .i64 k ∧ us.length = k ∧ wr.ownsRow w.heap.size 43 1 v k us ∧ Hid (∀ j, j < k → BytesAt wr (us.getD j undef) (fillZ n (ps.getD j []))) ∧ Gr w wr) (fun _ i _ => ps.length - (intOf i).toNat)
  case atStart => exact ⟨0, [], Nat.zero_le _, rfl, rfl, World.ownsRow_nil _ _ _ _, Lib.hid (fun j hj => by omega), Gr.refl _⟩
  case round =>
    obtain ⟨k, us, hk, rfl, hul, hown, hrows, hg⟩ := hrel
    have hsz := hg.size
    by_cases hlt : k < ps.length
    · have ck := hg.cell (HC.out k hlt)
      have hbk := (HB.out k hlt).gr hg
      obtain ⟨ak, capk, hsh⟩ := (HB.out k hlt).shape
      rw [hsh] at ck hbk
      clear hsh
      have hnk := HN.out k hlt
      obtain ⟨x, hx⟩ : ∃ x, x = ps.getD k [] := ⟨_, rfl⟩
      rw [← hx] at hbk ck hnk
      have HX := Lib.hid hx; clear hx
      have HBK := Lib.hid hbk; clear hbk
      have HNK := Lib.hid hnk; clear hnk
      obtain ⟨cs, hcs⟩ : ∃ cs, cs = ((fillZ n x).map bv).toArray := ⟨_, rfl⟩
      have HCS := Lib.hid hcs; clear hcs
      go_wp2_with (first | ((with_reducible apply wpL_make1 (n := n) slU8 infU8 rfl (by decide)); rfl; rfl; exact hn) | ((with_reducible apply wpL_copy (cs := x.map bv) slU8 infU8s); rfl; rfl; exact heap_alloc_new _ _; exact zrow_size _ _; (simp); exact HNK.out; exact bytes_src (HBK.out.gr (Gr.alloc _ _)); exact bvs_one x; rw [madeB, putB_alloc_new, ← HCS.out]) | ((with_reducible apply wpL_append1 slRows infRows rfl (by decide)); rfl; rfl; exact (hown.alloc _).alloc _; exact cell_new _ _ _ _ (World.size_alloc _ _).symm; rfl; omega; (simp; omega); (intro v' w4 hown' hgr)))
      have o2 := (hown.alloc (.cells cs 5)).alloc (.cells #[.slice (some ⟨wr.heap.size, 0, none⟩) n n] 43)
      have b2 := heap_alloc_lt (heap_alloc_new wr (.cells cs 5)) (.cells #[.slice (some ⟨wr.heap.size, 0, none⟩) n n] 43)
      go_roundw
      case rel =>
        refine ⟨k + 1, us ++ [.slice (some ⟨wr.heap.size, 0, none⟩) n n], by omega, by go_num, by simp [hul], hown', Lib.hid ?_, ?_⟩
        · refine rows_snoc (f := fun j => fillZ n (ps.getD j [])) hul (fun j hj => ?_) ?_
          · exact (((hrows.out j hj).gr (Gr.alloc _ _)).gr (Gr.alloc _ _)).grown o2 hgr
          · refine BytesAt.grown ?_ o2 hgr
            rw [← HX.out]
            exact BytesAt.lit (by rw [← HCS.out]; exact b2) (fillZ_length n x HNK.out) (by omega)
        · exact Below.grown (Below.alloc (Below.alloc hg (by omega) _) (by simp; omega) _) hgr (by simp; omega) (fun j hj => (hown.lt j hj).1)
      case measure => simp [intOf]; omega
    · obtain rfl : k = ps.length := by omega
      go_wp2
      go_ret
      exact ⟨_, us, rfl, hown, hrows.out, hg⟩

set_option maxRecDepth 100000 in
set_option maxHeartbeats 400000 in
theorem filled_any (ps : List (List UInt8)) (n : Nat) (v : Value) (w : World) (h : RowsAt w v ps) (hl : ps.length ≤ 1048576) (hn : n ≤ 1048576) (hlen : ∀ i, i < ps.length → (ps.getD i []).length = 0 ∨ (ps.getD i []).length = n) :
    Calls Try.prog 133 #[.int .i64 n, v] w fun e w' => ∃ r us, e = .returned r ∧ w'.ownsRow w.heap.size 43 1 r ps.length us ∧ (∀ i, i < ps.length → BytesAt w' (us.getD i undef) (fillZ n (ps.getD i []))) ∧ Gr w w' := by
  rcases h.cases with ⟨rfl, a, cap, rfl⟩ | ⟨b, off, cap, vs, rfl, _, _, hv, hc, hb⟩
  · go_enter Try.func133, Try.ntmps133
    go_wp2
    refine wp_loop_once ?_
    go_wp2
    go_ret
    exact ⟨_, [], rfl, World.ownsRow_nil _ _ _ _, fun i hi => by simp at hi, Gr.refl _⟩
  · exact filled_cons ps n b off cap vs w hl hn hlen hc hb

/-! What is divided by has an inverse, and a logarithm. -/
theorem invs_log : (invs.all fun c => c != 0 && (List.range 255).any fun m => gpow m == c) = true := by decide +kernel
theorem inv_mem {c : UInt8} (h : c ∈ invs) : c ≠ 0 ∧ ∃ m, m < 255 ∧ gpow m = c := by
  have h1 := List.all_eq_true.1 invs_log c h
  simp only [Bool.and_eq_true, bne_iff_ne, List.any_eq_true, List.mem_range, beq_iff_eq] at h1
  exact h1
theorem inv_call {c : UInt8} (h : c ∈ invs) (w : World) : Calls Try.prog 144 #[.int .u8 (c.toNat : Int)] w fun e w' => e = .returned (.int .u8 ((ginv c).toNat : Int)) ∧ w = w' := by
  obtain ⟨h0, m, hm, hp⟩ := inv_mem h
  exact inv_any c m hm hp h0 w
theorem mem_pow {k : Nat} (h : k < 8) : gpow k ∈ invs := List.mem_append_left _ (List.mem_map.2 ⟨k, List.mem_range.2 h, rfl⟩)
theorem mem_two {j k : Nat} (hj : j < 8) (hk : k < 8) (hne : j ≠ k) : gpow j ^^^ gpow k ∈ invs := by
  rcases Nat.lt_or_gt_of_ne hne with h | h
  · rw [UInt8.xor_comm]
    exact List.mem_append_right _ (List.mem_flatMap.2 ⟨k, List.mem_range.2 hk, List.mem_map.2 ⟨j, List.mem_range.2 h, rfl⟩⟩)
  · exact List.mem_append_right _ (List.mem_flatMap.2 ⟨j, List.mem_range.2 hj, List.mem_map.2 ⟨k, List.mem_range.2 h, rfl⟩⟩)
def byQF (q : List UInt8) (l : List (List UInt8)) (k : Nat) : List UInt8 := scaleB (addB q (sumTo gpow l l.length)) (ginv (gpow k))
set_option maxRecDepth 100000 in
set_option maxHeartbeats 400000 in
theorem byQ_any (q : List UInt8) (l : List (List UInt8)) (k n : Nat) (u v : Value) (w : World) (hq : BytesAt w u q) (h : RowsAt w v l) (hl : l.length ≤ 8) (h0 : 0 < l.length) (hk : k < 8) (hn : n ≤ 1048576) (hqn : q.length = n) (hlen : ∀ i, i < l.length → (l.getD i []).length = n) :
    Calls Try.prog 136 #[u, v, .int .i64 k] w fun e w' => ∃ r, e = .returned r ∧ BytesAt w' r (byQF q l k) ∧ Gr w w' := by
  obtain ⟨a, cap, hu⟩ := hq.shape
  obtain ⟨a2, cap2, hv⟩ := h.shape
  subst hu; subst hv
  have HQ := Lib.hid hq; clear hq
  have H := Lib.hid h; clear h
  have HL := Lib.hid hlen; clear hlen
  have hsl : (sumTo gpow l l.length).length = n := (sumTo_length gpow l l.length).trans (HL.out 0 h0)
  have HSL := Lib.hid hsl; clear hsl
  have HQN := Lib.hid hqn; clear hqn
  go_enter Try.func136, Try.ntmps136
  go_wp2_with fail
  refine (Q_any l n _ _ H.out hl h0 hn HL.out).mono ?_
  rintro e w1 ⟨r1, rfl, h1, g1⟩
  go_wp2_with fail
  refine (add_any q _ _ _ _ (HQ.out.gr g1) h1 (HQN.out.trans HSL.out.symm) (Nat.le_trans (Nat.le_of_eq HQN.out) hn)).mono ?_
  rintro e w2 ⟨r2, rfl, h2, g2⟩
  go_wp2_with fail
  refine (pow_lt k _ (by omega)).mono ?_
  rintro e w3 ⟨rfl, rfl⟩
  go_wp2_with fail
  refine (inv_call (mem_pow hk) _).mono ?_
  rintro e w3 ⟨rfl, rfl⟩
  go_wp2_with fail
  refine (scale_any _ (ginv (gpow k)) _ _ h2 (by rw [addB_length]; have := HQN.out; omega)).mono ?_
  rintro e w3 ⟨r3, rfl, h3, g3⟩
  go_wp2
  go_ret
  unfold byQF
  exact ⟨r3, rfl, h3, (g1.trans g2).trans g3⟩
/-- What two parts that are missing must be. -/
def twoX (p q : List UInt8) (l : List (List UInt8)) (j k : Nat) : List UInt8 :=
  scaleB (addB (addB q (sumTo gpow l l.length)) (scaleB (addB p (sumTo ones l l.length)) (gpow k))) (ginv (gpow j ^^^ gpow k))
def twoY (p q : List UInt8) (l : List (List UInt8)) (j k : Nat) : List UInt8 := addB (addB p (sumTo ones l l.length)) (twoX p q l j k)
set_option maxRecDepth 100000 in
set_option maxHeartbeats 400000 in
theorem two_any (p q : List UInt8) (l : List (List UInt8)) (j k n : Nat) (t u v : Value) (w : World) (hp : BytesAt w t p) (hq : BytesAt w u q) (h : RowsAt w v l) (hl : l.length ≤ 8) (h0 : 0 < l.length) (hj : j < 8) (hk : k < 8) (hne : j ≠ k) (hn : n ≤ 1048576) (hpn : p.length = n) (hqn : q.length = n) (hlen : ∀ i, i < l.length → (l.getD i []).length = n) :
    Calls Try.prog 134 #[t, u, v, .int .i64 j, .int .i64 k] w fun e w' => ∃ r s, e = .returned (.tuple #[r, s]) ∧ BytesAt w' r (twoX p q l j k) ∧ BytesAt w' s (twoY p q l j k) ∧ Gr w w' := by
  obtain ⟨a, cap, hu⟩ := hq.shape
  obtain ⟨a2, cap2, hv⟩ := h.shape
  obtain ⟨a3, cap3, ht⟩ := hp.shape
  subst hu; subst hv; subst ht
  have HQ := Lib.hid hq; clear hq
  have HP := Lib.hid hp; clear hp
  have H := Lib.hid h; clear h
  have HL := Lib.hid hlen; clear hlen
  have hsl : (sumTo gpow l l.length).length = n := (sumTo_length gpow l l.length).trans (HL.out 0 h0)
  have HSL := Lib.hid hsl; clear hsl
  have hsl : (sumTo ones l l.length).length = n := (sumTo_length ones l l.length).trans (HL.out 0 h0)
  have HSO := Lib.hid hsl; clear hsl
  have hx := bits_xor_u8 (gpow j) (gpow k)
  have HQN := Lib.hid hqn; clear hqn
  have HPN := Lib.hid hpn; clear hpn
  go_enter Try.func134, Try.ntmps134
  go_wp2_with fail
  refine (P_any l n _ _ H.out hl h0 hn HL.out).mono ?_
  rintro e w1 ⟨r1, rfl, h1, g1⟩
  go_wp2_with fail
  refine (add_any p _ _ _ _ (HP.out.gr g1) h1 (HPN.out.trans HSO.out.symm) (Nat.le_trans (Nat.le_of_eq HPN.out) hn)).mono ?_
  rintro e w2 ⟨r2, rfl, h2, g2⟩
  replace g1 := g1.trans g2; clear g2
  go_wp2_with fail
  refine (Q_any l n _ _ (H.out.gr g1) hl h0 hn HL.out).mono ?_
  rintro e w3 ⟨r3, rfl, h3, g3⟩
  replace g1 := g1.trans g3
  replace h2 := h2.gr g3; clear g3
  go_wp2_with fail
  refine (add_any q _ _ _ _ (HQ.out.gr g1) h3 (HQN.out.trans HSL.out.symm) (Nat.le_trans (Nat.le_of_eq HQN.out) hn)).mono ?_
  rintro e w4 ⟨r4, rfl, h4, g4⟩
  replace g1 := g1.trans g4
  replace h2 := h2.gr g4; clear g4
  go_wp2_with fail
  refine (pow_lt j _ (by omega)).mono ?_
  rintro e w5 ⟨rfl, rfl⟩
  go_wp2_with fail
  refine (pow_lt k _ (by omega)).mono ?_
  rintro e w5 ⟨rfl, rfl⟩
  go_wp2_with fail
  refine (inv_call (mem_two hj hk hne) _).mono ?_
  rintro e w5 ⟨rfl, rfl⟩
  go_wp2_with fail
  refine (pow_lt k _ (by omega)).mono ?_
  rintro e w5 ⟨rfl, rfl⟩
  go_wp2_with fail
  refine (scale_any _ (gpow k) _ _ h2 (by rw [addB_length]; have := HQN.out; have := HPN.out; omega)).mono ?_
  rintro e w5 ⟨r5, rfl, h5, g5⟩
  replace g1 := g1.trans g5
  replace h2 := h2.gr g5
  replace h4 := h4.gr g5; clear g5
  go_wp2_with fail
  refine (add_any _ _ _ _ _ h4 h5 (by rw [scaleB_length, addB_length, addB_length]; have := HQN.out; have := HPN.out; omega) (by rw [addB_length]; have := HQN.out; have := HPN.out; omega)).mono ?_
  rintro e w6 ⟨r6, rfl, h6, g6⟩
  replace g1 := g1.trans g6
  replace h2 := h2.gr g6; clear g6
  go_wp2_with fail
  refine (scale_any _ (ginv (gpow j ^^^ gpow k)) _ _ h6 (by rw [addB_length, addB_length]; have := HQN.out; have := HPN.out; omega)).mono ?_
  rintro e w7 ⟨r7, rfl, h7, g7⟩
  replace g1 := g1.trans g7
  replace h2 := h2.gr g7; clear g7
  go_wp2_with fail
  refine (add_any _ _ _ _ _ h2 h7 (by rw [scaleB_length, addB_length, addB_length, addB_length]; have := HQN.out; have := HPN.out; omega) (by rw [addB_length]; have := HQN.out; have := HPN.out; omega)).mono ?_
  rintro e w8 ⟨r8, rfl, h8, g8⟩
  go_wp2
  go_ret2
  unfold twoY twoX
  exact ⟨r7, r8, rfl, h7.gr g8, h8, g1.trans g8⟩
end Go.Proofs.Ytoalnkhedebpbaa

/-! erase.Solve: what it answers for sectors. -/
namespace Go.Proofs.Ytoalnkhedebpbaa
open Go.RowKit

theorem goneTo_mem {ps : List (List UInt8)} {k i : Nat} : i ∈ goneTo ps k ↔ i < k ∧ (ps.getD i []).length = 0 := by
  unfold goneTo
  rw [List.mem_filter, List.mem_range, decide_eq_true_iff]
theorem goneTo_nodup (ps : List (List UInt8)) (k : Nat) : (goneTo ps k).Nodup := List.Pairwise.filter _ List.nodup_range
/-- What is answered, if it is. -/
def solvedF (p q : List UInt8) (ps : List (List UInt8)) : List (List UInt8) :=
  let l := ps.map (fillZ 32)
  match goneTo ps ps.length with
  | [j, k] => (l.set j (twoX p q l j k)).set k (twoY p q l j k)
  | [j] => if 0 < p.length then l.set j (addB p (sumTo ones l l.length)) else l.set j (byQF q l j)
  | _ => l
def lostF (p q : List UInt8) (ps : List (List UInt8)) : Bool := decide (2 < (goneTo ps ps.length).length + (goneTo [p, q] 2).length)
/-- A row of rows, in one block. -/
def ORows (w : World) (g n : Nat) (L : List (List UInt8)) : Prop :=
  L.length = n ∧ ∃ (cur : Array Value) (us : List Value), w.heap[g]? = some (.cells cur 43 (0, 0)) ∧ n ≤ cur.size ∧ us.length = n ∧ (∀ i, i < n → cur[i]? = us[i]?) ∧ ∀ i, i < n → BytesAt w (us.getD i undef) (L.getD i [])
theorem ORows.rows {w : World} {g n : Nat} {L : List (List UInt8)} (h : ORows w g n L) (hn : n ≤ 9223372036854775807) (cap : Nat) : RowsAt w (.slice (some ⟨g, 0, none⟩) n cap) L := by
  obtain ⟨h1, cur, us, h2, h3, h4, h5, h6⟩ := h
  refine ⟨us, .inr ⟨g, 0, cap, cur, (0, 0), by rw [h4], h2, fun i hi => ?_, by omega⟩, by omega, fun i hi => h6 i (by omega)⟩
  rw [Nat.zero_add]; exact h5 i (by omega)
theorem ORows.gr {w w' : World} {g n : Nat} {L : List (List UInt8)} (h : ORows w g n L) (k : Gr w w') : ORows w' g n L := by
  obtain ⟨h1, cur, us, h2, h3, h4, h5, h6⟩ := h
  exact ⟨h1, cur, us, k.get h2, h3, h4, h5, fun i hi => (h6 i hi).gr k⟩
theorem SlAt.put {w : World} {E E' : TypeId} {v : Value} {vs : List Value} {g : Nat} {cs : Array Value} {fr : Nat × Nat} (h : SlAt w E v vs) (hg : w.heap[g]? = some (.cells cs E' fr)) (hne : E ≠ E') (o : Obj) : SlAt (putB w g o) E v vs := by
  rcases h with h | ⟨b, off, cap, cs', fr', hv, hb, hc, hl⟩
  · exact .inl h
  · refine .inr ⟨b, off, cap, cs', fr', hv, ?_, hc, hl⟩
    rw [putB_get_other w (fun e => ?_)]
    · exact hb
    · rw [e, hg] at hb
      injection hb with h1
      injection h1 with _ h2 _
      exact hne h2.symm
theorem setCell_putB {w : World} {g off : Nat} {cs : Array Value} {t : TypeId} {fr : Nat × Nat} (hg : w.heap[g]? = some (.cells cs t fr)) (v : Value) : w.setCell ⟨g, off, none⟩ v = putB w g (.cells (cs.setIfInBounds off v) t fr) := by
  rw [setCell_eq_setRow w g off cs t fr v hg, setRow_putB hg]
/-- One row of them is another one. -/
theorem ORows.set {w : World} {g n j : Nat} {L : List (List UInt8)} {x : List UInt8} {v : Value} (h : ORows w g n L) (hj : j < n) (hv : BytesAt w v x) : ORows (w.setCell ⟨g, j, none⟩ v) g n (L.set j x) := by
  obtain ⟨h1, cur, us, h2, h3, h4, h5, h6⟩ := h
  have hlt := heap_lt h2
  rw [setCell_putB h2]
  refine ⟨by simpa using h1, cur.setIfInBounds j v, us.set j v, putB_get_self hlt _, by simpa using h3, by simpa using h4, fun i hi => ?_, fun i hi => ?_⟩
  · by_cases e : i = j
    · subst e; simp [show i < cur.size from by omega, show i < us.length from by omega]
    · rw [Array.getElem?_setIfInBounds_ne (Ne.symm e), List.getElem?_set_ne (Ne.symm e)]; exact h5 i hi
  · refine SlAt.put (E' := 43) ?_ h2 (by decide) _
    by_cases e : i = j
    · subst e
      have e1 : (us.set i v).getD i undef = v := by simp [show i < us.length from by omega]
      have e2 : (L.set i x).getD i [] = x := by simp [show i < L.length from by omega]
      rw [e1, e2]; exact hv
    · have e1 : (us.set j v).getD i undef = us.getD i undef := by simp [List.getElem?_set_ne (Ne.symm e)]
      have e2 : (L.set j x).getD i [] = L.getD i [] := by simp [List.getElem?_set_ne (Ne.symm e)]
      rw [e1, e2]; exact h6 i hi
theorem BytesAt.setCell {w : World} {g j n : Nat} {L : List (List UInt8)} {u v : Value} {y : List UInt8} (h : ORows w g n L) (hv : BytesAt w v y) : BytesAt (w.setCell ⟨g, j, none⟩ u) v y := by
  obtain ⟨h1, cur, us, h2, h3, h4, h5, h6⟩ := h
  rw [setCell_putB h2]
  exact SlAt.put (E' := 43) hv h2 (by decide) _
theorem ORows.cell {w : World} {g n j : Nat} {L : List (List UInt8)} (h : ORows w g n L) (hj : j < n) : (∃ u, w.cell? ⟨g, j, none⟩ = some u) ∧ w.frozen? ⟨g, j, none⟩ = false := by
  obtain ⟨h1, cur, us, h2, h3, h4, h5, h6⟩ := h
  refine ⟨⟨us.getD j undef, ?_⟩, by simp [World.frozen?, h2]⟩
  rw [cell_of_row w g _ cur _ _ h2, h5 j hj]
  simp [show j < us.length from by omega]
theorem gr_setCell {w w' : World} {g j n : Nat} {L : List (List UInt8)} {v : Value} (h : Gr w w') (ho : ORows w' g n L) (hg : w.heap.size ≤ g) : Gr w (w'.setCell ⟨g, j, none⟩ v) := by
  obtain ⟨h1, cur, us, h2, _⟩ := ho
  rw [setCell_putB h2]
  exact below_putB h hg _
theorem SlAt.setCell {w : World} {g j n : Nat} {L : List (List UInt8)} {u v : Value} {E : TypeId} {vs : List Value} (h : ORows w g n L) (hv : SlAt w E v vs) (hne : E ≠ 43) : SlAt (w.setCell ⟨g, j, none⟩ u) E v vs := by
  obtain ⟨h1, cur, us, h2, _⟩ := h
  rw [setCell_putB h2]
  exact SlAt.put hv h2 hne _
theorem ORows.own {w : World} {base n : Nat} {r : Value} {us : List Value} {L : List (List UInt8)} (h : w.ownsRow base 43 1 r n us) (hn : 0 < n) (hl : L.length = n) (hb : ∀ i, i < n → BytesAt w (us.getD i undef) (L.getD i [])) :
    ∃ g cap, r = .slice (some ⟨g, 0, none⟩) n cap ∧ base ≤ g ∧ ORows w g n L := by
  rcases h.2 with ⟨_, h0⟩ | ⟨g, cap, cur, rfl, h1, h2, h3, h4, h5, h6⟩
  · omega
  · refine ⟨g, cap, rfl, h1, hl, cur, us, h2, by omega, by simpa using h.1, fun i hi => ?_, hb⟩
    rw [← h6]
    simp [hi]
/-- The cells of a row of one, or two, numbers. -/
theorem gi_cells {w : World} {v : Value} {l : List Nat} (h : SlAt w 3 v (gi l)) (hl : 0 < l.length) : ∃ b off cap, v = .slice (some ⟨b, off, none⟩) l.length cap ∧ ∀ i, i < l.length → w.cell? ⟨b, off + i, none⟩ = some (.int .i64 (l.getD i 0 : Nat)) := by
  rcases h with ⟨h1, _⟩ | ⟨b, off, cap, cs, fr, rfl, hb, hc, _⟩
  · have : (gi l).length = 0 := by rw [h1]; rfl
    rw [gi_length] at this; omega
  · refine ⟨b, off, cap, by rw [gi_length], fun i hi => ?_⟩
    rw [cell_of_row w b _ cs _ fr hb, hc i (by simpa using hi)]
    simp [gi, hi]
theorem RowsAt.two {w : World} {k : Nat} {u v : Value} {p q : List UInt8} (hk : k = w.heap.size) (hp : BytesAt w u p) (hq : BytesAt w v q) : RowsAt (w.alloc (.cells #[u, v] 43)) (.slice (some ⟨k, 0, none⟩) 2 2) [p, q] := by
  subst hk
  refine ⟨[u, v], SlAt.lit (cap := 2) [u, v] (heap_alloc_new w _) (by simp), rfl, fun i hi => ?_⟩
  have hi' : i < 2 := hi
  match i, hi' with
  | 0, _ => exact hp.gr (Gr.alloc w _)
  | 1, _ => exact hq.gr (Gr.alloc w _)
theorem ORows.ne {w : World} {g n b off : Nat} {L : List (List UInt8)} {v : Value} {l : List Nat} {len cap : Nat} (h : ORows w g n L) (hv : SlAt w 3 v (gi l)) (e : v = .slice (some ⟨b, off, none⟩) len cap) (hl : 0 < l.length) : b ≠ g := by
  obtain ⟨h1, cur, us, h2, _⟩ := h
  rcases hv with ⟨h0, _⟩ | ⟨b', off', cap', cs, fr, hv, hb, _⟩
  · have e0 : (gi l).length = 0 := by rw [h0]; rfl
    rw [gi_length] at e0; omega
  · rw [hv] at e
    injection e with e1
    injection e1 with e2
    injection e2 with e3
    intro hh
    rw [← hh, ← e3, hb] at h2
    injection h2 with h4
    injection h4 with _ h5 _
    exact absurd h5 (by decide)
theorem BytesAt.sl {w : World} {v : Value} {l : List UInt8} (h : BytesAt w v l) : ∃ a n cap, v = .slice a n cap := by
  obtain ⟨a, cap, e⟩ := h.shape
  exact ⟨a, l.length, cap, e⟩
/-- What the walk wants of two stores, in either order. -/
theorem ORows.stores {w : World} {g n j k : Nat} {L : List (List UInt8)} (r s : Value) (h : ORows w g n L) (hj : j < n) (hk : k < n) (hne : j ≠ k) :
    (∃ uj, w.cell? ⟨g, j, none⟩ = some uj ∧ (w.setCell ⟨g, k, none⟩ s).cell? ⟨g, j, none⟩ = some uj) ∧ (∃ uk, w.cell? ⟨g, k, none⟩ = some uk ∧ (w.setCell ⟨g, j, none⟩ r).cell? ⟨g, k, none⟩ = some uk) ∧
    w.frozen? ⟨g, j, none⟩ = false ∧ w.frozen? ⟨g, k, none⟩ = false ∧ (w.setCell ⟨g, k, none⟩ s).frozen? ⟨g, j, none⟩ = false ∧ (w.setCell ⟨g, j, none⟩ r).frozen? ⟨g, k, none⟩ = false := by
  obtain ⟨⟨uj, cj⟩, fj⟩ := h.cell hj
  obtain ⟨⟨uk, ck⟩, fk⟩ := h.cell hk
  refine ⟨⟨uj, cj, ?_⟩, ⟨uk, ck, ?_⟩, fj, fk, ?_, ?_⟩
  · rw [World.cell?_setCell_other _ _ _ _ (by intro e; injection e with _ e2 _; exact hne e2.symm)]; exact cj
  · rw [World.cell?_setCell_other _ _ _ _ (by intro e; injection e with _ e2 _; exact hne e2)]; exact ck
  · rw [World.frozen?_setCell]; exact fj
  · rw [World.frozen?_setCell]; exact fk
theorem cell_apart {w : World} {b off g j : Nat} {u v : Value} (h : w.cell? ⟨b, off, none⟩ = some u) (hne : b ≠ g) : (w.setCell ⟨g, j, none⟩ v).cell? ⟨b, off, none⟩ = some u := by
  rw [World.cell?_setCell_other _ _ _ _ (by intro e; injection e with e1 _ _; exact hne e1.symm)]; exact h
end Go.Proofs.Ytoalnkhedebpbaa

/-! erase.Solve: the walk. -/
namespace Go.Proofs.Ytoalnkhedebpbaa
open Go.RowKit

/-- Sectors, or nothing. -/
def sec0 (x : List UInt8) : Prop := x.length = 0 ∨ x.length = 32
theorem unfit_of {ps : List (List UInt8)} (h : ∀ i, i < ps.length → sec0 (ps.getD i [])) : ps.any (unfit 32) = false := by
  rw [List.any_eq_false]
  intro x hx
  obtain ⟨i, hi, rfl⟩ := List.getElem_of_mem hx
  have := h i hi
  have e : ps.getD i [] = ps[i] := by simp [hi]
  rw [e] at this
  unfold unfit
  simp only [decide_eq_true_eq]
  rcases this with h | h <;> omega
theorem sec0_two {p q : List UInt8} (hp : sec0 p) (hq : sec0 q) : ∀ i, i < [p, q].length → sec0 ([p, q].getD i []) := by
  intro i hi
  have hi' : i < 2 := hi
  match i, hi' with
  | 0, _ => exact hp
  | 1, _ => exact hq
theorem fillAll (ps : List (List UInt8)) (i : Nat) (hi : i < ps.length) : (ps.map (fillZ 32)).getD i [] = fillZ 32 (ps.getD i []) := by
  simp [hi]
theorem gone2_p {p q : List UInt8} (hp : ¬ 0 < p.length) : 1 ≤ (goneTo [p, q] 2).length := by
  have : 0 ∈ goneTo [p, q] 2 := goneTo_mem.2 ⟨by omega, by simpa using hp⟩
  exact List.length_pos_of_mem this
theorem gone2_q {p q : List UInt8} (hp : ¬ 0 < q.length) : 1 ≤ (goneTo [p, q] 2).length := by
  have : 1 ∈ goneTo [p, q] 2 := goneTo_mem.2 ⟨by omega, by simpa using hp⟩
  exact List.length_pos_of_mem this
theorem gone2_pq {p q : List UInt8} (hp : ¬ 0 < p.length) (hq : ¬ 0 < q.length) : 2 ≤ (goneTo [p, q] 2).length := by
  have e : goneTo [p, q] 2 = [0, 1] := by
    have h0 : p = [] := List.eq_nil_of_length_eq_zero (by omega)
    have h1 : q = [] := List.eq_nil_of_length_eq_zero (by omega)
    subst h0; subst h1
    decide
  rw [e]; exact Nat.le_refl _
theorem gi_shape {w : World} {v : Value} {l : List Nat} (h : SlAt w 3 v (gi l)) : ∃ a cap, v = .slice a l.length cap := by
  by_cases h0 : 0 < l.length
  · obtain ⟨b, off, cap, rfl, _⟩ := gi_cells h h0
    exact ⟨_, cap, rfl⟩
  · have : l = [] := List.eq_nil_of_length_eq_zero (by omega)
    subst this
    rcases h with ⟨_, a, cap, rfl⟩ | ⟨b, off, cap, cs, fr, rfl, _⟩
    · exact ⟨a, cap, rfl⟩
    · exact ⟨_, cap, rfl⟩
set_option maxRecDepth 100000 in
set_option maxHeartbeats 2000000 in
theorem solve_any (p q : List UInt8) (ps : List (List UInt8)) (t u v : Value) (w : World) (hp : BytesAt w t p) (hq : BytesAt w u q) (h : RowsAt w v ps) (h0 : 0 < ps.length) (hl : ps.length ≤ 8) (hps : ∀ i, i < ps.length → sec0 (ps.getD i [])) (sp : sec0 p) (sq : sec0 q) :
    Calls Try.prog 110 #[.int .i64 32, t, u, v] w fun e w' => ∃ r, e = .returned (.tuple #[r, .bool (!lostF p q ps)]) ∧ (lostF p q ps = false → RowsAt w' r (solvedF p q ps)) ∧ Gr w w' := by
  obtain ⟨pa, pcap, ht⟩ := hp.shape
  obtain ⟨qa, qcap, hu⟩ := hq.shape
  obtain ⟨va, vcap, hv⟩ := h.shape
  subst ht; subst hu; subst hv
  have HP := Lib.hid hp; clear hp
  have HQ := Lib.hid hq; clear hq
  have H := Lib.hid h; clear h
  have HS := Lib.hid hps; clear hps
  have SP := Lib.hid sp; clear sp
  have SQ := Lib.hid sq; clear sq
  obtain ⟨G, hG⟩ : ∃ G, G = goneTo ps ps.length := ⟨_, rfl⟩
  obtain ⟨N, hN⟩ : ∃ N, N = (goneTo [p, q] 2).length := ⟨_, rfl⟩
  have HN2 : N ≤ 2 := by rw [hN]; exact goneTo_length _ 2
  have HGL : G.length ≤ ps.length := by rw [hG]; exact goneTo_length _ _
  have HG := Lib.hid hG; clear hG
  have HN := Lib.hid hN; clear hN
  have w0 : decide ((32 : Int) < 1) = false := by decide
  have w1 : decide ((ps.length : Int) < 1) = false := by rw [decide_eq_false_iff_not]; omega
  have w2 : decide ((ps.length : Int) > 8) = false := by rw [decide_eq_false_iff_not]; omega
  go_enter Try.func110, Try.ntmps110
  go_wp2_with fail
  refine (missing_any ps _ _ H.out (by omega)).mono ?_
  rintro e x1 ⟨r1, rfl, h1, g1⟩
  go_wp2_with fail
  refine (fits_any 32 ps _ _ (H.out.gr g1)).mono ?_
  rintro e x2 ⟨rfl, g2⟩
  rw [unfit_of HS.out]
  go_wp2_with fail
  refine (fits_any 32 [p, q] _ _ (RowsAt.two rfl (HP.out.gr (g1.trans g2)) (HQ.out.gr (g1.trans g2)))).mono ?_
  rintro e x3 ⟨rfl, g3⟩
  rw [unfit_of (sec0_two SP.out SQ.out)]
  replace g1 := (g1.trans g2).trans ((Gr.alloc _ _).trans g3)
  replace h1 := h1.gr (g2.trans ((Gr.alloc _ _).trans g3))
  rw [← HG.out] at h1
  clear g2 g3
  obtain ⟨ga, gcap, hr1⟩ := gi_shape h1
  obtain ⟨n, hn⟩ : ∃ n, n = G.length := ⟨_, rfl⟩
  rw [← hn] at hr1 HGL
  subst hr1
  have HNG := Lib.hid hn; clear hn
  have H1 := Lib.hid h1; clear h1
  go_wp2_with fail
  refine (missing_any [p, q] _ _ (RowsAt.two rfl (HP.out.gr g1) (HQ.out.gr g1)) (by simp)).mono ?_
  rintro e x4 ⟨r4, rfl, h4, g4⟩
  obtain ⟨na, ncap, hr4⟩ := gi_shape h4
  have hN4 : (goneTo [p, q] [p, q].length).length = N := HN.out.symm
  rw [hN4] at hr4
  subst hr4
  clear h4 hN4
  replace g1 := g1.trans ((Gr.alloc _ _).trans g4)
  have H1 := Lib.hid (H1.out.gr ((Gr.alloc _ _).trans g4))
  clear g4
  by_cases hgt : 2 < n + N
  · have hd : decide ((n : Int) + (N : Int) > 2) = true := by rw [decide_eq_true_iff]; omega
    have hlost : lostF p q ps = true := by unfold lostF; rw [← HG.out, ← HN.out, ← HNG.out]; exact decide_eq_true hgt
    have HLOST := Lib.hid hlost; clear hlost hgt
    go_wp2_with fail
    go_ret2
    exact ⟨.slice none 0 0, (by rw [HLOST.out]; rfl), (fun hf => absurd (HLOST.out.symm.trans hf) (by decide)), g1⟩
  · have hd : decide ((n : Int) + (N : Int) > 2) = false := by rw [decide_eq_false_iff_not]; omega
    have hlost : lostF p q ps = false := by unfold lostF; rw [← HG.out, ← HN.out, ← HNG.out]; exact decide_eq_false hgt
    have HLOST := Lib.hid hlost; clear hlost
    go_wp2_with fail
    refine (filled_any ps 32 _ _ (H.out.gr g1) (by omega) (by omega) HS.out).mono ?_
    rintro e x5 ⟨r5, us, rfl, hown, hb5, g5⟩
    obtain ⟨og, ocap, rfl, hog, HO⟩ := ORows.own (L := ps.map (fillZ 32)) hown h0 (by simp) (fun i hi => by rw [fillAll ps i hi]; exact hb5 i hi)
    clear hown hb5
    replace hog : w.heap.size ≤ og := Nat.le_trans g1.size hog
    have H1 := Lib.hid (H1.out.gr g5)
    replace g1 := g1.trans g5
    clear g5
    have HLN : ∀ i, i < (ps.map (fillZ 32)).length → ((ps.map (fillZ 32)).getD i []).length = 32 := fun i hi => by
      rw [fillAll ps i (by simpa using hi)]
      exact fillZ_length 32 _ (HS.out i (by simpa using hi))
    have HLL : (ps.map (fillZ 32)).length = ps.length := by simp
    obtain ⟨L, hL⟩ : ∃ L, L = ps.map (fillZ 32) := ⟨_, rfl⟩
    rw [← hL] at HO HLN HLL
    have HL := Lib.hid hL; clear hL
    have HR := Lib.hid (HO.rows (by omega) ocap)
    have HO := Lib.hid HO
    have HLN := Lib.hid HLN
    have HLL := Lib.hid HLL
    rcases (by omega : n = 2 ∨ n = 1 ∨ n = 0) with h2 | h1 | h0'
    · obtain ⟨j, k, hjk⟩ : ∃ j k, G = [j, k] := by
        have := HNG.out
        match G, this with
        | [], h => simp at h; omega
        | [a], h => simp at h; omega
        | [a, b], h => exact ⟨a, b, rfl⟩
        | a :: b :: c :: r, h => simp at h; omega
      subst hjk
      have jm := goneTo_mem.1 (HG.out ▸ List.mem_cons_self : j ∈ goneTo ps ps.length)
      have km := goneTo_mem.1 (HG.out ▸ List.mem_cons_of_mem _ List.mem_cons_self : k ∈ goneTo ps ps.length)
      have hne : j ≠ k := by
        have := goneTo_nodup ps ps.length
        rw [← HG.out] at this
        intro e; subst e; simp at this
      have e2 : ((n : Int) == 2) = true := by rw [beq_iff_eq]; omega
      have hN0 : N = 0 := by omega
      have plen : p.length = 32 := by
        rcases SP.out with h | h
        · have := gone2_p (p := p) (q := q) (by omega); rw [← HN.out] at this; omega
        · exact h
      have qlen : q.length = 32 := by
        rcases SQ.out with h | h
        · have := gone2_q (p := p) (q := q) (by omega); rw [← HN.out] at this; omega
        · exact h
      have hsv : solvedF p q ps = (L.set j (twoX p q L j k)).set k (twoY p q L j k) := by unfold solvedF; rw [← HG.out, ← HL.out]
      obtain ⟨gb, go, gcp, hgs, hgc⟩ := gi_cells H1.out (by simp)
      have c0 := hgc 0 (by simp)
      have c1 := hgc 1 (by simp)
      have hn2 : ([j, k] : List Nat).length = n := HNG.out.symm
      rw [hn2] at hgs
      injection hgs with hga _ hgcp
      subst hga; subst hgcp
      simp only [Nat.add_zero, List.getD_cons_zero, List.getD_cons_succ] at c0 c1
      clear hgc hn2
      have PL := Lib.hid plen; clear plen
      have QL := Lib.hid qlen; clear qlen
      have HSV := Lib.hid hsv; clear hsv
      have i0 : 0 < n := by omega
      have i1 : (1 : Int) < (n : Int) := by omega
      have j1 : (j : Int) < (ps.length : Int) := by omega
      have k1 : (k : Int) < (ps.length : Int) := by omega
      have hbg := HO.out.ne H1.out rfl (by simp)
      have JM := jm.1
      have KM := km.1
      clear hgt h2 HN2 jm km
      go_wp2_with fail
      go_region_held3 (fun wx : World => wx.cell? ⟨gb, go, none⟩ = some (.int .i64 j) ∧ wx.cell? ⟨gb, go + 1, none⟩ = some (.int .i64 k)) (first | exact ⟨c0, c1⟩ | exact ⟨c06, c16⟩ | exact ⟨cell_apart c06 hbg, cell_apart c16 hbg⟩ | exact ⟨cell_apart (cell_apart c06 hbg) hbg, cell_apart (cell_apart c16 hbg) hbg⟩) (first | (go_at_call 134; refine (two_any p q L j k 32 _ _ _ _ (HP.out.gr (g1.trans (Gr.drew _))) (HQ.out.gr (g1.trans (Gr.drew _))) (HR.out.gr (Gr.drew _)) (by rw [HLL.out]; exact hl) (by rw [HLL.out]; exact h0) (by omega) (by omega) hne (by decide) PL.out QL.out HLN.out).mono ?_; rintro e w6 ⟨r6, s6, rfl, hx6, hy6, g6⟩; obtain ⟨ra, rn, rc, hr6⟩ := hx6.sl; obtain ⟨sa, sn, sc, hs6⟩ := hy6.sl; subst hr6; subst hs6; have HO6 := Lib.hid (HO.out.gr ((Gr.drew _).trans g6)); obtain ⟨⟨uj, cj, cj'⟩, ⟨uk, ck, ck'⟩, fj, fk, fj', fk'⟩ := HO6.out.stores (.slice ra rn rc) (.slice sa sn sc) JM KM hne; have c06 := ((Gr.drew _).trans g6).cell c0; have c16 := ((Gr.drew _).trans g6).cell c1; have HX6 := Lib.hid hx6; have HY6 := Lib.hid hy6; clear hx6 hy6))
      go_wp2
      go_ret2
      have o1 := HO6.out.set JM HX6.out
      have o2 := o1.set KM (BytesAt.setCell HO6.out HY6.out)
      rw [HSV.out]
      exact ⟨_, (by rw [HLOST.out]; rfl), (fun _ => o2.rows (by omega) ocap), gr_setCell (gr_setCell ((g1.trans (Gr.drew _)).trans g6) HO6.out hog) o1 hog⟩
    · obtain ⟨j, hj⟩ : ∃ j, G = [j] := by
        have := HNG.out
        match G, this with
        | [], h => simp at h; omega
        | [a], h => exact ⟨a, rfl⟩
        | a :: b :: r, h => simp at h; omega
      subst hj
      have jm := goneTo_mem.1 (HG.out ▸ List.mem_cons_self : j ∈ goneTo ps ps.length)
      have e2 : ((n : Int) == 2) = false := by rw [beq_eq_false_iff_ne]; omega
      have e1 : ((n : Int) == 1) = true := by rw [beq_iff_eq]; omega
      obtain ⟨gb, go, gcp, hgs, hgc⟩ := gi_cells H1.out (by simp)
      have c0 := hgc 0 (by simp)
      have hn2 : ([j] : List Nat).length = n := HNG.out.symm
      rw [hn2] at hgs
      injection hgs with hga _ hgcp
      subst hga; subst hgcp
      simp only [Nat.add_zero, List.getD_cons_zero] at c0
      clear hgc hn2
      have i0 : 0 < n := by omega
      have j1 : (j : Int) < (ps.length : Int) := by omega
      have hbg := HO.out.ne H1.out rfl (by simp)
      have JM := jm.1
      clear jm h1
      have hP := sumTo_length ones L L.length
      have hP : (sumTo ones L L.length).length = 32 := hP.trans (HLN.out 0 (by rw [HLL.out]; exact h0))
      have HPL := Lib.hid hP; clear hP
      by_cases hp0 : 0 < p.length
      · have plen : p.length = 32 := by
          rcases SP.out with h | h
          · omega
          · exact h
        have hsv : solvedF p q ps = L.set j (addB p (sumTo ones L L.length)) := by unfold solvedF; rw [← HG.out, ← HL.out]; exact if_pos hp0
        have HSV := Lib.hid hsv; clear hsv
        have PL := Lib.hid plen; clear plen
        clear hgt HN2
        have d0 : decide ((p.length : Int) > 0) = true := by rw [decide_eq_true_iff]; omega
        go_wp2_with fail
        go_region_held3 (fun wx : World => wx.cell? ⟨gb, go, none⟩ = some (.int .i64 j)) (first | exact c0 | exact c06 | exact c07 | exact cell_apart c07 hbg) (first | (go_at_call 118; refine (P_any L 32 _ _ (HR.out.gr (Gr.drew _)) (by rw [HLL.out]; exact hl) (by rw [HLL.out]; exact h0) (by decide) HLN.out).mono ?_; rintro e w6 ⟨r6, rfl, hx6, g6⟩; have c06 := ((Gr.drew _).trans g6).cell c0) | (go_at_call 135; refine (add_any p _ _ _ _ (HP.out.gr ((g1.trans (Gr.drew _)).trans g6)) hx6 (PL.out.trans HPL.out.symm) (by rw [PL.out]; decide)).mono ?_; rintro e w7 ⟨r7, rfl, hx7, g7⟩; have c07 := g7.cell c06; obtain ⟨ra, rn, rc, hr7⟩ := hx7.sl; subst hr7; have HO7 := Lib.hid (HO.out.gr (((Gr.drew _).trans g6).trans g7)); obtain ⟨⟨uj, cj⟩, fj⟩ := HO7.out.cell JM; have HX7 := Lib.hid hx7; clear hx7))
        go_wp2
        go_ret2
        rw [HSV.out]
        exact ⟨_, (by rw [HLOST.out]; rfl), (fun _ => (HO7.out.set JM HX7.out).rows (by omega) ocap), gr_setCell (((g1.trans (Gr.drew _)).trans g6).trans g7) HO7.out hog⟩
      · have qlen : q.length = 32 := by
          rcases SQ.out with h | h
          · have := gone2_pq (p := p) (q := q) hp0 (by omega); rw [← HN.out] at this; omega
          · exact h
        have hsv : solvedF p q ps = L.set j (byQF q L j) := by unfold solvedF; rw [← HG.out, ← HL.out]; exact if_neg hp0
        have HSV := Lib.hid hsv; clear hsv
        have QL := Lib.hid qlen; clear qlen
        clear hgt HN2
        have d0 : decide ((p.length : Int) > 0) = false := by rw [decide_eq_false_iff_not]; omega
        go_wp2_with fail
        go_region_held3 (fun wx : World => wx.cell? ⟨gb, go, none⟩ = some (.int .i64 j)) (first | exact c0 | exact c07 | exact cell_apart c07 hbg) (first | (go_at_call 136; refine (byQ_any q L j 32 _ _ _ (HQ.out.gr (g1.trans (Gr.drew _))) (HR.out.gr (Gr.drew _)) (by rw [HLL.out]; exact hl) (by rw [HLL.out]; exact h0) (by omega) (by decide) QL.out HLN.out).mono ?_; rintro e w7 ⟨r7, rfl, hx7, g7⟩; have c07 := ((Gr.drew _).trans g7).cell c0; obtain ⟨ra, rn, rc, hr7⟩ := hx7.sl; subst hr7; have HO7 := Lib.hid (HO.out.gr ((Gr.drew _).trans g7)); obtain ⟨⟨uj, cj⟩, fj⟩ := HO7.out.cell JM; have HX7 := Lib.hid hx7; clear hx7))
        go_wp2
        go_ret2
        rw [HSV.out]
        exact ⟨_, (by rw [HLOST.out]; rfl), (fun _ => (HO7.out.set JM HX7.out).rows (by omega) ocap), gr_setCell ((g1.trans (Gr.drew _)).trans g7) HO7.out hog⟩
    · have e2 : ((n : Int) == 2) = false := by rw [beq_eq_false_iff_ne]; omega
      have e1 : ((n : Int) == 1) = false := by rw [beq_eq_false_iff_ne]; omega
      have hG0 : G = [] := List.eq_nil_of_length_eq_zero (by have := HNG.out; omega)
      have hsv : solvedF p q ps = L := by unfold solvedF; rw [← HG.out, hG0, ← HL.out]
      have HSV := Lib.hid hsv; clear hsv h0' hG0 hgt
      go_wp2
      go_ret2
      rw [HSV.out]
      exact ⟨_, (by rw [HLOST.out]; rfl), (fun _ => HR.out), g1⟩
end Go.Proofs.Ytoalnkhedebpbaa

/-! row.Take: what it answers. -/
namespace Go.Proofs.Ytoalnkhedebpbaa
open Go.RowKit

theorem dskOf_bds {L D C : Int} (h : goodG L D C = true) (r k : Int) : 0 ≤ dskOf L D C r k ∧ dskOf L D C r k < D := by
  obtain ⟨hL1, hL2, hD1, hD2, hC1, hC2, _⟩ := goodG_bds h
  unfold dskOf
  exact ⟨Int.emod_nonneg _ (by omega), Int.emod_lt_of_pos _ (by omega)⟩
theorem parQ_six {L D C : Int} (h : goodG L D C = true) (r : Int) (h6 : L ≠ 5) : 0 ≤ parQ L D C r ∧ parQ L D C r < D := by
  obtain ⟨hL1, hL2, hD1, hD2, hC1, hC2, _⟩ := goodG_bds h
  unfold parQ
  rw [if_neg h6]
  exact ⟨Int.emod_nonneg _ (by omega), Int.emod_lt_of_pos _ (by omega)⟩
/-- A row's data sectors, its P, its Q, out of the disks' sectors. -/
def partsOf (L D C r : Int) (ds : List (List UInt8)) : List (List UInt8) := (List.range (D - (L - 4)).toNat).map fun k : Nat => ds.getD (dskOf L D C r k).toNat []
def pOf (D C r : Int) (ds : List (List UInt8)) : List UInt8 := ds.getD (parP D C r).toNat []
def qOf (L D C r : Int) (ds : List (List UInt8)) : List UInt8 := if L = 5 then [] else ds.getD (parQ L D C r).toNat []
def lostR (L D C r : Int) (ds : List (List UInt8)) : Bool := lostF (pOf D C r ds) (qOf L D C r ds) (partsOf L D C r ds)
def takeR (L D C r : Int) (ds : List (List UInt8)) : List (List UInt8) := solvedF (pOf D C r ds) (qOf L D C r ds) (partsOf L D C r ds)
theorem partsOf_length (L D C r : Int) (ds : List (List UInt8)) : (partsOf L D C r ds).length = (D - (L - 4)).toNat := by simp [partsOf]
theorem partsOf_get {L D C r : Int} (ds : List (List UInt8)) {k : Nat} (hk : k < (D - (L - 4)).toNat) : (partsOf L D C r ds).getD k [] = ds.getD (dskOf L D C r k).toNat [] := by
  simp [partsOf, hk]
theorem rows_nil (w : World) : BytesAt w (.slice none 0 0) [] := .inl ⟨rfl, none, 0, rfl⟩

set_option maxRecDepth 100000 in
set_option maxHeartbeats 2000000 in
theorem take_good (L D C r : Int) (ds : List (List UInt8)) (v : Value) (w : World) (h : goodG L D C = true) (hr : 0 ≤ r) (hr' : r < 16) (hv : RowsAt w v ds) (hd : (ds.length : Int) = D) (hs : ∀ i, i < ds.length → sec0 (ds.getD i [])) :
    Calls Try.prog 78 #[gv L D C, .int .i64 r, v] w fun e w' => ∃ x, e = .returned (.tuple #[x, .bool (!lostR L D C r ds)]) ∧ (lostR L D C r ds = false → RowsAt w' x (takeR L D C r ds)) ∧ Gr w w' := by
  obtain ⟨hL1, hL2, hD1, hD2, hC1, hC2, _⟩ := goodG_bds h
  rcases hv.cases with ⟨rfl, _⟩ | ⟨b, off, cap, vs, rfl, _, hb0, hvl, hc, hb⟩
  · simp at hd; omega
  obtain ⟨W, hW⟩ : ∃ W : Nat, D - (L - 4) = W := ⟨(D - (L - 4)).toNat, by omega⟩
  have hW8 : W < 8 := by omega
  have hW1 : 1 < W := by have := goodG_cases h; omega
  have hWn : (D - (L - 4)).toNat = W := by omega
  obtain ⟨n, hn⟩ : ∃ n, n = ds.length := ⟨_, rfl⟩
  rw [← hn] at hc hb hd hs
  rw [← hn]
  clear hv
  have HNN := Lib.hid hn; clear hn
  have H := Lib.hid h; clear h
  have HC := Lib.hid hc; clear hc
  have HB := Lib.hid hb; clear hb
  have HS := Lib.hid hs; clear hs
  have hP := parP_range (D := D) (C := C) (r := r) (by omega)
  obtain ⟨p, hp⟩ : ∃ p : Nat, parP D C r = p := ⟨(parP D C r).toNat, by omega⟩
  rw [hp] at hP
  have HPP := Lib.hid hp; clear hp
  have HWN := Lib.hid hWn; clear hWn
  have HDN := Lib.hid hd
  have dne : ((n : Int) != D) = false := by simp [hd]
  clear hvl hd
  go_enter Try.func78, Try.ntmps78
  go_wp2_with fail
  refine (rowin_good L D C r _ H.out).mono ?_
  rintro e w1 ⟨rfl, hg⟩
  have g1 : Gr w w1 := (Gr.alloc w _).trans hg
  obtain ⟨c0, c1, c2⟩ := box3 (hg.get (heap_alloc_new w _))
  clear hg
  rw [decide_eq_true hr, decide_eq_true hr']
  go_wp2_with fail
  refine (width_good L D C _ H.out).mono ?_
  rintro e w2 ⟨rfl, hg2⟩
  replace g1 := g1.trans hg2
  replace c0 := hg2.cell c0
  replace c1 := hg2.cell c1
  replace c2 := hg2.cell c2
  clear hg2
  rw [hW]
  have hd2 : D ≤ (n : Int) := by have := HDN.out; omega
  clear hW
  go_wp2_with fail
  go_loopw [8, 25] (fun v i wr => ∃ (k : Nat) (us : List Value), k ≤ W ∧ i = .int .i64 k ∧ us.length = k ∧ wr.ownsRow w2.heap.size 43 1 v k us ∧ Hid (∀ j, j < k → BytesAt wr (us.getD j undef) (ds.getD (dskOf L D C r j).toNat [])) ∧ Gr w2 wr) (fun _ i _ => W - (intOf i).toNat)
  case atStart => exact ⟨0, [], by omega, rfl, rfl, World.ownsRow_nil _ _ _ _, Lib.hid (fun j hj => by omega), Gr.refl _⟩
  case round =>
    obtain ⟨k, us, hk, rfl, hul, hown, hrows, hg⟩ := hrel
    have b0 := hg.cell c0
    have b1 := hg.cell c1
    have b2 := hg.cell c2
    have hsz := hg.size
    by_cases hlt : k < W
    · obtain ⟨hd0, hd1⟩ := dskOf_bds H.out r k
      obtain ⟨d, hd⟩ : ∃ d : Nat, dskOf L D C r k = d := ⟨(dskOf L D C r k).toNat, by omega⟩
      rw [hd] at hd0 hd1
      have hdn : d < n := by omega
      have HD := Lib.hid hd; clear hd
      have ck := (g1.trans hg).cell (HC.out d hdn)
      have hbk := (HB.out d hdn).gr (g1.trans hg)
      obtain ⟨ak, nk, capk, hsh⟩ := (HB.out d hdn).sl
      rw [hsh] at ck hbk
      have HBK := Lib.hid hbk; clear hbk hsh
      clear hd1 hd0
      go_wp2_with fail
      refine (disk_good L D C r k _ H.out hr hr' (by omega) (by have := HWN.out; omega)).mono ?_
      rintro e w3 ⟨rfl, hg3⟩
      have ck3 := hg3.cell ck
      have hs3 := hg3.size
      rw [HD.out]
      go_wp2_with ((with_reducible apply wpL_append1 slRows infRows rfl (by decide)); rfl; rfl; exact (own_gr hown hg3).alloc _; exact cell_new _ _ _ _ rfl; rfl; omega; (simp; omega); (intro v' w4 hown' hgr))
      have o2 := (own_gr hown hg3).alloc (.cells #[.slice ak nk capk] 43)
      go_roundw
      case rel =>
        refine ⟨k + 1, us ++ [.slice ak nk capk], by omega, by go_num, by simp [hul], hown', Lib.hid ?_, ?_⟩
        · refine rows_snoc (f := fun j : Nat => ds.getD (dskOf L D C r j).toNat []) hul (fun j hj => ?_) ?_
          · exact (((hrows.out j hj).gr hg3).gr (Gr.alloc _ _)).grown o2 hgr
          · refine BytesAt.grown ?_ o2 hgr
            have e : (dskOf L D C r (k : Nat)).toNat = d := by have := HD.out; omega
            show BytesAt _ _ (ds.getD (dskOf L D C r (k : Nat)).toNat [])
            rw [e]
            exact (HBK.out.gr hg3).gr (Gr.alloc _ _)
        · exact Below.grown (Below.alloc (hg.trans hg3) (by omega) _) hgr (by simp; omega) (fun j hj => ((own_gr hown hg3).lt j hj).1)
      case measure => simp [intOf]; omega
    · obtain rfl : k = W := by omega
      have hR : RowsAt wr u8 (partsOf L D C r ds) := by
        have e : (partsOf L D C r ds).length = k := by rw [partsOf_length]; exact HWN.out
        refine ⟨us, SlAt.own hown (by omega), by rw [e]; exact hul, fun j hj => ?_⟩
        rw [partsOf_get ds (by rw [HWN.out]; omega)]
        exact hrows.out j (by omega)
      have HR := Lib.hid hR; clear hR hown hrows hul hlt
      have sp : sec0 (ds.getD p []) := HS.out p (by omega)
      have SP := Lib.hid sp; clear sp
      have SS : Hid (∀ i, i < (partsOf L D C r ds).length → sec0 ((partsOf L D C r ds).getD i [])) := Lib.hid fun i hi => by
        rw [partsOf_length] at hi
        rw [partsOf_get ds hi]
        have := dskOf_bds H.out r i
        exact HS.out _ (by have := HDN.out; omega)
      have PL0 : Hid (0 < (partsOf L D C r ds).length ∧ (partsOf L D C r ds).length ≤ 8) := Lib.hid (by rw [partsOf_length, HWN.out]; omega)
      have POF : Hid (pOf D C r ds = ds.getD p []) := Lib.hid (by unfold pOf; rw [HPP.out]; rfl)
      replace g1 := g1.trans hg
      have hpn : p < n := by omega
      go_wp2_with fail
      refine (parity_good L D C r _ H.out hr hr').mono ?_
      rintro e w3 ⟨rfl, hg3⟩
      rw [HPP.out]
      replace g1 := g1.trans hg3
      have cp := g1.cell (HC.out p hpn)
      have hbp := (HB.out p hpn).gr g1
      obtain ⟨ap, np, capp, hsp⟩ := (HB.out p hpn).sl
      rw [hsp] at cp hbp
      have HBP := Lib.hid hbp; clear hbp hsp
      have HR := Lib.hid (HR.out.gr hg3)
      obtain ⟨ur, nr, capr, hur⟩ : ∃ a n' c, u8 = .slice a n' c := by
        obtain ⟨a, c, e⟩ := HR.out.shape
        exact ⟨a, _, c, e⟩
      subst hur
      clear hg3
      by_cases h5 : L = 5
      · subst h5
        have hq : parQ 5 D C r = -1 := if_pos rfl
        rw [hq]
        have QOF : Hid (qOf 5 D C r ds = []) := Lib.hid (if_pos rfl)
        clear hq
        go_wp2_with fail
        refine (solve_any (ds.getD p []) [] (partsOf 5 D C r ds) _ _ _ _ HBP.out (rows_nil _) HR.out PL0.out.1 PL0.out.2 SS.out SP.out (.inl rfl)).mono ?_
        rintro e w4 ⟨x, rfl, hx, hg4⟩
        go_wp2
        go_ret2
        unfold lostR takeR
        rw [POF.out, QOF.out]
        exact ⟨x, rfl, hx, g1.trans hg4⟩
      · have hq := parQ_six H.out r h5
        obtain ⟨q, hqq⟩ : ∃ q : Nat, parQ L D C r = q := ⟨(parQ L D C r).toNat, by omega⟩
        rw [hqq] at hq
        rw [hqq]
        have QOF : Hid (qOf L D C r ds = ds.getD q []) := Lib.hid (by unfold qOf; rw [if_neg h5, hqq]; rfl)
        clear hqq h5
        have hqn : q < n := by omega
        have cq := g1.cell (HC.out q hqn)
        have hbq := (HB.out q hqn).gr g1
        obtain ⟨aq, nq, capq, hsq⟩ := (HB.out q hqn).sl
        rw [hsq] at cq hbq
        have HBQ := Lib.hid hbq; clear hbq hsq
        have SQ := Lib.hid (HS.out q hqn)
        have q0 : ((q : Int) < 0) = False := by simp
        go_wp2_with fail
        go_region_held3 (fun wx : World => wx.cell? ⟨b, off + p, none⟩ = some (.slice ap np capp) ∧ wx.cell? ⟨b, off + q, none⟩ = some (.slice aq nq capq)) (first | exact ⟨cp, cq⟩ | exact ⟨((Gr.drew _).trans hg4).cell cp, ((Gr.drew _).trans hg4).cell cq⟩) (first | (go_at_call 110; refine (solve_any (ds.getD p []) (ds.getD q []) (partsOf L D C r ds) _ _ _ _ (HBP.out.gr (Gr.drew _)) (HBQ.out.gr (Gr.drew _)) (HR.out.gr (Gr.drew _)) PL0.out.1 PL0.out.2 SS.out SP.out SQ.out).mono ?_; rintro e w4 ⟨x, rfl, hx, hg4⟩))
        go_wp2
        go_ret2
        unfold lostR takeR
        rw [POF.out, QOF.out]
        exact ⟨x, rfl, hx, (g1.trans (Gr.drew _)).trans hg4⟩
end Go.Proofs.Ytoalnkhedebpbaa

/-! slices.Clone of bytes; row.Fill: what it answers. -/
namespace Go.Proofs.Ytoalnkhedebpbaa
open Go.RowKit

section
variable {P : Program} {ops : Array Oper} {Q : Exit → Act → World → Prop} {a : Act} {w : World} {rest : List Oper} {d : Option Tmp} {ty : TypeId} {pos : String} {after : Array Edge} {T E : TypeId}
/-- 'append(out, s...)' onto a slice of the call's own, of elements of one cell. -/
theorem wpL_appendN {s x : Operand} {z v : Value} {bytes base n m c : Nat} {ad : Addr} {xs news : List Value} (ht : P.underlying T = some (.slice E)) (hinfo : (P.info? E).map (fun i => (i.zero, i.size, i.bytes)) = some (some z, 1, bytes)) (hzs : z.cells.size = 1) (hbytes : bytes ≤ 1024)
    (hs : a.eval s = v) (hx : a.eval x = .slice (some ad) m c) (hown : w.ownsRow base E 1 v n xs) (hl : news.length = m) (hnews : ∀ j u, news[j]? = some u → w.cell? (ad.add j) = some u) (h1 : ∀ u ∈ news, u.oneCell' = true) (hn : n + m ≤ 1048576) (hbase : base ≤ w.heap.size)
    (h : ∀ v' w', w'.ownsRow base E 1 v' (n + m) (xs ++ news) → w.grownBy w' v.ownBlock → wpList P ops Q rest (a.put d v') w') :
    wpList P ops Q ({ dst := d, op := .call { callee := .builtin .append, args := #[s, x], argTypes := #[T, T] }, type := ty, pos := pos, after := after, guard := none } :: rest) a w := by
  cases hi : P.info? E with
  | none => simp [hi] at hinfo
  | some i =>
    obtain ⟨h1z, h2z, h3z⟩ : i.zero = some z ∧ i.size = 1 ∧ i.bytes = bytes := by simpa [hi] using hinfo
    refine wpList_append_own w rfl s x T rfl base E i z 1 bytes ht hi h1z h2z h3z hzs (by decide) v n xs hs hown ad m c news hx (by omega) hnews h1 (by unfold maxLen; omega) ?_ hbase (fun v' w' a1 a2 _ => h v' w' a1 a2)
    calc (n + m) * bytes ≤ 1048576 * 1024 := Nat.mul_le_mul (by omega) hbytes
      _ ≤ 140737488355328 := by decide
end
theorem own_empty (w : World) (E : TypeId) (cap base k : Nat) (hk : k = w.heap.size) (hb : base ≤ k) (hc : cap = 0) : (w.alloc (.cells #[] E)).ownsRow base E 1 (.slice (some ⟨k, 0, none⟩) 0 cap) 0 [] := by
  subst hk; subst hc
  exact ⟨rfl, .inr ⟨w.heap.size, 0, #[], rfl, hb, heap_alloc_new w _, Nat.le_refl _, Nat.zero_le _, rfl, rfl⟩⟩
set_option maxRecDepth 100000 in
set_option maxHeartbeats 400000 in
theorem clone_some (x : List UInt8) (ad : Addr) (cap : Nat) (w : World) (hl : x.length ≤ 1048576) (hn : ∀ w', Gr w w' → ∀ j u, (x.map bv)[j]? = some u → w'.cell? (ad.add j) = some u) :
    Calls Try.prog 117 #[.slice (some ad) x.length cap] w fun e w' => ∃ r, e = .returned r ∧ BytesAt w' r x ∧ Gr w w' := by
  have HN := Lib.hid hn; clear hn
  have he : ∀ w : World, (binOp .eql 43 (.slice (some ad) x.length cap) (.slice none 0 0)).run Try.prog w = .ok (.bool false) w := fun _ => rfl
  obtain ⟨n, hn⟩ : ∃ n, n = x.length := ⟨_, rfl⟩
  rw [← hn]; rw [← hn] at he hl
  have HX := Lib.hid hn; clear hn
  go_enter Try.func117, Try.ntmps117
  go_wp2_with ((with_reducible apply wpL_appendN (xs := []) (news := x.map bv) slU8 infU8 rfl (by decide)); rfl; rfl; exact own_empty w _ _ w.heap.size w.heap.size rfl (Nat.le_refl _) rfl; (rw [List.length_map]; exact HX.out.symm); exact HN.out _ (Gr.alloc _ _); exact bvs_one x; omega; (simp); (intro v' w4 hown' hgr))
  go_ret
  have g2 : Gr w w4 := Below.grown (Gr.alloc w _) hgr (by simp) (fun j hj => Nat.le_of_eq (Option.some.inj hj))
  refine ⟨v', rfl, ?_, g2⟩
  have := SlAt.own hown' (by omega)
  exact this
set_option maxRecDepth 100000 in
set_option maxHeartbeats 400000 in
theorem clone_any (x : List UInt8) (v : Value) (w : World) (h : BytesAt w v x) (hl : x.length ≤ 1048576) :
    Calls Try.prog 117 #[v] w fun e w' => ∃ r, e = .returned r ∧ BytesAt w' r x ∧ Gr w w' := by
  rcases h.cases with ⟨rfl, a, cap, rfl⟩ | ⟨b, off, cap, rfl, _, _, hc⟩
  · cases a with
    | some ad => exact clone_some [] ad cap w hl (fun _ _ j u hj => by simp at hj)
    | none =>
      have he : ∀ w : World, (binOp .eql 43 (.slice none 0 cap) (.slice none 0 0)).run Try.prog w = .ok (.bool true) w := fun _ => rfl
      clear h hl
      go_enter Try.func117, Try.ntmps117
      go_wp2
      go_ret
      exact ⟨_, rfl, rows_nil _, Gr.refl _⟩
  · refine clone_some x ⟨b, off, none⟩ cap w hl (fun w' g j u hj => ?_)
    obtain ⟨b', off', e, hc'⟩ := bytes_src h j u hj
    have e := Option.some.inj e
    injection e with e1 e2
    subst e1; subst e2
    rw [addr_add0]
    exact g.cell hc'

/-- The sectors of a row's disks: data .. -/
def fillTo (L D C r : Int) (data : List (List UInt8)) : Nat → List (List UInt8)
  | 0 => List.replicate D.toNat []
  | k + 1 => (fillTo L D C r data k).set (dskOf L D C r k).toNat (data.getD k [])
/-- .. and parity. -/
def fillR (L D C r : Int) (data : List (List UInt8)) : List (List UInt8) :=
  let l := (fillTo L D C r data data.length).set (parP D C r).toNat (sumTo ones data data.length)
  if L = 5 then l else l.set (parQ L D C r).toNat (sumTo gpow data data.length)
theorem notSec_of {ps : List (List UInt8)} (h : ∀ i, i < ps.length → (ps.getD i []).length = 32) : ps.any notSec = false := by
  rw [List.any_eq_false]
  intro x hx
  obtain ⟨i, hi, rfl⟩ := List.getElem_of_mem hx
  have := h i hi
  have e : ps.getD i [] = ps[i] := by simp [hi]
  rw [e] at this
  unfold notSec
  simp only [decide_eq_true_eq]
  omega
theorem ORows.make {w : World} {g n : Nat} (h : w.heap[g]? = some (.cells (zrow (.slice none 0 0) n) 43 (0, 0))) : ORows w g n (List.replicate n []) := by
  refine ⟨by simp, _, List.replicate n (.slice none 0 0), h, by rw [zrow_size]; exact Nat.le_refl _, by simp, fun i hi => ?_, fun i hi => ?_⟩
  · rw [zrow_get hi]; simp [hi]
  · have e1 : (List.replicate n (Value.slice none 0 0)).getD i undef = .slice none 0 0 := by simp [hi]
    have e2 : (List.replicate n ([] : List UInt8)).getD i [] = [] := by simp [hi]
    rw [e1, e2]; exact rows_nil w
set_option maxRecDepth 100000 in
set_option maxHeartbeats 2000000 in
theorem fill_good (L D C r : Int) (data : List (List UInt8)) (v : Value) (w : World) (h : goodG L D C = true) (hr : 0 ≤ r) (hr' : r < 16) (hv : RowsAt w v data) (hd : (data.length : Int) = D - (L - 4)) (hs : ∀ i, i < data.length → (data.getD i []).length = 32) :
    Calls Try.prog 87 #[gv L D C, .int .i64 r, v] w fun e w' => ∃ x, e = .returned (.tuple #[x, .bool true]) ∧ RowsAt w' x (fillR L D C r data) ∧ Gr w w' := by
  obtain ⟨hL1, hL2, hD1, hD2, hC1, hC2, _⟩ := goodG_bds h
  rcases hv.cases with ⟨rfl, _⟩ | ⟨b, off, cap, vs, rfl, _, hb0, hvl, hc, hb⟩
  · have := goodG_cases h; simp at hd; omega
  obtain ⟨DN, hDN⟩ : ∃ DN : Nat, D = DN := ⟨D.toNat, by omega⟩
  subst hDN
  obtain ⟨n, hn⟩ : ∃ n, n = data.length := ⟨_, rfl⟩
  rw [← hn] at hc hb hd hs hv
  rw [← hn]
  have hn8 : n < 8 := by omega
  have hn1 : 1 < n := by have := goodG_cases h; omega
  have HV := Lib.hid hv; clear hv
  have HNN := Lib.hid hn; clear hn
  have H := Lib.hid h; clear h
  have HC := Lib.hid hc; clear hc
  have HB := Lib.hid hb; clear hb
  have HS := Lib.hid hs; clear hs
  have hP := parP_range (D := DN) (C := C) (r := r) (by omega)
  obtain ⟨p, hp⟩ : ∃ p : Nat, parP DN C r = p := ⟨(parP DN C r).toNat, by omega⟩
  rw [hp] at hP
  have HPP := Lib.hid hp; clear hp
  have HDN := Lib.hid hd
  have dne : ((n : Int) != DN - (L - 4)) = false := by simp [hd]
  clear hvl hd
  go_enter Try.func87, Try.ntmps87
  go_wp2_with fail
  refine (rowin_good L DN C r _ H.out).mono ?_
  rintro e w1 ⟨rfl, hg⟩
  have g1 : Gr w w1 := (Gr.alloc w _).trans hg
  obtain ⟨c0, c1, c2⟩ := box3 (hg.get (heap_alloc_new w _))
  clear hg
  rw [decide_eq_true hr, decide_eq_true hr']
  go_wp2_with fail
  refine (width_good L DN C _ H.out).mono ?_
  rintro e w2 ⟨rfl, hg2⟩
  replace g1 := g1.trans hg2
  replace c0 := hg2.cell c0
  replace c1 := hg2.cell c1
  replace c2 := hg2.cell c2
  clear hg2
  go_wp2_with fail
  refine (sectors_any data _ _ (HV.out.gr g1)).mono ?_
  rintro e w3 ⟨rfl, rfl⟩
  rw [notSec_of (fun i hi => HS.out i (by rw [HNN.out]; exact hi))]
  have nb : (Value.bool !false) = .bool true := rfl
  rw [nb]
  clear nb
  go_wp2_with ((with_reducible apply wpL_make1 (n := DN) slRows infRows rfl (by decide)); rfl; rfl; omega)
  obtain ⟨g, hgg⟩ : ∃ g, g = w2.heap.size := ⟨_, rfl⟩
  have hO : ORows (w2.alloc (.cells (zrow (.slice none 0 0) DN) 43)) g DN (fillTo L DN C r data 0) := by
    rw [hgg]; exact ORows.make (heap_alloc_new w2 _)
  rw [← hgg]
  have hG : Gr w2 (w2.alloc (.cells (zrow (.slice none 0 0) DN) 43)) := Gr.alloc _ _
  obtain ⟨wm, hwm⟩ : ∃ wm, wm = w2.alloc (.cells (zrow (.slice none 0 0) DN) 43) := ⟨_, rfl⟩
  rw [← hwm] at hO hG
  rw [← hwm]
  clear hwm
  have HO := Lib.hid hO; clear hO
  have hgl : w2.heap.size ≤ g := Nat.le_of_eq hgg.symm
  clear hgg
  have hwg : w.heap.size ≤ g := Nat.le_trans g1.size hgl
  go_loopw [34] (fun i wr => ∃ k : Nat, k ≤ n ∧ i = .int .i64 k ∧ Hid (ORows wr g DN (fillTo L DN C r data k)) ∧ Gr w2 wr) (fun i _ => n - (intOf i).toNat)
  case atStart => exact ⟨0, by omega, rfl, HO, hG⟩
  case round =>
    obtain ⟨k, hk, rfl, hrow, hg⟩ := hrel
    have b0 := hg.cell c0
    have b1 := hg.cell c1
    have b2 := hg.cell c2
    by_cases hlt : k < n
    · obtain ⟨hd0, hd1⟩ := dskOf_bds H.out r k
      obtain ⟨d, hd⟩ : ∃ d : Nat, dskOf L DN C r k = d := ⟨(dskOf L DN C r k).toNat, by omega⟩
      rw [hd] at hd0 hd1
      have hdn : d < DN := by omega
      have HD := Lib.hid hd; clear hd
      have ck := (g1.trans hg).cell (HC.out k hlt)
      have hbk := (HB.out k hlt).gr (g1.trans hg)
      obtain ⟨ak, nk, capk, hsh⟩ := (HB.out k hlt).sl
      rw [hsh] at ck hbk
      have HBK := Lib.hid hbk; clear hbk hsh
      clear hd1 hd0
      go_wp2_with fail
      refine (disk_good L DN C r k _ H.out hr hr' (by omega) (by have := HDN.out; omega)).mono ?_
      rintro e w3 ⟨rfl, hg3⟩
      rw [HD.out]
      go_wp2_with fail
      refine (clone_any (data.getD k []) _ _ (HBK.out.gr hg3) (by rw [HS.out k hlt]; decide)).mono ?_
      rintro e w4 ⟨x, rfl, hx, hg4⟩
      have HO4 := Lib.hid ((hrow.out.gr hg3).gr hg4)
      obtain ⟨⟨ud, cd⟩, fd⟩ := HO4.out.cell hdn
      obtain ⟨ax, nx, capx, hsx⟩ := hx.sl
      subst hsx
      have HX := Lib.hid hx; clear hx
      go_wp2
      go_roundw
      case rel =>
        refine ⟨k + 1, by omega, by go_num, Lib.hid ?_, gr_setCell ((hg.trans hg3).trans hg4) HO4.out hgl⟩
        have e : (dskOf L DN C r (k : Nat)).toNat = d := by have := HD.out; omega
        unfold fillTo
        rw [e]
        exact HO4.out.set hdn HX.out
      case measure => simp [intOf]; omega
    · obtain rfl : k = n := by omega
      clear hlt hk
      have hpn : p < DN := by omega
      go_wp2_with fail
      refine (parity_good L DN C r _ H.out hr hr').mono ?_
      rintro e w3 ⟨rfl, hg3⟩
      rw [HPP.out]
      have PL : Hid (data.length ≤ 8 ∧ 0 < data.length) := Lib.hid (by have := HNN.out; omega)
      have PS : Hid (∀ i, i < data.length → (data.getD i []).length = 32) := Lib.hid fun i hi => HS.out i (by rw [HNN.out]; exact hi)
      have HR := Lib.hid (hrow.out.gr hg3)
      replace g1 := (g1.trans hg).trans hg3
      replace hg := hg.trans hg3
      clear hrow hg3
      go_wp2_with fail
      refine (P_any data 32 _ _ (HV.out.gr g1) PL.out.1 PL.out.2 (by decide) PS.out).mono ?_
      rintro e w4 ⟨x, rfl, hx, hg4⟩
      have HO4 := Lib.hid (HR.out.gr hg4)
      obtain ⟨⟨ud, cd⟩, fd⟩ := HO4.out.cell hpn
      obtain ⟨ax, nx, capx, hsx⟩ := hx.sl
      subst hsx
      have HO5 := Lib.hid (HO4.out.set hpn hx)
      have g5 : Gr w (w4.setCell ⟨g, p, none⟩ (.slice ax nx capx)) := gr_setCell (g1.trans hg4) HO4.out hwg
      clear hx
      by_cases h5 : L = 5
      · subst h5
        have hq : parQ 5 DN C r = -1 := if_pos rfl
        rw [hq]
        have HF : Hid (fillR 5 DN C r data = (fillTo 5 DN C r data k).set p (sumTo ones data data.length)) := Lib.hid (by unfold fillR; rw [if_pos rfl, HPP.out, ← HNN.out]; rfl)
        clear hq
        go_wp2
        go_ret2
        rw [HF.out]
        exact ⟨_, rfl, HO5.out.rows (by omega) _, g5⟩
      · have hq := parQ_six H.out r h5
        obtain ⟨q, hqq⟩ : ∃ q : Nat, parQ L DN C r = q := ⟨(parQ L DN C r).toNat, by omega⟩
        rw [hqq] at hq
        rw [hqq]
        have HF : Hid (fillR L DN C r data = ((fillTo L DN C r data k).set p (sumTo ones data data.length)).set q (sumTo gpow data data.length)) := Lib.hid (by unfold fillR; rw [if_neg h5, HPP.out, hqq, ← HNN.out]; rfl)
        clear hqq h5
        have hqn : q < DN := by omega
        go_wp2_with fail
        refine (Q_any data 32 _ _ (HV.out.gr g5) PL.out.1 PL.out.2 (by decide) PS.out).mono ?_
        rintro e w6 ⟨y, rfl, hy, hg6⟩
        have HO6 := Lib.hid (HO5.out.gr hg6)
        obtain ⟨⟨uq, cq⟩, fq⟩ := HO6.out.cell hqn
        obtain ⟨ay, ny, capy, hsy⟩ := hy.sl
        subst hsy
        have HO7 := Lib.hid (HO6.out.set hqn hy)
        have g7 : Gr w (w6.setCell ⟨g, q, none⟩ (.slice ay ny capy)) := gr_setCell (g5.trans hg6) HO6.out hwg
        clear hy
        go_wp2
        go_ret2
        rw [HF.out]
        exact ⟨_, rfl, HO7.out.rows (by omega) _, g7⟩
end Go.Proofs.Ytoalnkhedebpbaa
