/- erase.Missing, filled, byQ, two: what they answer. -/
import Derived.Test.YtoalnkhedebpbaaMem2
import Derived.Test.YtoalnkhedebpbaaGeo2
namespace Go.Proofs.Ytoalnkhedebpbaa
open Go.RowKit

/-- The places, of the first k, of parts that are not there. -/
def goneTo (ps : List (List UInt8)) (k : Nat) : List Nat := (List.range k).filter fun i => decide ((ps.getD i []).length = 0)
theorem goneTo_succ (ps : List (List UInt8)) (k : Nat) : goneTo ps (k + 1) = goneTo ps k ++ if (ps.getD k []).length = 0 then [k] else [] := by
  unfold goneTo
  rw [List.range_succ, List.filter_append]
  congr 1
  by_cases h : (ps.getD k []).length = 0
  · rw [if_pos h, List.filter_cons_of_pos (by simpa using h)]; rfl
  · rw [if_neg h, List.filter_cons_of_neg (by simpa using h)]; rfl
theorem goneTo_length (ps : List (List UInt8)) : ∀ k, (goneTo ps k).length ≤ k
  | 0 => Nat.le_refl _
  | k + 1 => by
    rw [goneTo_succ, List.length_append]
    have := goneTo_length ps k
    split
    · simp; omega
    · simp; omega
def gi (l : List Nat) : List Value := l.map fun i : Nat => Value.int .i64 i
theorem gi_snoc (l : List Nat) (k : Nat) : gi l ++ [.int .i64 k] = gi (l ++ [k]) := by simp [gi]
@[simp] theorem gi_length (l : List Nat) : (gi l).length = l.length := by simp [gi]

set_option maxRecDepth 100000 in
set_option maxHeartbeats 800000 in
theorem missing_cons (ps : List (List UInt8)) (b off cap : Nat) (vs : List Value) (w : World) (hl : ps.length ≤ 1048576)
    (hc : ∀ i, i < ps.length → w.cell? ⟨b, off + i, none⟩ = some (vs.getD i undef)) (hb : ∀ i, i < ps.length → BytesAt w (vs.getD i undef) (ps.getD i [])) :
    Calls Try.prog 131 #[.slice (some ⟨b, off, none⟩) ps.length cap] w fun e w' => ∃ r, e = .returned r ∧ SlAt w' 3 r (gi (goneTo ps ps.length)) ∧ Gr w w' := by
  have HC := Lib.hid hc; clear hc
  have HB := Lib.hid hb; clear hb
  go_enter Try.func131, Try.ntmps131
  go_wp2
  go_loopw [3, 8] (fun v i wr => ∃ (k : Nat) (l : List Nat), k ≤ ps.length ∧ i = .int .i64 k ∧ Hid (l = goneTo ps k) ∧ l.length ≤ k ∧ wr.ownsRow w.heap.size 3 1 v l.length (gi l) ∧ Gr w wr) (fun _ i _ => ps.length - (intOf i).toNat)
  case atStart => exact ⟨0, [], Nat.zero_le _, rfl, rfl, Nat.le_refl _, World.ownsRow_nil _ _ _ _, Gr.refl _⟩
  case round =>
    obtain ⟨k, l, hk, rfl, hlk, hll, hown, hg⟩ := hrel
    have hsz := hg.size
    by_cases hlt : k < ps.length
    · have ck := hg.cell (HC.out k hlt)
      obtain ⟨ak, capk, hsh⟩ := (HB.out k hlt).shape
      rw [hsh] at ck
      clear hsh
      by_cases h0 : (ps.getD k []).length = 0
      · rw [h0] at ck
        have hs := goneTo_succ ps k
        rw [if_pos h0] at hs
        clear h0
        have HS := Lib.hid hs; clear hs
        go_wp2_with ((with_reducible apply wpL_append1 slInt infInt rfl (by decide)); rfl; rfl; exact hown.alloc _; exact cell_new _ _ _ _ rfl; rfl; omega; (simp; omega); (intro v' w4 hown' hgr))
        go_roundw
        case rel =>
          refine ⟨k + 1, l ++ [k], by omega, by go_num, by rw [HS.out, ← hlk.out]; exact Lib.hid rfl, by simp; omega, ?_, ?_⟩
          · rw [← gi_snoc, List.length_append]; exact hown'
          · exact Below.grown (Below.alloc hg (by omega) _) hgr (by simp; omega) (fun j hj => (hown.lt j hj).1)
        case measure => simp [intOf]; omega
      · have hs := goneTo_succ ps k
        rw [if_neg h0, List.append_nil] at hs
        obtain ⟨n, hn⟩ : ∃ n, n = (ps.getD k []).length := ⟨_, rfl⟩
        rw [← hn] at h0 ck
        clear hn
        have hd : ((n : Int) == 0) = false := by rw [beq_eq_false_iff_ne]; omega
        clear h0
        have HS := Lib.hid hs; clear hs
        go_wp2
        go_roundw
        case rel => exact ⟨k + 1, l, by omega, by go_num, by rw [HS.out]; exact hlk, by omega, hown, hg⟩
        case measure => simp [intOf]; omega
    · obtain rfl : k = ps.length := by omega
      go_wp2
      go_ret
      refine ⟨_, rfl, ?_, hg⟩
      rw [← hlk.out]
      exact SlAt.own hown (by omega)
set_option maxRecDepth 100000 in
set_option maxHeartbeats 400000 in
theorem missing_any (ps : List (List UInt8)) (v : Value) (w : World) (h : RowsAt w v ps) (hl : ps.length ≤ 1048576) :
    Calls Try.prog 131 #[v] w fun e w' => ∃ r, e = .returned r ∧ SlAt w' 3 r (gi (goneTo ps ps.length)) ∧ Gr w w' := by
  rcases h.cases with ⟨rfl, a, cap, rfl⟩ | ⟨b, off, cap, vs, rfl, _, _, hv, hc, hb⟩
  · go_enter Try.func131, Try.ntmps131
    go_wp2
    refine wp_loop_once ?_
    go_wp2
    go_ret
    exact ⟨_, rfl, .inl ⟨rfl, none, 0, rfl⟩, Gr.refl _⟩
  · exact missing_cons ps b off cap vs w hl hc hb

/-- A part, or noughts where it is missing. -/
def fillZ (n : Nat) (x : List UInt8) : List UInt8 := if x.length = 0 then zeros n else x
theorem slRows : Try.prog.underlying 38 = some (.slice 43) := by kernel_rfl
theorem infRows : (Try.prog.info? 43).map (fun i => (i.zero, i.size, i.bytes)) = some (some (.slice none 0 0), 1, 24) := by kernel_rfl
theorem infU8s : (Try.prog.info? 5).map (·.size) = some 1 := by kernel_rfl
theorem bvs_one (x : List UInt8) : ∀ v ∈ x.map bv, v.oneCell' = true := by
  intro v hv
  obtain ⟨b, _, rfl⟩ := List.mem_map.1 hv
  rfl
/-- The cells of a row of bytes, as a copy wants them. -/
theorem bytes_src {x : List UInt8} {w : World} {a : Option Addr} {n cap : Nat} (h : BytesAt w (.slice a n cap) x) : ∀ j v, (x.map bv)[j]? = some v → ∃ b off, a = some ⟨b, off, none⟩ ∧ w.cell? ⟨b, off + j, none⟩ = some v := by
  intro j v hj
  have hjl : j < x.length := by
    have := (List.getElem?_eq_some_iff.1 hj).1
    simpa using this
  rcases h with ⟨h1, _⟩ | ⟨b, off, cap', cs, fr, hv, hb, hc, hl⟩
  · rw [h1] at hj; simp at hj
  · injection hv with e1 e2 e3
    refine ⟨b, off, e1, ?_⟩
    rw [cell_of_row w b _ cs _ fr hb, hc j (by simpa using hjl)]
    exact hj
theorem madeB (x : List UInt8) (n : Nat) : (if x.length = 0 then zrow (.int .u8 0) n else (x.map bv).toArray) = ((fillZ n x).map bv).toArray := by
  unfold fillZ
  by_cases h0 : x.length = 0
  · rw [if_pos h0, if_pos h0]; simp [zeros, zrow, bv]
  · rw [if_neg h0, if_neg h0]
theorem fillZ_length (n : Nat) (x : List UInt8) (h : x.length = 0 ∨ x.length = n) : (fillZ n x).length = n := by
  unfold fillZ
  by_cases h0 : x.length = 0
  · rw [if_pos h0, zeros_length]
  · rw [if_neg h0]; omega
theorem BytesAt.lit {w : World} {b n cap : Nat} {fr : Nat × Nat} {x : List UInt8} (hb : w.heap[b]? = some (.cells (x.map bv).toArray 5 fr)) (hn : x.length = n) (hl : n ≤ 9223372036854775807) : BytesAt w (.slice (some ⟨b, 0, none⟩) n cap) x := by
  have h := SlAt.lit (cap := cap) (x.map bv) hb (by simp; omega)
  unfold BytesAt
  rw [List.length_map, hn] at h
  exact h
theorem getD_snoc_lt {α : Type} {l : List α} {x d : α} {i : Nat} (h : i < l.length) : (l ++ [x]).getD i d = l.getD i d := by
  simp [h, List.getElem?_append_left h]
theorem getD_snoc_eq {α : Type} {l : List α} {x d : α} {i : Nat} (h : i = l.length) : (l ++ [x]).getD i d = x := by
  subst h; simp
/-- A row of rows, of the call's own: a longer one. -/
theorem rows_snoc {w' : World} {vs : List Value} {v : Value} {f : Nat → List UInt8} {k : Nat} (hl : vs.length = k) (h : ∀ j, j < k → BytesAt w' (vs.getD j undef) (f j)) (hv : BytesAt w' v (f k)) :
    ∀ j, j < k + 1 → BytesAt w' ((vs ++ [v]).getD j undef) (f j) := by
  intro j hj
  by_cases e : j < k
  · rw [getD_snoc_lt (by omega)]; exact h j e
  · have : j = k := by omega
    subst this
    rw [getD_snoc_eq (by omega)]; exact hv
theorem BytesAt.grown {w w' : World} {v v0 : Value} {x : List UInt8} {base n : Nat} {xs : List Value} (h : BytesAt w v x) (ho : w.ownsRow base 43 1 v0 n xs) (g : w.grownBy w' v0.ownBlock) : BytesAt w' v x :=
  SlAt.grown (E' := 43) h g (own_row ho) (by decide)

set_option maxRecDepth 100000 in
set_option maxHeartbeats 1000000 in
theorem filled_cons (ps : List (List UInt8)) (n b off cap : Nat) (vs : List Value) (w : World) (hl : ps.length ≤ 1048576) (hn : n ≤ 1048576) (hlen : ∀ i, i < ps.length → (ps.getD i []).length = 0 ∨ (ps.getD i []).length = n)
    (hc : ∀ i, i < ps.length → w.cell? ⟨b, off + i, none⟩ = some (vs.getD i undef)) (hb : ∀ i, i < ps.length → BytesAt w (vs.getD i undef) (ps.getD i [])) :
    Calls Try.prog 133 #[.int .i64 n, .slice (some ⟨b, off, none⟩) ps.length cap] w fun e w' => ∃ r us, e = .returned r ∧ w'.ownsRow w.heap.size 43 1 r ps.length us ∧ (∀ i, i < ps.length → BytesAt w' (us.getD i undef) (fillZ n (ps.getD i []))) ∧ Gr w w' := by
  have HC := Lib.hid hc; clear hc
  have HB := Lib.hid hb; clear hb
  have HN := Lib.hid hlen; clear hlen
  go_enter Try.func133, Try.ntmps133
  go_wp2
  go_loopw [5, 11] (fun v i wr => ∃ (k : Nat) (us : List Value), k ≤ ps.length ∧ i = .int .i64 k ∧ us.length = k ∧ wr.ownsRow w.heap.size 43 1 v k us ∧ Hid (∀ j, j < k → BytesAt wr (us.getD j undef) (fillZ n (ps.getD j []))) ∧ Gr w wr) (fun _ i _ => ps.length - (intOf i).toNat)
  case atStart => exact ⟨0, [], Nat.zero_le _, rfl, rfl, World.ownsRow_nil _ _ _ _, Lib.hid (fun j hj => by omega), Gr.refl _⟩
  case round =>
    obtain ⟨k, us, hk, rfl, hul, hown, hrows, hg⟩ := hrel
    have hsz := hg.size
    by_cases hlt : k < ps.length
    · have ck := hg.cell (HC.out k hlt)
      have hbk := (HB.out k hlt).gr hg
      obtain ⟨ak, capk, hsh⟩ := (HB.out k hlt).shape
      rw [hsh] at ck hbk
      clear hsh
      have hnk := HN.out k hlt
      obtain ⟨x, hx⟩ : ∃ x, x = ps.getD k [] := ⟨_, rfl⟩
      rw [← hx] at hbk ck hnk
      have HX := Lib.hid hx; clear hx
      have HBK := Lib.hid hbk; clear hbk
      have HNK := Lib.hid hnk; clear hnk
      obtain ⟨cs, hcs⟩ : ∃ cs, cs = ((fillZ n x).map bv).toArray := ⟨_, rfl⟩
      have HCS := Lib.hid hcs; clear hcs
      go_wp2_with (first | ((with_reducible apply wpL_make1 (n := n) slU8 infU8 rfl (by decide)); rfl; rfl; exact hn) | ((with_reducible apply wpL_copy (cs := x.map bv) slU8 infU8s); rfl; rfl; exact heap_alloc_new _ _; exact zrow_size _ _; (simp); exact HNK.out; exact bytes_src (HBK.out.gr (Gr.alloc _ _)); exact bvs_one x; rw [madeB, putB_alloc_new, ← HCS.out]) | ((with_reducible apply wpL_append1 slRows infRows rfl (by decide)); rfl; rfl; exact (hown.alloc _).alloc _; exact cell_new _ _ _ _ (World.size_alloc _ _).symm; rfl; omega; (simp; omega); (intro v' w4 hown' hgr)))
      have o2 := (hown.alloc (.cells cs 5)).alloc (.cells #[.slice (some ⟨wr.heap.size, 0, none⟩) n n] 43)
      have b2 := heap_alloc_lt (heap_alloc_new wr (.cells cs 5)) (.cells #[.slice (some ⟨wr.heap.size, 0, none⟩) n n] 43)
      go_roundw
      case rel =>
        refine ⟨k + 1, us ++ [.slice (some ⟨wr.heap.size, 0, none⟩) n n], by omega, by go_num, by simp [hul], hown', Lib.hid ?_, ?_⟩
        · refine rows_snoc (f := fun j => fillZ n (ps.getD j [])) hul (fun j hj => ?_) ?_
          · exact (((hrows.out j hj).gr (Gr.alloc _ _)).gr (Gr.alloc _ _)).grown o2 hgr
          · refine BytesAt.grown ?_ o2 hgr
            rw [← HX.out]
            exact BytesAt.lit (by rw [← HCS.out]; exact b2) (fillZ_length n x HNK.out) (by omega)
        · exact Below.grown (Below.alloc (Below.alloc hg (by omega) _) (by simp; omega) _) hgr (by simp; omega) (fun j hj => (hown.lt j hj).1)
      case measure => simp [intOf]; omega
    · obtain rfl : k = ps.length := by omega
      go_wp2
      go_ret
      exact ⟨_, us, rfl, hown, hrows.out, hg⟩

set_option maxRecDepth 100000 in
set_option maxHeartbeats 400000 in
theorem filled_any (ps : List (List UInt8)) (n : Nat) (v : Value) (w : World) (h : RowsAt w v ps) (hl : ps.length ≤ 1048576) (hn : n ≤ 1048576) (hlen : ∀ i, i < ps.length → (ps.getD i []).length = 0 ∨ (ps.getD i []).length = n) :
    Calls Try.prog 133 #[.int .i64 n, v] w fun e w' => ∃ r us, e = .returned r ∧ w'.ownsRow w.heap.size 43 1 r ps.length us ∧ (∀ i, i < ps.length → BytesAt w' (us.getD i undef) (fillZ n (ps.getD i []))) ∧ Gr w w' := by
  rcases h.cases with ⟨rfl, a, cap, rfl⟩ | ⟨b, off, cap, vs, rfl, _, _, hv, hc, hb⟩
  · go_enter Try.func133, Try.ntmps133
    go_wp2
    refine wp_loop_once ?_
    go_wp2
    go_ret
    exact ⟨_, [], rfl, World.ownsRow_nil _ _ _ _, fun i hi => by simp at hi, Gr.refl _⟩
  · exact filled_cons ps n b off cap vs w hl hn hlen hc hb

/-! What is divided by has an inverse, and a logarithm. -/
theorem invs_log : (invs.all fun c => c != 0 && (List.range 255).any fun m => gpow m == c) = true := by decide +kernel
theorem inv_mem {c : UInt8} (h : c ∈ invs) : c ≠ 0 ∧ ∃ m, m < 255 ∧ gpow m = c := by
  have h1 := List.all_eq_true.1 invs_log c h
  simp only [Bool.and_eq_true, bne_iff_ne, List.any_eq_true, List.mem_range, beq_iff_eq] at h1
  exact h1
theorem inv_call {c : UInt8} (h : c ∈ invs) (w : World) : Calls Try.prog 144 #[.int .u8 (c.toNat : Int)] w fun e w' => e = .returned (.int .u8 ((ginv c).toNat : Int)) ∧ w = w' := by
  obtain ⟨h0, m, hm, hp⟩ := inv_mem h
  exact inv_any c m hm hp h0 w
theorem mem_pow {k : Nat} (h : k < 8) : gpow k ∈ invs := List.mem_append_left _ (List.mem_map.2 ⟨k, List.mem_range.2 h, rfl⟩)
theorem mem_two {j k : Nat} (hj : j < 8) (hk : k < 8) (hne : j ≠ k) : gpow j ^^^ gpow k ∈ invs := by
  rcases Nat.lt_or_gt_of_ne hne with h | h
  · rw [UInt8.xor_comm]
    exact List.mem_append_right _ (List.mem_flatMap.2 ⟨k, List.mem_range.2 hk, List.mem_map.2 ⟨j, List.mem_range.2 h, rfl⟩⟩)
  · exact List.mem_append_right _ (List.mem_flatMap.2 ⟨j, List.mem_range.2 hj, List.mem_map.2 ⟨k, List.mem_range.2 h, rfl⟩⟩)
def byQF (q : List UInt8) (l : List (List UInt8)) (k : Nat) : List UInt8 := scaleB (addB q (sumTo gpow l l.length)) (ginv (gpow k))
set_option maxRecDepth 100000 in
set_option maxHeartbeats 400000 in
theorem byQ_any (q : List UInt8) (l : List (List UInt8)) (k n : Nat) (u v : Value) (w : World) (hq : BytesAt w u q) (h : RowsAt w v l) (hl : l.length ≤ 8) (h0 : 0 < l.length) (hk : k < 8) (hn : n ≤ 1048576) (hqn : q.length = n) (hlen : ∀ i, i < l.length → (l.getD i []).length = n) :
    Calls Try.prog 136 #[u, v, .int .i64 k] w fun e w' => ∃ r, e = .returned r ∧ BytesAt w' r (byQF q l k) ∧ Gr w w' := by
  obtain ⟨a, cap, hu⟩ := hq.shape
  obtain ⟨a2, cap2, hv⟩ := h.shape
  subst hu; subst hv
  have HQ := Lib.hid hq; clear hq
  have H := Lib.hid h; clear h
  have HL := Lib.hid hlen; clear hlen
  have hsl : (sumTo gpow l l.length).length = n := (sumTo_length gpow l l.length).trans (HL.out 0 h0)
  have HSL := Lib.hid hsl; clear hsl
  have HQN := Lib.hid hqn; clear hqn
  go_enter Try.func136, Try.ntmps136
  go_wp2_with fail
  refine (Q_any l n _ _ H.out hl h0 hn HL.out).mono ?_
  rintro e w1 ⟨r1, rfl, h1, g1⟩
  go_wp2_with fail
  refine (add_any q _ _ _ _ (HQ.out.gr g1) h1 (HQN.out.trans HSL.out.symm) (Nat.le_trans (Nat.le_of_eq HQN.out) hn)).mono ?_
  rintro e w2 ⟨r2, rfl, h2, g2⟩
  go_wp2_with fail
  refine (pow_lt k _ (by omega)).mono ?_
  rintro e w3 ⟨rfl, rfl⟩
  go_wp2_with fail
  refine (inv_call (mem_pow hk) _).mono ?_
  rintro e w3 ⟨rfl, rfl⟩
  go_wp2_with fail
  refine (scale_any _ (ginv (gpow k)) _ _ h2 (by rw [addB_length]; have := HQN.out; omega)).mono ?_
  rintro e w3 ⟨r3, rfl, h3, g3⟩
  go_wp2
  go_ret
  unfold byQF
  exact ⟨r3, rfl, h3, (g1.trans g2).trans g3⟩
/-- What two parts that are missing must be. -/
def twoX (p q : List UInt8) (l : List (List UInt8)) (j k : Nat) : List UInt8 :=
  scaleB (addB (addB q (sumTo gpow l l.length)) (scaleB (addB p (sumTo ones l l.length)) (gpow k))) (ginv (gpow j ^^^ gpow k))
def twoY (p q : List UInt8) (l : List (List UInt8)) (j k : Nat) : List UInt8 := addB (addB p (sumTo ones l l.length)) (twoX p q l j k)
set_option maxRecDepth 100000 in
set_option maxHeartbeats 400000 in
theorem two_any (p q : List UInt8) (l : List (List UInt8)) (j k n : Nat) (t u v : Value) (w : World) (hp : BytesAt w t p) (hq : BytesAt w u q) (h : RowsAt w v l) (hl : l.length ≤ 8) (h0 : 0 < l.length) (hj : j < 8) (hk : k < 8) (hne : j ≠ k) (hn : n ≤ 1048576) (hpn : p.length = n) (hqn : q.length = n) (hlen : ∀ i, i < l.length → (l.getD i []).length = n) :
    Calls Try.prog 134 #[t, u, v, .int .i64 j, .int .i64 k] w fun e w' => ∃ r s, e = .returned (.tuple #[r, s]) ∧ BytesAt w' r (twoX p q l j k) ∧ BytesAt w' s (twoY p q l j k) ∧ Gr w w' := by
  obtain ⟨a, cap, hu⟩ := hq.shape
  obtain ⟨a2, cap2, hv⟩ := h.shape
  obtain ⟨a3, cap3, ht⟩ := hp.shape
  subst hu; subst hv; subst ht
  have HQ := Lib.hid hq; clear hq
  have HP := Lib.hid hp; clear hp
  have H := Lib.hid h; clear h
  have HL := Lib.hid hlen; clear hlen
  have hsl : (sumTo gpow l l.length).length = n := (sumTo_length gpow l l.length).trans (HL.out 0 h0)
  have HSL := Lib.hid hsl; clear hsl
  have hsl : (sumTo ones l l.length).length = n := (sumTo_length ones l l.length).trans (HL.out 0 h0)
  have HSO := Lib.hid hsl; clear hsl
  have hx := bits_xor_u8 (gpow j) (gpow k)
  have HQN := Lib.hid hqn; clear hqn
  have HPN := Lib.hid hpn; clear hpn
  go_enter Try.func134, Try.ntmps134
  go_wp2_with fail
  refine (P_any l n _ _ H.out hl h0 hn HL.out).mono ?_
  rintro e w1 ⟨r1, rfl, h1, g1⟩
  go_wp2_with fail
  refine (add_any p _ _ _ _ (HP.out.gr g1) h1 (HPN.out.trans HSO.out.symm) (Nat.le_trans (Nat.le_of_eq HPN.out) hn)).mono ?_
  rintro e w2 ⟨r2, rfl, h2, g2⟩
  replace g1 := g1.trans g2; clear g2
  go_wp2_with fail
  refine (Q_any l n _ _ (H.out.gr g1) hl h0 hn HL.out).mono ?_
  rintro e w3 ⟨r3, rfl, h3, g3⟩
  replace g1 := g1.trans g3
  replace h2 := h2.gr g3; clear g3
  go_wp2_with fail
  refine (add_any q _ _ _ _ (HQ.out.gr g1) h3 (HQN.out.trans HSL.out.symm) (Nat.le_trans (Nat.le_of_eq HQN.out) hn)).mono ?_
  rintro e w4 ⟨r4, rfl, h4, g4⟩
  replace g1 := g1.trans g4
  replace h2 := h2.gr g4; clear g4
  go_wp2_with fail
  refine (pow_lt j _ (by omega)).mono ?_
  rintro e w5 ⟨rfl, rfl⟩
  go_wp2_with fail
  refine (pow_lt k _ (by omega)).mono ?_
  rintro e w5 ⟨rfl, rfl⟩
  go_wp2_with fail
  refine (inv_call (mem_two hj hk hne) _).mono ?_
  rintro e w5 ⟨rfl, rfl⟩
  go_wp2_with fail
  refine (pow_lt k _ (by omega)).mono ?_
  rintro e w5 ⟨rfl, rfl⟩
  go_wp2_with fail
  refine (scale_any _ (gpow k) _ _ h2 (by rw [addB_length]; have := HQN.out; have := HPN.out; omega)).mono ?_
  rintro e w5 ⟨r5, rfl, h5, g5⟩
  replace g1 := g1.trans g5
  replace h2 := h2.gr g5
  replace h4 := h4.gr g5; clear g5
  go_wp2_with fail
  refine (add_any _ _ _ _ _ h4 h5 (by rw [scaleB_length, addB_length, addB_length]; have := HQN.out; have := HPN.out; omega) (by rw [addB_length]; have := HQN.out; have := HPN.out; omega)).mono ?_
  rintro e w6 ⟨r6, rfl, h6, g6⟩
  replace g1 := g1.trans g6
  replace h2 := h2.gr g6; clear g6
  go_wp2_with fail
  refine (scale_any _ (ginv (gpow j ^^^ gpow k)) _ _ h6 (by rw [addB_length, addB_length]; have := HQN.out; have := HPN.out; omega)).mono ?_
  rintro e w7 ⟨r7, rfl, h7, g7⟩
  replace g1 := g1.trans g7
  replace h2 := h2.gr g7; clear g7
  go_wp2_with fail
  refine (add_any _ _ _ _ _ h2 h7 (by rw [scaleB_length, addB_length, addB_length, addB_length]; have := HQN.out; have := HPN.out; omega) (by rw [addB_length]; have := HQN.out; have := HPN.out; omega)).mono ?_
  rintro e w8 ⟨r8, rfl, h8, g8⟩
  go_wp2
  go_ret2
  unfold twoY twoX
  exact ⟨r7, r8, rfl, h7.gr g8, h8, g1.trans g8⟩
end Go.Proofs.Ytoalnkhedebpbaa
