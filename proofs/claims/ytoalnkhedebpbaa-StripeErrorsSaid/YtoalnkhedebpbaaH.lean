/- Plainly: a row on the disks, of which some are missing: what is taken is its data, as long as parity makes up for it. Plainly: rows on a bench's disks; benches whose disks are whole; live disks. Plainly: what writes, flushes make of a bench; stripe.Write, stripe.Flush as what they do to one disk after the other. wattlelaw14: Data: what it answers; the tail of a slice. wattleplay.Live: what it answers. wattlelaw14.Filled: what it answers. wattlelaw14.wakes: it answers true; rows of noughts. -/
import Derived.Test.YtoalnkhedebpbaaG

/-! Plainly: a row on the disks, of which some are missing: what is taken is its data, as long as parity makes up for it. -/
namespace Go.Proofs.Ytoalnkhedebpbaa

theorem addB_get (x y : List UInt8) {i : Nat} (h : i < x.length) : (addB x y).getD i 0 = x.getD i 0 ^^^ y.getD i 0 := by unfold addB; exact mr_get _ h
theorem scaleB_get (x : List UInt8) (f : UInt8) {i : Nat} (h : i < x.length) : (scaleB x f).getD i 0 = gmul (x.getD i 0) f := by unfold scaleB; exact mr_get _ h
/-- One byte of a sum. -/
def bsum (f : Nat → UInt8) (x : Nat → UInt8) : Nat → UInt8
  | 0 => 0
  | k + 1 => bsum f x k ^^^ gmul (x k) (f k)
theorem sumTo_get (f : Nat → UInt8) (ps : List (List UInt8)) (n i : Nat) (hs : ∀ k, k < n → (ps.getD k []).length = 32) (h0 : (ps.getD 0 []).length = 32) (hi : i < 32) :
    ∀ k, k ≤ n → (sumTo f ps k).getD i 0 = bsum f (fun k => (ps.getD k []).getD i 0) k
  | 0, _ => zeros_get _ _
  | k + 1, hk => by
    have ih := sumTo_get f ps n i hs h0 hi k (by omega)
    have hl : (sumTo f ps k).length = 32 := (sumTo_length f ps k).trans h0
    show (addB (sumTo f ps k) (scaleB (ps.getD k []) (f k))).getD i 0 = bsum f _ k ^^^ _
    rw [addB_get _ _ (by omega), scaleB_get _ _ (by rw [hs k (by omega)]; exact hi), ih]
theorem bsum_congr (f : Nat → UInt8) {x y : Nat → UInt8} : ∀ n, (∀ k, k < n → x k = y k) → bsum f x n = bsum f y n
  | 0, _ => rfl
  | n + 1, h => by
    show bsum f x n ^^^ gmul (x n) (f n) = bsum f y n ^^^ gmul (y n) (f n)
    rw [bsum_congr f n (fun k hk => h k (by omega)), h n (by omega)]
theorem u8_xc (a b c : UInt8) : a ^^^ b ^^^ c = a ^^^ c ^^^ b := by rw [UInt8.xor_assoc, UInt8.xor_comm b c, ← UInt8.xor_assoc]
theorem u8_cancel (a b : UInt8) : a ^^^ b ^^^ b = a := by rw [UInt8.xor_assoc, UInt8.xor_self, UInt8.xor_zero]
theorem bsum_split (f : Nat → UInt8) (x : Nat → UInt8) (j : Nat) : ∀ n, j < n → bsum f x n = bsum f (fun k => if k = j then 0 else x k) n ^^^ gmul (x j) (f j)
  | 0, h => absurd h (by omega)
  | n + 1, h => by
    show bsum f x n ^^^ gmul (x n) (f n) = bsum f _ n ^^^ gmul (if n = j then 0 else x n) (f n) ^^^ gmul (x j) (f j)
    by_cases e : n = j
    · subst e
      rw [if_pos rfl, gmul_zero_left, UInt8.xor_zero]
      congr 1
      exact bsum_congr f n (fun k hk => by rw [if_neg (by omega)])
    · rw [if_neg e, bsum_split f x j n (by omega)]
      exact u8_xc _ _ _
theorem rows_ext {x y : List (List UInt8)} (h : x.length = y.length) (hk : ∀ j, j < x.length → x.getD j [] = y.getD j []) : x = y := by
  apply List.ext_getElem? 
  intro i
  by_cases hi : i < x.length
  · have := hk i hi
    simp only [List.getD_eq_getElem?_getD, List.getElem?_eq_getElem hi, List.getElem?_eq_getElem (h ▸ hi : i < y.length), Option.getD_some] at this
    rw [List.getElem?_eq_getElem hi, List.getElem?_eq_getElem (h ▸ hi : i < y.length), this]
  · rw [List.getElem?_eq_none (by omega), List.getElem?_eq_none (by omega)]
/-- A row of data, of which some is missing. -/
structure Partly (data ps : List (List UInt8)) (p q : List UInt8) : Prop where
  len : ps.length = data.length
  pos : 0 < data.length
  few : data.length ≤ 8
  sec : ∀ k, k < data.length → (data.getD k []).length = 32
  part : ∀ k, k < data.length → ps.getD k [] = [] ∨ ps.getD k [] = data.getD k []
  par : p = [] ∨ p = sumTo ones data data.length
  qar : q = [] ∨ q = sumTo gpow data data.length
theorem Partly.sumlen {data ps : List (List UInt8)} {p q : List UInt8} (h : Partly data ps p q) (f : Nat → UInt8) (k : Nat) : (sumTo f data k).length = 32 := (sumTo_length f data k).trans (h.sec 0 h.pos)
theorem Partly.fill {data ps : List (List UInt8)} {p q : List UInt8} (h : Partly data ps p q) {k : Nat} (hk : k < data.length) : (ps.map (fillZ 32)).getD k [] = if (ps.getD k []).length = 0 then zeros 32 else data.getD k [] := by
  have e : (ps.map (fillZ 32)).getD k [] = fillZ 32 (ps.getD k []) := by simp [h.len, hk]
  rw [e]
  unfold fillZ
  by_cases h0 : (ps.getD k []).length = 0
  · rw [if_pos h0, if_pos h0]
  · rw [if_neg h0, if_neg h0]
    rcases h.part k hk with e2 | e2
    · rw [e2] at h0; simp at h0
    · exact e2
theorem Partly.filllen {data ps : List (List UInt8)} {p q : List UInt8} (h : Partly data ps p q) {k : Nat} (hk : k < data.length) : ((ps.map (fillZ 32)).getD k []).length = 32 := by
  rw [h.fill hk]
  split
  · exact zeros_length 32
  · exact h.sec k hk
theorem Partly.fillsum {data ps : List (List UInt8)} {p q : List UInt8} (h : Partly data ps p q) (f : Nat → UInt8) {i : Nat} (hi : i < 32) :
    (sumTo f (ps.map (fillZ 32)) (ps.map (fillZ 32)).length).getD i 0 = bsum f (fun k => if (ps.getD k []).length = 0 then 0 else (data.getD k []).getD i 0) data.length := by
  have hl : (ps.map (fillZ 32)).length = data.length := by rw [List.length_map, h.len]
  rw [hl, sumTo_get f _ data.length i (fun k hk => h.filllen hk) (h.filllen h.pos) hi _ (Nat.le_refl _)]
  refine bsum_congr f _ (fun k hk => ?_)
  rw [h.fill hk]
  split
  · exact zeros_get _ _
  · rfl
theorem Partly.datasum {data ps : List (List UInt8)} {p q : List UInt8} (h : Partly data ps p q) (f : Nat → UInt8) {i : Nat} (hi : i < 32) :
    (sumTo f data data.length).getD i 0 = bsum f (fun k => (data.getD k []).getD i 0) data.length :=
  sumTo_get f _ data.length i h.sec (h.sec 0 h.pos) hi _ (Nat.le_refl _)
/-- What the sums of data and of what is there part in. -/
theorem Partly.one {data ps : List (List UInt8)} {p q : List UInt8} (h : Partly data ps p q) (f : Nat → UInt8) {i j : Nat} (hi : i < 32) (hj : j < data.length) (hg : ∀ k, k < data.length → ((ps.getD k []).length = 0 ↔ k = j)) :
    (sumTo f data data.length).getD i 0 ^^^ (sumTo f (ps.map (fillZ 32)) (ps.map (fillZ 32)).length).getD i 0 = gmul ((data.getD j []).getD i 0) (f j) := by
  rw [h.datasum f hi, h.fillsum f hi, bsum_split f _ j _ hj]
  rw [bsum_congr f (x := fun k => if (ps.getD k []).length = 0 then 0 else (data.getD k []).getD i 0) (y := fun k => if k = j then 0 else (data.getD k []).getD i 0) _ (fun k hk => by simp only [hg k hk])]
  rw [UInt8.xor_comm, ← UInt8.xor_assoc, UInt8.xor_self, UInt8.zero_xor]
theorem Partly.two {data ps : List (List UInt8)} {p q : List UInt8} (h : Partly data ps p q) (f : Nat → UInt8) {i j k : Nat} (hi : i < 32) (hj : j < data.length) (hk : k < data.length) (hne : j ≠ k) (hg : ∀ m, m < data.length → ((ps.getD m []).length = 0 ↔ m = j ∨ m = k)) :
    (sumTo f data data.length).getD i 0 ^^^ (sumTo f (ps.map (fillZ 32)) (ps.map (fillZ 32)).length).getD i 0 = gmul ((data.getD j []).getD i 0) (f j) ^^^ gmul ((data.getD k []).getD i 0) (f k) := by
  rw [h.datasum f hi, h.fillsum f hi, bsum_split f _ j _ hj, bsum_split f (fun m => if m = j then 0 else (data.getD m []).getD i 0) k _ hk]
  rw [bsum_congr f (x := fun m => if (ps.getD m []).length = 0 then 0 else (data.getD m []).getD i 0) (y := fun m => if m = k then 0 else if m = j then 0 else (data.getD m []).getD i 0) _ (fun m hm => by
    by_cases e1 : m = j
    · subst e1; rw [if_pos ((hg m hm).2 (.inl rfl)), if_neg hne, if_pos rfl]
    · by_cases e2 : m = k
      · subst e2; rw [if_pos ((hg m hm).2 (.inr rfl)), if_pos rfl]
      · rw [if_neg (fun e => by rcases (hg m hm).1 e with e | e <;> contradiction), if_neg e2, if_neg e1])]
  rw [if_neg (Ne.symm hne)]
  generalize bsum f _ data.length = s
  generalize gmul ((data.getD k []).getD i 0) (f k) = a
  generalize gmul ((data.getD j []).getD i 0) (f j) = b
  rw [UInt8.xor_assoc s a b, UInt8.xor_comm s, UInt8.xor_assoc, UInt8.xor_self, UInt8.xor_zero, UInt8.xor_comm]
theorem solve_plain {data ps : List (List UInt8)} {p q : List UInt8} (h : Partly data ps p q) (hl : lostF p q ps = false) : solvedF p q ps = data := by
  have hlen : (solvedF p q ps).length = data.length := lostF_solved.trans h.len
  have hml : (ps.map (fillZ 32)).length = data.length := by rw [List.length_map, h.len]
  unfold lostF at hl
  have hl' : (goneTo ps ps.length).length + (goneTo [p, q] 2).length ≤ 2 := by simpa using hl
  clear hl
  have hmem : ∀ k, k ∈ goneTo ps ps.length ↔ k < data.length ∧ (ps.getD k []).length = 0 := fun k => by rw [goneTo_mem, h.len]
  have hnd := goneTo_nodup ps ps.length
  refine rows_ext hlen (fun i hi => ?_)
  rw [hlen] at hi
  unfold solvedF
  simp only
  split
  · rename_i j k hgo
    rw [hgo] at hmem hnd hl'
    have hne : j ≠ k := by simpa using hnd
    have hj := ((hmem j).1 (by simp)).1
    have hk := ((hmem k).1 (by simp)).1
    have hg : ∀ m, m < data.length → ((ps.getD m []).length = 0 ↔ m = j ∨ m = k) := fun m hm => by
      have := hmem m
      simp at this
      constructor
      · intro e; exact this.2 ⟨hm, by simpa using e⟩
      · intro e; simpa using (this.1 e).2
    have h0 : (goneTo [p, q] 2).length = 0 := by simp at hl'; omega
    have hno : ∀ m, m ∉ goneTo [p, q] 2 := fun m hm => by rw [List.eq_nil_of_length_eq_zero h0] at hm; simp at hm
    have hp : p = sumTo ones data data.length := by
      rcases h.par with e | e
      · exact absurd (goneTo_mem.2 ⟨by omega, by rw [e]; rfl⟩ : 0 ∈ goneTo [p, q] 2) (hno 0)
      · exact e
    have hq : q = sumTo gpow data data.length := by
      rcases h.qar with e | e
      · exact absurd (goneTo_mem.2 ⟨by omega, by rw [e]; rfl⟩ : 1 ∈ goneTo [p, q] 2) (hno 1)
      · exact e
    have hpl := h.sumlen ones data.length
    have hql := h.sumlen gpow data.length
    rw [← hp] at hpl
    rw [← hq] at hql
    have hX : twoX p q (ps.map (fillZ 32)) j k = data.getD j [] := by
      unfold twoX
      refine getD_ext (by rw [scaleB_length, addB_length, addB_length, hql, h.sec j hj]) (fun b hb => ?_)
      rw [scaleB_length, addB_length, addB_length, hql] at hb
      rw [scaleB_get _ _ (by rw [addB_length, addB_length]; omega), addB_get _ _ (by rw [addB_length]; omega), addB_get _ _ (by omega), scaleB_get _ _ (by rw [addB_length]; omega), addB_get _ _ (by omega), hp, hq, h.two ones hb hj hk hne hg, h.two gpow hb hj hk hne hg]
      show gmul (gmul _ (gpow j) ^^^ gmul _ (gpow k) ^^^ gmul (gmul _ 1 ^^^ gmul _ 1) (gpow k)) _ = _
      rw [gmul_one, gmul_one, gmul_xor_left ((data.getD j []).getD b 0) ((data.getD k []).getD b 0) (gpow k), UInt8.xor_assoc, UInt8.xor_comm (gmul ((data.getD j []).getD b 0) (gpow k)), ← UInt8.xor_assoc (gmul ((data.getD k []).getD b 0) (gpow k)), UInt8.xor_self, UInt8.zero_xor, ← gmul_xor_right]
      exact inv_two (by have := h.few; omega) (by have := h.few; omega) hne _
    have hY : twoY p q (ps.map (fillZ 32)) j k = data.getD k [] := by
      unfold twoY
      rw [hX]
      refine getD_ext (by rw [addB_length, addB_length, hpl, h.sec k hk]) (fun b hb => ?_)
      rw [addB_length, addB_length, hpl] at hb
      rw [addB_get _ _ (by rw [addB_length]; omega), addB_get _ _ (by omega), hp, h.two ones hb hj hk hne hg]
      show gmul _ 1 ^^^ gmul _ 1 ^^^ _ = _
      rw [gmul_one, gmul_one, UInt8.xor_comm ((data.getD j []).getD b 0), u8_cancel]
    rw [hX, hY]
    by_cases e2 : i = k
    · subst e2; rw [getD_set_self (by rw [List.length_set, hml]; exact hi)]
    · rw [getD_set_ne (Ne.symm e2)]
      by_cases e1 : i = j
      · subst e1; rw [getD_set_self (by rw [hml]; exact hi)]
      · rw [getD_set_ne (Ne.symm e1), h.fill hi, if_neg (fun e => by rcases (hg i hi).1 e with e | e <;> contradiction)]
  · rename_i j hgo
    rw [hgo] at hmem hl'
    have hj := ((hmem j).1 (by simp)).1
    have hg : ∀ m, m < data.length → ((ps.getD m []).length = 0 ↔ m = j) := fun m hm => by
      have := hmem m
      simp at this
      constructor
      · intro e; exact this.2 ⟨hm, by simpa using e⟩
      · intro e; simpa using (this.1 e).2
    have hX : (if 0 < p.length then (ps.map (fillZ 32)).set j (addB p (sumTo ones (ps.map (fillZ 32)) (ps.map (fillZ 32)).length)) else (ps.map (fillZ 32)).set j (byQF q (ps.map (fillZ 32)) j)) = (ps.map (fillZ 32)).set j (data.getD j []) := by
      by_cases hp0 : 0 < p.length
      · rw [if_pos hp0]
        have hp : p = sumTo ones data data.length := by
          rcases h.par with e | e
          · rw [e] at hp0; simp at hp0
          · exact e
        have hpl := h.sumlen ones data.length
        rw [← hp] at hpl
        congr 1
        refine getD_ext (by rw [addB_length, hpl, h.sec j hj]) (fun b hb => ?_)
        rw [addB_length, hpl] at hb
        rw [addB_get _ _ (by omega), hp, h.one ones hb hj hg]
        exact gmul_one _
      · rw [if_neg hp0]
        have hp : p.length = 0 := by omega
        have hq : q = sumTo gpow data data.length := by
          rcases h.qar with e | e
          · exfalso
            have a0 : 0 ∈ goneTo [p, q] 2 := goneTo_mem.2 ⟨by omega, hp⟩
            have a1 : 1 ∈ goneTo [p, q] 2 := goneTo_mem.2 ⟨by omega, by rw [e]; rfl⟩
            have : 2 ≤ (goneTo [p, q] 2).length := by
              rcases hh : goneTo [p, q] 2 with _ | ⟨x, _ | ⟨y, r⟩⟩
              · rw [hh] at a0; simp at a0
              · rw [hh] at a0 a1; simp at a0 a1; omega
              · simp
            simp at hl'; omega
          · exact e
        have hql := h.sumlen gpow data.length
        rw [← hq] at hql
        congr 1
        unfold byQF
        refine getD_ext (by rw [scaleB_length, addB_length, hql, h.sec j hj]) (fun b hb => ?_)
        rw [scaleB_length, addB_length, hql] at hb
        rw [scaleB_get _ _ (by rw [addB_length]; omega), addB_get _ _ (by omega), hq, h.one gpow hb hj hg]
        exact inv_pow (by have := h.few; omega) _
    rw [hX]
    by_cases e1 : i = j
    · subst e1; rw [getD_set_self (by rw [hml]; exact hi)]
    · rw [getD_set_ne (Ne.symm e1), h.fill hi, if_neg (fun e => e1 ((hg i hi).1 e))]
  · rename_i hn2 hn1
    rw [h.fill hi, if_neg (fun e => ?_)]
    have := (hmem i).2 ⟨hi, e⟩
    rcases hh : goneTo ps ps.length with _ | ⟨x, _ | ⟨y, _ | ⟨z, r⟩⟩⟩
    · rw [hh] at this; simp at this
    · exact hn1 x hh
    · exact hn2 x y hh
    · rw [hh] at hl'; simp at hl'; omega
theorem d_cases {D : Int} (h : 3 ≤ D) (h' : D ≤ 8) : D = 3 ∨ D = 4 ∨ D = 5 ∨ D = 6 ∨ D = 7 ∨ D = 8 := by omega
theorem rot_inj {D p j k : Int} (h3 : 3 ≤ D) (h8 : D ≤ 8) (hj : 0 ≤ j) (hj' : j < D) (hk : 0 ≤ k) (hk' : k < D) (h : (p + j) % D = (p + k) % D) : j = k := by
  rcases d_cases h3 h8 with rfl | rfl | rfl | rfl | rfl | rfl <;> omega
theorem rot_surj {D p d : Int} (hp : 0 ≤ p) (hp' : p < D) (hd : 0 ≤ d) (hd' : d < D) : ∃ j : Nat, (j : Int) < D ∧ (p + j) % D = d := by
  refine ⟨(if p ≤ d then d - p else d - p + D).toNat, ?_, ?_⟩
  · split <;> omega
  · split
    · rw [show p + ((d - p).toNat : Int) = d from by omega]; exact Int.emod_eq_of_lt hd hd'
    · rw [show p + ((d - p + D).toNat : Int) = d + D * 1 from by omega, Int.add_mul_emod_self_left]; exact Int.emod_eq_of_lt hd hd'
theorem rot_zero {D p : Int} (hp : 0 ≤ p) (hp' : p < D) : (p + 0) % D = p := by rw [Int.add_zero]; exact Int.emod_eq_of_lt hp hp'
theorem dskOf_rot (L D C r k : Int) : dskOf L D C r k = (parP D C r + (L - 4 + k)) % D := by unfold dskOf; rw [Int.add_assoc]
theorem dsk_inj {L D C : Int} (h : goodG L D C = true) (r : Int) {j k : Nat} (hj : (j : Int) < D - (L - 4)) (hk : (k : Int) < D - (L - 4)) (e : dskOf L D C r j = dskOf L D C r k) : j = k := by
  obtain ⟨hL1, hL2, hD1, hD2, hC1, hC2, hw⟩ := goodG_bds h
  obtain ⟨p0, p1⟩ := parP_range (D := D) (C := C) (r := r) (by omega)
  rw [dskOf_rot, dskOf_rot] at e
  have := rot_inj hD1 hD2 (by omega) (by omega) (by omega) (by omega) e
  omega
theorem dsk_ne_p {L D C : Int} (h : goodG L D C = true) (r : Int) {j : Nat} (hj : (j : Int) < D - (L - 4)) : dskOf L D C r j ≠ parP D C r := by
  obtain ⟨hL1, hL2, hD1, hD2, hC1, hC2, hw⟩ := goodG_bds h
  obtain ⟨p0, p1⟩ := parP_range (D := D) (C := C) (r := r) (by omega)
  intro e
  rw [dskOf_rot, ← rot_zero p0 p1, rot_zero p0 p1] at e
  have := rot_inj hD1 hD2 (by omega) (by omega) (Int.le_refl 0) (by omega) (e.trans (rot_zero p0 p1).symm)
  omega
theorem parQ_rot {L : Int} (h6 : L ≠ 5) (D C r : Int) : parQ L D C r = (parP D C r + 1) % D := by unfold parQ; rw [if_neg h6]
theorem dsk_ne_q {L D C : Int} (h : goodG L D C = true) (r : Int) (h6 : L ≠ 5) {j : Nat} (hj : (j : Int) < D - (L - 4)) : dskOf L D C r j ≠ parQ L D C r := by
  obtain ⟨hL1, hL2, hD1, hD2, hC1, hC2, hw⟩ := goodG_bds h
  obtain ⟨p0, p1⟩ := parP_range (D := D) (C := C) (r := r) (by omega)
  intro e
  rw [dskOf_rot, parQ_rot h6] at e
  have := rot_inj hD1 hD2 (by omega) (by omega) (by omega) (by omega) e
  omega
theorem q_ne_p {L D C : Int} (h : goodG L D C = true) (r : Int) (h6 : L ≠ 5) : parQ L D C r ≠ parP D C r := by
  obtain ⟨hL1, hL2, hD1, hD2, hC1, hC2, hw⟩ := goodG_bds h
  obtain ⟨p0, p1⟩ := parP_range (D := D) (C := C) (r := r) (by omega)
  intro e
  rw [parQ_rot h6] at e
  have := rot_inj hD1 hD2 (by omega) (by omega) (Int.le_refl 0) (by omega) (e.trans (rot_zero p0 p1).symm)
  omega
/-- Each disk of a row has data, P or Q. -/
theorem dsk_surj {L D C : Int} (h : goodG L D C = true) (r : Int) {d : Int} (hd : 0 ≤ d) (hd' : d < D) : d = parP D C r ∨ (L ≠ 5 ∧ d = parQ L D C r) ∨ ∃ k : Nat, (k : Int) < D - (L - 4) ∧ d = dskOf L D C r k := by
  obtain ⟨hL1, hL2, hD1, hD2, hC1, hC2, hw⟩ := goodG_bds h
  obtain ⟨p0, p1⟩ := parP_range (D := D) (C := C) (r := r) (by omega)
  obtain ⟨j, hj, e⟩ := rot_surj p0 p1 hd hd'
  by_cases h0 : j = 0
  · subst h0
    left
    rw [← e]; exact rot_zero p0 p1
  · right
    by_cases h1 : L = 6 ∧ j = 1
    · obtain ⟨hL, rfl⟩ := h1
      left
      exact ⟨by omega, by rw [parQ_rot (by omega), ← e]; rfl⟩
    · right
      refine ⟨(j - (L - 4)).toNat, by omega, ?_⟩
      rw [dskOf_rot, show (L - 4) + ((((j : Int) - (L - 4)).toNat : Nat) : Int) = j from by omega, e]
theorem fillTo_length (L D C r : Int) (data : List (List UInt8)) : ∀ k, (fillTo L D C r data k).length = D.toNat
  | 0 => by simp [fillTo]
  | k + 1 => by unfold fillTo; rw [List.length_set]; exact fillTo_length L D C r data k
theorem toNat_ne {a b : Int} (ha : 0 ≤ a) (hb : 0 ≤ b) (h : a ≠ b) : a.toNat ≠ b.toNat := by omega
theorem fillTo_get {L D C : Int} (h : goodG L D C = true) (r : Int) (data : List (List UInt8)) {j : Nat} (hj : (j : Int) < D - (L - 4)) : ∀ k : Nat, (k : Int) ≤ D - (L - 4) → (fillTo L D C r data k).getD (dskOf L D C r j).toNat [] = if j < k then data.getD j [] else []
  | 0, _ => by
    obtain ⟨d0, d1⟩ := dskOf_bds h r j
    simp [fillTo, show (dskOf L D C r j).toNat < D.toNat from by omega]
  | k + 1, hk => by
    obtain ⟨d0, d1⟩ := dskOf_bds h r j
    obtain ⟨e0, e1⟩ := dskOf_bds h r k
    unfold fillTo
    by_cases e : j = k
    · subst e
      rw [getD_set_self (by rw [fillTo_length]; omega), if_pos (by omega)]
    · rw [getD_set_ne (toNat_ne e0 d0 (fun e2 => e (dsk_inj h r hj (by omega) e2.symm))), fillTo_get h r data hj k (by omega)]
      by_cases e3 : j < k
      · rw [if_pos e3, if_pos (by omega)]
      · rw [if_neg e3, if_neg (by omega)]
theorem fillR_length (L D C r : Int) (data : List (List UInt8)) : (fillR L D C r data).length = D.toNat := by
  unfold fillR
  simp only
  split <;> simp [fillTo_length]
theorem fillR_data {L D C : Int} (h : goodG L D C = true) (r : Int) {data : List (List UInt8)} (hd : (data.length : Int) = D - (L - 4)) {j : Nat} (hj : (j : Int) < D - (L - 4)) : (fillR L D C r data).getD (dskOf L D C r j).toNat [] = data.getD j [] := by
  obtain ⟨hL1, hL2, hD1, hD2, hC1, hC2, hw⟩ := goodG_bds h
  obtain ⟨d0, d1⟩ := dskOf_bds h r j
  obtain ⟨p0, p1⟩ := parP_range (D := D) (C := C) (r := r) (by omega)
  have hl : ((fillTo L D C r data data.length).set (parP D C r).toNat (sumTo ones data data.length)).getD (dskOf L D C r j).toNat [] = data.getD j [] := by
    rw [getD_set_ne (toNat_ne p0 d0 (Ne.symm (dsk_ne_p h r hj))), fillTo_get h r data hj _ (by omega), if_pos (by omega)]
  unfold fillR
  simp only
  split
  · exact hl
  · rename_i h6
    rw [getD_set_ne (toNat_ne (parQ_six h r h6).1 d0 (Ne.symm (dsk_ne_q h r h6 hj))), hl]
theorem fillR_P {L D C : Int} (h : goodG L D C = true) (r : Int) (data : List (List UInt8)) : (fillR L D C r data).getD (parP D C r).toNat [] = sumTo ones data data.length := by
  obtain ⟨hL1, hL2, hD1, hD2, hC1, hC2, hw⟩ := goodG_bds h
  obtain ⟨p0, p1⟩ := parP_range (D := D) (C := C) (r := r) (by omega)
  have hl : ((fillTo L D C r data data.length).set (parP D C r).toNat (sumTo ones data data.length)).getD (parP D C r).toNat [] = sumTo ones data data.length :=
    getD_set_self (by rw [fillTo_length]; omega)
  unfold fillR
  simp only
  split
  · exact hl
  · rename_i h6
    rw [getD_set_ne (toNat_ne (parQ_six h r h6).1 p0 (q_ne_p h r h6)), hl]
theorem fillR_Q {L D C : Int} (h : goodG L D C = true) (r : Int) (data : List (List UInt8)) (h6 : L ≠ 5) : (fillR L D C r data).getD (parQ L D C r).toNat [] = sumTo gpow data data.length := by
  obtain ⟨q0, q1⟩ := parQ_six h r h6
  unfold fillR
  simp only
  rw [if_neg h6]
  exact getD_set_self (by rw [List.length_set, fillTo_length]; omega)
theorem fillR_sec {L D C : Int} (h : goodG L D C = true) (r : Int) {data : List (List UInt8)} (hd : (data.length : Int) = D - (L - 4)) (hs : ∀ i, i < data.length → (data.getD i []).length = 32) {d : Nat} (hdD : (d : Int) < D) : ((fillR L D C r data).getD d []).length = 32 := by
  obtain ⟨hL1, hL2, hD1, hD2, hC1, hC2, hw⟩ := goodG_bds h
  have hsum : ∀ f, (sumTo f data data.length).length = 32 := fun f => (sumTo_length f data _).trans (hs 0 (by omega))
  rcases dsk_surj h r (d := d) (by omega) hdD with e | ⟨h6, e⟩ | ⟨k, hk, e⟩
  · rw [show d = (parP D C r).toNat from by omega, fillR_P h]; exact hsum _
  · rw [show d = (parQ L D C r).toNat from by omega, fillR_Q h r data h6]; exact hsum _
  · rw [show d = (dskOf L D C r k).toNat from by omega, fillR_data h r hd hk]; exact hs k (by omega)
/-- A row on the disks, of which some are missing: what is taken is its data. -/
theorem take_plain {L D C : Int} (h : goodG L D C = true) (r : Int) {data ds : List (List UInt8)} (hd : (data.length : Int) = D - (L - 4)) (hs : ∀ i, i < data.length → (data.getD i []).length = 32)
    (hds : ∀ d : Nat, (d : Int) < D → ds.getD d [] = [] ∨ ds.getD d [] = (fillR L D C r data).getD d []) (hl : lostR L D C r ds = false) : takeR L D C r ds = data := by
  obtain ⟨hL1, hL2, hD1, hD2, hC1, hC2, hw⟩ := goodG_bds h
  obtain ⟨p0, p1⟩ := parP_range (D := D) (C := C) (r := r) (by omega)
  refine solve_plain ⟨by rw [partsOf_length]; omega, by omega, by omega, hs, fun k hk => ?_, ?_, ?_⟩ hl
  · obtain ⟨d0, d1⟩ := dskOf_bds h r k
    rw [partsOf_get ds (by omega)]
    have := hds (dskOf L D C r k).toNat (by omega)
    rw [fillR_data h r hd (by omega)] at this
    exact this
  · have := hds (parP D C r).toNat (by omega)
    rw [fillR_P h] at this
    exact this
  · unfold qOf
    by_cases h5 : L = 5
    · rw [if_pos h5]; exact .inl rfl
    · rw [if_neg h5]
      obtain ⟨q0, q1⟩ := parQ_six h r h5
      have := hds (parQ L D C r).toNat (by omega)
      rw [fillR_Q h r data h5] at this
      exact this
theorem rot_perm_all : ∀ D : Fin 9, ∀ p : Fin 8, p.1 < D.1 → ((List.range D.1).map fun j => (p.1 + j) % D.1).Perm (List.range D.1) := by decide +kernel
theorem rot_perm {D p : Nat} (hD : D ≤ 8) (hp : p < D) : ((List.range D).map fun j => (p + j) % D).Perm (List.range D) := rot_perm_all ⟨D, by omega⟩ ⟨p, by omega⟩ hp
theorem gone_count (f : Nat → Bool) (n : Nat) : ((List.range n).filter f).length = (List.range n).countP f := List.countP_eq_length_filter.symm
theorem range_head (n : Nat) : List.range (n + 1) = 0 :: (List.range n).map (· + 1) := by rw [List.range_succ_eq_map]
/-- A row is lost if more of its disks are than its geometry bears. -/
theorem lost_count {L D C : Int} (h : goodG L D C = true) (r : Int) (ds : List (List UInt8)) : lostR L D C r ds = decide (L - 4 < ((goneTo ds D.toNat).length : Int)) := by
  obtain ⟨hL1, hL2, hD1, hD2, hC1, hC2, hw⟩ := goodG_bds h
  obtain ⟨p0, p1⟩ := parP_range (D := D) (C := C) (r := r) (by omega)
  obtain ⟨DN, hDN⟩ : ∃ DN : Nat, D = DN := ⟨D.toNat, by omega⟩
  obtain ⟨p, hp⟩ : ∃ p : Nat, parP D C r = p := ⟨(parP D C r).toNat, by omega⟩
  subst hDN
  have hf : ∀ (f : Nat → Bool), ((List.range DN).filter f).length = (List.range DN).countP (fun j => f ((p + j) % DN)) := fun f => by
    rw [gone_count, ← (rot_perm (D := DN) (p := p) (by omega) (by omega)).countP_eq, List.countP_map]
    rfl
  have hdsk : ∀ k : Nat, (dskOf L DN C r k).toNat = (p + (L - 4).toNat + k) % DN := fun k => by
    have e : dskOf L DN C r k = (((p + (L - 4).toNat + k) % DN : Nat) : Int) := by
      unfold dskOf
      rw [hp]
      push_cast
      rw [Int.toNat_of_nonneg (by omega)]
    omega
  have hparts : (goneTo (partsOf L DN C r ds) (partsOf L DN C r ds).length).length = (List.range ((DN : Int) - (L - 4)).toNat).countP (fun k => decide ((ds.getD ((p + (L - 4).toNat + k) % DN) []).length = 0)) := by
    unfold goneTo
    rw [partsOf_length, gone_count]
    refine List.countP_congr (fun k hk => ?_)
    have hk' := List.mem_range.1 hk
    rw [partsOf_get ds hk', hdsk k]
  have hpq : (goneTo [pOf DN C r ds, qOf L DN C r ds] 2).length = (if (ds.getD p []).length = 0 then 1 else 0) + (if (qOf L DN C r ds).length = 0 then 1 else 0) := by
    have e : pOf DN C r ds = ds.getD p [] := by unfold pOf; rw [hp]; rfl
    rw [e]
    unfold goneTo
    rw [gone_count]
    simp [List.range_succ, List.countP_cons, Nat.add_comm]
  unfold lostR lostF
  rw [hparts, hpq, show ((DN : Int)).toNat = DN from by omega]
  show _ = decide (L - 4 < ((((List.range DN).filter fun i => decide ((ds.getD i []).length = 0)).length : Nat) : Int))
  rw [hf]
  by_cases h5 : L = 5
  · subst h5
    obtain ⟨W, rfl⟩ : ∃ W, DN = W + 1 := ⟨DN - 1, by omega⟩
    rw [range_head, List.countP_cons, List.countP_map]
    have e1 : (((W + 1 : Nat) : Int) - (5 - 4)).toNat = W := by omega
    rw [e1]
    have e2 : List.countP ((fun j => decide ((ds.getD ((p + j) % (W + 1)) []).length = 0)) ∘ fun x => x + 1) (List.range W) = List.countP (fun k => decide ((ds.getD ((p + (5 - 4 : Int).toNat + k) % (W + 1)) []).length = 0)) (List.range W) := by
      refine List.countP_congr (fun k _ => ?_)
      show decide ((ds.getD ((p + (k + 1)) % (W + 1)) []).length = 0) = true ↔ _
      rw [show p + (k + 1) = p + (5 - 4 : Int).toNat + k from by show p + (k + 1) = p + 1 + k; omega]
    rw [e2]
    have e3 : (p + 0) % (W + 1) = p := Nat.mod_eq_of_lt (by omega)
    rw [e3]
    have e4 : (qOf 5 ((W + 1 : Nat) : Int) C r ds).length = 0 := by unfold qOf; rw [if_pos rfl]; rfl
    rw [if_pos e4]
    generalize List.countP _ (List.range W) = c
    by_cases hz : (ds.getD p []).length = 0
    · rw [if_pos hz, decide_eq_true hz]
      simp only [if_true]
      congr 1
      apply propext
      omega
    · rw [if_neg hz, decide_eq_false hz]
      simp only [Bool.false_eq_true, if_false]
      congr 1
      apply propext
      omega
  · obtain rfl : L = 6 := by omega
    obtain ⟨W, rfl⟩ : ∃ W, DN = W + 2 := ⟨DN - 2, by omega⟩
    rw [range_head (W + 1), List.countP_cons, List.countP_map, range_head W, List.countP_cons, List.countP_map]
    have e1 : (((W + 2 : Nat) : Int) - (6 - 4)).toNat = W := by omega
    rw [e1]
    have e2 : List.countP (((fun j => decide ((ds.getD ((p + j) % (W + 2)) []).length = 0)) ∘ fun x => x + 1) ∘ fun x => x + 1) (List.range W) = List.countP (fun k => decide ((ds.getD ((p + (6 - 4 : Int).toNat + k) % (W + 2)) []).length = 0)) (List.range W) := by
      refine List.countP_congr (fun k _ => ?_)
      show decide ((ds.getD ((p + (k + 1 + 1)) % (W + 2)) []).length = 0) = true ↔ _
      rw [show p + (k + 1 + 1) = p + (6 - 4 : Int).toNat + k from by show p + (k + 1 + 1) = p + 2 + k; omega]
    rw [e2]
    have e3 : (p + 0) % (W + 2) = p := Nat.mod_eq_of_lt (by omega)
    have e4 : qOf 6 ((W + 2 : Nat) : Int) C r ds = ds.getD ((p + (0 + 1)) % (W + 2)) [] := by
      unfold qOf
      rw [if_neg (by decide), parQ_rot (by decide), hp]
      congr 1
    show _ = decide (6 - 4 < (((List.countP _ _ + (if decide ((ds.getD ((p + (0 + 1)) % (W + 2)) []).length = 0) = true then 1 else 0) + (if decide ((ds.getD ((p + 0) % (W + 2)) []).length = 0) = true then 1 else 0) : Nat)) : Int))
    rw [e3, e4]
    generalize List.countP _ (List.range W) = c
    generalize (ds.getD ((p + (0 + 1)) % (W + 2)) []).length = y
    generalize (ds.getD p []).length = z
    by_cases hz : z = 0 <;> by_cases hy : y = 0 <;> simp [hz, hy] <;> omega
end Go.Proofs.Ytoalnkhedebpbaa

/-! Plainly: rows on a bench's disks; benches whose disks are whole; live disks. -/
namespace Go.Proofs.Ytoalnkhedebpbaa
open Go.RowKit

/-- Of a geometry's disks, how many can't be asked. -/
def lostN (m : BM) (l : List Bool) (D : Nat) : Nat := ((List.range D).filter fun d => !upF m l d).length
/-- A row stands on the disks that can be asked. -/
structure OnDisks (m : BM) (l : List Bool) (L D C : Int) (r : Nat) (data : List (List UInt8)) : Prop where
  len : (data.length : Int) = D - (L - 4)
  sec : ∀ i, i < data.length → (data.getD i []).length = 32
  rows : ∀ d : Nat, (d : Int) < D → upF m l d = true → rd (m.d d) (36 + r) = (fillR L D C r data).getD d []
theorem filter_len_congr {f g : Nat → Bool} {n : Nat} (h : ∀ i, i < n → f i = g i) : ((List.range n).filter f).length = ((List.range n).filter g).length := by
  rw [gone_count, gone_count]
  exact List.countP_congr (fun i hi => by rw [h i (List.mem_range.1 hi)])
theorem OnDisks.lost {m : BM} {l : List Bool} {L D C : Int} {r : Nat} {data : List (List UInt8)} (h : OnDisks m l L D C r data) (hg : goodG L D C = true) :
    lostR L D C r (seen m l D.toNat (36 + r)) = decide (L - 4 < (lostN m l D.toNat : Int)) := by
  rw [lost_count hg]
  have e : (goneTo (seen m l D.toNat (36 + r)) D.toNat).length = lostN m l D.toNat := by
    unfold goneTo lostN
    refine filter_len_congr (fun d hd => ?_)
    rw [seen_get m l _ _ hd]
    by_cases hu : upF m l d = true
    · rw [if_pos hu, hu, h.rows d (by omega) hu, fillR_sec hg r h.len h.sec (by omega)]; rfl
    · rw [if_neg hu, show upF m l d = false from by simpa using hu]; rfl
  rw [e]
theorem OnDisks.take {m : BM} {l : List Bool} {L D C : Int} {r : Nat} {data : List (List UInt8)} (h : OnDisks m l L D C r data) (hg : goodG L D C = true) (hl : (lostN m l D.toNat : Int) ≤ L - 4) :
    takeR L D C r (seen m l D.toNat (36 + r)) = data := by
  refine take_plain hg r h.len h.sec (fun d hd => ?_) (by rw [h.lost hg]; exact decide_eq_false (by omega))
  rw [seen_get m l _ _ (by omega)]
  by_cases hu : upF m l d = true
  · rw [if_pos hu]; exact .inr (h.rows d hd hu)
  · rw [if_neg hu]; exact .inl rfl
theorem OnDisks.take' {m : BM} {l : List Bool} {L D C : Int} {r : Nat} {data : List (List UInt8)} (h : OnDisks m l L D C r data) (hg : goodG L D C = true) (hl : lostR L D C r (seen m l D.toNat (36 + r)) = false) :
    takeR L D C r (seen m l D.toNat (36 + r)) = data := by
  rw [h.lost hg] at hl
  exact h.take hg (by have := of_decide_eq_false hl; omega)
/-- One sector of a row. -/
theorem OnDisks.one {m : BM} {l : List Bool} {L D C : Int} {r k : Nat} {data : List (List UInt8)} (h : OnDisks m l L D C r data) (hg : goodG L D C = true) (hk : (k : Int) < D - (L - 4)) :
    oneLost m l L D C (numOf L D C r k) = (!upF m l (dskOf L D C r k).toNat && decide (L - 4 < (lostN m l D.toNat : Int))) ∧
    (oneLost m l L D C (numOf L D C r k) = false → oneV m l L D C (numOf L D C r k) = data.getD k []) := by
  obtain ⟨er, ek⟩ := row_num (r := r) hg (show (0 : Int) ≤ k by omega) hk
  have ed : dOf L D C (numOf L D C r k) = (dskOf L D C r k).toNat := by unfold dOf; rw [er, ek]
  have e1 : oneLost m l L D C (numOf L D C r k) = (!upF m l (dskOf L D C r k).toNat && decide (L - 4 < (lostN m l D.toNat : Int))) := by
    unfold oneLost; rw [ed, er, show ((r : Int)).toNat = r from by omega, h.lost hg]
  refine ⟨e1, fun hl => ?_⟩
  rw [e1] at hl
  unfold oneV
  rw [ed, er, ek, show ((r : Int)).toNat = r from by omega, show ((k : Int)).toNat = k from by omega]
  obtain ⟨d0, d1⟩ := dskOf_bds hg r k
  by_cases hu : upF m l (dskOf L D C r k).toNat = true
  · rw [if_pos hu, h.rows _ (by omega) hu, fillR_data hg r h.len hk]
  · rw [if_neg hu]
    have hu' : upF m l (dskOf L D C r k).toNat = false := by simpa using hu
    rw [hu'] at hl
    rw [h.take hg (by have := of_decide_eq_false (by simpa using hl : decide (L - 4 < (lostN m l D.toNat : Int)) = false); omega)]
theorem upF_set {m : BM} {l : List Bool} {i j : Nat} {d : DM} (hf : d.failed = (m.d i).failed) : upF (m.set i d) l j = upF m l j := by
  by_cases hi : i < m.ds.length
  · unfold upF
    rw [BM.set_len, BM.set_d m d hi]
    by_cases e : j = i
    · subst e; rw [if_pos rfl, hf]
    · rw [if_neg e]
  · have e : m.set i d = m := by
      unfold BM.set
      rw [List.set_eq_of_length_le (by omega)]
    rw [e]
theorem rd_none {d : DM} (hp : d.pend = []) (a : Nat) : rd d a = d.sec a := by unfold rd rdTo; rw [hp]; rfl
theorem rd_put {d : DM} (hp : d.pend = []) (a : Nat) (x : List UInt8) (b : Nat) : rd (d.put a x) b = if b = a then x else rd d b := by
  rw [rd_none (d := d.put a x) hp, rd_none hp]; rfl
/-- A bench of n disks that have not failed, with nothing pending: f d a is what stands there. -/
def stdM (n : Nat) (f : Nat → Nat → List UInt8) : BM := ⟨(List.range n).map fun d => ⟨f d, [], false⟩, 0, -1, false⟩
theorem stdM_len (n : Nat) (f : Nat → Nat → List UInt8) : (stdM n f).ds.length = n := by simp [stdM]
theorem stdM_d {n : Nat} (f : Nat → Nat → List UInt8) {d : Nat} (h : d < n) : (stdM n f).d d = ⟨f d, [], false⟩ := by simp [stdM, BM.d, h]
theorem stdM_zero (n : Nat) : bm0 n = stdM n (fun _ _ => zeros 32) := by
  unfold bm0 stdM
  congr 1
  apply List.ext_getElem?
  intro i
  by_cases h : i < n <;> simp [h, dm0]
theorem stdM_set {n : Nat} (f : Nat → Nat → List UInt8) {i : Nat} (a : Nat) (x : List UInt8) (h : i < n) : (stdM n f).set i (((stdM n f).d i).put a x) = stdM n (fun d b => if d = i ∧ b = a then x else f d b) := by
  rw [stdM_d f h]
  unfold BM.set stdM DM.put
  congr 1
  apply List.ext_getElem?
  intro j
  rw [List.getElem?_set]
  by_cases hj : j < n
  · by_cases e : i = j
    · subst e; simp [hj]
    · have e' : ¬ j = i := fun h => e h.symm
      simp [hj, e, e']
  · have e : ¬ i = j := by omega
    simp [hj, e]
/-- Rows that are laid one after the other, each disk by disk: of row r already k disks. -/
def fstage (Dn : Nat → Nat) (G : Nat → Nat → List UInt8) (r k d a : Nat) : List UInt8 := if 36 ≤ a ∧ d < Dn (a - 36) ∧ (a - 36 < r ∨ a - 36 = r ∧ d < k) then G (a - 36) d else zeros 32
theorem fstage_zero (Dn : Nat → Nat) (G : Nat → Nat → List UInt8) : fstage Dn G 0 0 = fun _ _ => zeros 32 := by
  funext d a
  unfold fstage
  rw [if_neg (by omega)]
theorem fstage_step {Dn : Nat → Nat} {G : Nat → Nat → List UInt8} {r k : Nat} (hk : k < Dn r) : (fun d b => if d = k ∧ b = 36 + r then G r k else fstage Dn G r k d b) = fstage Dn G r (k + 1) := by
  funext d a
  unfold fstage
  by_cases e : d = k ∧ a = 36 + r
  · obtain ⟨rfl, rfl⟩ := e
    rw [if_pos ⟨rfl, rfl⟩, if_pos (by rw [show 36 + r - 36 = r from by omega]; omega), show 36 + r - 36 = r from by omega]
  · rw [if_neg e]
    by_cases h : 36 ≤ a ∧ d < Dn (a - 36) ∧ (a - 36 < r ∨ a - 36 = r ∧ d < k)
    · rw [if_pos h, if_pos (by omega)]
    · rw [if_neg h, if_neg (by omega)]
theorem fstage_next (Dn : Nat → Nat) (G : Nat → Nat → List UInt8) (r : Nat) : fstage Dn G r (Dn r) = fstage Dn G (r + 1) 0 := by
  funext d a
  unfold fstage
  by_cases h : 36 ≤ a ∧ d < Dn (a - 36) ∧ (a - 36 < r ∨ a - 36 = r ∧ d < Dn r)
  · rw [if_pos h, if_pos (by omega)]
  · rw [if_neg h, if_neg (fun e => h ⟨e.1, e.2.1, by
      rcases Nat.lt_or_ge (a - 36) r with e3 | e3
      · exact .inl e3
      · have : a - 36 = r := by omega
        exact .inr ⟨this, this ▸ e.2.1⟩⟩)]
/-- Live disks of a number. -/
def liveF (n : Int) (D : Nat) : List Bool :=
  let l1 := if 0 < within n 3 then (List.replicate D true).set (within (wrap64 (n.tdiv 3)) D).toNat false else List.replicate D true
  if within n 9 = 8 then l1.set (within (wrap64 (n.tdiv 27)) D).toNat false else l1
theorem liveF_length (n : Int) (D : Nat) : (liveF n D).length = D := by
  unfold liveF
  simp only
  split <;> split <;> simp
theorem liveF_zero (D : Nat) : liveF 0 D = List.replicate D true := by
  unfold liveF
  have h3 : within 0 3 = 0 := by decide
  have h9 : within 0 9 = 0 := by decide
  simp only [h3, h9]
  rfl
theorem count_two (f : Nat → Bool) (a b : Nat) (h : ∀ i, f i = true → i = a ∨ i = b) : ∀ n, ((List.range n).filter f).length ≤ (if a < n then 1 else 0) + (if b < n then 1 else 0)
  | 0 => by simp
  | n + 1 => by
    rw [List.range_succ, List.filter_append, List.length_append]
    have ih := count_two f a b h n
    by_cases hf : f n = true
    · rw [List.filter_cons, if_pos hf]
      simp only [List.filter_nil, List.length_cons, List.length_nil]
      rcases h n hf with e | e
      · subst e
        rw [if_neg (Nat.lt_irrefl n)] at ih
        rw [if_pos (Nat.lt_succ_self n)]
        split at ih <;> split <;> omega
      · subst e
        rw [if_neg (Nat.lt_irrefl n)] at ih
        rw [if_pos (Nat.lt_succ_self n)]
        split at ih <;> split <;> omega
    · rw [List.filter_cons, if_neg hf]
      simp only [List.filter_nil, List.length_nil]
      split at ih <;> split at ih <;> split <;> split <;> omega
theorem count_one (f : Nat → Bool) (a n : Nat) (h : ∀ i, i < n → f i = true → i = a) : ((List.range n).filter f).length ≤ 1 := by
  have e : ((List.range n).filter f).length = ((List.range n).filter fun i => f i && decide (i = a)).length := filter_len_congr (fun i hi => by
    cases hf : f i
    · rfl
    · rw [decide_eq_true (h i hi hf)]; rfl)
  rw [e]
  have : ∀ n, ((List.range n).filter fun i => f i && decide (i = a)).length ≤ if a < n then 1 else 0 := by
    intro n
    induction n with
    | zero => simp
    | succ n ih =>
      rw [List.range_succ, List.filter_append, List.length_append, List.filter_cons]
      by_cases e : n = a
      · subst e
        rw [if_neg (Nat.lt_irrefl n)] at ih
        rw [if_pos (Nat.lt_succ_self n)]
        split <;> simp only [List.filter_nil, List.length_cons, List.length_nil] <;> omega
      · rw [decide_eq_false e, Bool.and_false, if_neg (by decide)]
        simp only [List.filter_nil, List.length_nil]
        split at ih <;> split <;> omega
  have := this n
  split at this <;> omega
theorem lostN_one {m : BM} {l : List Bool} {D : Nat} (a : Nat) (h : ∀ d, d < D → d ≠ a → upF m l d = true) : lostN m l D ≤ 1 := by
  unfold lostN
  refine count_one _ a D (fun i hi hf => ?_)
  by_cases e : i = a
  · exact e
  · rw [h i hi e] at hf; exact absurd hf (by decide)
theorem lostN_two {m : BM} {l : List Bool} {D : Nat} (a b : Nat) (h : ∀ d, d < D → d ≠ a → d ≠ b → upF m l d = true) : lostN m l D ≤ 2 := by
  unfold lostN
  have e : ((List.range D).filter fun d => !upF m l d).length = ((List.range D).filter fun d => !upF m l d && (decide (d = a) || decide (d = b))).length := filter_len_congr (fun i hi => by
    by_cases e1 : i = a
    · simp [e1]
    · by_cases e2 : i = b
      · simp [e2]
      · rw [h i hi e1 e2]; rfl)
  rw [e]
  have := count_two (fun d => !upF m l d && (decide (d = a) || decide (d = b))) a b (fun i hi => by simp at hi; exact hi.2) D
  split at this <;> split at this <;> omega
end Go.Proofs.Ytoalnkhedebpbaa

/-! Plainly: what writes, flushes make of a bench; stripe.Write, stripe.Flush as what they do to one disk after the other. -/
namespace Go.Proofs.Ytoalnkhedebpbaa
open Go.RowKit

/-- A write is pending besides. -/
def DM.push (d : DM) (a : Nat) (x : List UInt8) : DM := { d with pend := d.pend ++ [(a, x)] }
/-- All that is pending stays. -/
def DM.flush (d : DM) : DM := { d with sec := rd d, pend := [] }
theorem rd_push (d : DM) (a : Nat) (x : List UInt8) (b : Nat) : rd (d.push a x) b = if a = b then x else rd d b := by
  unfold rd rdTo DM.push
  simp only [List.take_length, List.foldl_append]
  rfl
theorem rd_flush (d : DM) (b : Nat) : rd d.flush b = rd d b := rfl
/-- A write of a sector, on the bench. -/
def BM.wr (m : BM) (i a : Nat) (x : List UInt8) : Int × BM :=
  if m.down then (6, m) else if (m.d i).failed then (5, m) else if m.left = 0 then (6, { m with down := true }) else
    (0, { m with ds := m.ds.set i ((m.d i).push a x), writes := wrap64 (m.writes + 1), left := if 0 < m.left then wrap64 (m.left - 1) else m.left })
def BM.fl (m : BM) (i : Nat) : Int × BM := if m.down then (6, m) else if (m.d i).failed then (5, m) else (0, m.set i (m.d i).flush)
/-- One after the other, till there is an error. -/
def stepTo (f : BM → Nat → Int × BM) (m : BM) : Nat → Int × BM
  | 0 => (0, m)
  | k + 1 => if (stepTo f m k).1 = 0 then f (stepTo f m k).2 k else stepTo f m k
theorem stepTo_err {f : BM → Nat → Int × BM} {m : BM} {k : Nat} (h : (stepTo f m k).1 ≠ 0) : ∀ n, k ≤ n → stepTo f m n = stepTo f m k
  | 0, hn => by rw [show k = 0 from by omega]
  | n + 1, hn => by
    by_cases e : k = n + 1
    · rw [e]
    · have ih := stepTo_err h n (by omega)
      show (if (stepTo f m n).1 = 0 then f (stepTo f m n).2 n else stepTo f m n) = _
      rw [ih, if_neg h]
theorem stepTo_ok {f : BM → Nat → Int × BM} {m : BM} {k : Nat} (h : (stepTo f m k).1 = 0) : stepTo f m (k + 1) = f (stepTo f m k).2 k := by
  show (if (stepTo f m k).1 = 0 then _ else _) = _
  rw [if_pos h]
/-- The same disks have failed. -/
def Alike (m m' : BM) : Prop := m'.ds.length = m.ds.length ∧ ∀ j, (m'.d j).failed = (m.d j).failed
theorem Alike.refl (m : BM) : Alike m m := ⟨rfl, fun _ => rfl⟩
theorem Alike.trans {a b c : BM} (h : Alike a b) (k : Alike b c) : Alike a c := ⟨k.1.trans h.1, fun j => (k.2 j).trans (h.2 j)⟩
theorem Alike.up {m m' : BM} (h : Alike m m') (l : List Bool) (d : Nat) : upF m' l d = upF m l d := by unfold upF; rw [h.1, h.2]
theorem Alike.set {m : BM} {i : Nat} {d : DM} (h : d.failed = (m.d i).failed) : Alike m (m.set i d) := by
  refine ⟨BM.set_len m i d, fun j => ?_⟩
  by_cases hi : i < m.ds.length
  · rw [BM.set_d m d hi]
    by_cases e : j = i
    · subst e; rw [if_pos rfl, h]
    · rw [if_neg e]
  · have e : m.set i d = m := by
      unfold BM.set
      rw [List.set_eq_of_length_le (by omega)]
    rw [e]
theorem BM.wr_alike (m : BM) (i a : Nat) (x : List UInt8) : Alike m (m.wr i a x).2 := by
  unfold BM.wr
  split
  · exact Alike.refl m
  · split
    · exact Alike.refl m
    · split
      · exact ⟨rfl, fun _ => rfl⟩
      · exact Alike.set (m := m) (i := i) (d := (m.d i).push a x) rfl
theorem BM.fl_alike (m : BM) (i : Nat) : Alike m (m.fl i).2 := by
  unfold BM.fl
  split
  · exact Alike.refl m
  · split
    · exact Alike.refl m
    · exact Alike.set rfl
theorem stepTo_alike {f : BM → Nat → Int × BM} (hf : ∀ m k, Alike m (f m k).2) (m : BM) : ∀ k, Alike m (stepTo f m k).2
  | 0 => Alike.refl m
  | k + 1 => by
    unfold stepTo
    split
    · exact (stepTo_alike hf m k).trans (hf _ _)
    · exact stepTo_alike hf m k
/-- stripe.Write, Flush: what they do to a disk. -/
def swF (l : List Bool) (a : Nat) (X : List (List UInt8)) (m : BM) (k : Nat) : Int × BM := if upF m l k then m.wr k a (X.getD k []) else (0, m)
def flF (l : List Bool) (m : BM) (k : Nat) : Int × BM := if upF m l k then m.fl k else (0, m)
theorem swF_alike (l : List Bool) (a : Nat) (X : List (List UInt8)) (m : BM) (k : Nat) : Alike m (swF l a X m k).2 := by
  unfold swF
  split
  · exact BM.wr_alike m k a _
  · exact Alike.refl m
theorem flF_alike (l : List Bool) (m : BM) (k : Nat) : Alike m (flF l m k).2 := by
  unfold flF
  split
  · exact BM.fl_alike m k
  · exact Alike.refl m
/-- While there is power, and no end of it. -/
def Free (m : BM) : Prop := m.down = false ∧ m.left = -1
theorem BM.wr_ok {m : BM} (h : Free m) {i a : Nat} {x : List UInt8} (hi : i < m.ds.length) (hf : (m.d i).failed = false) : (m.wr i a x).1 = 0 ∧ Free (m.wr i a x).2 ∧ ∀ j, (m.wr i a x).2.d j = if j = i then (m.d i).push a x else m.d j := by
  obtain ⟨h1, h2⟩ := h
  unfold BM.wr
  rw [h1, hf, h2]
  refine ⟨rfl, ⟨rfl, rfl⟩, fun j => ?_⟩
  exact BM.set_d m _ hi
theorem BM.fl_ok {m : BM} (h : m.down = false) {i : Nat} (hi : i < m.ds.length) (hf : (m.d i).failed = false) : (m.fl i).1 = 0 ∧ (m.fl i).2.down = false ∧ (m.fl i).2.left = m.left ∧ (m.fl i).2.writes = m.writes ∧ ∀ j, (m.fl i).2.d j = if j = i then (m.d i).flush else m.d j := by
  unfold BM.fl
  rw [h, hf]
  exact ⟨rfl, h, rfl, rfl, fun j => BM.set_d m _ hi⟩
theorem sw_free {m : BM} (h : Free m) (l : List Bool) (a : Nat) (X : List (List UInt8)) : ∀ k, (stepTo (swF l a X) m k).1 = 0 ∧ Free (stepTo (swF l a X) m k).2 ∧ ∀ j, (stepTo (swF l a X) m k).2.d j = if j < k ∧ upF m l j = true then (m.d j).push a (X.getD j []) else m.d j
  | 0 => ⟨rfl, h, fun j => by rw [if_neg (by omega)]; rfl⟩
  | k + 1 => by
    obtain ⟨h1, h2, h3⟩ := sw_free h l a X k
    have al := stepTo_alike (swF_alike l a X) m k
    rw [stepTo_ok h1]
    generalize (stepTo (swF l a X) m k).2 = M at *
    unfold swF
    rw [al.up]
    by_cases hu : upF m l k = true
    · rw [if_pos hu]
      have hk := upF_lt hu
      obtain ⟨w1, w2, w3⟩ := BM.wr_ok h2 (i := k) (a := a) (x := X.getD k []) (by rw [al.1]; exact hk.1) (by rw [al.2]; exact hk.2.2.2)
      refine ⟨w1, w2, fun j => ?_⟩
      rw [w3]
      by_cases e : j = k
      · subst e
        rw [if_pos rfl, if_pos ⟨by omega, hu⟩, h3, if_neg (by omega)]
      · rw [if_neg e, h3]
        by_cases c : j < k ∧ upF m l j = true
        · rw [if_pos c, if_pos ⟨by omega, c.2⟩]
        · rw [if_neg c, if_neg (fun c' => c ⟨by omega, c'.2⟩)]
    · rw [if_neg hu]
      refine ⟨rfl, h2, fun j => ?_⟩
      show M.d j = _
      rw [h3]
      by_cases c : j < k ∧ upF m l j = true
      · rw [if_pos c, if_pos ⟨by omega, c.2⟩]
      · rw [if_neg c, if_neg (fun c' => by
          by_cases e : j = k
          · subst e; exact hu c'.2
          · exact c ⟨by omega, c'.2⟩)]
theorem fl_free {m : BM} (h : m.down = false) (l : List Bool) : ∀ k, (stepTo (flF l) m k).1 = 0 ∧ (stepTo (flF l) m k).2.down = false ∧ (stepTo (flF l) m k).2.left = m.left ∧ (stepTo (flF l) m k).2.writes = m.writes ∧ ∀ j, (stepTo (flF l) m k).2.d j = if j < k ∧ upF m l j = true then (m.d j).flush else m.d j
  | 0 => ⟨rfl, h, rfl, rfl, fun j => by rw [if_neg (by omega)]; rfl⟩
  | k + 1 => by
    obtain ⟨h1, h2, h4, h5, h3⟩ := fl_free h l k
    have al := stepTo_alike (flF_alike l) m k
    rw [stepTo_ok h1]
    generalize (stepTo (flF l) m k).2 = M at *
    unfold flF
    rw [al.up]
    by_cases hu : upF m l k = true
    · rw [if_pos hu]
      have hk := upF_lt hu
      obtain ⟨w1, w2, w4, w5, w3⟩ := BM.fl_ok h2 (i := k) (by rw [al.1]; exact hk.1) (by rw [al.2]; exact hk.2.2.2)
      refine ⟨w1, w2, w4.trans h4, w5.trans h5, fun j => ?_⟩
      rw [w3]
      by_cases e : j = k
      · subst e
        rw [if_pos rfl, if_pos ⟨by omega, hu⟩, h3, if_neg (by omega)]
      · rw [if_neg e, h3]
        by_cases c : j < k ∧ upF m l j = true
        · rw [if_pos c, if_pos ⟨by omega, c.2⟩]
        · rw [if_neg c, if_neg (fun c' => c ⟨by omega, c'.2⟩)]
    · rw [if_neg hu]
      refine ⟨rfl, h2, h4, h5, fun j => ?_⟩
      show M.d j = _
      rw [h3]
      by_cases c : j < k ∧ upF m l j = true
      · rw [if_pos c, if_pos ⟨by omega, c.2⟩]
      · rw [if_neg c, if_neg (fun c' => by
          by_cases e : j = k
          · subst e; exact hu c'.2
          · exact c ⟨by omega, c'.2⟩)]
end Go.Proofs.Ytoalnkhedebpbaa

/-! wattlelaw14: Data: what it answers; the tail of a slice. -/
namespace Go.Proofs.Ytoalnkhedebpbaa
open Go.RowKit

/-- The numbers of a row's data. -/
def rowL (l : List Int) (r : Nat) : List Int := l.drop (min r l.length)
def tailV (a : Option Addr) (n cap j : Nat) : Value := .slice (if cap = j then a else a.map (·.add j)) (n - j) (cap - j)
theorem IntsIn.tail {w : World} {a : Option Addr} {n cap : Nat} {l : List Int} (h : IntsIn w (.slice a n cap) l) (hn : n = l.length) (r : Nat) : IntsIn w (tailV a n cap (min r n)) (rowL l r) := by
  unfold rowL tailV
  rw [← hn]
  exact h.drop (Nat.min_le_right _ _)
set_option maxRecDepth 100000 in
set_option maxHeartbeats 1000000 in
theorem data_any (L D C : Int) (r : Nat) (l : List Int) (v : Value) (w : World) (h : goodG L D C = true) (hv : IntsIn w v l) :
    Calls Try.prog 36 #[gv L D C, .int .i64 r, v] w fun e w' => ∃ x, e = .returned x ∧ RowsAt w' x (sectsF (rowL l r) (D - (L - 4)).toNat) ∧ Gr w w' := by
  obtain ⟨hL1, hL2, hD1, hD2, hC1, hC2, hw⟩ := goodG_bds h
  have H := Lib.hid h; clear h
  obtain ⟨W, hW⟩ : ∃ W : Nat, D - (L - 4) = W := ⟨(D - (L - 4)).toNat, by omega⟩
  have hW8 : W ≤ 8 := by omega
  have hWn : (D - (L - 4)).toNat = W := by omega
  rw [hWn]; clear hWn
  have HV := Lib.hid hv
  obtain ⟨a, cap, rfl, hlc, hcm, hcells⟩ := hv
  clear hcells
  obtain ⟨n, hn⟩ : ∃ n, n = l.length := ⟨_, rfl⟩
  rw [← hn] at hlc HV ⊢
  obtain ⟨j, hj⟩ : ∃ j, j = min r n := ⟨_, rfl⟩
  have hmin : (if n < r then (n : Int) else (r : Int)) = (j : Int) := by split <;> omega
  have h0 : (0 : Int) ≤ (j : Int) := by omega
  have h1 : (j : Int) ≤ (n : Int) := by omega
  have h2 : (n : Int) ≤ (cap : Int) := by omega
  have htl := HV.out.tail hn r
  rw [← hj] at htl
  unfold tailV at htl
  clear hn hj hcm hlc
  obtain ⟨c0, c1, c2⟩ := box3 (heap_alloc_new w (.cells #[.int .i64 L, .int .i64 D, .int .i64 C] 23))
  by_cases hcj : cap = j
  · rw [if_pos hcj, hcj, Nat.sub_self] at htl
    rw [hcj] at HV h2 ⊢
    have HT := Lib.hid htl; clear htl hcj
    go_enter Try.func36, Try.ntmps36
    go_wp2_with fail
    go_region_held3 (fun wx : World => wx.cell? ⟨w.heap.size, 0, none⟩ = some (.int .i64 L) ∧ wx.cell? ⟨w.heap.size, 1, none⟩ = some (.int .i64 D) ∧ wx.cell? ⟨w.heap.size, 2, none⟩ = some (.int .i64 C)) (first | exact ⟨c0, c1, c2⟩ | exact ⟨d0, d1, d2⟩ | exact ⟨x0, x1, x2⟩) (first | (go_at_call 54; refine (rwidth_good L D C _ H.out).mono ?_; rintro e w4 ⟨rfl, hg4⟩; rw [hW]; have g4 := ((Gr.alloc w _).trans (Gr.drew _)).trans hg4; have d0 := ((Gr.drew _).trans hg4).cell c0; have d1 := ((Gr.drew _).trans hg4).cell c1; have d2 := ((Gr.drew _).trans hg4).cell c2) | (go_at_call 53; refine (sects_any (rowL l r) W _ _ (HT.out.gr g4) hW8).mono ?_; rintro e w5 ⟨x, rfl, hx, hg5⟩; have x0 := hg5.cell d0; have x1 := hg5.cell d1; have x2 := hg5.cell d2; have HX := Lib.hid hx; clear hx))
    all_goals
      go_wp2
      go_ret
      exact ⟨_, rfl, HX.out, g4.trans hg5⟩
  · rw [if_neg hcj] at htl
    have HT := Lib.hid htl; clear htl
    go_enter Try.func36, Try.ntmps36
    go_wp2_with fail
    go_region_held3 (fun wx : World => wx.cell? ⟨w.heap.size, 0, none⟩ = some (.int .i64 L) ∧ wx.cell? ⟨w.heap.size, 1, none⟩ = some (.int .i64 D) ∧ wx.cell? ⟨w.heap.size, 2, none⟩ = some (.int .i64 C)) (first | exact ⟨c0, c1, c2⟩ | exact ⟨d0, d1, d2⟩ | exact ⟨x0, x1, x2⟩) (first | (go_at_call 54; refine (rwidth_good L D C _ H.out).mono ?_; rintro e w4 ⟨rfl, hg4⟩; rw [hW]; have g4 := ((Gr.alloc w _).trans (Gr.drew _)).trans hg4; have d0 := ((Gr.drew _).trans hg4).cell c0; have d1 := ((Gr.drew _).trans hg4).cell c1; have d2 := ((Gr.drew _).trans hg4).cell c2) | (go_at_call 53; refine (sects_any (rowL l r) W _ _ (HT.out.gr g4) hW8).mono ?_; rintro e w5 ⟨x, rfl, hx, hg5⟩; have x0 := hg5.cell d0; have x1 := hg5.cell d1; have x2 := hg5.cell d2; have HX := Lib.hid hx; clear hx))
    all_goals
      go_wp2
      go_ret
      exact ⟨_, rfl, HX.out, g4.trans hg5⟩
end Go.Proofs.Ytoalnkhedebpbaa

/-! wattleplay.Live: what it answers. -/
namespace Go.Proofs.Ytoalnkhedebpbaa
open Go.RowKit

/-- Bools in a block of one's own. -/
def OwnB (w : World) (g : Nat) (l : List Bool) : Prop := w.heap[g]? = some (.cells (l.map Value.bool).toArray 4 (0, 0))
theorem OwnB.bools {w : World} {g n : Nat} {l : List Bool} (h : OwnB w g l) (hn : l.length = n) (hl : n ≤ 9223372036854775807) : BoolsAt w (.slice (some ⟨g, 0, none⟩) n n) l := by
  have := SlAt.lit (cap := n) (l.map Value.bool) h (by simp; omega)
  rw [List.length_map, hn] at this
  exact this
theorem OwnB.gr {w w' : World} {g : Nat} {l : List Bool} (h : OwnB w g l) (k : Gr w w') : OwnB w' g l := k.get h
theorem OwnB.cell {w : World} {g : Nat} {l : List Bool} (h : OwnB w g l) {i : Nat} (hi : i < l.length) : w.cell? ⟨g, i, none⟩ = some (.bool (l.getD i false)) ∧ w.frozen? ⟨g, i, none⟩ = false := by
  refine ⟨cell_blk h (by simp [hi]), by unfold OwnB at h; simp [World.frozen?, h]⟩
theorem OwnB.set {w : World} {g i : Nat} {l : List Bool} (h : OwnB w g l) (b : Bool) : OwnB (w.setCell ⟨g, i, none⟩ (.bool b)) g (l.set i b) := by
  unfold OwnB at h ⊢
  rw [setCell_putB h, putB_get_self (heap_lt h)]
  simp
theorem OwnB.grset {w w' : World} {g i : Nat} {l : List Bool} {v : Value} (k : Gr w w') (h : OwnB w' g l) (hg : w.heap.size ≤ g) : Gr w (w'.setCell ⟨g, i, none⟩ v) := by
  unfold OwnB at h
  rw [setCell_putB h]
  exact below_putB k hg _
theorem slB : Try.prog.underlying 36 = some (.slice 4) := by kernel_rfl
theorem infB : (Try.prog.info? 4).map (fun i => (i.zero, i.size, i.bytes)) = some (some (.bool false), 1, 1) := by kernel_rfl
def liveTo (D k : Nat) : List Bool := List.replicate k true ++ List.replicate (D - k) false
theorem liveTo_set {D k : Nat} (h : k < D) : (liveTo D k).set k true = liveTo D (k + 1) := by
  unfold liveTo
  rw [List.set_append_right _ _ (by simp)]
  simp only [List.length_replicate, Nat.sub_self]
  obtain ⟨m, hm⟩ : ∃ m, D - k = m + 1 := ⟨D - k - 1, by omega⟩
  rw [hm, List.replicate_succ, List.set_cons_zero, show D - (k + 1) = m from by omega, List.replicate_succ', List.append_assoc]
  rfl
theorem liveTo_len {D k : Nat} (h : k ≤ D) : (liveTo D k).length = D := by simp [liveTo]; omega
set_option maxRecDepth 100000 in
set_option maxHeartbeats 2000000 in
theorem live_any (n : Int) (D : Nat) (w : World) (hD0 : 0 < D) (hD : D ≤ 8) :
    Calls Try.prog 23 #[.int .i64 n, .int .i64 D] w fun e w' => ∃ g, e = .returned (.slice (some ⟨g, 0, none⟩) D D) ∧ OwnB w' g (liveF n D) ∧ w.heap.size ≤ g ∧ Gr w w' := by
  obtain ⟨l1, hl1⟩ : ∃ l1, l1 = if 0 < within n 3 then (List.replicate D true).set (within (wrap64 (n.tdiv 3)) D).toNat false else List.replicate D true := ⟨_, rfl⟩
  have hlen1 : l1.length = D := by rw [hl1]; split <;> simp
  have hend : liveF n D = if within n 9 = 8 then l1.set (within (wrap64 (n.tdiv 27)) D).toNat false else l1 := by unfold liveF; rw [hl1]
  obtain ⟨i0, i1⟩ := within_range (wrap64 (n.tdiv 3)) (n := (D : Int)) (by omega)
  obtain ⟨j0, j1⟩ := within_range (wrap64 (n.tdiv 27)) (n := (D : Int)) (by omega)
  obtain ⟨i, hi⟩ : ∃ i : Nat, within (wrap64 (n.tdiv 3)) D = i := ⟨_, (Int.toNat_of_nonneg i0).symm⟩
  obtain ⟨j, hj⟩ : ∃ j : Nat, within (wrap64 (n.tdiv 27)) D = j := ⟨_, (Int.toNat_of_nonneg j0).symm⟩
  rw [hi] at i1 hl1
  rw [hj] at j1 hend
  have hi8 : i < D := by omega
  have hj8 : j < D := by omega
  have HL1 := Lib.hid hl1; clear hl1
  have HE := Lib.hid hend; clear hend
  have HI := Lib.hid hi; clear hi i0 i1
  have HJ := Lib.hid hj; clear hj j0 j1
  have HLN := Lib.hid hlen1; clear hlen1
  have HFULL : Hid (liveTo D D = List.replicate D true) := Lib.hid (by unfold liveTo; rw [Nat.sub_self]; simp)
  go_enter Try.func23, Try.ntmps23
  go_wp2_with ((with_reducible apply wpL_make1 (n := D) slB infB rfl (by decide)); rfl; rfl; omega)
  have h0 : Hid (OwnB (w.alloc (.cells (zrow (.bool false) D) 4)) w.heap.size (liveTo D 0)) := Lib.hid (by
    unfold OwnB liveTo
    rw [heap_alloc_new]
    simp [zrow])
  go_loopw [11] (fun k wr => ∃ t : Nat, t ≤ D ∧ k = .int .i64 t ∧ Hid (OwnB wr w.heap.size (liveTo D t)) ∧ Gr w wr) (fun k _ => D - (intOf k).toNat)
  case atStart => exact ⟨0, by omega, rfl, h0, Gr.alloc _ _⟩
  case round =>
    obtain ⟨t, ht, rfl, ho, hg⟩ := hrel
    by_cases hlt : t < D
    · obtain ⟨c0, f0⟩ := ho.out.cell (i := t) (by rw [liveTo_len ht]; exact hlt)
      go_wp2
      go_roundw
      case rel =>
        refine ⟨t + 1, by omega, by go_num, Lib.hid ?_, OwnB.grset hg ho.out (Nat.le_refl _)⟩
        rw [← liveTo_set hlt]
        exact ho.out.set true
      case measure => simp [intOf]; omega
    · obtain rfl : t = D := by omega
      rw [HFULL.out] at ho
      have hwi := within_range n (n := 9) (by decide)
      clear hlt ht HFULL h0
      have hpos : decide (0 < t) = true := decide_eq_true hD0
      obtain ⟨a3, ha3⟩ : ∃ a3, a3 = within n 3 := ⟨_, rfl⟩
      obtain ⟨a9, ha9⟩ : ∃ a9, a9 = within n 9 := ⟨_, rfl⟩
      rw [← ha3] at HL1
      rw [← ha9] at HE hwi
      have HA3 := Lib.hid ha3; clear ha3
      have HA9 := Lib.hid ha9; clear ha9
      obtain ⟨u0, hu0⟩ : ∃ u, wr.cell? ⟨w.heap.size, i, none⟩ = some u := ⟨_, (ho.out.cell (i := i) (by simp; omega)).1⟩
      have fi : wr.frozen? ⟨w.heap.size, i, none⟩ = false := (ho.out.cell (i := i) (by simp; omega)).2
      by_cases h3 : 0 < a3
      · have hs := Lib.hid (ho.out.set (i := i) false)
        rw [← show l1 = (List.replicate t true).set i false from by rw [HL1.out, if_pos h3]; rfl] at hs
        have d3 : decide (0 < a3) = true := decide_eq_true h3
        go_wp2_with fail
        refine (within_any n 3 _ (by decide)).mono ?_
        rintro e w1 ⟨rfl, rfl⟩
        rw [← HA3.out]
        go_wp2_with fail
        refine (within_any (wrap64 (n.tdiv 3)) (t : Int) _ (by omega)).mono ?_
        rintro e w1 ⟨rfl, rfl⟩
        rw [HI.out]
        go_wp2_with fail
        have hg1 : Gr w (wr.setCell ⟨w.heap.size, i, none⟩ (.bool false)) := OwnB.grset hg ho.out (Nat.le_refl _)
        obtain ⟨W1, hW1⟩ : ∃ W1, W1 = wr.setCell ⟨w.heap.size, i, none⟩ (Value.bool false) := ⟨_, rfl⟩
        rw [← hW1] at hs hg1 ⊢
        clear hW1 hu0 fi
        refine (within_any n 9 _ (by decide)).mono ?_
        rintro e w1 ⟨rfl, rfl⟩
        rw [← HA9.out]
        by_cases h9 : a9 = 8
        · have b9 : (a9 == 8) = true := beq_iff_eq.2 h9
          obtain ⟨u1, hu1⟩ : ∃ u, W1.cell? ⟨w.heap.size, j, none⟩ = some u := ⟨_, (hs.out.cell (i := j) (by have := HLN.out; omega)).1⟩
          have fj : W1.frozen? ⟨w.heap.size, j, none⟩ = false := (hs.out.cell (i := j) (by have := HLN.out; omega)).2
          go_wp2_with fail
          refine (within_any (wrap64 (n.tdiv 27)) (t : Int) _ (by omega)).mono ?_
          rintro e w1 ⟨rfl, rfl⟩
          rw [HJ.out]
          go_wp2
          go_ret
          exact ⟨_, rfl, by rw [HE.out, if_pos h9]; exact hs.out.set false, Nat.le_refl _, OwnB.grset hg1 hs.out (Nat.le_refl _)⟩
        · have b9 : (a9 == 8) = false := beq_eq_false_iff_ne.2 h9
          go_wp2
          go_ret
          exact ⟨_, rfl, by rw [HE.out, if_neg h9]; exact hs.out, Nat.le_refl _, hg1⟩
      · have hs : Hid (OwnB wr w.heap.size l1) := Lib.hid (by rw [HL1.out, if_neg h3]; exact ho.out)
        have d3 : decide (0 < a3) = false := decide_eq_false h3
        go_wp2_with fail
        refine (within_any n 3 _ (by decide)).mono ?_
        rintro e w1 ⟨rfl, rfl⟩
        rw [← HA3.out]
        go_wp2_with fail
        obtain ⟨W1, hW1⟩ : ∃ W1, W1 = wr := ⟨_, rfl⟩
        rw [← hW1] at hs hg ⊢
        have hg1 := hg
        clear hW1 hu0 fi
        refine (within_any n 9 _ (by decide)).mono ?_
        rintro e w1 ⟨rfl, rfl⟩
        rw [← HA9.out]
        by_cases h9 : a9 = 8
        · have b9 : (a9 == 8) = true := beq_iff_eq.2 h9
          obtain ⟨u1, hu1⟩ : ∃ u, W1.cell? ⟨w.heap.size, j, none⟩ = some u := ⟨_, (hs.out.cell (i := j) (by have := HLN.out; omega)).1⟩
          have fj : W1.frozen? ⟨w.heap.size, j, none⟩ = false := (hs.out.cell (i := j) (by have := HLN.out; omega)).2
          go_wp2_with fail
          refine (within_any (wrap64 (n.tdiv 27)) (t : Int) _ (by omega)).mono ?_
          rintro e w1 ⟨rfl, rfl⟩
          rw [HJ.out]
          go_wp2
          go_ret
          exact ⟨_, rfl, by rw [HE.out, if_pos h9]; exact hs.out.set false, Nat.le_refl _, OwnB.grset hg1 hs.out (Nat.le_refl _)⟩
        · have b9 : (a9 == 8) = false := beq_eq_false_iff_ne.2 h9
          go_wp2
          go_ret
          exact ⟨_, rfl, by rw [HE.out, if_neg h9]; exact hs.out, Nat.le_refl _, hg1⟩
end Go.Proofs.Ytoalnkhedebpbaa

/-! wattlelaw14.Filled: what it answers. -/
namespace Go.Proofs.Ytoalnkhedebpbaa
open Go.RowKit

/-- What stands at a place of a bench that is filled. -/
def rowG (L D C : Int) (l : List Int) (r d : Nat) : List UInt8 := (fillR L D C r (sectsF (rowL l r) (D - (L - 4)).toNat)).getD d []
theorem sectsF_len (l : List Int) (n : Nat) : ∀ i, i < (sectsF l n).length → ((sectsF l n).getD i []).length = 32 := fun i hi => by
  rw [sectsF_length] at hi
  rw [sectsF_get l hi]
  exact secF_length _
def filledM (L D C : Int) (n : Nat) (l : List Int) : BM := stdM n (fstage (fun _ => D.toNat) (rowG L D C l) 16 0)
theorem RowsAt.at {w : World} {b off n cap : Nat} {ls : List (List UInt8)} (h : RowsAt w (.slice (some ⟨b, off, none⟩) n cap) ls) {i : Nat} (hi : i < ls.length) : ∃ a k c, w.cell? ⟨b, off + i, none⟩ = some (.slice a k c) ∧ BytesAt w (.slice a k c) (ls.getD i []) := by
  rcases h.cases with ⟨h0, _⟩ | ⟨b', off', c', us, e, _, _, _, hc, hb⟩
  · rw [h0] at hi; simp at hi
  · injection e with e1 e2 e3
    injection e1 with e1
    injection e1 with e1 e4 e5
    subst e1; subst e4
    obtain ⟨a, k, c, hs⟩ := (hb i hi).sl
    exact ⟨a, k, c, by rw [hc i hi, hs], hs ▸ hb i hi⟩
theorem RowsAt.some {w : World} {v : Value} {ls : List (List UInt8)} (h : RowsAt w v ls) (h0 : 0 < ls.length) : ∃ b off cap, v = .slice (some ⟨b, off, none⟩) ls.length cap := by
  rcases h.cases with ⟨h1, _⟩ | ⟨b, off, c, us, e, _⟩
  · rw [h1] at h0; simp at h0
  · exact ⟨b, off, c, e⟩
set_option maxRecDepth 100000 in
set_option maxHeartbeats 4000000 in
theorem filled14_any (L D C : Int) (n : Nat) (l : List Int) (v : Value) (w : World) (h : goodG L D C = true) (hn : D ≤ n) (hn8 : n ≤ 8) (hv : IntsIn w v l) :
    Calls Try.prog 22 #[gv L D C, .int .i64 n, v] w fun e w' => ∃ bb F, e = .returned (bp bb) ∧ BenchAt w' F bb (filledM L D C n l) ∧ (∀ k, F k → w.heap.size ≤ k) ∧ Gr w w' := by
  obtain ⟨hL1, hL2, hD1, hD2, hC1, hC2, hw⟩ := goodG_bds h
  have HG := Lib.hid h; clear h
  obtain ⟨DN, hDN⟩ : ∃ DN : Nat, D = DN := ⟨D.toNat, by omega⟩
  subst hDN
  obtain ⟨W, hW⟩ : ∃ W : Nat, (DN : Int) - (L - 4) = W := ⟨((DN : Int) - (L - 4)).toNat, by omega⟩
  have hW8 : W ≤ 8 := by omega
  have HV := Lib.hid hv
  obtain ⟨a, cap, rfl, hlc, hcm, hcells⟩ := hv
  clear hcells
  obtain ⟨m, hm⟩ : ∃ m, m = l.length := ⟨_, rfl⟩
  rw [← hm] at hlc HV ⊢
  have HM := Lib.hid hm; clear hm
  have hmc : (m : Int) ≤ (cap : Int) := by omega
  have hcap : (cap : Int) ≤ 9223372036854775807 := by unfold maxLen at hcm; omega
  clear hlc hcm
  obtain ⟨G, hG⟩ : ∃ G, G = rowG L DN C l := ⟨_, rfl⟩
  have HFM : Hid (filledM L DN C n l = stdM n (fstage (fun _ => DN) G 16 0)) := Lib.hid (by rw [hG]; rfl)
  have HGD : Hid (∀ r d, G r d = (fillR L DN C r (sectsF (rowL l r) W)).getD d []) := Lib.hid (fun r d => by rw [hG]; unfold rowG; rw [show ((DN : Int) - (L - 4)).toNat = W from by omega])
  clear hG
  rw [HFM.out]
  clear HFM
  have hD1' : DN ≤ n := by omega
  go_enter Try.func22, Try.ntmps22
  go_wp2_with fail
  refine (bnew_any n _ (by omega) hn8).mono ?_
  rintro e w1 ⟨rfl, ⟨F0, hb0, hF0⟩, hg1⟩
  have hgb0 := hg1.get (heap_alloc_new w (.cells #[.int .i64 L, .int .i64 DN, .int .i64 C] 23))
  have HGB := Lib.hid hgb0; clear hgb0
  have hws : w.heap.size < w1.heap.size := heap_lt HGB.out
  have hF1 : ∀ k, F0 k → w.heap.size < k := fun k hk => by have := hF0 k hk; simp at this; omega
  rw [stdM_zero, ← fstage_zero (fun _ => DN) G] at hb0
  have hgw : Gr w w1 := (Gr.alloc w _).trans hg1
  have HB := Lib.hid hb0; clear hb0
  have HF := Lib.hid hF1; clear hF1 hF0 hg1
  have hbn : (w.alloc (.cells #[.int .i64 L, .int .i64 DN, .int .i64 C] 23)).heap.size = w.heap.size + 1 := by simp
  rw [hbn] at HB
  clear hbn
  go_wp2_with fail
  go_loopw [9] (fun i wr => ∃ (r : Nat) (F : Nat → Prop), r ≤ 16 ∧ i = .int .i64 r ∧ Hid (BenchAt wr F (w.heap.size + 1) (stdM n (fstage (fun _ => DN) G r 0))) ∧ Hid (∀ k, F k → w.heap.size < k) ∧ Hid (wr.heap[w.heap.size]? = some (.cells #[.int .i64 L, .int .i64 DN, .int .i64 C] 23)) ∧ Gr w wr) (fun i _ => 16 - (intOf i).toNat)
  case atStart => exact ⟨0, F0, by omega, rfl, HB, HF, HGB, hgw⟩
  case round =>
    obtain ⟨r, F, hr, rfl, hb, hF, hgb, hgr⟩ := hrel
    by_cases hlt : r < 16
    · obtain ⟨c0, c1, c2⟩ := box3 hgb.out
      obtain ⟨j, hj⟩ : ∃ j, j = min r m := ⟨_, rfl⟩
      have hmin : (if m < r then (m : Int) else (r : Int)) = (j : Int) := by split <;> omega
      have h0 : (0 : Int) ≤ (j : Int) := by omega
      have h1 : (j : Int) ≤ (m : Int) := by omega
      have htl := HV.out.tail HM.out r
      rw [← hj] at htl
      unfold tailV at htl
      clear hj
      go_wp2_with fail
      by_cases hcj : cap = j
      case' pos =>
        obtain rfl : j = cap := hcj.symm
        rw [if_pos rfl, Nat.sub_self] at htl
        have HT := Lib.hid htl; clear htl hcj
        have g0 := hgr
        go_region_held3 (fun wx : World => wx.cell? ⟨w.heap.size, 0, none⟩ = some (.int .i64 L) ∧ wx.cell? ⟨w.heap.size, 1, none⟩ = some (.int .i64 (DN : Int)) ∧ wx.cell? ⟨w.heap.size, 2, none⟩ = some (.int .i64 C)) (first | exact ⟨c0, c1, c2⟩ | exact ⟨d0, d1, d2⟩ | exact ⟨x0, x1, x2⟩ | exact ⟨y0, y1, y2⟩) (first | (go_at_call 54; refine (rwidth_good L DN C _ HG.out).mono ?_; rintro e w4 ⟨rfl, hg4⟩; rw [hW]; have g4 := (Gr.drew wr).trans hg4; have d0 := g4.cell c0; have d1 := g4.cell c1; have d2 := g4.cell c2) | (go_at_call 53; refine (sects_any (rowL l r) W _ _ (HT.out.gr (g0.trans g4)) hW8).mono ?_; rintro e w5 ⟨x, rfl, hx, hg5⟩; have x0 := hg5.cell d0; have x1 := hg5.cell d1; have x2 := hg5.cell d2; have HX := Lib.hid hx; clear hx) | (go_at_call 41; refine (rfill_good L DN C r (sectsF (rowL l r) W) _ _ HG.out (by omega) (by omega) HX.out (by rw [sectsF_length]; omega) (sectsF_len _ _)).mono ?_; rintro e w6 ⟨y, rfl, hy, hg6⟩; have y0 := hg6.cell x0; have y1 := hg6.cell x1; have y2 := hg6.cell x2; have HY := Lib.hid hy; clear hy))
      case' neg =>
        rw [if_neg hcj] at htl
        have HT := Lib.hid htl; clear htl
        have g0 := hgr
        go_region_held3 (fun wx : World => wx.cell? ⟨w.heap.size, 0, none⟩ = some (.int .i64 L) ∧ wx.cell? ⟨w.heap.size, 1, none⟩ = some (.int .i64 (DN : Int)) ∧ wx.cell? ⟨w.heap.size, 2, none⟩ = some (.int .i64 C)) (first | exact ⟨c0, c1, c2⟩ | exact ⟨d0, d1, d2⟩ | exact ⟨x0, x1, x2⟩ | exact ⟨y0, y1, y2⟩) (first | (go_at_call 54; refine (rwidth_good L DN C _ HG.out).mono ?_; rintro e w4 ⟨rfl, hg4⟩; rw [hW]; have g4 := (Gr.drew wr).trans hg4; have d0 := g4.cell c0; have d1 := g4.cell c1; have d2 := g4.cell c2) | (go_at_call 53; refine (sects_any (rowL l r) W _ _ (HT.out.gr (g0.trans g4)) hW8).mono ?_; rintro e w5 ⟨x, rfl, hx, hg5⟩; have x0 := hg5.cell d0; have x1 := hg5.cell d1; have x2 := hg5.cell d2; have HX := Lib.hid hx; clear hx) | (go_at_call 41; refine (rfill_good L DN C r (sectsF (rowL l r) W) _ _ HG.out (by omega) (by omega) HX.out (by rw [sectsF_length]; omega) (sectsF_len _ _)).mono ?_; rintro e w6 ⟨y, rfl, hy, hg6⟩; have y0 := hg6.cell x0; have y1 := hg6.cell x1; have y2 := hg6.cell x2; have HY := Lib.hid hy; clear hy))
      all_goals
        have hlen : (fillR L DN C r (sectsF (rowL l r) W)).length = DN := by rw [fillR_length]; omega
        obtain ⟨yb, yo, yc, rfl⟩ := HY.out.some (by omega)
        have hsec : ∀ d, d < DN → (G r d).length = 32 := fun d hd => by
          rw [HGD.out]
          exact fillR_sec HG.out _ (by rw [sectsF_length]; omega) (sectsF_len _ _) (by omega)
        rw [hlen] at HY ⊢
        have HLEN := Lib.hid hlen; clear hlen
        have HSEC := Lib.hid hsec; clear hsec
        have g6 : Gr wr w6 := (g4.trans hg5).trans hg6
        have hb6 := Lib.hid (hb.out.gr g6)
        have hgb6 := Lib.hid (g6.get hgb.out)
        have hgr6 := hgr.trans g6
        clear c0 c1 c2 d0 d1 d2 x0 x1 x2 y0 y1 y2 HX HT hb hgb hgr hg4 hg5 hg6 g4 g6 g0
        go_wp2_with fail
        obtain ⟨wo, rfl⟩ : ∃ wo : World, wo = wr := ⟨_, rfl⟩
        go_loopw [12] (fun i wi => ∃ (d : Nat) (F : Nat → Prop), d ≤ DN ∧ i = .int .i64 d ∧ Hid (BenchAt wi F (w.heap.size + 1) (stdM n (fstage (fun _ => DN) G r d))) ∧ Hid (∀ k, F k → w.heap.size < k) ∧ Hid (wi.heap[w.heap.size]? = some (.cells #[.int .i64 L, .int .i64 DN, .int .i64 C] 23)) ∧ Hid (RowsAt wi (.slice (some ⟨yb, yo, none⟩) DN yc) (fillR L DN C r (sectsF (rowL l r) W))) ∧ Gr w wi) (fun i _ => DN - (intOf i).toNat)
        case atStart => exact ⟨0, F, by omega, rfl, hb6, hF, hgb6, HY, hgr6⟩
        case round =>
          obtain ⟨d, F2, hd, rfl, hb2, hF2, hgb2, hy2, hgr2⟩ := hrel
          by_cases hdlt : d < DN
          · obtain ⟨a3, k3, c3, cy, hby⟩ := hy2.out.at (i := d) (by rw [HLEN.out]; exact hdlt)
            rw [← HGD.out] at hby
            have HBY := Lib.hid hby; clear hby
            have hdn : d < n := by omega
            go_wp2_with fail
            have e36 : (36 : Int) + (r : Int) = ((36 + r : Nat) : Int) := by omega
            rw [e36]; clear e36
            refine (bdamage_ok (stdM n (fstage (fun _ => DN) G r d)) F2 (w.heap.size + 1) d (36 + r) (G r d) _ _ hb2.out (by rw [stdM_len]; exact hdn) (by rw [stdM_d _ hdn]) (by rw [stdM_d _ hdn]; unfold mayF; simp; omega) HBY.out (HSEC.out d hdlt)).mono ?_
            rintro e w8 ⟨rfl, F3, hb3, st3⟩
            rw [stdM_set _ _ _ hdn, fstage_step (Dn := fun _ => DN) hdlt] at hb3
            have hlw := heap_lt hgb2.out
            have hF3 : ∀ k, F3 k → w.heap.size < k := fun k hk => by
              rcases st3.2 k hk with e | e
              · exact hF2.out k e
              · omega
            have hgb3 := Lib.hid ((st3.1.block w.heap.size hlw (fun e => by have := hF2.out _ e; omega)).trans hgb2.out)
            have hy3 := Lib.hid (hy2.out.st hb2.out st3)
            have hgr3 : Gr w w8 := (st3.since hgr2 (fun k hk => Nat.le_of_lt (hF2.out k hk))).1
            have HB3 := Lib.hid hb3; clear hb3 st3
            have HF3 := Lib.hid hF3; clear hF3
            go_wp2
            go_roundw
            case rel => exact ⟨d + 1, F3, by omega, by go_num, HB3, HF3, hgb3, hy3, hgr3⟩
            case measure => simp [intOf]; omega
          · obtain rfl : d = DN := by omega
            have hb4 : Hid (BenchAt wr F2 (w.heap.size + 1) (stdM n (fstage (fun _ => d) G (r + 1) 0))) := Lib.hid (by rw [← fstage_next (fun _ => d) G r]; exact hb2.out)
            go_wp2
            go_roundw
            case rel => exact ⟨r + 1, F2, by omega, by go_num, hb4, hF2, hgb2, hgr2⟩
            case measure => simp [intOf]; omega
    · obtain rfl : r = 16 := by omega
      go_wp2
      go_ret
      exact ⟨_, F, rfl, hb.out, fun k hk => Nat.le_of_lt (hF.out k hk), hgr⟩
end Go.Proofs.Ytoalnkhedebpbaa

/-! wattlelaw14.wakes: it answers true; rows of noughts. -/
namespace Go.Proofs.Ytoalnkhedebpbaa
open Go.RowKit

theorem bsum_zero (f : Nat → UInt8) : ∀ n, bsum f (fun _ => 0) n = 0
  | 0 => rfl
  | n + 1 => by
    show bsum f (fun _ => 0) n ^^^ gmul 0 (f n) = 0
    rw [bsum_zero f n, gmul_zero_left]; rfl
def zdata (n : Nat) : List (List UInt8) := List.replicate n (zeros 32)
theorem zdata_len (n : Nat) : (zdata n).length = n := by simp [zdata]
theorem zdata_get {n i : Nat} (h : i < n) : (zdata n).getD i [] = zeros 32 := by simp [zdata, h]
theorem zdata_sec (n : Nat) : ∀ i, i < (zdata n).length → ((zdata n).getD i []).length = 32 := fun i hi => by
  rw [zdata_len] at hi
  rw [zdata_get hi, zeros_length]
theorem zero_sum (f : Nat → UInt8) (n : Nat) (h : 0 < n) : sumTo f (zdata n) (zdata n).length = zeros 32 := by
  refine getD_ext ?_ (fun j hj => ?_)
  · rw [sumTo_length, zdata_get h]
  · rw [sumTo_length, zdata_get h, zeros_length] at hj
    rw [sumTo_get f _ n j (fun k hk => by rw [zdata_get hk, zeros_length]) (by rw [zdata_get h, zeros_length]) hj _ (by rw [zdata_len]; exact Nat.le_refl _), zdata_len, zeros_get]
    rw [bsum_congr f (y := fun _ => 0) _ (fun k hk => by show ((zdata n).getD k []).getD j 0 = 0; rw [zdata_get hk, zeros_get])]
    exact bsum_zero f n
theorem zero_fill {L D C : Int} (h : goodG L D C = true) (r : Int) {d : Nat} (hd : (d : Int) < D) : (fillR L D C r (zdata (D - (L - 4)).toNat)).getD d [] = zeros 32 := by
  obtain ⟨hL1, hL2, hD1, hD2, hC1, hC2, hw⟩ := goodG_bds h
  rcases dsk_surj h r (d := d) (by omega) hd with e | ⟨h6, e⟩ | ⟨k, hk, e⟩
  · rw [show d = (parP D C r).toNat from by omega, fillR_P h]; exact zero_sum _ _ (by omega)
  · rw [show d = (parQ L D C r).toNat from by omega, fillR_Q h r _ h6]; exact zero_sum _ _ (by omega)
  · rw [show d = (dskOf L D C r k).toNat from by omega, fillR_data h r (by rw [zdata_len]; omega) hk, zdata_get (by omega)]
/-- A row of a bench that has noughts alone. -/
theorem zero_row {L D C : Int} (h : goodG L D C = true) {n : Nat} (hn : D ≤ n) (l : List Bool) (r : Nat) : OnDisks (stdM n (fun _ _ => zeros 32)) l L D C r (zdata (D - (L - 4)).toNat) := by
  obtain ⟨hL1, hL2, hD1, hD2, hC1, hC2, hw⟩ := goodG_bds h
  refine ⟨by rw [zdata_len]; omega, zdata_sec _, fun d hd _ => ?_⟩
  rw [zero_fill h r hd, stdM_d _ (by omega), rd_none rfl]
theorem make32 (w : World) : (Instr.makeSlice 43 (.int .i64 32) (.int .i64 32)).run Try.prog w = .ok (.slice (some ⟨w.heap.size, 0, none⟩) 32 32) (w.alloc (.cells (zrow (.int .u8 0) 32) 5)) := by
  kernel_rfl
theorem stdM_calm (n : Nat) (f : Nat → Nat → List UInt8) : Calm (stdM n f) := fun j => by
  by_cases h : j < n
  · rw [stdM_d _ h]; simp
  · simp [stdM, BM.d, h, dm0]
theorem stdM_up {n : Nat} {f : Nat → Nat → List UInt8} {l : List Bool} {d : Nat} (h : d < n) : upF (stdM n f) l d = (decide (d < l.length) && l.getD d false) := by
  unfold upF
  rw [stdM_len, stdM_d _ h, decide_eq_true h]
  simp
set_option maxRecDepth 100000 in
set_option maxHeartbeats 2000000 in
theorem wakes14 (w : World) :
    Calls Try.prog 31 #[] w fun e w' => e = .returned (.bool true) ∧ Gr w w' := by
  have hmk := make32
  go_enter Try.func31, Try.ntmps31
  go_wp2_with fail
  refine (bnew_any 3 _ (by decide) (by decide)).mono ?_
  rintro e w1 ⟨rfl, ⟨F, hb, hF⟩, hg1⟩
  rw [stdM_zero] at hb
  have HB := Lib.hid hb; clear hb hF
  have HM := Lib.hid hmk; clear hmk
  go_wp2_with fail
  have hbl : BoolsAt (w1.alloc (.cells #[.bool true, .bool true, .bool true] 4)) (.slice (some ⟨w1.heap.size, 0, none⟩) 3 3) [true, true, true] := SlAt.lit (cap := 3) [.bool true, .bool true, .bool true] (heap_alloc_new w1 _) (by decide)
  have hg : goodG 5 3 1 = true := by decide
  have hup : ∀ d, d < 3 → upF (stdM 3 (fun _ _ => zeros 32)) [true, true, true] d = true := fun d hd => by
    rw [stdM_up hd]
    match d, hd with
    | 0, _ => rfl
    | 1, _ => rfl
    | 2, _ => rfl
  have hon := zero_row hg (n := 3) (by decide) [true, true, true] 4
  have hln := lostN_one (m := stdM 3 (fun _ _ => zeros 32)) (l := [true, true, true]) (D := 3) 0 (fun d hd _ => hup d hd)
  have hlost : lostR 5 3 1 (4 : Nat) (seen (stdM 3 (fun _ _ => zeros 32)) [true, true, true] (3 : Int).toNat (36 + 4)) = false := by
    rw [hon.lost hg]
    exact decide_eq_false (by show ¬ (5 - 4 < (lostN _ _ 3 : Int)); omega)
  have htake := hon.take' hg hlost
  have HL := Lib.hid hlost
  have HT := Lib.hid htake
  clear hlost htake hln hon hup
  refine (sread_ok _ [true, true, true] F 5 3 1 4 _ _ _ (HB.out.gr (Gr.alloc _ _)) hbl hg (by decide) rfl (stdM_calm _ _)).mono ?_
  rintro e w2 ⟨x, rfl, hx, -, hg2⟩
  replace hx := hx HL.out
  rw [HL.out, show lostE false = 0 from rfl]
  rw [HT.out] at hx
  clear hbl
  obtain ⟨b, o, c, rfl⟩ := hx.some (by decide)
  obtain ⟨a, k, c2, cx, hbx⟩ := hx.at (i := 0) (by decide)
  have HX := Lib.hid hbx; clear hbx hx
  rw [zdata_get (by decide)] at HX
  rw [Nat.add_zero] at cx
  rw [show (zdata (3 - (5 - 4) : Int).toNat).length = 2 from rfl]
  have hmk := HM.out
  clear HL HT HM
  go_wp2_with fail
  go_region_held3 (fun wx : World => wx.cell? ⟨b, o, none⟩ = some (.slice a k c2)) (first | exact cx | exact (Gr.drew _).cell cx | exact (Gr.alloc _ _).cell ((Gr.drew _).cell cx) | exact y0) (first | (go_at_call 27; refine (same_any (zeros 32) (zeros 32) _ _ _ (HX.out.gr ((Gr.drew _).trans (Gr.alloc _ _))) (BytesAt.zeros (heap_alloc_new _ _) (by decide))).mono ?_; rintro e w4 ⟨rfl, hww⟩; have g4 := ((Gr.drew w2).trans (Gr.alloc _ _)).trans hww; have y0 := g4.cell cx))
  all_goals
    rw [show sameB (zeros 32) (zeros 32) = true from decide_eq_true rfl]
    go_wp2
    go_ret
    exact ⟨rfl, (hg1.trans (Gr.alloc _ _)).trans (hg2.trans g4)⟩
end Go.Proofs.Ytoalnkhedebpbaa
