/- Plainly: a row on the disks, of which some are missing: what is taken is its data, as long as parity makes up for it. -/
import Derived.Test.YtoalnkhedebpbaaRefNum
namespace Go.Proofs.Ytoalnkhedebpbaa

theorem addB_get (x y : List UInt8) {i : Nat} (h : i < x.length) : (addB x y).getD i 0 = x.getD i 0 ^^^ y.getD i 0 := by unfold addB; exact mr_get _ h
theorem scaleB_get (x : List UInt8) (f : UInt8) {i : Nat} (h : i < x.length) : (scaleB x f).getD i 0 = gmul (x.getD i 0) f := by unfold scaleB; exact mr_get _ h
/-- One byte of a sum. -/
def bsum (f : Nat → UInt8) (x : Nat → UInt8) : Nat → UInt8
  | 0 => 0
  | k + 1 => bsum f x k ^^^ gmul (x k) (f k)
theorem sumTo_get (f : Nat → UInt8) (ps : List (List UInt8)) (n i : Nat) (hs : ∀ k, k < n → (ps.getD k []).length = 32) (h0 : (ps.getD 0 []).length = 32) (hi : i < 32) :
    ∀ k, k ≤ n → (sumTo f ps k).getD i 0 = bsum f (fun k => (ps.getD k []).getD i 0) k
  | 0, _ => zeros_get _ _
  | k + 1, hk => by
    have ih := sumTo_get f ps n i hs h0 hi k (by omega)
    have hl : (sumTo f ps k).length = 32 := (sumTo_length f ps k).trans h0
    show (addB (sumTo f ps k) (scaleB (ps.getD k []) (f k))).getD i 0 = bsum f _ k ^^^ _
    rw [addB_get _ _ (by omega), scaleB_get _ _ (by rw [hs k (by omega)]; exact hi), ih]
theorem bsum_congr (f : Nat → UInt8) {x y : Nat → UInt8} : ∀ n, (∀ k, k < n → x k = y k) → bsum f x n = bsum f y n
  | 0, _ => rfl
  | n + 1, h => by
    show bsum f x n ^^^ gmul (x n) (f n) = bsum f y n ^^^ gmul (y n) (f n)
    rw [bsum_congr f n (fun k hk => h k (by omega)), h n (by omega)]
theorem u8_xc (a b c : UInt8) : a ^^^ b ^^^ c = a ^^^ c ^^^ b := by rw [UInt8.xor_assoc, UInt8.xor_comm b c, ← UInt8.xor_assoc]
theorem u8_cancel (a b : UInt8) : a ^^^ b ^^^ b = a := by rw [UInt8.xor_assoc, UInt8.xor_self, UInt8.xor_zero]
theorem bsum_split (f : Nat → UInt8) (x : Nat → UInt8) (j : Nat) : ∀ n, j < n → bsum f x n = bsum f (fun k => if k = j then 0 else x k) n ^^^ gmul (x j) (f j)
  | 0, h => absurd h (by omega)
  | n + 1, h => by
    show bsum f x n ^^^ gmul (x n) (f n) = bsum f _ n ^^^ gmul (if n = j then 0 else x n) (f n) ^^^ gmul (x j) (f j)
    by_cases e : n = j
    · subst e
      rw [if_pos rfl, gmul_zero_left, UInt8.xor_zero]
      congr 1
      exact bsum_congr f n (fun k hk => by rw [if_neg (by omega)])
    · rw [if_neg e, bsum_split f x j n (by omega)]
      exact u8_xc _ _ _
theorem rows_ext {x y : List (List UInt8)} (h : x.length = y.length) (hk : ∀ j, j < x.length → x.getD j [] = y.getD j []) : x = y := by
  apply List.ext_getElem? 
  intro i
  by_cases hi : i < x.length
  · have := hk i hi
    simp only [List.getD_eq_getElem?_getD, List.getElem?_eq_getElem hi, List.getElem?_eq_getElem (h ▸ hi : i < y.length), Option.getD_some] at this
    rw [List.getElem?_eq_getElem hi, List.getElem?_eq_getElem (h ▸ hi : i < y.length), this]
  · rw [List.getElem?_eq_none (by omega), List.getElem?_eq_none (by omega)]
/-- A row of data, of which some is missing. -/
structure Partly (data ps : List (List UInt8)) (p q : List UInt8) : Prop where
  len : ps.length = data.length
  pos : 0 < data.length
  few : data.length ≤ 8
  sec : ∀ k, k < data.length → (data.getD k []).length = 32
  part : ∀ k, k < data.length → ps.getD k [] = [] ∨ ps.getD k [] = data.getD k []
  par : p = [] ∨ p = sumTo ones data data.length
  qar : q = [] ∨ q = sumTo gpow data data.length
theorem Partly.sumlen {data ps : List (List UInt8)} {p q : List UInt8} (h : Partly data ps p q) (f : Nat → UInt8) (k : Nat) : (sumTo f data k).length = 32 := (sumTo_length f data k).trans (h.sec 0 h.pos)
theorem Partly.fill {data ps : List (List UInt8)} {p q : List UInt8} (h : Partly data ps p q) {k : Nat} (hk : k < data.length) : (ps.map (fillZ 32)).getD k [] = if (ps.getD k []).length = 0 then zeros 32 else data.getD k [] := by
  have e : (ps.map (fillZ 32)).getD k [] = fillZ 32 (ps.getD k []) := by simp [h.len, hk]
  rw [e]
  unfold fillZ
  by_cases h0 : (ps.getD k []).length = 0
  · rw [if_pos h0, if_pos h0]
  · rw [if_neg h0, if_neg h0]
    rcases h.part k hk with e2 | e2
    · rw [e2] at h0; simp at h0
    · exact e2
theorem Partly.filllen {data ps : List (List UInt8)} {p q : List UInt8} (h : Partly data ps p q) {k : Nat} (hk : k < data.length) : ((ps.map (fillZ 32)).getD k []).length = 32 := by
  rw [h.fill hk]
  split
  · exact zeros_length 32
  · exact h.sec k hk
theorem Partly.fillsum {data ps : List (List UInt8)} {p q : List UInt8} (h : Partly data ps p q) (f : Nat → UInt8) {i : Nat} (hi : i < 32) :
    (sumTo f (ps.map (fillZ 32)) (ps.map (fillZ 32)).length).getD i 0 = bsum f (fun k => if (ps.getD k []).length = 0 then 0 else (data.getD k []).getD i 0) data.length := by
  have hl : (ps.map (fillZ 32)).length = data.length := by rw [List.length_map, h.len]
  rw [hl, sumTo_get f _ data.length i (fun k hk => h.filllen hk) (h.filllen h.pos) hi _ (Nat.le_refl _)]
  refine bsum_congr f _ (fun k hk => ?_)
  rw [h.fill hk]
  split
  · exact zeros_get _ _
  · rfl
theorem Partly.datasum {data ps : List (List UInt8)} {p q : List UInt8} (h : Partly data ps p q) (f : Nat → UInt8) {i : Nat} (hi : i < 32) :
    (sumTo f data data.length).getD i 0 = bsum f (fun k => (data.getD k []).getD i 0) data.length :=
  sumTo_get f _ data.length i h.sec (h.sec 0 h.pos) hi _ (Nat.le_refl _)
/-- What the sums of data and of what is there part in. -/
theorem Partly.one {data ps : List (List UInt8)} {p q : List UInt8} (h : Partly data ps p q) (f : Nat → UInt8) {i j : Nat} (hi : i < 32) (hj : j < data.length) (hg : ∀ k, k < data.length → ((ps.getD k []).length = 0 ↔ k = j)) :
    (sumTo f data data.length).getD i 0 ^^^ (sumTo f (ps.map (fillZ 32)) (ps.map (fillZ 32)).length).getD i 0 = gmul ((data.getD j []).getD i 0) (f j) := by
  rw [h.datasum f hi, h.fillsum f hi, bsum_split f _ j _ hj]
  rw [bsum_congr f (x := fun k => if (ps.getD k []).length = 0 then 0 else (data.getD k []).getD i 0) (y := fun k => if k = j then 0 else (data.getD k []).getD i 0) _ (fun k hk => by simp only [hg k hk])]
  rw [UInt8.xor_comm, ← UInt8.xor_assoc, UInt8.xor_self, UInt8.zero_xor]
theorem Partly.two {data ps : List (List UInt8)} {p q : List UInt8} (h : Partly data ps p q) (f : Nat → UInt8) {i j k : Nat} (hi : i < 32) (hj : j < data.length) (hk : k < data.length) (hne : j ≠ k) (hg : ∀ m, m < data.length → ((ps.getD m []).length = 0 ↔ m = j ∨ m = k)) :
    (sumTo f data data.length).getD i 0 ^^^ (sumTo f (ps.map (fillZ 32)) (ps.map (fillZ 32)).length).getD i 0 = gmul ((data.getD j []).getD i 0) (f j) ^^^ gmul ((data.getD k []).getD i 0) (f k) := by
  rw [h.datasum f hi, h.fillsum f hi, bsum_split f _ j _ hj, bsum_split f (fun m => if m = j then 0 else (data.getD m []).getD i 0) k _ hk]
  rw [bsum_congr f (x := fun m => if (ps.getD m []).length = 0 then 0 else (data.getD m []).getD i 0) (y := fun m => if m = k then 0 else if m = j then 0 else (data.getD m []).getD i 0) _ (fun m hm => by
    by_cases e1 : m = j
    · subst e1; rw [if_pos ((hg m hm).2 (.inl rfl)), if_neg hne, if_pos rfl]
    · by_cases e2 : m = k
      · subst e2; rw [if_pos ((hg m hm).2 (.inr rfl)), if_pos rfl]
      · rw [if_neg (fun e => by rcases (hg m hm).1 e with e | e <;> contradiction), if_neg e2, if_neg e1])]
  rw [if_neg (Ne.symm hne)]
  generalize bsum f _ data.length = s
  generalize gmul ((data.getD k []).getD i 0) (f k) = a
  generalize gmul ((data.getD j []).getD i 0) (f j) = b
  rw [UInt8.xor_assoc s a b, UInt8.xor_comm s, UInt8.xor_assoc, UInt8.xor_self, UInt8.xor_zero, UInt8.xor_comm]
theorem solve_plain {data ps : List (List UInt8)} {p q : List UInt8} (h : Partly data ps p q) (hl : lostF p q ps = false) : solvedF p q ps = data := by
  have hlen : (solvedF p q ps).length = data.length := lostF_solved.trans h.len
  have hml : (ps.map (fillZ 32)).length = data.length := by rw [List.length_map, h.len]
  unfold lostF at hl
  have hl' : (goneTo ps ps.length).length + (goneTo [p, q] 2).length ≤ 2 := by simpa using hl
  clear hl
  have hmem : ∀ k, k ∈ goneTo ps ps.length ↔ k < data.length ∧ (ps.getD k []).length = 0 := fun k => by rw [goneTo_mem, h.len]
  have hnd := goneTo_nodup ps ps.length
  refine rows_ext hlen (fun i hi => ?_)
  rw [hlen] at hi
  unfold solvedF
  simp only
  split
  · rename_i j k hgo
    rw [hgo] at hmem hnd hl'
    have hne : j ≠ k := by simpa using hnd
    have hj := ((hmem j).1 (by simp)).1
    have hk := ((hmem k).1 (by simp)).1
    have hg : ∀ m, m < data.length → ((ps.getD m []).length = 0 ↔ m = j ∨ m = k) := fun m hm => by
      have := hmem m
      simp at this
      constructor
      · intro e; exact this.2 ⟨hm, by simpa using e⟩
      · intro e; simpa using (this.1 e).2
    have h0 : (goneTo [p, q] 2).length = 0 := by simp at hl'; omega
    have hno : ∀ m, m ∉ goneTo [p, q] 2 := fun m hm => by rw [List.eq_nil_of_length_eq_zero h0] at hm; simp at hm
    have hp : p = sumTo ones data data.length := by
      rcases h.par with e | e
      · exact absurd (goneTo_mem.2 ⟨by omega, by rw [e]; rfl⟩ : 0 ∈ goneTo [p, q] 2) (hno 0)
      · exact e
    have hq : q = sumTo gpow data data.length := by
      rcases h.qar with e | e
      · exact absurd (goneTo_mem.2 ⟨by omega, by rw [e]; rfl⟩ : 1 ∈ goneTo [p, q] 2) (hno 1)
      · exact e
    have hpl := h.sumlen ones data.length
    have hql := h.sumlen gpow data.length
    rw [← hp] at hpl
    rw [← hq] at hql
    have hX : twoX p q (ps.map (fillZ 32)) j k = data.getD j [] := by
      unfold twoX
      refine getD_ext (by rw [scaleB_length, addB_length, addB_length, hql, h.sec j hj]) (fun b hb => ?_)
      rw [scaleB_length, addB_length, addB_length, hql] at hb
      rw [scaleB_get _ _ (by rw [addB_length, addB_length]; omega), addB_get _ _ (by rw [addB_length]; omega), addB_get _ _ (by omega), scaleB_get _ _ (by rw [addB_length]; omega), addB_get _ _ (by omega), hp, hq, h.two ones hb hj hk hne hg, h.two gpow hb hj hk hne hg]
      show gmul (gmul _ (gpow j) ^^^ gmul _ (gpow k) ^^^ gmul (gmul _ 1 ^^^ gmul _ 1) (gpow k)) _ = _
      rw [gmul_one, gmul_one, gmul_xor_left ((data.getD j []).getD b 0) ((data.getD k []).getD b 0) (gpow k), UInt8.xor_assoc, UInt8.xor_comm (gmul ((data.getD j []).getD b 0) (gpow k)), ← UInt8.xor_assoc (gmul ((data.getD k []).getD b 0) (gpow k)), UInt8.xor_self, UInt8.zero_xor, ← gmul_xor_right]
      exact inv_two (by have := h.few; omega) (by have := h.few; omega) hne _
    have hY : twoY p q (ps.map (fillZ 32)) j k = data.getD k [] := by
      unfold twoY
      rw [hX]
      refine getD_ext (by rw [addB_length, addB_length, hpl, h.sec k hk]) (fun b hb => ?_)
      rw [addB_length, addB_length, hpl] at hb
      rw [addB_get _ _ (by rw [addB_length]; omega), addB_get _ _ (by omega), hp, h.two ones hb hj hk hne hg]
      show gmul _ 1 ^^^ gmul _ 1 ^^^ _ = _
      rw [gmul_one, gmul_one, UInt8.xor_comm ((data.getD j []).getD b 0), u8_cancel]
    rw [hX, hY]
    by_cases e2 : i = k
    · subst e2; rw [getD_set_self (by rw [List.length_set, hml]; exact hi)]
    · rw [getD_set_ne (Ne.symm e2)]
      by_cases e1 : i = j
      · subst e1; rw [getD_set_self (by rw [hml]; exact hi)]
      · rw [getD_set_ne (Ne.symm e1), h.fill hi, if_neg (fun e => by rcases (hg i hi).1 e with e | e <;> contradiction)]
  · rename_i j hgo
    rw [hgo] at hmem hl'
    have hj := ((hmem j).1 (by simp)).1
    have hg : ∀ m, m < data.length → ((ps.getD m []).length = 0 ↔ m = j) := fun m hm => by
      have := hmem m
      simp at this
      constructor
      · intro e; exact this.2 ⟨hm, by simpa using e⟩
      · intro e; simpa using (this.1 e).2
    have hX : (if 0 < p.length then (ps.map (fillZ 32)).set j (addB p (sumTo ones (ps.map (fillZ 32)) (ps.map (fillZ 32)).length)) else (ps.map (fillZ 32)).set j (byQF q (ps.map (fillZ 32)) j)) = (ps.map (fillZ 32)).set j (data.getD j []) := by
      by_cases hp0 : 0 < p.length
      · rw [if_pos hp0]
        have hp : p = sumTo ones data data.length := by
          rcases h.par with e | e
          · rw [e] at hp0; simp at hp0
          · exact e
        have hpl := h.sumlen ones data.length
        rw [← hp] at hpl
        congr 1
        refine getD_ext (by rw [addB_length, hpl, h.sec j hj]) (fun b hb => ?_)
        rw [addB_length, hpl] at hb
        rw [addB_get _ _ (by omega), hp, h.one ones hb hj hg]
        exact gmul_one _
      · rw [if_neg hp0]
        have hp : p.length = 0 := by omega
        have hq : q = sumTo gpow data data.length := by
          rcases h.qar with e | e
          · exfalso
            have a0 : 0 ∈ goneTo [p, q] 2 := goneTo_mem.2 ⟨by omega, hp⟩
            have a1 : 1 ∈ goneTo [p, q] 2 := goneTo_mem.2 ⟨by omega, by rw [e]; rfl⟩
            have : 2 ≤ (goneTo [p, q] 2).length := by
              rcases hh : goneTo [p, q] 2 with _ | ⟨x, _ | ⟨y, r⟩⟩
              · rw [hh] at a0; simp at a0
              · rw [hh] at a0 a1; simp at a0 a1; omega
              · simp
            simp at hl'; omega
          · exact e
        have hql := h.sumlen gpow data.length
        rw [← hq] at hql
        congr 1
        unfold byQF
        refine getD_ext (by rw [scaleB_length, addB_length, hql, h.sec j hj]) (fun b hb => ?_)
        rw [scaleB_length, addB_length, hql] at hb
        rw [scaleB_get _ _ (by rw [addB_length]; omega), addB_get _ _ (by omega), hq, h.one gpow hb hj hg]
        exact inv_pow (by have := h.few; omega) _
    rw [hX]
    by_cases e1 : i = j
    · subst e1; rw [getD_set_self (by rw [hml]; exact hi)]
    · rw [getD_set_ne (Ne.symm e1), h.fill hi, if_neg (fun e => e1 ((hg i hi).1 e))]
  · rename_i hn2 hn1
    rw [h.fill hi, if_neg (fun e => ?_)]
    have := (hmem i).2 ⟨hi, e⟩
    rcases hh : goneTo ps ps.length with _ | ⟨x, _ | ⟨y, _ | ⟨z, r⟩⟩⟩
    · rw [hh] at this; simp at this
    · exact hn1 x hh
    · exact hn2 x y hh
    · rw [hh] at hl'; simp at hl'; omega
theorem d_cases {D : Int} (h : 3 ≤ D) (h' : D ≤ 8) : D = 3 ∨ D = 4 ∨ D = 5 ∨ D = 6 ∨ D = 7 ∨ D = 8 := by omega
theorem rot_inj {D p j k : Int} (h3 : 3 ≤ D) (h8 : D ≤ 8) (hj : 0 ≤ j) (hj' : j < D) (hk : 0 ≤ k) (hk' : k < D) (h : (p + j) % D = (p + k) % D) : j = k := by
  rcases d_cases h3 h8 with rfl | rfl | rfl | rfl | rfl | rfl <;> omega
theorem rot_surj {D p d : Int} (hp : 0 ≤ p) (hp' : p < D) (hd : 0 ≤ d) (hd' : d < D) : ∃ j : Nat, (j : Int) < D ∧ (p + j) % D = d := by
  refine ⟨(if p ≤ d then d - p else d - p + D).toNat, ?_, ?_⟩
  · split <;> omega
  · split
    · rw [show p + ((d - p).toNat : Int) = d from by omega]; exact Int.emod_eq_of_lt hd hd'
    · rw [show p + ((d - p + D).toNat : Int) = d + D * 1 from by omega, Int.add_mul_emod_self_left]; exact Int.emod_eq_of_lt hd hd'
theorem rot_zero {D p : Int} (hp : 0 ≤ p) (hp' : p < D) : (p + 0) % D = p := by rw [Int.add_zero]; exact Int.emod_eq_of_lt hp hp'
theorem dskOf_rot (L D C r k : Int) : dskOf L D C r k = (parP D C r + (L - 4 + k)) % D := by unfold dskOf; rw [Int.add_assoc]
theorem dsk_inj {L D C : Int} (h : goodG L D C = true) (r : Int) {j k : Nat} (hj : (j : Int) < D - (L - 4)) (hk : (k : Int) < D - (L - 4)) (e : dskOf L D C r j = dskOf L D C r k) : j = k := by
  obtain ⟨hL1, hL2, hD1, hD2, hC1, hC2, hw⟩ := goodG_bds h
  obtain ⟨p0, p1⟩ := parP_range (D := D) (C := C) (r := r) (by omega)
  rw [dskOf_rot, dskOf_rot] at e
  have := rot_inj hD1 hD2 (by omega) (by omega) (by omega) (by omega) e
  omega
theorem dsk_ne_p {L D C : Int} (h : goodG L D C = true) (r : Int) {j : Nat} (hj : (j : Int) < D - (L - 4)) : dskOf L D C r j ≠ parP D C r := by
  obtain ⟨hL1, hL2, hD1, hD2, hC1, hC2, hw⟩ := goodG_bds h
  obtain ⟨p0, p1⟩ := parP_range (D := D) (C := C) (r := r) (by omega)
  intro e
  rw [dskOf_rot, ← rot_zero p0 p1, rot_zero p0 p1] at e
  have := rot_inj hD1 hD2 (by omega) (by omega) (Int.le_refl 0) (by omega) (e.trans (rot_zero p0 p1).symm)
  omega
theorem parQ_rot {L : Int} (h6 : L ≠ 5) (D C r : Int) : parQ L D C r = (parP D C r + 1) % D := by unfold parQ; rw [if_neg h6]
theorem dsk_ne_q {L D C : Int} (h : goodG L D C = true) (r : Int) (h6 : L ≠ 5) {j : Nat} (hj : (j : Int) < D - (L - 4)) : dskOf L D C r j ≠ parQ L D C r := by
  obtain ⟨hL1, hL2, hD1, hD2, hC1, hC2, hw⟩ := goodG_bds h
  obtain ⟨p0, p1⟩ := parP_range (D := D) (C := C) (r := r) (by omega)
  intro e
  rw [dskOf_rot, parQ_rot h6] at e
  have := rot_inj hD1 hD2 (by omega) (by omega) (by omega) (by omega) e
  omega
theorem q_ne_p {L D C : Int} (h : goodG L D C = true) (r : Int) (h6 : L ≠ 5) : parQ L D C r ≠ parP D C r := by
  obtain ⟨hL1, hL2, hD1, hD2, hC1, hC2, hw⟩ := goodG_bds h
  obtain ⟨p0, p1⟩ := parP_range (D := D) (C := C) (r := r) (by omega)
  intro e
  rw [parQ_rot h6] at e
  have := rot_inj hD1 hD2 (by omega) (by omega) (Int.le_refl 0) (by omega) (e.trans (rot_zero p0 p1).symm)
  omega
/-- Each disk of a row has data, P or Q. -/
theorem dsk_surj {L D C : Int} (h : goodG L D C = true) (r : Int) {d : Int} (hd : 0 ≤ d) (hd' : d < D) : d = parP D C r ∨ (L ≠ 5 ∧ d = parQ L D C r) ∨ ∃ k : Nat, (k : Int) < D - (L - 4) ∧ d = dskOf L D C r k := by
  obtain ⟨hL1, hL2, hD1, hD2, hC1, hC2, hw⟩ := goodG_bds h
  obtain ⟨p0, p1⟩ := parP_range (D := D) (C := C) (r := r) (by omega)
  obtain ⟨j, hj, e⟩ := rot_surj p0 p1 hd hd'
  by_cases h0 : j = 0
  · subst h0
    left
    rw [← e]; exact rot_zero p0 p1
  · right
    by_cases h1 : L = 6 ∧ j = 1
    · obtain ⟨hL, rfl⟩ := h1
      left
      exact ⟨by omega, by rw [parQ_rot (by omega), ← e]; rfl⟩
    · right
      refine ⟨(j - (L - 4)).toNat, by omega, ?_⟩
      rw [dskOf_rot, show (L - 4) + ((((j : Int) - (L - 4)).toNat : Nat) : Int) = j from by omega, e]
theorem fillTo_length (L D C r : Int) (data : List (List UInt8)) : ∀ k, (fillTo L D C r data k).length = D.toNat
  | 0 => by simp [fillTo]
  | k + 1 => by unfold fillTo; rw [List.length_set]; exact fillTo_length L D C r data k
theorem toNat_ne {a b : Int} (ha : 0 ≤ a) (hb : 0 ≤ b) (h : a ≠ b) : a.toNat ≠ b.toNat := by omega
theorem fillTo_get {L D C : Int} (h : goodG L D C = true) (r : Int) (data : List (List UInt8)) {j : Nat} (hj : (j : Int) < D - (L - 4)) : ∀ k : Nat, (k : Int) ≤ D - (L - 4) → (fillTo L D C r data k).getD (dskOf L D C r j).toNat [] = if j < k then data.getD j [] else []
  | 0, _ => by
    obtain ⟨d0, d1⟩ := dskOf_bds h r j
    simp [fillTo, show (dskOf L D C r j).toNat < D.toNat from by omega]
  | k + 1, hk => by
    obtain ⟨d0, d1⟩ := dskOf_bds h r j
    obtain ⟨e0, e1⟩ := dskOf_bds h r k
    unfold fillTo
    by_cases e : j = k
    · subst e
      rw [getD_set_self (by rw [fillTo_length]; omega), if_pos (by omega)]
    · rw [getD_set_ne (toNat_ne e0 d0 (fun e2 => e (dsk_inj h r hj (by omega) e2.symm))), fillTo_get h r data hj k (by omega)]
      by_cases e3 : j < k
      · rw [if_pos e3, if_pos (by omega)]
      · rw [if_neg e3, if_neg (by omega)]
theorem fillR_length (L D C r : Int) (data : List (List UInt8)) : (fillR L D C r data).length = D.toNat := by
  unfold fillR
  simp only
  split <;> simp [fillTo_length]
theorem fillR_data {L D C : Int} (h : goodG L D C = true) (r : Int) {data : List (List UInt8)} (hd : (data.length : Int) = D - (L - 4)) {j : Nat} (hj : (j : Int) < D - (L - 4)) : (fillR L D C r data).getD (dskOf L D C r j).toNat [] = data.getD j [] := by
  obtain ⟨hL1, hL2, hD1, hD2, hC1, hC2, hw⟩ := goodG_bds h
  obtain ⟨d0, d1⟩ := dskOf_bds h r j
  obtain ⟨p0, p1⟩ := parP_range (D := D) (C := C) (r := r) (by omega)
  have hl : ((fillTo L D C r data data.length).set (parP D C r).toNat (sumTo ones data data.length)).getD (dskOf L D C r j).toNat [] = data.getD j [] := by
    rw [getD_set_ne (toNat_ne p0 d0 (Ne.symm (dsk_ne_p h r hj))), fillTo_get h r data hj _ (by omega), if_pos (by omega)]
  unfold fillR
  simp only
  split
  · exact hl
  · rename_i h6
    rw [getD_set_ne (toNat_ne (parQ_six h r h6).1 d0 (Ne.symm (dsk_ne_q h r h6 hj))), hl]
theorem fillR_P {L D C : Int} (h : goodG L D C = true) (r : Int) (data : List (List UInt8)) : (fillR L D C r data).getD (parP D C r).toNat [] = sumTo ones data data.length := by
  obtain ⟨hL1, hL2, hD1, hD2, hC1, hC2, hw⟩ := goodG_bds h
  obtain ⟨p0, p1⟩ := parP_range (D := D) (C := C) (r := r) (by omega)
  have hl : ((fillTo L D C r data data.length).set (parP D C r).toNat (sumTo ones data data.length)).getD (parP D C r).toNat [] = sumTo ones data data.length :=
    getD_set_self (by rw [fillTo_length]; omega)
  unfold fillR
  simp only
  split
  · exact hl
  · rename_i h6
    rw [getD_set_ne (toNat_ne (parQ_six h r h6).1 p0 (q_ne_p h r h6)), hl]
theorem fillR_Q {L D C : Int} (h : goodG L D C = true) (r : Int) (data : List (List UInt8)) (h6 : L ≠ 5) : (fillR L D C r data).getD (parQ L D C r).toNat [] = sumTo gpow data data.length := by
  obtain ⟨q0, q1⟩ := parQ_six h r h6
  unfold fillR
  simp only
  rw [if_neg h6]
  exact getD_set_self (by rw [List.length_set, fillTo_length]; omega)
theorem fillR_sec {L D C : Int} (h : goodG L D C = true) (r : Int) {data : List (List UInt8)} (hd : (data.length : Int) = D - (L - 4)) (hs : ∀ i, i < data.length → (data.getD i []).length = 32) {d : Nat} (hdD : (d : Int) < D) : ((fillR L D C r data).getD d []).length = 32 := by
  obtain ⟨hL1, hL2, hD1, hD2, hC1, hC2, hw⟩ := goodG_bds h
  have hsum : ∀ f, (sumTo f data data.length).length = 32 := fun f => (sumTo_length f data _).trans (hs 0 (by omega))
  rcases dsk_surj h r (d := d) (by omega) hdD with e | ⟨h6, e⟩ | ⟨k, hk, e⟩
  · rw [show d = (parP D C r).toNat from by omega, fillR_P h]; exact hsum _
  · rw [show d = (parQ L D C r).toNat from by omega, fillR_Q h r data h6]; exact hsum _
  · rw [show d = (dskOf L D C r k).toNat from by omega, fillR_data h r hd hk]; exact hs k (by omega)
/-- A row on the disks, of which some are missing: what is taken is its data. -/
theorem take_plain {L D C : Int} (h : goodG L D C = true) (r : Int) {data ds : List (List UInt8)} (hd : (data.length : Int) = D - (L - 4)) (hs : ∀ i, i < data.length → (data.getD i []).length = 32)
    (hds : ∀ d : Nat, (d : Int) < D → ds.getD d [] = [] ∨ ds.getD d [] = (fillR L D C r data).getD d []) (hl : lostR L D C r ds = false) : takeR L D C r ds = data := by
  obtain ⟨hL1, hL2, hD1, hD2, hC1, hC2, hw⟩ := goodG_bds h
  obtain ⟨p0, p1⟩ := parP_range (D := D) (C := C) (r := r) (by omega)
  refine solve_plain ⟨by rw [partsOf_length]; omega, by omega, by omega, hs, fun k hk => ?_, ?_, ?_⟩ hl
  · obtain ⟨d0, d1⟩ := dskOf_bds h r k
    rw [partsOf_get ds (by omega)]
    have := hds (dskOf L D C r k).toNat (by omega)
    rw [fillR_data h r hd (by omega)] at this
    exact this
  · have := hds (parP D C r).toNat (by omega)
    rw [fillR_P h] at this
    exact this
  · unfold qOf
    by_cases h5 : L = 5
    · rw [if_pos h5]; exact .inl rfl
    · rw [if_neg h5]
      obtain ⟨q0, q1⟩ := parQ_six h r h5
      have := hds (parQ L D C r).toNat (by omega)
      rw [fillR_Q h r data h5] at this
      exact this
theorem rot_perm_all : ∀ D : Fin 9, ∀ p : Fin 8, p.1 < D.1 → ((List.range D.1).map fun j => (p.1 + j) % D.1).Perm (List.range D.1) := by decide +kernel
theorem rot_perm {D p : Nat} (hD : D ≤ 8) (hp : p < D) : ((List.range D).map fun j => (p + j) % D).Perm (List.range D) := rot_perm_all ⟨D, by omega⟩ ⟨p, by omega⟩ hp
theorem gone_count (f : Nat → Bool) (n : Nat) : ((List.range n).filter f).length = (List.range n).countP f := List.countP_eq_length_filter.symm
theorem range_head (n : Nat) : List.range (n + 1) = 0 :: (List.range n).map (· + 1) := by rw [List.range_succ_eq_map]
/-- A row is lost if more of its disks are than its geometry bears. -/
theorem lost_count {L D C : Int} (h : goodG L D C = true) (r : Int) (ds : List (List UInt8)) : lostR L D C r ds = decide (L - 4 < ((goneTo ds D.toNat).length : Int)) := by
  obtain ⟨hL1, hL2, hD1, hD2, hC1, hC2, hw⟩ := goodG_bds h
  obtain ⟨p0, p1⟩ := parP_range (D := D) (C := C) (r := r) (by omega)
  obtain ⟨DN, hDN⟩ : ∃ DN : Nat, D = DN := ⟨D.toNat, by omega⟩
  obtain ⟨p, hp⟩ : ∃ p : Nat, parP D C r = p := ⟨(parP D C r).toNat, by omega⟩
  subst hDN
  have hf : ∀ (f : Nat → Bool), ((List.range DN).filter f).length = (List.range DN).countP (fun j => f ((p + j) % DN)) := fun f => by
    rw [gone_count, ← (rot_perm (D := DN) (p := p) (by omega) (by omega)).countP_eq, List.countP_map]
    rfl
  have hdsk : ∀ k : Nat, (dskOf L DN C r k).toNat = (p + (L - 4).toNat + k) % DN := fun k => by
    have e : dskOf L DN C r k = (((p + (L - 4).toNat + k) % DN : Nat) : Int) := by
      unfold dskOf
      rw [hp]
      push_cast
      rw [Int.toNat_of_nonneg (by omega)]
    omega
  have hparts : (goneTo (partsOf L DN C r ds) (partsOf L DN C r ds).length).length = (List.range ((DN : Int) - (L - 4)).toNat).countP (fun k => decide ((ds.getD ((p + (L - 4).toNat + k) % DN) []).length = 0)) := by
    unfold goneTo
    rw [partsOf_length, gone_count]
    refine List.countP_congr (fun k hk => ?_)
    have hk' := List.mem_range.1 hk
    rw [partsOf_get ds hk', hdsk k]
  have hpq : (goneTo [pOf DN C r ds, qOf L DN C r ds] 2).length = (if (ds.getD p []).length = 0 then 1 else 0) + (if (qOf L DN C r ds).length = 0 then 1 else 0) := by
    have e : pOf DN C r ds = ds.getD p [] := by unfold pOf; rw [hp]; rfl
    rw [e]
    unfold goneTo
    rw [gone_count]
    simp [List.range_succ, List.countP_cons, Nat.add_comm]
  unfold lostR lostF
  rw [hparts, hpq, show ((DN : Int)).toNat = DN from by omega]
  show _ = decide (L - 4 < ((((List.range DN).filter fun i => decide ((ds.getD i []).length = 0)).length : Nat) : Int))
  rw [hf]
  by_cases h5 : L = 5
  · subst h5
    obtain ⟨W, rfl⟩ : ∃ W, DN = W + 1 := ⟨DN - 1, by omega⟩
    rw [range_head, List.countP_cons, List.countP_map]
    have e1 : (((W + 1 : Nat) : Int) - (5 - 4)).toNat = W := by omega
    rw [e1]
    have e2 : List.countP ((fun j => decide ((ds.getD ((p + j) % (W + 1)) []).length = 0)) ∘ fun x => x + 1) (List.range W) = List.countP (fun k => decide ((ds.getD ((p + (5 - 4 : Int).toNat + k) % (W + 1)) []).length = 0)) (List.range W) := by
      refine List.countP_congr (fun k _ => ?_)
      show decide ((ds.getD ((p + (k + 1)) % (W + 1)) []).length = 0) = true ↔ _
      rw [show p + (k + 1) = p + (5 - 4 : Int).toNat + k from by show p + (k + 1) = p + 1 + k; omega]
    rw [e2]
    have e3 : (p + 0) % (W + 1) = p := Nat.mod_eq_of_lt (by omega)
    rw [e3]
    have e4 : (qOf 5 ((W + 1 : Nat) : Int) C r ds).length = 0 := by unfold qOf; rw [if_pos rfl]; rfl
    rw [if_pos e4]
    generalize List.countP _ (List.range W) = c
    by_cases hz : (ds.getD p []).length = 0
    · rw [if_pos hz, decide_eq_true hz]
      simp only [if_true]
      congr 1
      apply propext
      omega
    · rw [if_neg hz, decide_eq_false hz]
      simp only [Bool.false_eq_true, if_false]
      congr 1
      apply propext
      omega
  · obtain rfl : L = 6 := by omega
    obtain ⟨W, rfl⟩ : ∃ W, DN = W + 2 := ⟨DN - 2, by omega⟩
    rw [range_head (W + 1), List.countP_cons, List.countP_map, range_head W, List.countP_cons, List.countP_map]
    have e1 : (((W + 2 : Nat) : Int) - (6 - 4)).toNat = W := by omega
    rw [e1]
    have e2 : List.countP (((fun j => decide ((ds.getD ((p + j) % (W + 2)) []).length = 0)) ∘ fun x => x + 1) ∘ fun x => x + 1) (List.range W) = List.countP (fun k => decide ((ds.getD ((p + (6 - 4 : Int).toNat + k) % (W + 2)) []).length = 0)) (List.range W) := by
      refine List.countP_congr (fun k _ => ?_)
      show decide ((ds.getD ((p + (k + 1 + 1)) % (W + 2)) []).length = 0) = true ↔ _
      rw [show p + (k + 1 + 1) = p + (6 - 4 : Int).toNat + k from by show p + (k + 1 + 1) = p + 2 + k; omega]
    rw [e2]
    have e3 : (p + 0) % (W + 2) = p := Nat.mod_eq_of_lt (by omega)
    have e4 : qOf 6 ((W + 2 : Nat) : Int) C r ds = ds.getD ((p + (0 + 1)) % (W + 2)) [] := by
      unfold qOf
      rw [if_neg (by decide), parQ_rot (by decide), hp]
      congr 1
    show _ = decide (6 - 4 < (((List.countP _ _ + (if decide ((ds.getD ((p + (0 + 1)) % (W + 2)) []).length = 0) = true then 1 else 0) + (if decide ((ds.getD ((p + 0) % (W + 2)) []).length = 0) = true then 1 else 0) : Nat)) : Int))
    rw [e3, e4]
    generalize List.countP _ (List.range W) = c
    generalize (ds.getD ((p + (0 + 1)) % (W + 2)) []).length = y
    generalize (ds.getD p []).length = z
    by_cases hz : z = 0 <;> by_cases hy : y = 0 <;> simp [hz, hy] <;> omega
end Go.Proofs.Ytoalnkhedebpbaa
