/- erase.Solve: the walk. -/
import Derived.Test.YtoalnkhedebpbaaErase2
namespace Go.Proofs.Ytoalnkhedebpbaa
open Go.RowKit

/-- Sectors, or nothing. -/
def sec0 (x : List UInt8) : Prop := x.length = 0 ∨ x.length = 32
theorem unfit_of {ps : List (List UInt8)} (h : ∀ i, i < ps.length → sec0 (ps.getD i [])) : ps.any (unfit 32) = false := by
  rw [List.any_eq_false]
  intro x hx
  obtain ⟨i, hi, rfl⟩ := List.getElem_of_mem hx
  have := h i hi
  have e : ps.getD i [] = ps[i] := by simp [hi]
  rw [e] at this
  unfold unfit
  simp only [decide_eq_true_eq]
  rcases this with h | h <;> omega
theorem sec0_two {p q : List UInt8} (hp : sec0 p) (hq : sec0 q) : ∀ i, i < [p, q].length → sec0 ([p, q].getD i []) := by
  intro i hi
  have hi' : i < 2 := hi
  match i, hi' with
  | 0, _ => exact hp
  | 1, _ => exact hq
theorem fillAll (ps : List (List UInt8)) (i : Nat) (hi : i < ps.length) : (ps.map (fillZ 32)).getD i [] = fillZ 32 (ps.getD i []) := by
  simp [hi]
theorem gone2_p {p q : List UInt8} (hp : ¬ 0 < p.length) : 1 ≤ (goneTo [p, q] 2).length := by
  have : 0 ∈ goneTo [p, q] 2 := goneTo_mem.2 ⟨by omega, by simpa using hp⟩
  exact List.length_pos_of_mem this
theorem gone2_q {p q : List UInt8} (hp : ¬ 0 < q.length) : 1 ≤ (goneTo [p, q] 2).length := by
  have : 1 ∈ goneTo [p, q] 2 := goneTo_mem.2 ⟨by omega, by simpa using hp⟩
  exact List.length_pos_of_mem this
theorem gone2_pq {p q : List UInt8} (hp : ¬ 0 < p.length) (hq : ¬ 0 < q.length) : 2 ≤ (goneTo [p, q] 2).length := by
  have e : goneTo [p, q] 2 = [0, 1] := by
    have h0 : p = [] := List.eq_nil_of_length_eq_zero (by omega)
    have h1 : q = [] := List.eq_nil_of_length_eq_zero (by omega)
    subst h0; subst h1
    decide
  rw [e]; exact Nat.le_refl _
theorem gi_shape {w : World} {v : Value} {l : List Nat} (h : SlAt w 3 v (gi l)) : ∃ a cap, v = .slice a l.length cap := by
  by_cases h0 : 0 < l.length
  · obtain ⟨b, off, cap, rfl, _⟩ := gi_cells h h0
    exact ⟨_, cap, rfl⟩
  · have : l = [] := List.eq_nil_of_length_eq_zero (by omega)
    subst this
    rcases h with ⟨_, a, cap, rfl⟩ | ⟨b, off, cap, cs, fr, rfl, _⟩
    · exact ⟨a, cap, rfl⟩
    · exact ⟨_, cap, rfl⟩
set_option maxRecDepth 100000 in
set_option maxHeartbeats 2000000 in
theorem solve_any (p q : List UInt8) (ps : List (List UInt8)) (t u v : Value) (w : World) (hp : BytesAt w t p) (hq : BytesAt w u q) (h : RowsAt w v ps) (h0 : 0 < ps.length) (hl : ps.length ≤ 8) (hps : ∀ i, i < ps.length → sec0 (ps.getD i [])) (sp : sec0 p) (sq : sec0 q) :
    Calls Try.prog 110 #[.int .i64 32, t, u, v] w fun e w' => ∃ r, e = .returned (.tuple #[r, .bool (!lostF p q ps)]) ∧ (lostF p q ps = false → RowsAt w' r (solvedF p q ps)) ∧ Gr w w' := by
  obtain ⟨pa, pcap, ht⟩ := hp.shape
  obtain ⟨qa, qcap, hu⟩ := hq.shape
  obtain ⟨va, vcap, hv⟩ := h.shape
  subst ht; subst hu; subst hv
  have HP := Lib.hid hp; clear hp
  have HQ := Lib.hid hq; clear hq
  have H := Lib.hid h; clear h
  have HS := Lib.hid hps; clear hps
  have SP := Lib.hid sp; clear sp
  have SQ := Lib.hid sq; clear sq
  obtain ⟨G, hG⟩ : ∃ G, G = goneTo ps ps.length := ⟨_, rfl⟩
  obtain ⟨N, hN⟩ : ∃ N, N = (goneTo [p, q] 2).length := ⟨_, rfl⟩
  have HN2 : N ≤ 2 := by rw [hN]; exact goneTo_length _ 2
  have HGL : G.length ≤ ps.length := by rw [hG]; exact goneTo_length _ _
  have HG := Lib.hid hG; clear hG
  have HN := Lib.hid hN; clear hN
  have w0 : decide ((32 : Int) < 1) = false := by decide
  have w1 : decide ((ps.length : Int) < 1) = false := by rw [decide_eq_false_iff_not]; omega
  have w2 : decide ((ps.length : Int) > 8) = false := by rw [decide_eq_false_iff_not]; omega
  go_enter Try.func110, Try.ntmps110
  go_wp2_with fail
  refine (missing_any ps _ _ H.out (by omega)).mono ?_
  rintro e x1 ⟨r1, rfl, h1, g1⟩
  go_wp2_with fail
  refine (fits_any 32 ps _ _ (H.out.gr g1)).mono ?_
  rintro e x2 ⟨rfl, g2⟩
  rw [unfit_of HS.out]
  go_wp2_with fail
  refine (fits_any 32 [p, q] _ _ (RowsAt.two rfl (HP.out.gr (g1.trans g2)) (HQ.out.gr (g1.trans g2)))).mono ?_
  rintro e x3 ⟨rfl, g3⟩
  rw [unfit_of (sec0_two SP.out SQ.out)]
  replace g1 := (g1.trans g2).trans ((Gr.alloc _ _).trans g3)
  replace h1 := h1.gr (g2.trans ((Gr.alloc _ _).trans g3))
  rw [← HG.out] at h1
  clear g2 g3
  obtain ⟨ga, gcap, hr1⟩ := gi_shape h1
  obtain ⟨n, hn⟩ : ∃ n, n = G.length := ⟨_, rfl⟩
  rw [← hn] at hr1 HGL
  subst hr1
  have HNG := Lib.hid hn; clear hn
  have H1 := Lib.hid h1; clear h1
  go_wp2_with fail
  refine (missing_any [p, q] _ _ (RowsAt.two rfl (HP.out.gr g1) (HQ.out.gr g1)) (by simp)).mono ?_
  rintro e x4 ⟨r4, rfl, h4, g4⟩
  obtain ⟨na, ncap, hr4⟩ := gi_shape h4
  have hN4 : (goneTo [p, q] [p, q].length).length = N := HN.out.symm
  rw [hN4] at hr4
  subst hr4
  clear h4 hN4
  replace g1 := g1.trans ((Gr.alloc _ _).trans g4)
  have H1 := Lib.hid (H1.out.gr ((Gr.alloc _ _).trans g4))
  clear g4
  by_cases hgt : 2 < n + N
  · have hd : decide ((n : Int) + (N : Int) > 2) = true := by rw [decide_eq_true_iff]; omega
    have hlost : lostF p q ps = true := by unfold lostF; rw [← HG.out, ← HN.out, ← HNG.out]; exact decide_eq_true hgt
    have HLOST := Lib.hid hlost; clear hlost hgt
    go_wp2_with fail
    go_ret2
    exact ⟨.slice none 0 0, (by rw [HLOST.out]; rfl), (fun hf => absurd (HLOST.out.symm.trans hf) (by decide)), g1⟩
  · have hd : decide ((n : Int) + (N : Int) > 2) = false := by rw [decide_eq_false_iff_not]; omega
    have hlost : lostF p q ps = false := by unfold lostF; rw [← HG.out, ← HN.out, ← HNG.out]; exact decide_eq_false hgt
    have HLOST := Lib.hid hlost; clear hlost
    go_wp2_with fail
    refine (filled_any ps 32 _ _ (H.out.gr g1) (by omega) (by omega) HS.out).mono ?_
    rintro e x5 ⟨r5, us, rfl, hown, hb5, g5⟩
    obtain ⟨og, ocap, rfl, hog, HO⟩ := ORows.own (L := ps.map (fillZ 32)) hown h0 (by simp) (fun i hi => by rw [fillAll ps i hi]; exact hb5 i hi)
    clear hown hb5
    replace hog : w.heap.size ≤ og := Nat.le_trans g1.size hog
    have H1 := Lib.hid (H1.out.gr g5)
    replace g1 := g1.trans g5
    clear g5
    have HLN : ∀ i, i < (ps.map (fillZ 32)).length → ((ps.map (fillZ 32)).getD i []).length = 32 := fun i hi => by
      rw [fillAll ps i (by simpa using hi)]
      exact fillZ_length 32 _ (HS.out i (by simpa using hi))
    have HLL : (ps.map (fillZ 32)).length = ps.length := by simp
    obtain ⟨L, hL⟩ : ∃ L, L = ps.map (fillZ 32) := ⟨_, rfl⟩
    rw [← hL] at HO HLN HLL
    have HL := Lib.hid hL; clear hL
    have HR := Lib.hid (HO.rows (by omega) ocap)
    have HO := Lib.hid HO
    have HLN := Lib.hid HLN
    have HLL := Lib.hid HLL
    rcases (by omega : n = 2 ∨ n = 1 ∨ n = 0) with h2 | h1 | h0'
    · obtain ⟨j, k, hjk⟩ : ∃ j k, G = [j, k] := by
        have := HNG.out
        match G, this with
        | [], h => simp at h; omega
        | [a], h => simp at h; omega
        | [a, b], h => exact ⟨a, b, rfl⟩
        | a :: b :: c :: r, h => simp at h; omega
      subst hjk
      have jm := goneTo_mem.1 (HG.out ▸ List.mem_cons_self : j ∈ goneTo ps ps.length)
      have km := goneTo_mem.1 (HG.out ▸ List.mem_cons_of_mem _ List.mem_cons_self : k ∈ goneTo ps ps.length)
      have hne : j ≠ k := by
        have := goneTo_nodup ps ps.length
        rw [← HG.out] at this
        intro e; subst e; simp at this
      have e2 : ((n : Int) == 2) = true := by rw [beq_iff_eq]; omega
      have hN0 : N = 0 := by omega
      have plen : p.length = 32 := by
        rcases SP.out with h | h
        · have := gone2_p (p := p) (q := q) (by omega); rw [← HN.out] at this; omega
        · exact h
      have qlen : q.length = 32 := by
        rcases SQ.out with h | h
        · have := gone2_q (p := p) (q := q) (by omega); rw [← HN.out] at this; omega
        · exact h
      have hsv : solvedF p q ps = (L.set j (twoX p q L j k)).set k (twoY p q L j k) := by unfold solvedF; rw [← HG.out, ← HL.out]
      obtain ⟨gb, go, gcp, hgs, hgc⟩ := gi_cells H1.out (by simp)
      have c0 := hgc 0 (by simp)
      have c1 := hgc 1 (by simp)
      have hn2 : ([j, k] : List Nat).length = n := HNG.out.symm
      rw [hn2] at hgs
      injection hgs with hga _ hgcp
      subst hga; subst hgcp
      simp only [Nat.add_zero, List.getD_cons_zero, List.getD_cons_succ] at c0 c1
      clear hgc hn2
      have PL := Lib.hid plen; clear plen
      have QL := Lib.hid qlen; clear qlen
      have HSV := Lib.hid hsv; clear hsv
      have i0 : 0 < n := by omega
      have i1 : (1 : Int) < (n : Int) := by omega
      have j1 : (j : Int) < (ps.length : Int) := by omega
      have k1 : (k : Int) < (ps.length : Int) := by omega
      have hbg := HO.out.ne H1.out rfl (by simp)
      have JM := jm.1
      have KM := km.1
      clear hgt h2 HN2 jm km
      go_wp2_with fail
      go_region_held3 (fun wx : World => wx.cell? ⟨gb, go, none⟩ = some (.int .i64 j) ∧ wx.cell? ⟨gb, go + 1, none⟩ = some (.int .i64 k)) (first | exact ⟨c0, c1⟩ | exact ⟨c06, c16⟩ | exact ⟨cell_apart c06 hbg, cell_apart c16 hbg⟩ | exact ⟨cell_apart (cell_apart c06 hbg) hbg, cell_apart (cell_apart c16 hbg) hbg⟩) (first | (go_at_call 134; refine (two_any p q L j k 32 _ _ _ _ (HP.out.gr (g1.trans (Gr.drew _))) (HQ.out.gr (g1.trans (Gr.drew _))) (HR.out.gr (Gr.drew _)) (by rw [HLL.out]; exact hl) (by rw [HLL.out]; exact h0) (by omega) (by omega) hne (by decide) PL.out QL.out HLN.out).mono ?_; rintro e w6 ⟨r6, s6, rfl, hx6, hy6, g6⟩; obtain ⟨ra, rn, rc, hr6⟩ := hx6.sl; obtain ⟨sa, sn, sc, hs6⟩ := hy6.sl; subst hr6; subst hs6; have HO6 := Lib.hid (HO.out.gr ((Gr.drew _).trans g6)); obtain ⟨⟨uj, cj, cj'⟩, ⟨uk, ck, ck'⟩, fj, fk, fj', fk'⟩ := HO6.out.stores (.slice ra rn rc) (.slice sa sn sc) JM KM hne; have c06 := ((Gr.drew _).trans g6).cell c0; have c16 := ((Gr.drew _).trans g6).cell c1; have HX6 := Lib.hid hx6; have HY6 := Lib.hid hy6; clear hx6 hy6))
      go_wp2
      go_ret2
      have o1 := HO6.out.set JM HX6.out
      have o2 := o1.set KM (BytesAt.setCell HO6.out HY6.out)
      rw [HSV.out]
      exact ⟨_, (by rw [HLOST.out]; rfl), (fun _ => o2.rows (by omega) ocap), gr_setCell (gr_setCell ((g1.trans (Gr.drew _)).trans g6) HO6.out hog) o1 hog⟩
    · obtain ⟨j, hj⟩ : ∃ j, G = [j] := by
        have := HNG.out
        match G, this with
        | [], h => simp at h; omega
        | [a], h => exact ⟨a, rfl⟩
        | a :: b :: r, h => simp at h; omega
      subst hj
      have jm := goneTo_mem.1 (HG.out ▸ List.mem_cons_self : j ∈ goneTo ps ps.length)
      have e2 : ((n : Int) == 2) = false := by rw [beq_eq_false_iff_ne]; omega
      have e1 : ((n : Int) == 1) = true := by rw [beq_iff_eq]; omega
      obtain ⟨gb, go, gcp, hgs, hgc⟩ := gi_cells H1.out (by simp)
      have c0 := hgc 0 (by simp)
      have hn2 : ([j] : List Nat).length = n := HNG.out.symm
      rw [hn2] at hgs
      injection hgs with hga _ hgcp
      subst hga; subst hgcp
      simp only [Nat.add_zero, List.getD_cons_zero] at c0
      clear hgc hn2
      have i0 : 0 < n := by omega
      have j1 : (j : Int) < (ps.length : Int) := by omega
      have hbg := HO.out.ne H1.out rfl (by simp)
      have JM := jm.1
      clear jm h1
      have hP := sumTo_length ones L L.length
      have hP : (sumTo ones L L.length).length = 32 := hP.trans (HLN.out 0 (by rw [HLL.out]; exact h0))
      have HPL := Lib.hid hP; clear hP
      by_cases hp0 : 0 < p.length
      · have plen : p.length = 32 := by
          rcases SP.out with h | h
          · omega
          · exact h
        have hsv : solvedF p q ps = L.set j (addB p (sumTo ones L L.length)) := by unfold solvedF; rw [← HG.out, ← HL.out]; exact if_pos hp0
        have HSV := Lib.hid hsv; clear hsv
        have PL := Lib.hid plen; clear plen
        clear hgt HN2
        have d0 : decide ((p.length : Int) > 0) = true := by rw [decide_eq_true_iff]; omega
        go_wp2_with fail
        go_region_held3 (fun wx : World => wx.cell? ⟨gb, go, none⟩ = some (.int .i64 j)) (first | exact c0 | exact c06 | exact c07 | exact cell_apart c07 hbg) (first | (go_at_call 118; refine (P_any L 32 _ _ (HR.out.gr (Gr.drew _)) (by rw [HLL.out]; exact hl) (by rw [HLL.out]; exact h0) (by decide) HLN.out).mono ?_; rintro e w6 ⟨r6, rfl, hx6, g6⟩; have c06 := ((Gr.drew _).trans g6).cell c0) | (go_at_call 135; refine (add_any p _ _ _ _ (HP.out.gr ((g1.trans (Gr.drew _)).trans g6)) hx6 (PL.out.trans HPL.out.symm) (by rw [PL.out]; decide)).mono ?_; rintro e w7 ⟨r7, rfl, hx7, g7⟩; have c07 := g7.cell c06; obtain ⟨ra, rn, rc, hr7⟩ := hx7.sl; subst hr7; have HO7 := Lib.hid (HO.out.gr (((Gr.drew _).trans g6).trans g7)); obtain ⟨⟨uj, cj⟩, fj⟩ := HO7.out.cell JM; have HX7 := Lib.hid hx7; clear hx7))
        go_wp2
        go_ret2
        rw [HSV.out]
        exact ⟨_, (by rw [HLOST.out]; rfl), (fun _ => (HO7.out.set JM HX7.out).rows (by omega) ocap), gr_setCell (((g1.trans (Gr.drew _)).trans g6).trans g7) HO7.out hog⟩
      · have qlen : q.length = 32 := by
          rcases SQ.out with h | h
          · have := gone2_pq (p := p) (q := q) hp0 (by omega); rw [← HN.out] at this; omega
          · exact h
        have hsv : solvedF p q ps = L.set j (byQF q L j) := by unfold solvedF; rw [← HG.out, ← HL.out]; exact if_neg hp0
        have HSV := Lib.hid hsv; clear hsv
        have QL := Lib.hid qlen; clear qlen
        clear hgt HN2
        have d0 : decide ((p.length : Int) > 0) = false := by rw [decide_eq_false_iff_not]; omega
        go_wp2_with fail
        go_region_held3 (fun wx : World => wx.cell? ⟨gb, go, none⟩ = some (.int .i64 j)) (first | exact c0 | exact c07 | exact cell_apart c07 hbg) (first | (go_at_call 136; refine (byQ_any q L j 32 _ _ _ (HQ.out.gr (g1.trans (Gr.drew _))) (HR.out.gr (Gr.drew _)) (by rw [HLL.out]; exact hl) (by rw [HLL.out]; exact h0) (by omega) (by decide) QL.out HLN.out).mono ?_; rintro e w7 ⟨r7, rfl, hx7, g7⟩; have c07 := ((Gr.drew _).trans g7).cell c0; obtain ⟨ra, rn, rc, hr7⟩ := hx7.sl; subst hr7; have HO7 := Lib.hid (HO.out.gr ((Gr.drew _).trans g7)); obtain ⟨⟨uj, cj⟩, fj⟩ := HO7.out.cell JM; have HX7 := Lib.hid hx7; clear hx7))
        go_wp2
        go_ret2
        rw [HSV.out]
        exact ⟨_, (by rw [HLOST.out]; rfl), (fun _ => (HO7.out.set JM HX7.out).rows (by omega) ocap), gr_setCell ((g1.trans (Gr.drew _)).trans g7) HO7.out hog⟩
    · have e2 : ((n : Int) == 2) = false := by rw [beq_eq_false_iff_ne]; omega
      have e1 : ((n : Int) == 1) = false := by rw [beq_eq_false_iff_ne]; omega
      have hG0 : G = [] := List.eq_nil_of_length_eq_zero (by have := HNG.out; omega)
      have hsv : solvedF p q ps = L := by unfold solvedF; rw [← HG.out, hG0, ← HL.out]
      have HSV := Lib.hid hsv; clear hsv h0' hG0 hgt
      go_wp2
      go_ret2
      rw [HSV.out]
      exact ⟨_, (by rw [HLOST.out]; rfl), (fun _ => HR.out), g1⟩
end Go.Proofs.Ytoalnkhedebpbaa
