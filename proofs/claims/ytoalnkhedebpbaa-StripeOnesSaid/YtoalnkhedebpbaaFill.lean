/- slices.Clone of bytes; row.Fill: what it answers. -/
import Derived.Test.YtoalnkhedebpbaaTake
namespace Go.Proofs.Ytoalnkhedebpbaa
open Go.RowKit

section
variable {P : Program} {ops : Array Oper} {Q : Exit → Act → World → Prop} {a : Act} {w : World} {rest : List Oper} {d : Option Tmp} {ty : TypeId} {pos : String} {after : Array Edge} {T E : TypeId}
/-- 'append(out, s...)' onto a slice of the call's own, of elements of one cell. -/
theorem wpL_appendN {s x : Operand} {z v : Value} {bytes base n m c : Nat} {ad : Addr} {xs news : List Value} (ht : P.underlying T = some (.slice E)) (hinfo : (P.info? E).map (fun i => (i.zero, i.size, i.bytes)) = some (some z, 1, bytes)) (hzs : z.cells.size = 1) (hbytes : bytes ≤ 1024)
    (hs : a.eval s = v) (hx : a.eval x = .slice (some ad) m c) (hown : w.ownsRow base E 1 v n xs) (hl : news.length = m) (hnews : ∀ j u, news[j]? = some u → w.cell? (ad.add j) = some u) (h1 : ∀ u ∈ news, u.oneCell' = true) (hn : n + m ≤ 1048576) (hbase : base ≤ w.heap.size)
    (h : ∀ v' w', w'.ownsRow base E 1 v' (n + m) (xs ++ news) → w.grownBy w' v.ownBlock → wpList P ops Q rest (a.put d v') w') :
    wpList P ops Q ({ dst := d, op := .call { callee := .builtin .append, args := #[s, x], argTypes := #[T, T] }, type := ty, pos := pos, after := after, guard := none } :: rest) a w := by
  cases hi : P.info? E with
  | none => simp [hi] at hinfo
  | some i =>
    obtain ⟨h1z, h2z, h3z⟩ : i.zero = some z ∧ i.size = 1 ∧ i.bytes = bytes := by simpa [hi] using hinfo
    refine wpList_append_own w rfl s x T rfl base E i z 1 bytes ht hi h1z h2z h3z hzs (by decide) v n xs hs hown ad m c news hx (by omega) hnews h1 (by unfold maxLen; omega) ?_ hbase (fun v' w' a1 a2 _ => h v' w' a1 a2)
    calc (n + m) * bytes ≤ 1048576 * 1024 := Nat.mul_le_mul (by omega) hbytes
      _ ≤ 140737488355328 := by decide
end
theorem own_empty (w : World) (E : TypeId) (cap base k : Nat) (hk : k = w.heap.size) (hb : base ≤ k) (hc : cap = 0) : (w.alloc (.cells #[] E)).ownsRow base E 1 (.slice (some ⟨k, 0, none⟩) 0 cap) 0 [] := by
  subst hk; subst hc
  exact ⟨rfl, .inr ⟨w.heap.size, 0, #[], rfl, hb, heap_alloc_new w _, Nat.le_refl _, Nat.zero_le _, rfl, rfl⟩⟩
set_option maxRecDepth 100000 in
set_option maxHeartbeats 400000 in
theorem clone_some (x : List UInt8) (ad : Addr) (cap : Nat) (w : World) (hl : x.length ≤ 1048576) (hn : ∀ w', Gr w w' → ∀ j u, (x.map bv)[j]? = some u → w'.cell? (ad.add j) = some u) :
    Calls Try.prog 117 #[.slice (some ad) x.length cap] w fun e w' => ∃ r, e = .returned r ∧ BytesAt w' r x ∧ Gr w w' := by
  have HN := Lib.hid hn; clear hn
  have he : ∀ w : World, (binOp .eql 43 (.slice (some ad) x.length cap) (.slice none 0 0)).run Try.prog w = .ok (.bool false) w := fun _ => rfl
  obtain ⟨n, hn⟩ : ∃ n, n = x.length := ⟨_, rfl⟩
  rw [← hn]; rw [← hn] at he hl
  have HX := Lib.hid hn; clear hn
  go_enter Try.func117, Try.ntmps117
  go_wp2_with ((with_reducible apply wpL_appendN (xs := []) (news := x.map bv) slU8 infU8 rfl (by decide)); rfl; rfl; exact own_empty w _ _ w.heap.size w.heap.size rfl (Nat.le_refl _) rfl; (rw [List.length_map]; exact HX.out.symm); exact HN.out _ (Gr.alloc _ _); exact bvs_one x; omega; (simp); (intro v' w4 hown' hgr))
  go_ret
  have g2 : Gr w w4 := Below.grown (Gr.alloc w _) hgr (by simp) (fun j hj => Nat.le_of_eq (Option.some.inj hj))
  refine ⟨v', rfl, ?_, g2⟩
  have := SlAt.own hown' (by omega)
  exact this
set_option maxRecDepth 100000 in
set_option maxHeartbeats 400000 in
theorem clone_any (x : List UInt8) (v : Value) (w : World) (h : BytesAt w v x) (hl : x.length ≤ 1048576) :
    Calls Try.prog 117 #[v] w fun e w' => ∃ r, e = .returned r ∧ BytesAt w' r x ∧ Gr w w' := by
  rcases h.cases with ⟨rfl, a, cap, rfl⟩ | ⟨b, off, cap, rfl, _, _, hc⟩
  · cases a with
    | some ad => exact clone_some [] ad cap w hl (fun _ _ j u hj => by simp at hj)
    | none =>
      have he : ∀ w : World, (binOp .eql 43 (.slice none 0 cap) (.slice none 0 0)).run Try.prog w = .ok (.bool true) w := fun _ => rfl
      clear h hl
      go_enter Try.func117, Try.ntmps117
      go_wp2
      go_ret
      exact ⟨_, rfl, rows_nil _, Gr.refl _⟩
  · refine clone_some x ⟨b, off, none⟩ cap w hl (fun w' g j u hj => ?_)
    obtain ⟨b', off', e, hc'⟩ := bytes_src h j u hj
    have e := Option.some.inj e
    injection e with e1 e2
    subst e1; subst e2
    rw [addr_add0]
    exact g.cell hc'

/-- The sectors of a row's disks: data .. -/
def fillTo (L D C r : Int) (data : List (List UInt8)) : Nat → List (List UInt8)
  | 0 => List.replicate D.toNat []
  | k + 1 => (fillTo L D C r data k).set (dskOf L D C r k).toNat (data.getD k [])
/-- .. and parity. -/
def fillR (L D C r : Int) (data : List (List UInt8)) : List (List UInt8) :=
  let l := (fillTo L D C r data data.length).set (parP D C r).toNat (sumTo ones data data.length)
  if L = 5 then l else l.set (parQ L D C r).toNat (sumTo gpow data data.length)
theorem notSec_of {ps : List (List UInt8)} (h : ∀ i, i < ps.length → (ps.getD i []).length = 32) : ps.any notSec = false := by
  rw [List.any_eq_false]
  intro x hx
  obtain ⟨i, hi, rfl⟩ := List.getElem_of_mem hx
  have := h i hi
  have e : ps.getD i [] = ps[i] := by simp [hi]
  rw [e] at this
  unfold notSec
  simp only [decide_eq_true_eq]
  omega
theorem ORows.make {w : World} {g n : Nat} (h : w.heap[g]? = some (.cells (zrow (.slice none 0 0) n) 43 (0, 0))) : ORows w g n (List.replicate n []) := by
  refine ⟨by simp, _, List.replicate n (.slice none 0 0), h, by rw [zrow_size]; exact Nat.le_refl _, by simp, fun i hi => ?_, fun i hi => ?_⟩
  · rw [zrow_get hi]; simp [hi]
  · have e1 : (List.replicate n (Value.slice none 0 0)).getD i undef = .slice none 0 0 := by simp [hi]
    have e2 : (List.replicate n ([] : List UInt8)).getD i [] = [] := by simp [hi]
    rw [e1, e2]; exact rows_nil w
set_option maxRecDepth 100000 in
set_option maxHeartbeats 2000000 in
theorem fill_good (L D C r : Int) (data : List (List UInt8)) (v : Value) (w : World) (h : goodG L D C = true) (hr : 0 ≤ r) (hr' : r < 16) (hv : RowsAt w v data) (hd : (data.length : Int) = D - (L - 4)) (hs : ∀ i, i < data.length → (data.getD i []).length = 32) :
    Calls Try.prog 87 #[gv L D C, .int .i64 r, v] w fun e w' => ∃ x, e = .returned (.tuple #[x, .bool true]) ∧ RowsAt w' x (fillR L D C r data) ∧ Gr w w' := by
  obtain ⟨hL1, hL2, hD1, hD2, hC1, hC2, _⟩ := goodG_bds h
  rcases hv.cases with ⟨rfl, _⟩ | ⟨b, off, cap, vs, rfl, _, hb0, hvl, hc, hb⟩
  · have := goodG_cases h; simp at hd; omega
  obtain ⟨DN, hDN⟩ : ∃ DN : Nat, D = DN := ⟨D.toNat, by omega⟩
  subst hDN
  obtain ⟨n, hn⟩ : ∃ n, n = data.length := ⟨_, rfl⟩
  rw [← hn] at hc hb hd hs hv
  rw [← hn]
  have hn8 : n < 8 := by omega
  have hn1 : 1 < n := by have := goodG_cases h; omega
  have HV := Lib.hid hv; clear hv
  have HNN := Lib.hid hn; clear hn
  have H := Lib.hid h; clear h
  have HC := Lib.hid hc; clear hc
  have HB := Lib.hid hb; clear hb
  have HS := Lib.hid hs; clear hs
  have hP := parP_range (D := DN) (C := C) (r := r) (by omega)
  obtain ⟨p, hp⟩ : ∃ p : Nat, parP DN C r = p := ⟨(parP DN C r).toNat, by omega⟩
  rw [hp] at hP
  have HPP := Lib.hid hp; clear hp
  have HDN := Lib.hid hd
  have dne : ((n : Int) != DN - (L - 4)) = false := by simp [hd]
  clear hvl hd
  go_enter Try.func87, Try.ntmps87
  go_wp2_with fail
  refine (rowin_good L DN C r _ H.out).mono ?_
  rintro e w1 ⟨rfl, hg⟩
  have g1 : Gr w w1 := (Gr.alloc w _).trans hg
  obtain ⟨c0, c1, c2⟩ := box3 (hg.get (heap_alloc_new w _))
  clear hg
  rw [decide_eq_true hr, decide_eq_true hr']
  go_wp2_with fail
  refine (width_good L DN C _ H.out).mono ?_
  rintro e w2 ⟨rfl, hg2⟩
  replace g1 := g1.trans hg2
  replace c0 := hg2.cell c0
  replace c1 := hg2.cell c1
  replace c2 := hg2.cell c2
  clear hg2
  go_wp2_with fail
  refine (sectors_any data _ _ (HV.out.gr g1)).mono ?_
  rintro e w3 ⟨rfl, rfl⟩
  rw [notSec_of (fun i hi => HS.out i (by rw [HNN.out]; exact hi))]
  have nb : (Value.bool !false) = .bool true := rfl
  rw [nb]
  clear nb
  go_wp2_with ((with_reducible apply wpL_make1 (n := DN) slRows infRows rfl (by decide)); rfl; rfl; omega)
  obtain ⟨g, hgg⟩ : ∃ g, g = w2.heap.size := ⟨_, rfl⟩
  have hO : ORows (w2.alloc (.cells (zrow (.slice none 0 0) DN) 43)) g DN (fillTo L DN C r data 0) := by
    rw [hgg]; exact ORows.make (heap_alloc_new w2 _)
  rw [← hgg]
  have hG : Gr w2 (w2.alloc (.cells (zrow (.slice none 0 0) DN) 43)) := Gr.alloc _ _
  obtain ⟨wm, hwm⟩ : ∃ wm, wm = w2.alloc (.cells (zrow (.slice none 0 0) DN) 43) := ⟨_, rfl⟩
  rw [← hwm] at hO hG
  rw [← hwm]
  clear hwm
  have HO := Lib.hid hO; clear hO
  have hgl : w2.heap.size ≤ g := Nat.le_of_eq hgg.symm
  clear hgg
  have hwg : w.heap.size ≤ g := Nat.le_trans g1.size hgl
  go_loopw [34] (fun i wr => ∃ k : Nat, k ≤ n ∧ i = .int .i64 k ∧ Hid (ORows wr g DN (fillTo L DN C r data k)) ∧ Gr w2 wr) (fun i _ => n - (intOf i).toNat)
  case atStart => exact ⟨0, by omega, rfl, HO, hG⟩
  case round =>
    obtain ⟨k, hk, rfl, hrow, hg⟩ := hrel
    have b0 := hg.cell c0
    have b1 := hg.cell c1
    have b2 := hg.cell c2
    by_cases hlt : k < n
    · obtain ⟨hd0, hd1⟩ := dskOf_bds H.out r k
      obtain ⟨d, hd⟩ : ∃ d : Nat, dskOf L DN C r k = d := ⟨(dskOf L DN C r k).toNat, by omega⟩
      rw [hd] at hd0 hd1
      have hdn : d < DN := by omega
      have HD := Lib.hid hd; clear hd
      have ck := (g1.trans hg).cell (HC.out k hlt)
      have hbk := (HB.out k hlt).gr (g1.trans hg)
      obtain ⟨ak, nk, capk, hsh⟩ := (HB.out k hlt).sl
      rw [hsh] at ck hbk
      have HBK := Lib.hid hbk; clear hbk hsh
      clear hd1 hd0
      go_wp2_with fail
      refine (disk_good L DN C r k _ H.out hr hr' (by omega) (by have := HDN.out; omega)).mono ?_
      rintro e w3 ⟨rfl, hg3⟩
      rw [HD.out]
      go_wp2_with fail
      refine (clone_any (data.getD k []) _ _ (HBK.out.gr hg3) (by rw [HS.out k hlt]; decide)).mono ?_
      rintro e w4 ⟨x, rfl, hx, hg4⟩
      have HO4 := Lib.hid ((hrow.out.gr hg3).gr hg4)
      obtain ⟨⟨ud, cd⟩, fd⟩ := HO4.out.cell hdn
      obtain ⟨ax, nx, capx, hsx⟩ := hx.sl
      subst hsx
      have HX := Lib.hid hx; clear hx
      go_wp2
      go_roundw
      case rel =>
        refine ⟨k + 1, by omega, by go_num, Lib.hid ?_, gr_setCell ((hg.trans hg3).trans hg4) HO4.out hgl⟩
        have e : (dskOf L DN C r (k : Nat)).toNat = d := by have := HD.out; omega
        unfold fillTo
        rw [e]
        exact HO4.out.set hdn HX.out
      case measure => simp [intOf]; omega
    · obtain rfl : k = n := by omega
      clear hlt hk
      have hpn : p < DN := by omega
      go_wp2_with fail
      refine (parity_good L DN C r _ H.out hr hr').mono ?_
      rintro e w3 ⟨rfl, hg3⟩
      rw [HPP.out]
      have PL : Hid (data.length ≤ 8 ∧ 0 < data.length) := Lib.hid (by have := HNN.out; omega)
      have PS : Hid (∀ i, i < data.length → (data.getD i []).length = 32) := Lib.hid fun i hi => HS.out i (by rw [HNN.out]; exact hi)
      have HR := Lib.hid (hrow.out.gr hg3)
      replace g1 := (g1.trans hg).trans hg3
      replace hg := hg.trans hg3
      clear hrow hg3
      go_wp2_with fail
      refine (P_any data 32 _ _ (HV.out.gr g1) PL.out.1 PL.out.2 (by decide) PS.out).mono ?_
      rintro e w4 ⟨x, rfl, hx, hg4⟩
      have HO4 := Lib.hid (HR.out.gr hg4)
      obtain ⟨⟨ud, cd⟩, fd⟩ := HO4.out.cell hpn
      obtain ⟨ax, nx, capx, hsx⟩ := hx.sl
      subst hsx
      have HO5 := Lib.hid (HO4.out.set hpn hx)
      have g5 : Gr w (w4.setCell ⟨g, p, none⟩ (.slice ax nx capx)) := gr_setCell (g1.trans hg4) HO4.out hwg
      clear hx
      by_cases h5 : L = 5
      · subst h5
        have hq : parQ 5 DN C r = -1 := if_pos rfl
        rw [hq]
        have HF : Hid (fillR 5 DN C r data = (fillTo 5 DN C r data k).set p (sumTo ones data data.length)) := Lib.hid (by unfold fillR; rw [if_pos rfl, HPP.out, ← HNN.out]; rfl)
        clear hq
        go_wp2
        go_ret2
        rw [HF.out]
        exact ⟨_, rfl, HO5.out.rows (by omega) _, g5⟩
      · have hq := parQ_six H.out r h5
        obtain ⟨q, hqq⟩ : ∃ q : Nat, parQ L DN C r = q := ⟨(parQ L DN C r).toNat, by omega⟩
        rw [hqq] at hq
        rw [hqq]
        have HF : Hid (fillR L DN C r data = ((fillTo L DN C r data k).set p (sumTo ones data data.length)).set q (sumTo gpow data data.length)) := Lib.hid (by unfold fillR; rw [if_neg h5, HPP.out, hqq, ← HNN.out]; rfl)
        clear hqq h5
        have hqn : q < DN := by omega
        go_wp2_with fail
        refine (Q_any data 32 _ _ (HV.out.gr g5) PL.out.1 PL.out.2 (by decide) PS.out).mono ?_
        rintro e w6 ⟨y, rfl, hy, hg6⟩
        have HO6 := Lib.hid (HO5.out.gr hg6)
        obtain ⟨⟨uq, cq⟩, fq⟩ := HO6.out.cell hqn
        obtain ⟨ay, ny, capy, hsy⟩ := hy.sl
        subst hsy
        have HO7 := Lib.hid (HO6.out.set hqn hy)
        have g7 : Gr w (w6.setCell ⟨g, q, none⟩ (.slice ay ny capy)) := gr_setCell (g5.trans hg6) HO6.out hwg
        clear hy
        go_wp2
        go_ret2
        rw [HF.out]
        exact ⟨_, rfl, HO7.out.rows (by omega) _, g7⟩
end Go.Proofs.Ytoalnkhedebpbaa
