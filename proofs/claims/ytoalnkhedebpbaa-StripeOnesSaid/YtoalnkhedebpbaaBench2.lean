/- disk.New, bench.New. -/
import Derived.Test.YtoalnkhedebpbaaBench1
import Derived.Deep.AppendLies
import Derived.Deep.RegionLaw
namespace Go.Proofs.Ytoalnkhedebpbaa
open Go.RowKit

def zdisk : Array Value := (List.replicate 1664 (Value.int .u8 0) ++ [Value.slice none 0 0, Value.bool false]).toArray
theorem z128 : (Try.prog.info? 128).map (·.zero) = some (some (.agg zdisk)) := by kernel_rfl
set_option maxRecDepth 100000 in
theorem dnew_any (w : World) : Calls Try.prog 93 #[] w fun e w' => e = .returned (.pointer (some ⟨w.heap.size, 0, none⟩)) ∧ w' = w.alloc (.cells zdisk 128) := by
  go_enter Try.func93, Try.ntmps93
  go_wp2_with fail
  go_ret
  exact ⟨rfl, rfl⟩
theorem slDisks : Try.prog.underlying 86 = some (.slice 108) := by kernel_rfl
theorem infDisks : (Try.prog.info? 108).map (fun i => (i.zero, i.size, i.bytes)) = some (some (.pointer none), 1, 8) := by kernel_rfl
theorem own_drew {w : World} {base n size : Nat} {E : TypeId} {v : Value} {xs : List Value} (h : w.ownsRow base E size v n xs) : w.drew.ownsRow base E size v n xs := own_gr h (Gr.drew w)
/-- A bench that is being made: k disks. -/
def Making (w wr : World) (k : Nat) : Prop := ∃ (lv : Value) (bs : List Nat), wr.heap[w.heap.size]? = some (.cells #[.int .i64 0, .int .i64 (-1), .bool false, lv] 88 (0, 0)) ∧ wr.ownsRow w.heap.size 108 1 lv k (bs.map ptr) ∧
  bs.length = k ∧ bs.Nodup ∧ ∀ b, b ∈ bs → w.heap.size ≤ b ∧ wr.heap[b]? = some (.cells zdisk 128 (0, 0))
theorem Making.step {w wr w4 : World} {k gg cap : Nat} {lv : Value} {bs : List Nat} (hg : Gr w wr) (m1 : wr.heap[w.heap.size]? = some (.cells #[.int .i64 0, .int .i64 (-1), .bool false, lv] 88 (0, 0))) (m2 : wr.ownsRow w.heap.size 108 1 lv k (bs.map ptr))
    (m3 : bs.length = k) (m4 : bs.Nodup) (m5 : ∀ b, b ∈ bs → w.heap.size ≤ b ∧ wr.heap[b]? = some (.cells zdisk 128 (0, 0)))
    (ho : w4.ownsRow w.heap.size 108 1 (.slice (some ⟨gg, 0, none⟩) (k + 1) cap) (k + 1) (bs.map ptr ++ [ptr wr.heap.size]))
    (hgr : ((wr.alloc (.cells zdisk 128)).alloc (.cells #[.pointer (some ⟨wr.heap.size, 0, none⟩)] 108)).drew.grownBy w4 lv.ownBlock) :
    Making w (w4.setCell ⟨w.heap.size, 3, none⟩ (.slice (some ⟨gg, 0, none⟩) (k + 1) cap)) (k + 1) ∧ Gr w (w4.setCell ⟨w.heap.size, 3, none⟩ (.slice (some ⟨gg, 0, none⟩) (k + 1) cap)) := by
  have hB := heap_lt m1
  have notown : ∀ b cs t fr, wr.heap[b]? = some (Obj.cells cs t fr) → t ≠ 108 → some b ≠ lv.ownBlock := fun b cs t fr h hne e => by
    obtain ⟨cs', fr', e'⟩ := own_row m2 _ e.symm
    exact type_ne h e' hne rfl
  have old : ∀ (b : Nat) (cs : Array Value) (t : TypeId) (fr : Nat × Nat), wr.heap[b]? = some (Obj.cells cs t fr) → t ≠ 108 → w4.heap[b]? = some (Obj.cells cs t fr) := fun b cs t fr h hne => by
    rw [hgr.block b (by have := heap_lt h; simp; omega) (notown b cs t fr h hne)]
    exact heap_alloc_lt (heap_alloc_lt h _) _
  have new : w4.heap[wr.heap.size]? = some (.cells zdisk 128 (0, 0)) := by
    rw [hgr.block wr.heap.size (by simp; omega) (fun e => ?_)]
    · exact heap_alloc_lt (heap_alloc_new wr _) _
    · have := (m2.lt _ e.symm).2
      omega
  have b4 := old _ _ _ _ m1 (by decide)
  have h4 := heap_lt b4
  rw [setCell_putB b4]
  have g4 : Gr w w4 := Below.grown (Below.drew ((hg.trans (Gr.alloc _ _)).trans (Gr.alloc _ _))) hgr (by simp; omega) (fun j hj => (m2.lt j hj).1)
  refine ⟨⟨.slice (some ⟨gg, 0, none⟩) (k + 1) cap, bs ++ [wr.heap.size], ?_, ?_, by simp [m3], ?_, fun b hb => ?_⟩, below_putB g4 (Nat.le_refl _) _⟩
  · rw [putB_get_self h4]; rfl
  · rw [List.map_append]
    refine ⟨ho.1, ?_⟩
    rcases ho.2 with e | ⟨g', cap', cur, e0, e1, e2, r⟩
    · exact .inl e
    · refine .inr ⟨g', cap', cur, e0, e1, ?_, r⟩
      rw [putB_get_other w4 (type_ne e2 b4 (by decide))]
      exact e2
  · rw [List.nodup_append]
    refine ⟨m4, by simp, fun a ha b hb e => ?_⟩
    have : b = wr.heap.size := by simpa using hb
    have := heap_lt (m5 a ha).2
    omega
  · rcases List.mem_append.1 hb with hb | hb
    · refine ⟨(m5 b hb).1, ?_⟩
      have e := old _ _ _ _ (m5 b hb).2 (by decide)
      rw [putB_get_other w4 (type_ne e b4 (by decide))]
      exact e
    · have : b = wr.heap.size := by simpa using hb
      subst this
      refine ⟨hg.size, ?_⟩
      rw [putB_get_other w4 (type_ne new b4 (by decide))]
      exact new
set_option maxRecDepth 100000 in
set_option maxHeartbeats 2000000 in
theorem bnew_ok (n : Nat) (w : World) (h0 : 1 ≤ n) (hn : n ≤ 8) :
    Calls Try.prog 46 #[.int .i64 n] w fun e w' => e = .returned (.tuple #[bp w.heap.size, .int .i64 0]) ∧ Making w w' n ∧ Gr w w' := by
  have d0 : decide ((n : Int) < 1) = false := by rw [decide_eq_false_iff_not]; omega
  have d1 : decide ((n : Int) > 8) = false := by rw [decide_eq_false_iff_not]; omega
  obtain ⟨i0, hi0, hz0, hz1, hz2⟩ := info_parts infDisks
  go_enter Try.func46, Try.ntmps46
  go_wp2_with fail
  go_loopw [15] (fun i wr => ∃ k : Nat, k ≤ n ∧ i = .int .i64 k ∧ Hid (Making w wr k) ∧ Gr w wr) (fun i _ => n - (intOf i).toNat)
  case atStart => exact ⟨0, by omega, rfl, Lib.hid ⟨_, [], heap_alloc_new w _, World.ownsRow_nil _ _ _ _, rfl, List.nodup_nil, fun b hb => by simp at hb⟩, Gr.alloc _ _⟩
  case round =>
    obtain ⟨k, hk, rfl, hmk, hg⟩ := hrel
    by_cases hlt : k < n
    · obtain ⟨lv, bs, m1, m2, m3, m4, m5⟩ := hmk.out
      have c3 := cell_blk (off := 3) (v := lv) m1 rfl
      have f3 : wr.frozen? ⟨w.heap.size, 3, none⟩ = false := by simp [World.frozen?, m1]
      have hB := heap_lt m1
      have M1 := Lib.hid m1
      have M2 := Lib.hid m2
      have hne : some w.heap.size ≠ lv.ownBlock := fun e => by
        obtain ⟨cs, fr, e'⟩ := own_row m2 _ e.symm
        exact type_ne m1 e' (by decide) rfl
      have M3 := Lib.hid m3
      have M4 := Lib.hid m4
      have M5 := Lib.hid m5
      clear m1 m2 m3 m4 m5 hmk
      go_wp2_with fail
      go_region_law (first | (refine step_append_lies _ (by rfl) _ _ _ (by rfl) w.heap.size 108 i0 _ 1 8 slDisks hi0 hz0 hz1 hz2 rfl (by omega) lv k _ (by rfl) (((own_drew M2.out).alloc _).alloc _) ⟨wr.heap.size + 1, 0, none⟩ 1 1 [ptr wr.heap.size] (by rfl) (by rfl) (World.news_of_block (cs := #[ptr wr.heap.size]) (t := 108) (fr := (0, 0)) (heap_alloc_at _ _ _ (by simp))) (by simp [ptr, Value.oneCell']) (by omega) (by unfold maxLen; omega) (by omega) (by simp; omega) (wr.heap.size + 2) (by simp) ?_; intro gg cap w4 hown4 hgr hat hltg; have c34 := (hgr.cell_far ⟨w.heap.size, 3, none⟩ (by simp; omega) hne); have f34 := (hgr.frozen_far ⟨w.heap.size, 3, none⟩ (by simp; omega) hne)) | (go_simp; go_at_call 93; refine (dnew_any _).mono ?_; rintro e w3 ⟨rfl, rfl⟩))
      all_goals (
        have hst := Making.step hg M1.out M2.out M3.out M4.out M5.out hown4 hgr
        have HST := Lib.hid hst; clear hst
        go_wp2
        go_roundw)
      all_goals first | exact ⟨k + 1, by omega, by go_num, Lib.hid HST.out.1, HST.out.2⟩ | (simp [intOf]; omega)
    · obtain rfl : k = n := by omega
      go_wp2
      go_ret2
      exact ⟨rfl, hmk.out, hg⟩
/-- A new bench. -/
def bm0 (n : Nat) : BM := ⟨List.replicate n dm0, 0, -1, false⟩
def zd (n : Nat) : Array Value := (List.replicate n (Value.int .u8 0) ++ [Value.slice none 0 0, Value.bool false]).toArray
theorem zd_get {n i : Nat} (h : i < n) : (zd n)[i]? = some (.int .u8 0) := by
  unfold zd
  rw [List.getElem?_toArray, List.getElem?_append_left (by simpa using h)]
  simp [h]
theorem zd_end (n : Nat) : (zd n).size = n + 2 ∧ (zd n)[n]? = some (.slice none 0 0) ∧ (zd n)[n + 1]? = some (.bool false) := by
  unfold zd
  refine ⟨by simp, ?_, ?_⟩
  · rw [List.getElem?_toArray, List.getElem?_append_right (by simp)]; simp
  · rw [List.getElem?_toArray, List.getElem?_append_right (by simp)]; simp
theorem zeros_map (n j : Nat) (h : j < n) : ((zeros n).map bv)[j]? = some (.int .u8 0) := by
  unfold zeros
  rw [List.map_replicate, List.getElem?_replicate, if_pos h]; rfl
theorem DiskAt.made {w : World} {b : Nat} (h : w.heap[b]? = some (.cells zdisk 128 (0, 0))) : DiskAt w b none dm0 := by
  obtain ⟨e1, e2, e3⟩ := zd_end 1664
  refine ⟨zd 1664, .slice none 0 0, h, e1, fun a _ => zeros_length 32, fun a ha j hj => ?_, e2, e3, ⟨rfl, .inl ⟨rfl, rfl⟩⟩, ⟨rfl, fun _ => rfl⟩, fun x hx => absurd hx List.not_mem_nil⟩
  rw [zd_get (by omega)]
  exact (zeros_map 32 j hj).symm
theorem Making.bench {w wr : World} {n : Nat} (h : Making w wr n) : ∃ F, BenchAt wr F w.heap.size (bm0 n) ∧ ∀ k, F k → w.heap.size ≤ k := by
  obtain ⟨lv, bs, m1, m2, m3, m4, m5⟩ := h
  have hlen : (bm0 n).ds.length = n := by simp [bm0]
  have hget : ∀ i, i < n → bs.getD i 0 ∈ bs := fun i hi => by
    have : bs.getD i 0 = bs[i]'(by omega) := by simp [show i < bs.length from by omega]
    rw [this]; exact List.getElem_mem _
  have hnone : ∀ i, (List.replicate n (none : Option Nat)).getD i none = none := fun i => by
    by_cases hi : i < n <;> simp [hi]
  refine ⟨fun k => k = w.heap.size ∨ k ∈ bs ∨ lv.ownBlock = some k, ⟨lv, bs, List.replicate n none, m1, ?_, by rw [hlen]; exact m3, by rw [hlen]; simp, ?_, m4, ?_, .inl rfl, fun x hx => .inr (.inr hx), ?_, ?_, ?_⟩, ?_⟩
  · rw [hlen]
    refine ⟨m2.1, ?_⟩
    rcases m2.2 with e | ⟨g, cap, cur, e0, _, r⟩
    · exact .inl e
    · exact .inr ⟨g, cap, cur, e0, Nat.zero_le _, r⟩
  · intro i hi
    rw [hlen] at hi
    rw [hnone]
    have e : (bm0 n).ds.getD i dm0 = dm0 := by simp [bm0, hi]
    rw [e]
    exact DiskAt.made (m5 _ (hget i hi)).2
  · intro i j _ _ _ x hx
    rw [hnone] at hx
    cases hx
  · intro i hi
    rw [hlen] at hi
    exact .inr (.inl (hget i hi))
  · intro i _ x hx
    rw [hnone] at hx
    cases hx
  · intro k hk
    rcases hk with rfl | hk | hk
    · exact ⟨_, _, _, m1, .inl rfl⟩
    · exact ⟨_, _, _, (m5 k hk).2, .inr (.inr (.inl rfl))⟩
    · obtain ⟨cs, fr, e⟩ := own_row m2 k hk
      exact ⟨cs, _, fr, e, .inr (.inl rfl)⟩
  · intro k hk
    rcases hk with rfl | hk | hk
    · exact Nat.le_refl _
    · exact (m5 k hk).1
    · exact (m2.lt k hk).1
theorem bnew_any (n : Nat) (w : World) (h0 : 1 ≤ n) (hn : n ≤ 8) :
    Calls Try.prog 46 #[.int .i64 n] w fun e w' => e = .returned (.tuple #[bp w.heap.size, .int .i64 0]) ∧ (∃ F, BenchAt w' F w.heap.size (bm0 n) ∧ ∀ k, F k → w.heap.size ≤ k) ∧ Gr w w' :=
  (bnew_ok n w h0 hn).mono fun _ _ h => ⟨h.1, h.2.1.bench, h.2.2⟩
end Go.Proofs.Ytoalnkhedebpbaa
