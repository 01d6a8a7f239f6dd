/- bench.Damage (nothing pending), Fail. -/
import Derived.Test.YtoalnkhedebpbaaDisk3
namespace Go.Proofs.Ytoalnkhedebpbaa
open Go.RowKit

/-- A disk of the bench is another one. -/
def BM.set (m : BM) (i : Nat) (d : DM) : BM := { m with ds := m.ds.set i d }
theorem BM.set_d (m : BM) {i j : Nat} (d : DM) (hi : i < m.ds.length) : (m.set i d).d j = if j = i then d else m.d j := by
  unfold BM.set BM.d
  by_cases e : j = i
  · subst e; rw [if_pos rfl]; exact getD_set_self hi
  · rw [if_neg e]; exact getD_set_ne (fun h => e h.symm)
theorem BM.set_len (m : BM) (i : Nat) (d : DM) : (m.set i d).ds.length = m.ds.length := by simp [BM.set]
set_option maxRecDepth 100000 in
set_option maxHeartbeats 400000 in
theorem bdamage_ok (m : BM) (F : Nat → Prop) (bb i at' : Nat) (x : List UInt8) (u : Value) (w : World) (h : BenchAt w F bb m) (hi : i < m.ds.length) (hp : (m.d i).pend = []) (hm : mayF (m.d i) at' = 0) (hx : BytesAt w u x) (hl : x.length = 32) :
    Calls Try.prog 28 #[bp bb, .int .i64 i, .int .i64 at', u] w fun e w' => e = .returned (.int .i64 0) ∧ ∃ F', BenchAt w' F' bb (m.set i ((m.d i).put at' x)) ∧ St F w F' w' := by
  have H := Lib.hid h
  have his : isB m i = true := by unfold isB; simp [hi]
  have HI := Lib.hid his; clear his
  obtain ⟨lb, cap, b, g, c3, ci, hd, hst⟩ := h.at hi
  have HD := Lib.hid hd; clear hd
  have HST := Lib.hid hst; clear hst
  have HX := Lib.hid hx
  have HP := Lib.hid hp; clear hp
  have HM := Lib.hid hm; clear hm
  have HL := Lib.hid hl
  obtain ⟨a, ucap, hu⟩ := hx.shape
  rw [hl] at hu
  subst hu
  clear h hx hl
  go_enter Try.func28, Try.ntmps28
  go_wp2_with fail
  refine (is_any m F bb i _ H.out).mono ?_
  rintro e w1 ⟨rfl, rfl⟩
  rw [HI.out]
  go_wp2_with fail
  refine (ddamage_ok (m.d i) at' x b g _ _ HD.out HP.out HM.out HX.out HL.out).mono ?_
  rintro e w1 ⟨rfl, hs, hd⟩
  have HR := Lib.hid (HST.out w1 g _ hs hd)
  clear hs hd
  go_wp2
  go_ret
  exact ⟨rfl, HR.out⟩
def dfail : DM := ⟨fun _ => zeros 32, [], true⟩
def zdf : List Value := List.replicate 1664 (Value.int .u8 0) ++ [Value.slice none 0 0, Value.bool true]
theorem inf128 : (Try.prog.info? 128).map (·.size) = some 1666 := by kernel_rfl
theorem build128 (w : World) : (Instr.build 128 #[(2, .bool true)]).run Try.prog w = .ok (.agg zdf.toArray) w := by kernel_rfl
def zf (n : Nat) : List Value := List.replicate n (Value.int .u8 0) ++ [Value.slice none 0 0, Value.bool true]
theorem zf_get {n i : Nat} (h : i < n) : (zf n).toArray[i]? = some (.int .u8 0) := by
  unfold zf
  rw [List.getElem?_toArray, List.getElem?_append_left (by simpa using h)]
  simp [h]
theorem zf_end (n : Nat) : (zf n).length = n + 2 ∧ (zf n).toArray[n]? = some (.slice none 0 0) ∧ (zf n).toArray[n + 1]? = some (.bool true) ∧ ∀ v ∈ zf n, v.oneCell' = true := by
  unfold zf
  refine ⟨by simp, ?_, ?_, fun v hv => ?_⟩
  · rw [List.getElem?_toArray, List.getElem?_append_right (by simp)]; simp
  · rw [List.getElem?_toArray, List.getElem?_append_right (by simp)]; simp
  · rcases List.mem_append.1 hv with hv | hv
    · rw [(List.mem_replicate.1 hv).2]; rfl
    · rcases List.mem_cons.1 hv with rfl | hv
      · rfl
      · rcases List.mem_cons.1 hv with rfl | hv
        · rfl
        · simp at hv
theorem DiskAt.dead {w : World} {b : Nat} (h : w.heap[b]? = some (.cells zdf.toArray 128 (0, 0))) : DiskAt w b none dfail := by
  obtain ⟨e1, e2, e3, _⟩ := zf_end 1664
  refine ⟨(zf 1664).toArray, .slice none 0 0, h, e1, fun a _ => zeros_length 32, fun a ha j hj => ?_, e2, e3, ⟨rfl, .inl ⟨rfl, rfl⟩⟩, ⟨rfl, fun _ => rfl⟩, fun x hx => absurd hx List.not_mem_nil⟩
  rw [zf_get (by omega)]
  exact (zeros_map 32 j hj).symm
set_option maxRecDepth 100000 in
set_option maxHeartbeats 1000000 in
theorem dfail_any (d : DM) (b : Nat) (g : Option Nat) (w : World) (h : DiskAt w b g d) :
    Calls Try.prog 84 #[.pointer (some ⟨b, 0, none⟩)] w fun e w' => e = .returned (.tuple #[]) ∧ DStep w b g w' none ∧ DiskAt w' b none dfail := by
  obtain ⟨cs, pv, h1, h2, _⟩ := h
  have hlt := heap_lt h1
  have hz := zf_end 1664
  have HB := Lib.hid h1
  have H2 := Lib.hid h2
  have HZ1 : Hid (zdf.length = 1666) := Lib.hid hz.1
  have HZ2 : Hid (∀ v ∈ zdf, v.oneCell' = true) := Lib.hid hz.2.2.2
  clear h1 h2 hz
  go_enter Try.func84, Try.ntmps84
  go_wp2_with (first | ((with_reducible apply wpL_storeAll (vs := zdf)); (rw [HZ1.out]; exact inf128); exact HZ2.out; rfl; rfl; exact HB.out; (rw [HZ1.out]; exact H2.out)))
  go_end0
  exact ⟨rfl, ⟨rfl, rfl, rfl, Nat.le_of_eq (putB_size _ _ _).symm, fun k hk hkb _ => putB_get_other w hkb _, .inr (fun x hx => absurd hx (by simp))⟩, DiskAt.dead (putB_get_self hlt _)⟩
set_option maxRecDepth 100000 in
set_option maxHeartbeats 400000 in
theorem bfail_ok (m : BM) (F : Nat → Prop) (bb i : Nat) (w : World) (h : BenchAt w F bb m) (hi : i < m.ds.length) :
    Calls Try.prog 32 #[bp bb, .int .i64 i] w fun e w' => e = .returned (.int .i64 0) ∧ ∃ F', BenchAt w' F' bb (m.set i dfail) ∧ St F w F' w' := by
  have H := Lib.hid h
  have his : isB m i = true := by unfold isB; simp [hi]
  have HI := Lib.hid his; clear his
  obtain ⟨lb, cap, b, g, c3, ci, hd, hst⟩ := h.at hi
  have HD := Lib.hid hd; clear hd
  have HST := Lib.hid hst; clear hst
  clear h
  go_enter Try.func32, Try.ntmps32
  go_wp2_with fail
  refine (is_any m F bb i _ H.out).mono ?_
  rintro e w1 ⟨rfl, rfl⟩
  rw [HI.out]
  go_wp2_with fail
  refine (dfail_any (m.d i) b g _ HD.out).mono ?_
  rintro e w1 ⟨rfl, hs, hd⟩
  have HR := Lib.hid (HST.out w1 none _ hs hd)
  clear hs hd
  go_wp2
  go_ret
  exact ⟨rfl, HR.out⟩
end Go.Proofs.Ytoalnkhedebpbaa
