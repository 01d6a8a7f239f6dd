/- Integers, bools that came in, as a row's frame has them. -/
import Derived.Test.YtoalnkhedebpbaaSecs
namespace Go.Proofs.Ytoalnkhedebpbaa
open Go.RowKit

theorem IntsIn.of {w : World} {a : Option Addr} {len cap : Nat} {zs : List Int} (h : (a = none ∧ len = 0 ∧ cap = 0 ∧ zs = []) ∨
    ∃ x, a = some x ∧ len ≤ cap ∧ cap ≤ maxLen ∧ zs.length = cap ∧ (∀ i, i < zs.length → w.cell? (x.add i) = some (.int .i64 (zs.getD i 0))) ∧ ∀ n ∈ zs, (Lit.int .i64 n).wf = true) : IntsIn w (.slice a len cap) (zs.take len) := by
  rcases h with ⟨rfl, rfl, rfl, rfl⟩ | ⟨x, rfl, hl, hm, hz, hc, _⟩
  · exact ⟨none, 0, rfl, by simp, by unfold maxLen; omega, fun i hi => by simp at hi⟩
  · have hlen : (zs.take len).length = len := by rw [List.length_take]; omega
    refine ⟨some x, cap, by rw [hlen], by omega, hm, fun i hi => ⟨x, rfl, ?_⟩⟩
    rw [hlen] at hi
    rw [hc i (by omega)]
    congr 2
    simp [hi]
end Go.Proofs.Ytoalnkhedebpbaa
