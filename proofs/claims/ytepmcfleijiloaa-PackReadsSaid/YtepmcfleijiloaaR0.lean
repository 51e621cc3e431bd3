/- A slice of strings among the arguments, opened. -/
import Derived.Test.YtepmcfleijiloaaA0
import Derived.ProofKit
import Derived.SliceStrings
namespace Go.Proofs.Ytepmcfleijiloaa
open Go.RowKit Go.ChangeShapes

theorem own : ownKnob Try.prog.godebug = none := by kernel_rfl
theorem laidOut : laidOutB Try.prog = true := by kernel_rfl

theorem strs_open {H : Type} {enc : TypeId × Value → H} {W : World} {fuel : Nat} {a0 : Option Addr} {len cap : Nat} {x : DataW H × List MemPlace}
    (h : DataW.trod enc Try.prog W 0 (fun _ => true) true fuel 22 (Value.slice a0 len cap).cells.toList = some x) :
    ∃ xs : List ByteArray, len = xs.length ∧ Strs W 0 a0 cap xs ∧ ∀ x ∈ xs, x.size ≤ maxLen := by
  rcases open_strings Try.underlying22 Try.underlying9 (by kernel_rfl) h with ⟨hcs, _⟩ | ⟨a, l, c, ss, hcs, _, hl, hm, hz, _, hcell, hws⟩
  · simp [Value.cells] at hcs
    obtain ⟨rfl, rfl, rfl⟩ := hcs
    exact ⟨[], rfl, Strs.nil_ _ _ _ _ (by omega), by simp⟩
  · simp [Value.cells] at hcs
    obtain ⟨rfl, rfl, rfl⟩ := hcs
    simp at hz
    have hm' : cap ≤ 9223372036854775807 := by simpa [maxLen] using hm
    refine ⟨ss.take len, by simp; omega, ⟨?_, by simp; omega, hm'⟩, fun x hx => hws x (List.mem_of_mem_take hx)⟩
    intro hn
    have hn2 : 0 < len ∧ 0 < ss.length := by simp [strv] at hn; omega
    obtain ⟨b, off, spot⟩ := a
    have hc := hcell 0 (by omega)
    have hspot : spot = none := by simpa [Addr.add] using World.cell?_spot hc
    subst hspot
    refine ⟨b, off, rfl, Nat.zero_le _, ?_, fun j u hu => ?_⟩
    · have hc' : W.cell? ⟨b, off + 0, none⟩ = some (.string (ss.getD 0 ByteArray.empty)) := by simpa [Addr.add] using hc
      unfold World.cell? at hc'
      cases e : W.heap[b]? with
      | none => simp [e] at hc'
      | some o => exact (Array.getElem?_eq_some_iff.1 e).1
    · have hj : j < len ∧ j < ss.length := by
        have h := (List.getElem?_eq_some_iff.1 hu).1
        simp [strv] at h; omega
      have := hcell j hj.2
      have e : (⟨b, off, none⟩ : Addr).add j = ⟨b, off + j, none⟩ := by
        rcases Nat.eq_zero_or_pos j with rfl | hj0
        · rfl
        · simp [Addr.add]
          omega
      rw [e] at this
      rw [this, ← hu]
      simp [strv, hj.1, hj.2, List.getD]

end Go.Proofs.Ytepmcfleijiloaa
