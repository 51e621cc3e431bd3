/- text.Text of one rune. -/
import Derived.Test.YtepmcfleijiloaaK6
import Derived.WalkLawsBesides
set_option linter.unusedVariables false
namespace Go.Proofs.Ytepmcfleijiloaa
open Go.RowKit

theorem conv_runes1 (w : World) (b o r : Nat) (hr : okR r) (hc : w.cell? ⟨b, o, none⟩ = some (.int .i32 r)) :
    (convert 45 9 (.slice (some ⟨b, o, none⟩) 1 1)).run Try.prog w = .ok (.string (txt [r])) w := by
  rw [run_convert_runes w 45 9 21 ⟨b, o, none⟩ 1 1 [(r : Int)] (by simp) Try.underlying45 Try.underlying21 Try.underlying9 ?_]
  · have e : runesBytes (List.take 1 [(r : Int)]) = txt [r] := by
      show ByteArray.empty ++ Utf8.encode (r : Int) = _
      rw [encode_txt hr]
      apply txt_ext
      rw [ByteArray.data_append]
      simp
    rw [e]
  · intro j hj
    obtain rfl : j = 0 := by simpa using hj
    exact hc

set_option maxRecDepth 100000 in
theorem c76 (w : World) (b o : Nat) (r : Nat) (hr : okR r) (hc : w.cell? ⟨b, o, none⟩ = some (.int .i32 r)) :
    Calls Try.prog 76 #[.slice (some ⟨b, o, none⟩) 1 1] w fun e w' => e = .returned (.tuple #[.string (txt [r]), .bool true]) ∧ Below w.heap.size w w' := by
  have h1 : r ≤ 1114111 := by have := hr.1; omega
  have d1 : decide ((r : Int) < 0) = false := by simp
  have d2 : decide ((1114111 : Int) < r) = false := by simp; omega
  have d5 : ((r : Int) == 65533) = false := beq_eq_false_iff_ne.2 (by have := hr.2; omega)
  go_enter Try.func76, Try.ntmps76
  go_wp2_with fail
  go_loopw [8] (fun i wr => ∃ k : Nat, k ≤ 1 ∧ i = .int .i64 k ∧ wr = w) (fun i _ => 1 - (intOf i).toNat)
  case atStart => exact ⟨0, by omega, rfl, rfl⟩
  case round =>
    obtain ⟨k, hk, rfl, rfl⟩ := hrel
    by_cases hlt : k < 1
    · obtain rfl : k = 0 := by omega
      have hc0 : wr.cell? ⟨b, o + 0, none⟩ = some (.int .i32 r) := hc
      by_cases h5 : r < 55296
      · have d3 : decide ((55296 : Int) ≤ r) = false := by simp; omega
        have HR := Lib.hid hr
        clear hr
        go_wp2_with fail
        go_roundw
        case rel => exact ⟨1, by omega, by go_num, by trivial⟩
        case measure => simp [intOf]
      · have d3 : decide ((55296 : Int) ≤ r) = true := by simp; omega
        have d4 : decide ((r : Int) ≤ 57343) = false := by have := hr.1; simp; omega
        have HR := Lib.hid hr
        clear hr
        go_wp2_with fail
        go_roundw
        case rel => exact ⟨1, by omega, by go_num, by trivial⟩
        case measure => simp [intOf]
    · obtain rfl : k = 1 := by omega
      have hc0 : wr.cell? ⟨b, o + 0, none⟩ = some (.int .i32 r) := hc
      have hcv := conv_runes1 wr b o r hr hc
      go_wp2_with fail
      go_ret2
      exact ⟨rfl, Below.refl _ _⟩

end Go.Proofs.Ytepmcfleijiloaa
