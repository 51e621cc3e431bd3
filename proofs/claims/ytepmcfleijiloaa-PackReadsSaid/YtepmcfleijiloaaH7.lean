/- Contracts of package graph: Has. -/
import Derived.Test.YtepmcfleijiloaaH1
import Derived.Test.YtepmcfleijiloaaC1
set_option linter.unusedVariables false
namespace Go.Proofs.Ytepmcfleijiloaa
open Go.RowKit

/-- Nodes have few edges. -/
def NsOK (ns : List Nd) : Prop := ∀ nd ∈ ns, nd.2.length ≤ 1000
theorem NsOK.of {ns : List Nd} (h : NsOK ns) (n : Int) : (nodeOf ns n).2.length ≤ 1000000 := by
  unfold nodeOf
  split
  · rename_i hn
    have := h (ns[n.toNat]'(by omega)) (List.getElem_mem _)
    omega
  · simp
/-- Graph.Next -/
def nextW (ns : List Nd) (n r : Int) : Nat × Bool := match (nodeOf ns n).2.find? (fun e => decide ((e.1 : Int) = r)) with | some e => (e.2, true) | none => (0, false)
def stepW (ns : List Nd) (s : Nat × Bool) (r : Nat) : Nat × Bool := if s.2 then nextW ns s.1 r else s
def walkW (ns : List Nd) (s : Nat × Bool) (t : List Nat) : Nat × Bool := t.foldl (stepW ns) s
theorem walkW_snoc (ns : List Nd) (s : Nat × Bool) (t : List Nat) (r : Nat) : walkW ns s (t ++ [r]) = stepW ns (walkW ns s t) r := by simp [walkW]
/-- Graph.Has -/
def hasW (ns : List Nd) (s : ByteArray) : Bool := (walkW ns (0, okRunes s) (gotRunes s)).2 && (nodeOf ns (walkW ns (0, okRunes s) (gotRunes s)).1).1
theorem c40' {w : World} {lo : Nat} {v : Value} {ns : List Nd} (n r : Int) (h : GraphV w lo v ns) (tn : Nat) (is : Bool) (hs : NsOK ns) (hn : nextW ns n r = (tn, is)) :
    Calls Try.prog 40 #[v, .int .i64 n, .int .i32 r] w fun e w' => e = .returned (.tuple #[.int .i64 tn, .bool is]) ∧ Below w.heap.size w w' :=
  c40 w lo v ns n r h tn is (hs.of n) (by rw [← hn]; rfl)
theorem i32v_at {rs : List Nat} {k : Nat} (h : k < rs.length) : (i32v rs)[k]'(by simpa [i32v] using h) = .int .i32 (rs[k] : Nat) := by simp [i32v]

set_option maxHeartbeats 1000000 in
set_option maxRecDepth 100000 in
/-- Graph.Has -/
theorem c42 (w : World) (lo : Nat) (v : Value) (ns : List Nd) (s : ByteArray) (h : GraphV w lo v ns) (hns : NsOK ns) (hs : s.size ≤ 1000000) :
    Calls Try.prog 42 #[v, .string s] w fun e w' => e = .returned (.bool (hasW ns s)) ∧ Below w.heap.size w w' := by
  have HG := Lib.hid h
  have HN := Lib.hid hns
  have hgl := gotRunes_len s
  clear h hns
  go_enter Try.func42, Try.ntmps42
  go_wp2_with fail
  (with_reducible refine (c37 s w hs).mono ?_); rintro e w1 ⟨v1, rfl, ho, hb⟩
  obtain ⟨A, c, rfl, hc1, hc2⟩ := own_slice ho
  have HO := Lib.hid ho
  have HB := Lib.hid hb
  clear ho hb
  go_wp2_with fail
  go_loopw [6, 7, 17] (fun ok n i wr => ∃ (k : Nat) (tn : Nat) (is : Bool), k ≤ (gotRunes s).length ∧ i = .int .i64 k ∧ ok = .bool is ∧ n = .int .i64 tn ∧ Hid (walkW ns (0, okRunes s) ((gotRunes s).take k) = (tn, is)) ∧ Hid (Below w1.heap.size w1 wr)) (fun _ _ i _ => (gotRunes s).length - (intOf i).toNat)
  case atStart => exact ⟨0, 0, okRunes s, by omega, rfl, rfl, rfl, Lib.hid rfl, Lib.hid (Below.refl _ _)⟩
  case round =>
    obtain ⟨k, tn, is, hk, rfl, rfl, rfl, HW, HB1⟩ := hrel
    by_cases hlt : k < (gotRunes s).length
    · obtain ⟨b, o, hA, _, _, hc⟩ := ((Rd.of_own HO.out).ext HB1.out).at_ (k := k) (by rw [i32v_len]; exact hlt)
      cases hA
      rw [i32v_at hlt] at hc
      obtain ⟨r, hr⟩ : ∃ r, r = (gotRunes s)[k] := ⟨_, rfl⟩
      rw [← hr] at hc
      have HR := Lib.hid hr
      clear hr
      cases is
      · go_wp2_with fail
        go_roundw
        case rel => exact ⟨k + 1, tn, false, by omega, by go_num, rfl, rfl, Lib.hid (by rw [List.take_succ_eq_append_getElem hlt, walkW_snoc, HW.out]; rfl), HB1⟩
        case measure => simp [intOf]; omega
      · obtain ⟨⟨tn2, is2⟩, hnx⟩ : ∃ p : Nat × Bool, nextW ns tn r = p := ⟨_, rfl⟩
        have HX := Lib.hid hnx
        have hG1 := (HG.out.ext HB.out).ext HB1.out
        have HG1 := Lib.hid hG1
        clear hnx hG1
        go_wp2_with (go_at_call 40; (with_reducible refine (c40' tn r HG1.out tn2 is2 HN.out HX.out).mono ?_); rintro e w2 ⟨rfl, hb2⟩)
        go_roundw
        case rel => exact ⟨k + 1, tn2, is2, by omega, by go_num, rfl, rfl, Lib.hid (by rw [List.take_succ_eq_append_getElem hlt, walkW_snoc, HW.out, ← HR.out]; exact HX.out), Lib.hid (below_ext HB1.out hb2)⟩
        case measure => simp [intOf]; omega
    · obtain rfl : k = (gotRunes s).length := by omega
      have HW2 : Hid (walkW ns (0, okRunes s) (gotRunes s) = (tn, is)) := Lib.hid (by have := HW.out; rwa [List.take_length] at this)
      have HG1 := Lib.hid ((HG.out.ext HB.out).ext HB1.out)
      clear HW
      cases is
      · go_wp2_with fail
        go_ret
        refine ⟨?_, below_ext HB.out HB1.out⟩
        unfold hasW
        rw [HW2.out]
        rfl
      · go_wp2_with (go_at_call 31; (with_reducible refine (c31 _ lo v ns tn HG1.out).mono ?_); rintro e w2 ⟨rfl, hb2⟩)
        go_ret
        refine ⟨?_, below_ext (below_ext HB.out HB1.out) hb2⟩
        unfold hasW
        rw [HW2.out]
        rfl

end Go.Proofs.Ytepmcfleijiloaa
