/- The law GraphNone as a contract; Words and From of a graph of words. -/
import Derived.Test.YtepmcfleijiloaaH11
import Derived.Test.YtepmcfleijiloaaK2
set_option linter.unusedVariables false
namespace Go.Proofs.Ytepmcfleijiloaa
open Go.RowKit

theorem NewT.of {w : World} {l : List ByteArray} {f : FuncId} {args : Array Value} (h : Calls Try.prog f args w fun e w' => ∃ A c, e = .returned (.slice A l.length c) ∧ w'.ownsRow w.heap.size 9 1 (.slice A l.length c) l.length (strv l) ∧ Below w.heap.size w w') :
    Calls Try.prog f args w (NewT w l) := by
  refine h.mono ?_
  rintro e w' ⟨A, c, rfl, ho, hb⟩
  obtain ⟨A', c', e', h1, h2⟩ := own_slice ho
  cases e'
  exact ⟨A, c, rfl, ⟨(Rd.of_own ho).wide (Nat.zero_le _) (Nat.le_refl _), h1, h2⟩, ho, hb⟩
/-- Words of a graph of words. -/
theorem k45 {w : World} {v : Value} {xs : List ByteArray} (h : GraphV w 0 v (graphOf (textsOf xs))) (hW : Wds xs) : Calls Try.prog 45 #[v] w (NewT w xs) :=
  NewT.of (c45 w v _ 13 (textsOf xs) h (nsOK hW.wd) (by have := eachOK hW.wd 12 _ (nodesOf_mem _) hW.short; rwa [nodesOf_idx] at this) hW.ok hW.asc (by omega) (by have := hW.len; simp [textsOf]; omega) xs hW.txt.symm)
/-- From of a graph of words. -/
theorem k44 {w : World} {v : Value} {xs l : List ByteArray} {q : ByteArray} {most : Int} (h : GraphV w 0 v (graphOf (textsOf xs))) (hW : Wds xs) (hm : most ≤ 9223372036854775807) (hl : l = fromL xs q most) : Calls Try.prog 44 #[v, .string q, .int .i64 most] w (NewT w l) :=
  NewT.of (c44 w v _ 13 (textsOf xs) q most h (nsOK hW.wd) (by have := eachOK hW.wd 12 _ (nodesOf_mem _) hW.short; rwa [nodesOf_idx] at this) hW.ok hW.asc (by omega) (by have := hW.len; simp [textsOf]; omega) hm l (by rw [hW.txt]; exact hl))

theorem none_node (n : Int) : nodeOf [] n = (false, []) := by
  unfold nodeOf
  split
  · rename_i h
    simp at h
    omega
  · rfl
theorem none_has (s : ByteArray) : hasW [] s = false := by
  unfold hasW
  rw [none_node, Bool.and_false]
theorem none_ok : NsOK [] := fun nd h => by simp at h
theorem gnone (w : World) : GraphV w 0 (.pointer none) [] := .inl ⟨rfl, rfl⟩
theorem n40 (w : World) (n r : Int) : Calls Try.prog 40 #[.pointer none, .int .i64 n, .int .i32 r] w fun e w' => e = .returned (.tuple #[.int .i64 0, .bool false]) ∧ Below w.heap.size w w' :=
  c40' n r (gnone w) 0 false none_ok (by unfold nextW; rw [none_node]; rfl)
theorem n29 (w : World) : Calls Try.prog 29 #[.pointer none] w fun e w' => e = .returned (.int .i64 0) ∧ w = w' := c29 w 0 _ [] (gnone w)
theorem n31 (w : World) (n : Int) : Calls Try.prog 31 #[.pointer none, .int .i64 n] w fun e w' => e = .returned (.bool false) ∧ Below w.heap.size w w' := by
  have h := c31 w 0 _ [] n (gnone w)
  rw [none_node] at h
  exact h
theorem n30 (w : World) (n : Int) : Calls Try.prog 30 #[.pointer none, .int .i64 n] w fun e w' => ∃ A c, e = .returned (.slice A 0 c) ∧ Below w.heap.size w w' := by
  refine (c30 w 0 _ [] n [] (gnone w) (by rw [none_node]) (by simp)).mono ?_
  rintro e w' ⟨r, rfl, ho, hb⟩
  obtain ⟨A, c, rfl, _⟩ := own_slice ho
  exact ⟨A, c, rfl, hb⟩
theorem n42 (w : World) (s : ByteArray) (hs : s.size ≤ 1000000) : Calls Try.prog 42 #[.pointer none, .string s] w fun e w' => e = .returned (.bool false) ∧ Below w.heap.size w w' := by
  have h := c42 w 0 _ [] s (gnone w) none_ok hs
  rw [none_has] at h
  exact h
theorem n45 (w : World) : Calls Try.prog 45 #[.pointer none] w fun e w' => ∃ A c, e = .returned (.slice A 0 c) ∧ Below w.heap.size w w' := by
  refine (c45 w _ [] 1 [] (gnone w) none_ok eachOK_nil (by intro t ht; simp at ht) List.Pairwise.nil (by omega) (by simp) [] rfl).mono ?_
  rintro e w' ⟨A, c, rfl, ho, hb⟩
  exact ⟨A, c, rfl, hb⟩
theorem n44 (w : World) (q : ByteArray) (n : Int) (hn : n ≤ 9223372036854775807) : Calls Try.prog 44 #[.pointer none, .string q, .int .i64 n] w fun e w' => ∃ A c, e = .returned (.slice A 0 c) ∧ Below w.heap.size w w' := by
  refine (c44 w _ [] 1 [] q n (gnone w) none_ok eachOK_nil (by intro t ht; simp at ht) List.Pairwise.nil (by omega) (by simp) hn [] (by simp [fromL])).mono ?_
  rintro e w' ⟨A, c, rfl, ho, hb⟩
  exact ⟨A, c, rfl, hb⟩

set_option maxHeartbeats 2000000 in
set_option maxRecDepth 100000 in
/-- inkhornlaw8.GraphNone -/
theorem c8 (w : World) (n r : Int) (s : ByteArray) (hn : n ≤ 9223372036854775807) :
    Calls Try.prog 8 #[.int .i64 n, .int .i32 r, .string s] w fun e w' => e = .returned (.bool true) ∧ Below w.heap.size w w' := by
  by_cases hsz : s.size ≤ 100
  · have bsz : decide ((100 : Int) < s.size) = false := by simp; omega
    have hs2 : s.size ≤ 1000000 := by omega
    go_enter Try.func8, Try.ntmps8
    go_wp2_with fail
    (with_reducible refine (n40 w n r).mono ?_); rintro e w1 ⟨rfl, hb⟩
    have HB := Lib.hid hb
    clear hb
    go_wp2_with fail
    (with_reducible refine (n29 w1).mono ?_); rintro e w2 ⟨rfl, rfl⟩
    go_wp2_with fail
    (with_reducible refine (n31 w1 n).mono ?_); rintro e w2 ⟨rfl, hb⟩
    replace HB := Lib.hid (below_ext HB.out hb)
    clear hb
    go_wp2_with fail
    (with_reducible refine (n30 w2 n).mono ?_); rintro e w3 ⟨A3, c3, rfl, hb⟩
    replace HB := Lib.hid (below_ext HB.out hb)
    clear hb
    go_wp2_with fail
    (with_reducible refine (n42 w3 s hs2).mono ?_); rintro e w4 ⟨rfl, hb⟩
    replace HB := Lib.hid (below_ext HB.out hb)
    clear hb
    go_wp2_with fail
    (with_reducible refine (n45 w4).mono ?_); rintro e w5 ⟨A5, c5, rfl, hb⟩
    replace HB := Lib.hid (below_ext HB.out hb)
    clear hb
    go_wp2_with fail
    (with_reducible refine (n44 w5 s n hn).mono ?_); rintro e w6 ⟨A6, c6, rfl, hb⟩
    replace HB := Lib.hid (below_ext HB.out hb)
    clear hb
    go_wp2_with fail
    (with_reducible refine (c23 _).mono ?_); rintro e w7 ⟨rfl, hb⟩
    replace HB := Lib.hid (below_ext HB.out hb)
    clear hb
    go_wp2_with fail
    go_ret
    exact ⟨rfl, HB.out⟩
  · have bsz : decide ((100 : Int) < s.size) = true := by simp; omega
    go_enter Try.func8, Try.ntmps8
    go_wp2_with fail
    (with_reducible refine (c23 _).mono ?_); rintro e w2 ⟨rfl, hb⟩
    go_wp2_with fail
    go_ret
    exact ⟨rfl, hb⟩

end Go.Proofs.Ytepmcfleijiloaa
