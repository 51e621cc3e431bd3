/- Contracts of package inkhornlaw4: awake. -/
import Derived.Test.YtepmcfleijiloaaF3
import Derived.Test.YtepmcfleijiloaaE4
import Derived.Test.YtepmcfleijiloaaB1
namespace Go.Proofs.Ytepmcfleijiloaa
open Go.RowKit

theorem Rd.cells (w : World) (xs : List Value) (t : TypeId) : Rd (w.alloc (.cells xs.toArray t)) w.heap.size (w.heap.size + 1) (some ⟨w.heap.size, 0, none⟩) xs := fun _ =>
  ⟨w.heap.size, 0, rfl, Nat.le_refl _, by omega, fun j u hu => by
    rw [Nat.zero_add]
    rw [cell_new w _ _ _ j]
    simpa using hu⟩
theorem Strs.build (w : World) (t : TypeId) (ss : List ByteArray) (n : Nat) (h : n = ss.length) (hs : ss.length ≤ 1000) : Strs (w.alloc (.cells (strv ss).toArray t)) w.heap.size (some ⟨w.heap.size, 0, none⟩) n ss :=
  ⟨(Rd.cells w (strv ss) t).wide (Nat.le_refl _) (by simp), by omega, by omega⟩

def sA : ByteArray := ⟨#[97]⟩
def sB : ByteArray := ⟨#[98]⟩
def sC : ByteArray := ⟨#[99]⟩
def s0 : ByteArray := ⟨#[]⟩
theorem ac_rises : Rises [sA, sC] := (risesB_iff _).1 (by kernel_rfl)
theorem ac_below : below [sA, sC] sB = 1 := by kernel_rfl
theorem ac_in : inB [sA, sC] sB = false := by kernel_rfl
theorem ba_good : goodE [sB, sA] = 7 := by kernel_rfl
theorem bab_sorted : sortedL [sB, s0, sA, sB] = [sA, sB] := by kernel_rfl
theorem bab_small : Small [sB, s0, sA, sB] := by intro x hx; simp at hx; rcases hx with rfl | rfl | rfl | rfl <;> decide
theorem ba_small : Small [sB, sA] := by intro x hx; simp at hx; rcases hx with rfl | rfl <;> decide

theorem aw1 (w : World) : Calls Try.prog 41 #[.slice (some ⟨w.heap.size, 0, none⟩) 2 2, .string ⟨#[98]⟩] (w.alloc (.cells #[.string ⟨#[97]⟩, .string ⟨#[99]⟩] 9)) fun e w' => e = .returned (.tuple #[.int .i64 1, .bool false]) ∧ Below w.heap.size w w' := by
  have h := c41 _ w.heap.size _ _ [sA, sC] sB (Strs.build w 9 [sA, sC] 2 rfl (by simp)) ac_rises (by simp)
  rw [ac_below, ac_in] at h
  refine h.mono ?_
  rintro e w' ⟨rfl, n, rfl⟩
  exact ⟨rfl, below_drewN ((Below.refl _ _).alloc (Nat.le_refl _) _) _⟩
theorem aw2 (w : World) : Calls Try.prog 61 #[.slice (some ⟨w.heap.size, 0, none⟩) 2 2] (w.alloc (.cells #[.string ⟨#[98]⟩, .string ⟨#[97]⟩] 9)) fun e w' => e = .returned (.int .i64 7) ∧ Below w.heap.size w w' := by
  have h := c61 _ w.heap.size _ _ [sB, sA] (Strs.build w 9 [sB, sA] 2 rfl (by simp)) ba_small
  rw [ba_good] at h
  refine h.mono ?_
  rintro e w' ⟨rfl, hb⟩
  exact ⟨rfl, below_then ((Below.refl _ _).alloc (Nat.le_refl _) _) hb (by simp)⟩
theorem aw3 (w : World) : Calls Try.prog 60 #[.slice (some ⟨w.heap.size, 0, none⟩) 4 4] (w.alloc (.cells #[.string ⟨#[98]⟩, .string ⟨#[]⟩, .string ⟨#[97]⟩, .string ⟨#[98]⟩] 9)) fun e w' => ∃ A c, e = .returned (.slice A 2 c) ∧ Strs w' 0 A c [sA, sB] ∧ Below w.heap.size w w' := by
  have h := c60 _ w.heap.size _ _ [sB, s0, sA, sB] (Strs.build w 9 [sB, s0, sA, sB] 4 rfl (by simp)) bab_small (by simp)
  rw [bab_sorted] at h
  refine h.mono ?_
  rintro e w' ⟨v, rfl, hown, hb⟩
  obtain ⟨A, c, rfl, hs⟩ := own_strs hown
  exact ⟨A, c, rfl, hs.low (Nat.zero_le _), below_then ((Below.refl _ _).alloc (Nat.le_refl _) _) hb (by simp)⟩
theorem aw4 (w : World) (A : Option Addr) (c : Nat) (hs : Strs w 0 A c [sA, sB]) : Calls Try.prog 39 #[.slice A 2 c, .slice (some ⟨w.heap.size, 0, none⟩) 2 2] (w.alloc (.cells #[.string ⟨#[97]⟩, .string ⟨#[98]⟩] 9)) fun e w' => e = .returned (.bool true) ∧ Below w.heap.size w w' := by
  have h := c39 _ 0 w.heap.size _ _ _ _ [sA, sB] [sA, sB] (hs.ext ((Below.refl _ _).alloc (Nat.le_refl _) (Obj.cells (strv [sA, sB]).toArray 9))) (Strs.build w 9 [sA, sB] 2 rfl (by simp))
  rw [decide_eq_true rfl] at h
  refine h.mono ?_
  rintro e w' ⟨rfl, n, rfl⟩
  exact ⟨rfl, below_drewN ((Below.refl _ _).alloc (Nat.le_refl _) _) _⟩

set_option maxHeartbeats 400000 in
set_option maxRecDepth 100000 in
/-- inkhornlaw4.awake -/
theorem c59 (w : World) : Calls Try.prog 59 #[] w fun e w' => e = .returned (.bool true) ∧ Below w.heap.size w w' := by
  go_enter Try.func59, Try.ntmps59
  go_wp2_with fail
  (with_reducible refine (aw1 w).mono ?_); rintro e w1 ⟨rfl, hb⟩
  have H1 := Lib.hid hb
  clear hb
  go_wp2_with fail
  (with_reducible refine (aw2 w1).mono ?_); rintro e w2 ⟨rfl, hb⟩
  have H2 := Lib.hid (below_ext H1.out hb)
  clear hb
  go_wp2_with fail
  (with_reducible refine (aw3 w2).mono ?_); rintro e w3 ⟨A, c, rfl, hs, hb⟩
  have H3 := Lib.hid (below_ext H2.out hb)
  clear hb
  go_wp2_with fail
  (with_reducible refine (aw4 w3 A c hs).mono ?_); rintro e w4 ⟨rfl, hb⟩
  have H4 := Lib.hid (below_ext H3.out hb)
  clear hb
  go_wp2_with fail
  go_ret
  exact ⟨rfl, H4.out⟩

end Go.Proofs.Ytepmcfleijiloaa
