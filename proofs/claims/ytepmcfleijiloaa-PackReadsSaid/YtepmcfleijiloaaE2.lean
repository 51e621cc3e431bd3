/- Contracts of package list: Merge, Without, Sorted. -/
import Derived.Test.YtepmcfleijiloaaE1
import Derived.Deep.RegionHeld3
namespace Go.Proofs.Ytepmcfleijiloaa
open Go.RowKit

def lenOf : Value → Nat | .slice _ n _ => n | _ => 0

/-- Merge's loop: what is left of both, what was gathered. -/
def MRel (w : World) (lo lo2 : Nat) (xs0 ys0 : List ByteArray) (v0 v1 v : Value) (wr : World) : Prop :=
  ∃ (A B : Option Addr) (n m c d : Nat) (xs ys acc : List ByteArray), v0 = .slice A n c ∧ v1 = .slice B m d ∧ n = xs.length ∧ m = ys.length ∧ n ≤ c ∧ m ≤ d ∧
      c ≤ 9223372036854775807 ∧ d ≤ 9223372036854775807 ∧ n ≤ 1000000 ∧ m ≤ 1000000 ∧ acc.length + n + m ≤ 2000000 ∧
      Rd w lo w.heap.size A (strv xs) ∧ Rd w lo2 w.heap.size B (strv ys) ∧ wr.ownsRow w.heap.size 9 1 v acc.length (strv acc) ∧ Below w.heap.size w wr ∧ acc ++ mergeL xs ys = mergeL xs0 ys0

set_option maxHeartbeats 4000000 in
set_option maxRecDepth 100000 in
/-- list.Merge -/
theorem c66 (w : World) (lo lo2 : Nat) (A0 B0 : Option Addr) (c0 d0 : Nat) (xs0 ys0 : List ByteArray) (hx0 : Strs w lo A0 c0 xs0) (hy0 : Strs w lo2 B0 d0 ys0) (hn : xs0.length ≤ 1000000) (hm : ys0.length ≤ 1000000) :
    Calls Try.prog 66 #[.slice A0 xs0.length c0, .slice B0 ys0.length d0] w fun e w' => ∃ v, e = .returned v ∧ w'.ownsRow w.heap.size 9 1 v (mergeL xs0 ys0).length (strv (mergeL xs0 ys0)) ∧ Below w.heap.size w w' := by
  go_enter Try.func66, Try.ntmps66
  go_wp2_with fail
  go_loopw [0, 1, 5] (fun v0 v1 v wr => MRel w lo lo2 xs0 ys0 v0 v1 v wr) (fun v0 v1 _ _ => lenOf v0 + lenOf v1)
  case atStart => exact ⟨A0, B0, _, _, c0, d0, xs0, ys0, [], rfl, rfl, rfl, rfl, hx0.2.1, hy0.2.1, hx0.2.2, hy0.2.2, hn, hm, by simp; omega, hx0.1, hy0.1, World.ownsRow_nil _ _ _ _, Below.refl _ _, rfl⟩
  case round =>
    clear hx0 hy0 hn hm
    obtain ⟨A, B, n, m, c, d, xs, ys, acc, rfl, rfl, hN, hM, hnc, hmd, hc, hd, hn1, hm1, hs1, hx, hy, hown, hB, he⟩ := hrel
    have HE := Lib.hid he
    have HN := Lib.hid hN
    have HM := Lib.hid hM
    clear hN hM
    have HO := Lib.hid hown
    have HB := Lib.hid hB
    have HXS := Lib.hid (hx.below hB)
    have HYS := Lib.hid (hy.below hB)
    have HX := Lib.hid hx
    have HY := Lib.hid hy
    clear hown hB hx hy he
    rcases xs with _ | ⟨x, xs⟩
    · rcases ys with _ | ⟨y, ys⟩
      · obtain rfl : n = 0 := HN.out
        obtain rfl : m = 0 := HM.out
        go_wp2_with fail
        go_ret
        refine ⟨_, rfl, ?_, HB.out⟩
        have := HE.out
        simp only [mergeL, List.append_nil] at this
        rw [← this]
        exact HO.out
      · obtain ⟨b2, o2, rfl, _, hb2, hcy⟩ := (HYS.out).at_ (k := 0) (by simp [strv])
        have hcy' : wr.cell? ⟨b2, o2, none⟩ = some (.string y) := by simpa [strv] using hcy
        clear hcy
        have hm0 : 0 < m := by have := HM.out; simp at this; omega
        have HTY := Lib.hid (Rd.tail (x := .string y) (xs := strv ys) HY.out (by have := HM.out; simp [strv] at this ⊢; omega) (d := d))
        obtain rfl : n = 0 := HN.out
        have hm0i : (1 : Int) ≤ (m : Int) := by omega
        have hm0b : ((m : Int) == 0) = false := by simp; omega
        have hcap : d = 1 ∨ ¬ d = 1 := by omega
        rcases hcap with rfl | hcap
        · obtain rfl : m = 1 := by omega
          rw [if_pos rfl] at HTY
          go_wp2_with fail
          go_quiet (fail)
          go_wp2_with fail
          go_quiet (fail)
          go_wp2_with fail
          go_region_law ((refine step_append_rd infoS (by rfl) (.tmp 14) (.tmp 18) (by rfl) w.heap.size _ acc.length (strv acc) (by rfl) (own_below HO.out (by repeat (first | exact Below.refl _ _ | apply below_drewN | apply Below.drew | (refine Below.alloc ?_ (by simp) _)))) _ _ _ 1 1 [.string y] (by rfl) (by first | exact Rd.new _ _ _ | exact Rd.drewN (Rd.new _ _ _) _) (by rfl) (by simp [Value.oneCell']) (by omega) (by have := HB.out.size; simp; omega) ?_; intro v1 w1 hown1 hg1 hat1; have X := own_step (x := y) HO.out HB.out (by repeat (first | exact Below.refl _ _ | apply below_drewN | apply Below.drew | (refine Below.alloc ?_ (by simp) _))) hown1 hg1; clear hown1 hg1 hat1))
          all_goals
            go_simp
            go_wp2_with fail
            go_roundw
            case rel =>
              refine ⟨A, _, 0, 0, c, 0, [], ys, acc ++ [y], by first | rfl | simp, by first | rfl | simp, by first | exact HN.out | (have := HN.out; rw [List.length_cons] at this; omega), by first | exact HM.out | (have := HM.out; rw [List.length_cons] at this; omega), by omega, by omega, by omega, by omega, by omega, by omega, by first | (simp; done) | (simp; omega), HX.out, HTY.out, by simpa using X.out.1, X.out.2, ?_⟩
              have := HE.out
              simp only [mergeL] at this ⊢; simpa using this
            case measure => first | (simp [lenOf]; done) | (simp [lenOf]; omega)
        · rw [if_neg hcap] at HTY
          go_wp2_with fail
          go_quiet (fail)
          go_wp2_with fail
          go_quiet (fail)
          go_wp2_with fail
          go_region_law ((refine step_append_rd infoS (by rfl) (.tmp 14) (.tmp 18) (by rfl) w.heap.size _ acc.length (strv acc) (by rfl) (own_below HO.out (by repeat (first | exact Below.refl _ _ | apply below_drewN | apply Below.drew | (refine Below.alloc ?_ (by simp) _)))) _ _ _ 1 1 [.string y] (by rfl) (by first | exact Rd.new _ _ _ | exact Rd.drewN (Rd.new _ _ _) _) (by rfl) (by simp [Value.oneCell']) (by omega) (by have := HB.out.size; simp; omega) ?_; intro v1 w1 hown1 hg1 hat1; have X := own_step (x := y) HO.out HB.out (by repeat (first | exact Below.refl _ _ | apply below_drewN | apply Below.drew | (refine Below.alloc ?_ (by simp) _))) hown1 hg1; clear hown1 hg1 hat1))
          all_goals
            go_simp
            go_wp2_with fail
            go_roundw
            case rel =>
              refine ⟨A, _, 0, m - 1, c, d - 1, [], ys, acc ++ [y], by first | rfl | simp, by first | rfl | simp, by first | exact HN.out | (have := HN.out; rw [List.length_cons] at this; omega), by first | exact HM.out | (have := HM.out; rw [List.length_cons] at this; omega), by omega, by omega, by omega, by omega, by omega, by omega, by first | (simp; done) | (simp; omega), HX.out, HTY.out, by simpa using X.out.1, X.out.2, ?_⟩
              have := HE.out
              simp only [mergeL] at this ⊢; simpa using this
            case measure => first | (simp [lenOf]; done) | (simp [lenOf]; omega)
    · rcases ys with _ | ⟨y, ys⟩
      · obtain ⟨b1, o1, rfl, _, hb1, hcx⟩ := (HXS.out).at_ (k := 0) (by simp [strv])
        have hcx' : wr.cell? ⟨b1, o1, none⟩ = some (.string x) := by simpa [strv] using hcx
        clear hcx
        have hn0 : 0 < n := by have := HN.out; simp at this; omega
        have HTX := Lib.hid (Rd.tail (x := .string x) (xs := strv xs) HX.out (by have := HN.out; simp [strv] at this ⊢; omega) (d := c))
        obtain rfl : m = 0 := HM.out
        have hn0i : (1 : Int) ≤ (n : Int) := by omega
        have hn0b : decide ((0 : Int) < (n : Int)) = true := by simp; omega
        have hcap : c = 1 ∨ ¬ c = 1 := by omega
        rcases hcap with rfl | hcap
        · obtain rfl : n = 1 := by omega
          rw [if_pos rfl] at HTX
          go_wp2_with fail
          go_quiet (fail)
          go_wp2_with fail
          go_region_law ((refine step_append_rd infoS (by rfl) (.tmp 41) (.tmp 45) (by rfl) w.heap.size _ acc.length (strv acc) (by rfl) (own_below HO.out (by repeat (first | exact Below.refl _ _ | apply below_drewN | apply Below.drew | (refine Below.alloc ?_ (by simp) _)))) _ _ _ 1 1 [.string x] (by rfl) (by first | exact Rd.new _ _ _ | exact Rd.drewN (Rd.new _ _ _) _) (by rfl) (by simp [Value.oneCell']) (by omega) (by have := HB.out.size; simp; omega) ?_; intro v1 w1 hown1 hg1 hat1; have X := own_step (x := x) HO.out HB.out (by repeat (first | exact Below.refl _ _ | apply below_drewN | apply Below.drew | (refine Below.alloc ?_ (by simp) _))) hown1 hg1; clear hown1 hg1 hat1))
          all_goals
            go_simp
            go_wp2_with fail
            go_roundw
            case rel =>
              refine ⟨_, B, 0, 0, 0, d, xs, [], acc ++ [x], by first | rfl | simp, by first | rfl | simp, by first | exact HN.out | (have := HN.out; rw [List.length_cons] at this; omega), by first | exact HM.out | (have := HM.out; rw [List.length_cons] at this; omega), by omega, by omega, by omega, by omega, by omega, by omega, by first | (simp; done) | (simp; omega), HTX.out, HY.out, by simpa using X.out.1, X.out.2, ?_⟩
              have := HE.out
              simp only [mergeL_nil] at this ⊢; simpa using this
            case measure => first | (simp [lenOf]; done) | (simp [lenOf]; omega)
        · rw [if_neg hcap] at HTX
          go_wp2_with fail
          go_quiet (fail)
          go_wp2_with fail
          go_region_law ((refine step_append_rd infoS (by rfl) (.tmp 41) (.tmp 45) (by rfl) w.heap.size _ acc.length (strv acc) (by rfl) (own_below HO.out (by repeat (first | exact Below.refl _ _ | apply below_drewN | apply Below.drew | (refine Below.alloc ?_ (by simp) _)))) _ _ _ 1 1 [.string x] (by rfl) (by first | exact Rd.new _ _ _ | exact Rd.drewN (Rd.new _ _ _) _) (by rfl) (by simp [Value.oneCell']) (by omega) (by have := HB.out.size; simp; omega) ?_; intro v1 w1 hown1 hg1 hat1; have X := own_step (x := x) HO.out HB.out (by repeat (first | exact Below.refl _ _ | apply below_drewN | apply Below.drew | (refine Below.alloc ?_ (by simp) _))) hown1 hg1; clear hown1 hg1 hat1))
          all_goals
            go_simp
            go_wp2_with fail
            go_roundw
            case rel =>
              refine ⟨_, B, n - 1, 0, c - 1, d, xs, [], acc ++ [x], by first | rfl | simp, by first | rfl | simp, by first | exact HN.out | (have := HN.out; rw [List.length_cons] at this; omega), by first | exact HM.out | (have := HM.out; rw [List.length_cons] at this; omega), by omega, by omega, by omega, by omega, by omega, by omega, by first | (simp; done) | (simp; omega), HTX.out, HY.out, by simpa using X.out.1, X.out.2, ?_⟩
              have := HE.out
              simp only [mergeL_nil] at this ⊢; simpa using this
            case measure => first | (simp [lenOf]; done) | (simp [lenOf]; omega)
      · obtain ⟨b1, o1, rfl, _, hb1, hcx⟩ := (HXS.out).at_ (k := 0) (by simp [strv])
        have hcx' : wr.cell? ⟨b1, o1, none⟩ = some (.string x) := by simpa [strv] using hcx
        clear hcx
        have hn0 : 0 < n := by have := HN.out; simp at this; omega
        have HTX := Lib.hid (Rd.tail (x := .string x) (xs := strv xs) HX.out (by have := HN.out; simp [strv] at this ⊢; omega) (d := c))
        obtain ⟨b2, o2, rfl, _, hb2, hcy⟩ := (HYS.out).at_ (k := 0) (by simp [strv])
        have hcy' : wr.cell? ⟨b2, o2, none⟩ = some (.string y) := by simpa [strv] using hcy
        clear hcy
        have hm0 : 0 < m := by have := HM.out; simp at this; omega
        have HTY := Lib.hid (Rd.tail (x := .string y) (xs := strv ys) HY.out (by have := HM.out; simp [strv] at this ⊢; omega) (d := d))
        have hm0i : (1 : Int) ≤ (m : Int) := by omega
        have hm0b : ((m : Int) == 0) = false := by simp; omega
        have hn0i : (1 : Int) ≤ (n : Int) := by omega
        have hn0b : decide ((0 : Int) < (n : Int)) = true := by simp; omega
        by_cases hc1 : cmpB x y < 0
        · have g1 : decide (Lib.compareBytes x.data.toList y.data.toList < 0) = true := by unfold cmpB at hc1; simpa using hc1
          have HC := Lib.hid hc1
          clear hc1
          have hcap : c = 1 ∨ ¬ c = 1 := by omega
          rcases hcap with rfl | hcap
          · obtain rfl : n = 1 := by omega
            rw [if_pos rfl] at HTX
            go_wp2_with fail
            go_quiet ((go_at_call 65; first | exact quiet_left (c65 _ _ _) | exact quiet_add_left (c65 _ _ _)))
            go_wp2_with fail
            go_region_law ((refine step_append_rd infoS (by rfl) (.tmp 41) (.tmp 45) (by rfl) w.heap.size _ acc.length (strv acc) (by rfl) (own_below HO.out (by repeat (first | exact Below.refl _ _ | apply below_drewN | apply Below.drew | (refine Below.alloc ?_ (by simp) _)))) _ _ _ 1 1 [.string x] (by rfl) (by first | exact Rd.new _ _ _ | exact Rd.drewN (Rd.new _ _ _) _) (by rfl) (by simp [Value.oneCell']) (by omega) (by have := HB.out.size; simp; omega) ?_; intro v1 w1 hown1 hg1 hat1; have X := own_step (x := x) HO.out HB.out (by repeat (first | exact Below.refl _ _ | apply below_drewN | apply Below.drew | (refine Below.alloc ?_ (by simp) _))) hown1 hg1; clear hown1 hg1 hat1))
            all_goals
              go_simp
              go_wp2_with fail
              go_roundw
              case rel =>
                refine ⟨_, _, 0, m, 0, d, xs, y :: ys, acc ++ [x], by first | rfl | simp, by first | rfl | simp, by first | exact HN.out | (have := HN.out; rw [List.length_cons] at this; omega), by first | exact HM.out | (have := HM.out; rw [List.length_cons] at this; omega), by omega, by omega, by omega, by omega, by omega, by omega, by first | (simp; done) | (simp; omega), HTX.out, HY.out, by simpa using X.out.1, X.out.2, ?_⟩
                have := HE.out
                rw [mergeL, if_pos HC.out] at this; simpa using this
              case measure => first | (simp [lenOf]; done) | (simp [lenOf]; omega)
          · rw [if_neg hcap] at HTX
            go_wp2_with fail
            go_quiet ((go_at_call 65; first | exact quiet_left (c65 _ _ _) | exact quiet_add_left (c65 _ _ _)))
            go_wp2_with fail
            go_region_law ((refine step_append_rd infoS (by rfl) (.tmp 41) (.tmp 45) (by rfl) w.heap.size _ acc.length (strv acc) (by rfl) (own_below HO.out (by repeat (first | exact Below.refl _ _ | apply below_drewN | apply Below.drew | (refine Below.alloc ?_ (by simp) _)))) _ _ _ 1 1 [.string x] (by rfl) (by first | exact Rd.new _ _ _ | exact Rd.drewN (Rd.new _ _ _) _) (by rfl) (by simp [Value.oneCell']) (by omega) (by have := HB.out.size; simp; omega) ?_; intro v1 w1 hown1 hg1 hat1; have X := own_step (x := x) HO.out HB.out (by repeat (first | exact Below.refl _ _ | apply below_drewN | apply Below.drew | (refine Below.alloc ?_ (by simp) _))) hown1 hg1; clear hown1 hg1 hat1))
            all_goals
              go_simp
              go_wp2_with fail
              go_roundw
              case rel =>
                refine ⟨_, _, n - 1, m, c - 1, d, xs, y :: ys, acc ++ [x], by first | rfl | simp, by first | rfl | simp, by first | exact HN.out | (have := HN.out; rw [List.length_cons] at this; omega), by first | exact HM.out | (have := HM.out; rw [List.length_cons] at this; omega), by omega, by omega, by omega, by omega, by omega, by omega, by first | (simp; done) | (simp; omega), HTX.out, HY.out, by simpa using X.out.1, X.out.2, ?_⟩
                have := HE.out
                rw [mergeL, if_pos HC.out] at this; simpa using this
              case measure => first | (simp [lenOf]; done) | (simp [lenOf]; omega)
        · have g1 : decide (Lib.compareBytes x.data.toList y.data.toList < 0) = false := by unfold cmpB at hc1; simp; omega
          have HC := Lib.hid hc1
          clear hc1
          by_cases hc2 : x = y
          · have g2 : (x.toList == y.toList) = true := by simp [hc2]
            have HC2 := Lib.hid hc2
            clear hc2
            have hcap : c = 1 ∨ ¬ c = 1 := by omega
            rcases hcap with rfl | hcap
            · obtain rfl : n = 1 := by omega
              rw [if_pos rfl] at HTX
              go_wp2_with fail
              go_quiet ((go_at_call 65; first | exact quiet_left (c65 _ _ _) | exact quiet_add_left (c65 _ _ _)))
              go_wp2_with fail
              go_quiet (fail)
              go_wp2_with fail
              go_roundw
              case rel =>
                refine ⟨_, _, 0, m, 0, d, xs, y :: ys, acc, by first | rfl | simp, rfl, by first | exact HN.out | (have := HN.out; rw [List.length_cons] at this; omega), HM.out, by omega, by omega, by omega, by omega, by omega, by omega, by omega, HTX.out, HY.out, own_below HO.out (by repeat (first | exact Below.refl _ _ | apply below_drewN | apply Below.drew | (refine Below.alloc ?_ (by simp) _))), below_ext HB.out (by repeat (first | exact Below.refl _ _ | apply below_drewN | apply Below.drew | (refine Below.alloc ?_ (by simp) _))), ?_⟩
                have := HE.out
                rw [mergeL, if_neg (by have := HC.out; omega), if_pos HC2.out] at this
                exact this
              case measure => first | (simp [lenOf]; done) | (simp [lenOf]; omega)
            · rw [if_neg hcap] at HTX
              go_wp2_with fail
              go_quiet ((go_at_call 65; first | exact quiet_left (c65 _ _ _) | exact quiet_add_left (c65 _ _ _)))
              go_wp2_with fail
              go_quiet (fail)
              go_wp2_with fail
              go_roundw
              case rel =>
                refine ⟨_, _, n - 1, m, c - 1, d, xs, y :: ys, acc, by first | rfl | simp, rfl, by first | exact HN.out | (have := HN.out; rw [List.length_cons] at this; omega), HM.out, by omega, by omega, by omega, by omega, by omega, by omega, by omega, HTX.out, HY.out, own_below HO.out (by repeat (first | exact Below.refl _ _ | apply below_drewN | apply Below.drew | (refine Below.alloc ?_ (by simp) _))), below_ext HB.out (by repeat (first | exact Below.refl _ _ | apply below_drewN | apply Below.drew | (refine Below.alloc ?_ (by simp) _))), ?_⟩
                have := HE.out
                rw [mergeL, if_neg (by have := HC.out; omega), if_pos HC2.out] at this
                exact this
              case measure => first | (simp [lenOf]; done) | (simp [lenOf]; omega)
          · have g2 : (x.toList == y.toList) = false := by rw [data_ext] at hc2; simpa using hc2
            have HC2 := Lib.hid hc2
            clear hc2
            have hcap : d = 1 ∨ ¬ d = 1 := by omega
            rcases hcap with rfl | hcap
            · obtain rfl : m = 1 := by omega
              rw [if_pos rfl] at HTY
              go_wp2_with fail
              go_quiet ((go_at_call 65; first | exact quiet_left (c65 _ _ _) | exact quiet_add_left (c65 _ _ _)))
              go_wp2_with fail
              go_quiet (fail)
              go_wp2_with fail
              go_region_law ((refine step_append_rd infoS (by rfl) (.tmp 14) (.tmp 18) (by rfl) w.heap.size _ acc.length (strv acc) (by rfl) (own_below HO.out (by repeat (first | exact Below.refl _ _ | apply below_drewN | apply Below.drew | (refine Below.alloc ?_ (by simp) _)))) _ _ _ 1 1 [.string y] (by rfl) (by first | exact Rd.new _ _ _ | exact Rd.drewN (Rd.new _ _ _) _) (by rfl) (by simp [Value.oneCell']) (by omega) (by have := HB.out.size; simp; omega) ?_; intro v1 w1 hown1 hg1 hat1; have X := own_step (x := y) HO.out HB.out (by repeat (first | exact Below.refl _ _ | apply below_drewN | apply Below.drew | (refine Below.alloc ?_ (by simp) _))) hown1 hg1; clear hown1 hg1 hat1))
              all_goals
                go_simp
                go_wp2_with fail
                go_roundw
                case rel =>
                  refine ⟨_, _, n, 0, c, 0, x :: xs, ys, acc ++ [y], by first | rfl | simp, by first | rfl | simp, by first | exact HN.out | (have := HN.out; rw [List.length_cons] at this; omega), by first | exact HM.out | (have := HM.out; rw [List.length_cons] at this; omega), by omega, by omega, by omega, by omega, by omega, by omega, by first | (simp; done) | (simp; omega), HX.out, HTY.out, by simpa using X.out.1, X.out.2, ?_⟩
                  have := HE.out
                  rw [mergeL, if_neg (by have := HC.out; omega), if_neg HC2.out] at this; simpa using this
                case measure => first | (simp [lenOf]; done) | (simp [lenOf]; omega)
            · rw [if_neg hcap] at HTY
              go_wp2_with fail
              go_quiet ((go_at_call 65; first | exact quiet_left (c65 _ _ _) | exact quiet_add_left (c65 _ _ _)))
              go_wp2_with fail
              go_quiet (fail)
              go_wp2_with fail
              go_region_law ((refine step_append_rd infoS (by rfl) (.tmp 14) (.tmp 18) (by rfl) w.heap.size _ acc.length (strv acc) (by rfl) (own_below HO.out (by repeat (first | exact Below.refl _ _ | apply below_drewN | apply Below.drew | (refine Below.alloc ?_ (by simp) _)))) _ _ _ 1 1 [.string y] (by rfl) (by first | exact Rd.new _ _ _ | exact Rd.drewN (Rd.new _ _ _) _) (by rfl) (by simp [Value.oneCell']) (by omega) (by have := HB.out.size; simp; omega) ?_; intro v1 w1 hown1 hg1 hat1; have X := own_step (x := y) HO.out HB.out (by repeat (first | exact Below.refl _ _ | apply below_drewN | apply Below.drew | (refine Below.alloc ?_ (by simp) _))) hown1 hg1; clear hown1 hg1 hat1))
              all_goals
                go_simp
                go_wp2_with fail
                go_roundw
                case rel =>
                  refine ⟨_, _, n, m - 1, c, d - 1, x :: xs, ys, acc ++ [y], by first | rfl | simp, by first | rfl | simp, by first | exact HN.out | (have := HN.out; rw [List.length_cons] at this; omega), by first | exact HM.out | (have := HM.out; rw [List.length_cons] at this; omega), by omega, by omega, by omega, by omega, by omega, by omega, by first | (simp; done) | (simp; omega), HX.out, HTY.out, by simpa using X.out.1, X.out.2, ?_⟩
                  have := HE.out
                  rw [mergeL, if_neg (by have := HC.out; omega), if_neg HC2.out] at this; simpa using this
                case measure => first | (simp [lenOf]; done) | (simp [lenOf]; omega)

end Go.Proofs.Ytepmcfleijiloaa
