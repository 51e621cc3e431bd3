/- Contracts on lists of edges: SameEdges, OverEdges. -/
import Derived.Test.YtepmcfleijiloaaH1
import Derived.Laws.StructEq
set_option linter.unusedVariables false
namespace Go.Proofs.Ytepmcfleijiloaa
open Go.RowKit

set_option maxRecDepth 100000 in
theorem eq49 (a b c d : Int) (w : World) : (Op.equalIn 10000 49 (.agg #[.int .i32 a, .int .i64 b]) (.agg #[.int .i32 c, .int .i64 d])).run Try.prog w = .ok (a == c && b == d) w := by
  have u3 := Try.underlying3
  have a3 := Try.isAgg3
  have z3 := Try.sizeOf3
  have u21 := Try.underlying21
  have a21 := Try.isAgg21
  have z21 := Try.sizeOf21
  have hS : Try.prog.underlying 49 = some (.struct (Try.prog.fieldsOf 49)) := by kernel_rfl
  rw [show (10000 : Nat) = 9999 + 1 from rfl, run_equalIn_agg w 9999 49 _ _ hS (by kernel_rfl)]
  simp only [Program.fieldsOf, Try.underlying49]
  go_simp
  by_cases h1 : a = c <;> by_cases h2 : b = d <;> simp [h1, h2]

set_option maxHeartbeats 1000000 in
set_option maxRecDepth 100000 in
/-- SameEdges -/
theorem c33 (w : World) (lo lo2 : Nat) (A B : Option Addr) (c d : Nat) (xs ys : List (Nat × Nat)) (hx : Edgs w lo A c xs) (hy : Edgs w lo2 B d ys) :
    Calls Try.prog 33 #[.slice A xs.length c, .slice B ys.length d] w fun e w' => e = .returned (.bool (decide (xs = ys))) ∧ ∃ n, w' = w.drewN n := by
  have hl1 := hx.2.1
  have hl2 := hy.2.1
  have hm1 := hx.2.2
  have hm2 := hy.2.2
  have he49 := eq49
  by_cases hlen : xs.length = ys.length
  · have hne : ((xs.length : Int) != (ys.length : Int)) = false := by simp [hlen]
    have HL := Lib.hid hlen; clear hlen
    go_enter Try.func33, Try.ntmps33
    go_wp2
    go_loopw [5] (fun i wr => ∃ k n : Nat, k ≤ xs.length ∧ i = .int .i64 k ∧ xs.take k = ys.take k ∧ wr = w.drewN n) (fun i _ => xs.length - (intOf i).toNat)
    case atStart => exact ⟨0, 0, Nat.zero_le _, rfl, by simp, rfl⟩
    case round =>
      obtain ⟨k, n, hk, rfl, ht, rfl⟩ := hrel
      have HT := Lib.hid ht; clear ht
      by_cases hlt : k < xs.length
      · have hlt2 : k < ys.length := by have := HL.out; omega
        obtain ⟨b1, o1, rfl, _, hb, hcx, hcx2⟩ := hx.at_ hlt
        obtain ⟨b2, o2, rfl, _, hb', hcy, hcy2⟩ := hy.at_ (k := k) (by have := HL.out; omega)
        obtain ⟨x, hx'⟩ : ∃ x, x = xs[k].1 := ⟨_, rfl⟩
        obtain ⟨y, hy'⟩ : ∃ y, y = ys[k].1 := ⟨_, rfl⟩
        obtain ⟨x2, hx2'⟩ : ∃ x, x = xs[k].2 := ⟨_, rfl⟩
        obtain ⟨y2, hy2'⟩ : ∃ y, y = ys[k].2 := ⟨_, rfl⟩
        rw [← hx'] at hcx
        rw [← hy'] at hcy
        rw [← hx2'] at hcx2
        rw [← hy2'] at hcy2
        have HX := Lib.hid hx'; have HY := Lib.hid hy'
        have HX2 := Lib.hid hx2'; have HY2 := Lib.hid hy2'
        clear hx' hy' hx2' hy2'
        by_cases hxy : x = y ∧ x2 = y2
        · have hb1 : ((x : Int) == (y : Int)) = true := by simp [hxy.1]
          have hb2 : ((x2 : Int) == (y2 : Int)) = true := by simp [hxy.2]
          have HXY := Lib.hid hxy; clear hxy
          go_wp2
          go_quiet (fail)
          go_wp2
          go_roundw
          case rel =>
            refine ⟨k + 1, _, by omega, by go_num, ?_, rfl⟩
            rw [List.take_succ_eq_append_getElem hlt, List.take_succ_eq_append_getElem hlt2, HT.out]
            have e : xs[k] = ys[k] := Prod.ext (by rw [← HX.out, ← HY.out]; exact HXY.out.1) (by rw [← HX2.out, ← HY2.out]; exact HXY.out.2)
            rw [e]
          case measure => simp [intOf]; omega
        · have hb1 : (((x : Int) == (y : Int)) && ((x2 : Int) == (y2 : Int))) = false := by
            rw [Bool.eq_false_iff]
            intro h
            simp at h
            exact hxy ⟨by omega, by omega⟩
          have HXY := Lib.hid hxy; clear hxy
          go_wp2
          go_quiet (fail)
          go_wp2
          go_ret
          refine ⟨?_, _, World.drewN_drewN _ _ _⟩
          have : xs ≠ ys := fun h => HXY.out (by rw [HX.out, HY.out, HX2.out, HY2.out]; simp only [h]; exact ⟨trivial, trivial⟩)
          rw [decide_eq_false this]; rfl
      · go_wp2
        go_ret
        refine ⟨?_, n, rfl⟩
        have : xs = ys := by
          have h := HT.out
          rwa [List.take_of_length_le (by omega), List.take_of_length_le (by have := HL.out; omega)] at h
        rw [decide_eq_true this]; rfl
  · have hne : ((xs.length : Int) != (ys.length : Int)) = true := by simp; omega
    have H := Lib.hid hlen; clear hlen
    go_enter Try.func33, Try.ntmps33
    go_wp2
    go_ret
    refine ⟨?_, 0, rfl⟩
    rw [decide_eq_false (fun h => H.out (by rw [h]))]; rfl

set_option maxHeartbeats 1000000 in
set_option maxRecDepth 100000 in
/-- OverEdges -/
theorem c35 (w : World) (base : Nat) (v : Value) (xs : List (Nat × Nat)) (hown : w.ownsRow base 49 2 v xs.length (edgv xs)) (hn : xs.length ≤ 1000000) (B : Nat) (hB1 : B ≤ base) (hB2 : base ≤ w.heap.size) :
    Calls Try.prog 35 #[v] w fun e w' => e = .returned (.tuple #[]) ∧ Below B w w' := by
  obtain ⟨A, c, rfl, hc1, hc2⟩ := own_slice hown
  have HO := Lib.hid hown
  clear hown
  go_enter Try.func35, Try.ntmps35
  go_wp2
  go_loopw [2] (fun i wr => ∃ (k : Nat) (zs : List Value), k ≤ xs.length ∧ i = .int .i64 k ∧ wr.ownsRow base 49 2 (.slice A xs.length c) xs.length zs ∧ Below B w wr ∧ base ≤ wr.heap.size) (fun i _ => xs.length - (intOf i).toNat)
  case atStart => exact ⟨0, edgv xs, by omega, rfl, HO.out, Below.refl _ _, hB2⟩
  case round =>
    clear HO
    obtain ⟨k, zs, hk, rfl, hown, hB, hs⟩ := hrel
    by_cases hlt : k < xs.length
    · obtain ⟨g, cap, hv, hbg, hgl⟩ := hown.form (by omega)
      injection hv with hA _ hcc
      subst hA; subst hcc
      have hlz : zs.length = xs.length * 2 := hown.1
      have hcell : ∃ u, wr.cell? ⟨g, k * 2, none⟩ = some u := by rw [hown.cellAt (k * 2) (by omega)]; exact ⟨_, List.getElem?_eq_getElem (by omega)⟩
      have hcell2 : ∃ u, wr.cell? ⟨g, k * 2 + 1, none⟩ = some u := by rw [hown.cellAt (k * 2 + 1) (by omega)]; exact ⟨_, List.getElem?_eq_getElem (by omega)⟩
      obtain ⟨u1, hu1⟩ := hcell
      obtain ⟨u2, hu2⟩ := hcell2
      have hfr := hown.frozenAt (k * 2)
      have hfr2 := hown.frozenAt (k * 2 + 1)
      have HO := Lib.hid ((hown.stored (k * 2) (.int .i32 0)).1.stored (k * 2 + 1) (.int .i64 (-9))).1
      have HB := Lib.hid ((hB.setCell (p := ⟨g, k * 2, none⟩) (by show B ≤ g; omega) (.int .i32 0)).setCell (p := ⟨g, k * 2 + 1, none⟩) (by show B ≤ g; omega) (.int .i64 (-9)))
      clear hown hB
      go_wp2
      go_roundw
      case rel => exact ⟨k + 1, _, by omega, by go_num, HO.out, HB.out, by simpa using hs⟩
      case measure => simp [intOf]; omega
    · have HO := Lib.hid hown
      have HB := Lib.hid hB
      clear hown hB
      go_wp2_with (first
        | (at_builtin
           refine wpList_append_rd infoE rfl (.tmp 13) (.tmp 15) rfl base (.slice A xs.length c) xs.length zs rfl (HO.out.alloc _) wr.heap.size (wr.heap.size + 1) _ 1 1 [.int .i32 0, .int .i64 (-9)] rfl (Rd.two wr _ _ _) rfl (by simp [Value.oneCell']) (by omega) (by simp; omega) ?_
           intro v1 w1 hown1 hg1 hat1))
      go_end0
      refine ⟨rfl, ?_⟩
      refine (HB.out.alloc (Nat.le_trans hB1 hs) _).grown hg1 (by simp; omega) (fun q hq => ?_)
      have := HO.out.lt q hq
      omega

end Go.Proofs.Ytepmcfleijiloaa
