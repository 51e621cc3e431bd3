/- The law ListSorted as a contract. -/
import Derived.Test.YtepmcfleijiloaaG1
import Derived.Test.YtepmcfleijiloaaQ1
import Derived.Test.YtepmcfleijiloaaG3
namespace Go.Proofs.Ytepmcfleijiloaa
open Go.RowKit

theorem k36 {w : World} {x : ByteArray} (hx : isWord x = true) (hs : x.size ≤ 4611686018427387904) :
    Calls Try.prog 36 #[.string x] w fun e w' => e = .returned (.bool true) ∧ Below w.heap.size w w' := by
  have := c36 x w hs
  rw [hx] at this
  exact this

theorem k65 {w : World} (x y : ByteArray) : Calls Try.prog 65 #[.string x, .string y] w fun e w' => e = .returned (.int .i64 (Lib.compareBytes x.data.toList y.data.toList)) ∧ Below w.heap.size w w' :=
  (c65 x y w).mono fun _ _ ⟨h1, h2⟩ => ⟨h1, h2 ▸ Below.refl _ _⟩

set_option maxHeartbeats 4000000 in
set_option maxRecDepth 100000 in
/-- inkhornlaw4.ListSorted -/
theorem c15 (w : World) (lo : Nat) (A : Option Addr) (c : Nat) (xs : List ByteArray) (hx : Strs w lo A c xs) :
    Calls Try.prog 15 #[.slice A xs.length c] w fun e w' => e = .returned (.bool true) ∧ Below w.heap.size w w' := by
  have hl1 := hx.2.1
  have hm1 := hx.2.2
  obtain ⟨gr, hgr⟩ : ∃ gr, gr = greatB xs := ⟨_, rfl⟩
  have HG := Lib.hid hgr
  clear hgr
  cases gr
  · have HS := Lib.hid (great_false HG.out.symm)
    have HSM := Lib.hid (great_small HG.out.symm)
    have hlen := HS.out.1
    go_enter Try.func15, Try.ntmps15
    go_wp2_with fail
    (with_reducible refine (c22 _ _ _ _ _ hx).mono ?_); rintro e w1 ⟨rfl, rfl⟩
    rw [← HG.out]
    go_wp2_with fail
    (with_reducible refine (c60 _ _ _ _ _ hx HSM.out (by omega)).mono ?_); rintro e w1 ⟨v, rfl, hown, hb⟩
    have HB1 := Lib.hid hb
    clear hb
    obtain ⟨B, d, rfl, hy⟩ := own_strs hown
    have HO := Lib.hid hown
    clear hown
    have HR := Lib.hid (sortedL_rises xs)
    have HM := Lib.hid (sortedL_mem xs)
    have hyl := sortedL_len xs
    generalize sortedL xs = ys at *
    have HY := Lib.hid hy
    have hl2 := hy.2.1
    have hm2 := hy.2.2
    clear hy
    go_wp2_with fail
    go_loopw [4] (fun i wr => ∃ j : Nat, j ≤ ys.length ∧ i = .int .i64 j ∧ Below w1.heap.size w1 wr) (fun i _ => ys.length - (intOf i).toNat)
    case atStart => exact ⟨0, Nat.zero_le _, rfl, Below.refl _ _⟩
    case round =>
      obtain ⟨j, hj, rfl, hB⟩ := hrel
      have HB := Lib.hid hB
      clear hB
      by_cases hlt : j < ys.length
      · obtain ⟨b1, o1, rfl, _, hb1, hcx0⟩ := (HY.out).all (by omega)
        have HALL := Lib.hid fun (W : World) (hW : Below w1.heap.size w1 W) (j : Nat) (hj : j < ys.length) => (show W.cell? ⟨b1, o1 + j, none⟩ = some (.string ys[j]) from (World.cell?_of_block (a := ⟨b1, o1 + j, none⟩) (hW.block b1 hb1)).trans (hcx0 j hj))
        clear hcx0
        obtain ⟨x, hx'⟩ : ∃ x, x = ys[j] := ⟨_, rfl⟩
        have hxm := (HM.out x).1 (by rw [hx']; exact List.getElem_mem _)
        have HW := Lib.hid hxm.2
        have hsx := HSM.out x hxm.1
        clear hxm
        have HC1 := Lib.hid fun (W : World) (hW : Below w1.heap.size w1 W) => (show W.cell? ⟨b1, o1 + j, none⟩ = some (.string x) by rw [hx']; exact HALL.out W hW j hlt)
        have hq : ∀ d os, (Sort.grow (redrawn wr d) os).cell? ⟨b1, o1 + j, none⟩ = some (.string x) := cell_regrown (HC1.out _ HB.out)
        have hc36 := Lib.hid fun d os => k36 (w := Sort.grow (redrawn wr d) os) HW.out (show x.size ≤ 4611686018427387904 by omega)
        by_cases hpos : j = 0
        · clear hx'
          have g1 : decide ((0 : Int) < (j : Int)) = false := by simp; omega
          have g2 : decide (0 < j) = false := by simp; omega
          clear hpos
          go_wp2_with fail
          refine WQ.start (by kernel_rfl) (by kernel_rfl) ?_
          repeat (refine WQ.step (fun K hK => ?_)
                  go_simp
                  first
                    | (refine hK _ ?_; clear hK K)
                    | (apply Exists.intro
                       refine ⟨fun _ => ?_, hK _ ?_⟩
                       ((go_at_call 36; exact Calls.regrown_of (hc36.out _ _)))
                       clear hK K))
          refine WQ.done ?_
          intro _ hw'
          obtain ⟨⟨dq, osq⟩, hw''⟩ := hw'
          subst hw''
          have hb9 := below_regrown wr dq osq
          generalize Sort.grow (redrawn wr dq) osq = w9 at *
          replace HB := Lib.hid (below_then HB.out hb9 HB.out.size)
          clear hb9
          go_wp2_with fail
          go_roundw
          case rel => exact ⟨j + 1, by omega, by go_num, HB.out⟩
          case measure => simp [intOf]; omega
        · obtain ⟨y, hy'⟩ : ∃ y, y = ys[j - 1]'(by omega) := ⟨_, rfl⟩
          have hcell := HALL.out wr HB.out (j - 1) (by omega)
          rw [← hy'] at hcell
          have hq2 : ∀ d os, (Sort.grow (redrawn wr d) os).cell? ⟨b1, o1 + (j - 1), none⟩ = some (.string y) := cell_regrown hcell
          clear hcell
          have hr := (risesB_at ys).1 ((risesB_iff _).2 HR.out) (j - 1) (by omega)
          have e2 : j - 1 + 1 = j := by omega
          simp only [e2] at hr
          rw [← hy', ← hx'] at hr
          have hc65 := Lib.hid fun d os => k65 (w := Sort.grow (redrawn wr d) os) y x
          clear hx' hy' e2
          obtain ⟨k, hk⟩ : ∃ k, k = j - 1 := ⟨_, rfl⟩
          rw [← hk] at hq2
          have hwr : IntKind.i64.wrap ((j : Int) - 1) = (k : Int) := by rw [IntKind.wrap_i64]; omega
          have hk1 : k < ys.length := by omega
          have HK := Lib.hid hk
          clear hk
          have g1 : decide ((0 : Int) < (j : Int)) = true := by simp; omega
          have g2 : decide (0 < j) = true := by simp; omega
          have g3 : decide ((0 : Int) ≤ Lib.compareBytes y.data.toList x.data.toList) = false := by unfold cmpB at hr; simp; omega
          have hpos2 : 1 ≤ j := by omega
          clear hpos hr
          go_wp2_with fail
          refine WQ.start (by kernel_rfl) (by kernel_rfl) ?_
          repeat (refine WQ.step (fun K hK => ?_)
                  go_simp
                  first
                    | (refine hK _ ?_; clear hK K)
                    | (apply Exists.intro
                       refine ⟨fun _ => ?_, hK _ ?_⟩
                       (first | (go_at_call 36; exact Calls.regrown_of (hc36.out _ _)) | (go_at_call 65; exact Calls.regrown_of (hc65.out _ _)))
                       clear hK K))
          refine WQ.done ?_
          intro _ hw'
          obtain ⟨⟨dq, osq⟩, hw''⟩ := hw'
          subst hw''
          have hb9 := below_regrown wr dq osq
          generalize Sort.grow (redrawn wr dq) osq = w9 at *
          replace HB := Lib.hid (below_then HB.out hb9 HB.out.size)
          clear hb9
          go_wp2_with fail
          go_roundw
          case rel => exact ⟨j + 1, by omega, by go_num, HB.out⟩
          case measure => simp [intOf]; omega
      · have hge : ys.length ≤ j := by omega
        clear hlt
        have g0 : decide (j < ys.length) = false := by simp; omega
        go_wp2_with fail
        go_loopw [5] (fun i wr => ∃ j : Nat, j ≤ xs.length ∧ i = .int .i64 j ∧ Below w1.heap.size w1 wr) (fun i _ => xs.length - (intOf i).toNat)
        case atStart => exact ⟨0, Nat.zero_le _, rfl, HB.out⟩
        case round =>
          clear HB hge
          obtain ⟨j, hj, rfl, hB⟩ := hrel
          have HB := Lib.hid hB
          clear hB
          by_cases hlt : j < xs.length
          · obtain ⟨b1, o1, rfl, _, hb1, hcx0⟩ := hx.at_ hlt
            obtain ⟨x, hx'⟩ : ∃ x, x = xs[j] := ⟨_, rfl⟩
            rw [← hx'] at hcx0
            have HCX := Lib.hid fun (W : World) (hW : Below w.heap.size w W) => (show W.cell? ⟨b1, o1 + j, none⟩ = some (.string x) from (World.cell?_of_block (a := ⟨b1, o1 + j, none⟩) (hW.block b1 hb1)).trans hcx0)
            clear hcx0
            have hcx := HCX.out _ (below_ext HB1.out HB.out)
            have HXM := Lib.hid (show x ∈ xs by rw [hx']; exact List.getElem_mem _)
            clear hx'
            have hsx := HSM.out x HXM.out
            have hii : inB ys x = isWord x := by
              rw [Bool.eq_iff_iff, inB_iff, HM.out]
              exact ⟨fun h => h.2, fun h => ⟨HXM.out, h⟩⟩
            obtain ⟨b, hb⟩ : ∃ b, b = isWord x := ⟨_, rfl⟩
            rw [← hb] at hii
            have HII := Lib.hid hii.symm
            have HBW := Lib.hid hb
            clear hii hb
            cases b
            · go_wp2_with fail
              (with_reducible refine (c41 _ _ _ _ _ x (HY.out.ext HB.out) HR.out (by omega)).mono ?_); rintro e w3 ⟨rfl, n, rfl⟩
              rw [← HII.out]
              replace HB := Lib.hid (below_drewN HB.out n)
              generalize wr.drewN n = w4 at *
              have hcx2 := HCX.out _ (below_ext HB1.out HB.out)
              go_wp2_with fail
              (with_reducible refine (c36 x _ (by omega)).mono ?_); rintro e w5 ⟨rfl, hb5⟩
              rw [← HBW.out]
              replace HB := Lib.hid (below_ext HB.out hb5)
              clear hb5
              go_wp2_with fail
              go_roundw
              case rel => exact ⟨j + 1, by omega, by go_num, HB.out⟩
              case measure => simp [intOf]; omega
            · go_wp2_with fail
              (with_reducible refine (c41 _ _ _ _ _ x (HY.out.ext HB.out) HR.out (by omega)).mono ?_); rintro e w3 ⟨rfl, n, rfl⟩
              rw [← HII.out]
              replace HB := Lib.hid (below_drewN HB.out n)
              generalize wr.drewN n = w4 at *
              have hcx2 := HCX.out _ (below_ext HB1.out HB.out)
              go_wp2_with fail
              (with_reducible refine (c36 x _ (by omega)).mono ?_); rintro e w5 ⟨rfl, hb5⟩
              rw [← HBW.out]
              replace HB := Lib.hid (below_ext HB.out hb5)
              clear hb5
              go_wp2_with fail
              go_roundw
              case rel => exact ⟨j + 1, by omega, by go_num, HB.out⟩
              case measure => simp [intOf]; omega
          · have hge : xs.length ≤ j := by omega
            clear hlt
            have hle : decide (ys.length ≤ xs.length) = true := by simp; omega
            go_wp2_with fail
            (with_reducible refine (c59 _).mono ?_); rintro e w3 ⟨rfl, hb⟩
            replace HB := Lib.hid (below_ext HB1.out (below_ext HB.out hb))
            clear hb
            go_wp2_with fail
            go_ret
            exact ⟨rfl, HB.out⟩
  · go_enter Try.func15, Try.ntmps15
    go_wp2_with fail
    (with_reducible refine (c22 _ _ _ _ _ hx).mono ?_); rintro e w1 ⟨rfl, rfl⟩
    rw [← HG.out]
    go_wp2_with (go_at_call 59; refine (c59 _).mono ?_; rintro e w1 ⟨rfl, hb⟩; have HB := Lib.hid hb; clear hb)
    go_ret
    exact ⟨rfl, HB.out⟩

end Go.Proofs.Ytepmcfleijiloaa
