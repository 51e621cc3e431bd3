/- The law ListAt as a contract. -/
import Derived.Test.YtepmcfleijiloaaG0
namespace Go.Proofs.Ytepmcfleijiloaa
open Go.RowKit

theorem great_false {xs : List ByteArray} (h : greatB xs = false) : xs.length ≤ 80 ∧ ∀ x ∈ xs, x.size ≤ 100 := by
  unfold greatB at h
  rw [Bool.or_eq_false_iff] at h
  refine ⟨by simpa using h.1, fun x hx => ?_⟩
  have := List.any_eq_false.1 h.2 x hx
  simpa using this
theorem great_small {xs : List ByteArray} (h : greatB xs = false) : Small xs := fun x hx => Nat.le_trans ((great_false h).2 x hx) (by omega)

set_option maxHeartbeats 2000000 in
set_option maxRecDepth 100000 in
/-- inkhornlaw4.ListAt -/
theorem c16 (w : World) (lo : Nat) (A : Option Addr) (c : Nat) (xs : List ByteArray) (y : ByteArray) (hx : Strs w lo A c xs) :
    Calls Try.prog 16 #[.slice A xs.length c, .string y] w fun e w' => e = .returned (.bool true) ∧ Below w.heap.size w w' := by
  have hl1 := hx.2.1
  have hm1 := hx.2.2
  obtain ⟨gr, hgr⟩ : ∃ gr, gr = greatB xs := ⟨_, rfl⟩
  have HG := Lib.hid hgr
  clear hgr
  cases gr
  · have HS := Lib.hid (great_false HG.out.symm)
    have HSM := Lib.hid (great_small HG.out.symm)
    have hlen := HS.out.1
    by_cases hy : 100 < y.size
    · have hyb : decide ((100 : Int) < y.size) = true := by simp; omega
      go_enter Try.func16, Try.ntmps16
      go_wp2_with fail
      (with_reducible refine (c22 _ _ _ _ _ hx).mono ?_); rintro e w1 ⟨rfl, rfl⟩
      rw [← HG.out]
      go_wp2_with (go_at_call 59; refine (c59 _).mono ?_; rintro e w1 ⟨rfl, hb⟩; have HB := Lib.hid hb; clear hb)
      go_ret
      exact ⟨rfl, HB.out⟩
    · have hyb : decide ((100 : Int) < y.size) = false := by simp; omega
      have hy2 : y.size ≤ 100 := by omega
      clear hy
      obtain ⟨gd, hgd⟩ : ∃ gd, gd = goodE xs := ⟨_, rfl⟩
      have HGD := Lib.hid hgd
      clear hgd
      by_cases hg0 : gd = 0
      · subst hg0
        obtain ⟨_, hw, hr⟩ := goodE_zero HGD.out.symm
        have HW := Lib.hid hw
        have HR := Lib.hid hr
        clear hw hr
        have HBA := Lib.hid (below_at HR.out y)
        have HMA := Lib.hid (mem_at HR.out y)
        have hk := below_le xs y
        obtain ⟨k, hk'⟩ : ∃ k, k = below xs y := ⟨_, rfl⟩
        have HK := Lib.hid hk'
        rw [← hk'] at hk
        clear hk'
        obtain ⟨m, hm'⟩ : ∃ m, m = inB xs y := ⟨_, rfl⟩
        have HM := Lib.hid hm'
        clear hm'
        go_enter Try.func16, Try.ntmps16
        go_wp2_with fail
        (with_reducible refine (c22 _ _ _ _ _ hx).mono ?_); rintro e w1 ⟨rfl, rfl⟩
        rw [← HG.out]
        go_wp2_with fail
        (with_reducible refine (c61 _ _ _ _ _ hx HSM.out).mono ?_); rintro e w1 ⟨rfl, hb⟩
        rw [← HGD.out]
        have HB1 := Lib.hid hb
        clear hb
        have HX1 := Lib.hid (hx.ext HB1.out)
        go_wp2_with fail
        (with_reducible refine (c41 _ _ _ _ _ y HX1.out HR.out (by omega)).mono ?_); rintro e w2 ⟨rfl, n, rfl⟩
        rw [← HK.out, ← HM.out]
        have HB2 := Lib.hid (below_drewN HB1.out n)
        have HX2 := Lib.hid (hx.ext HB2.out)
        clear HB1 HX1
        generalize w1.drewN n = w2 at *
        have gk0 : decide ((k : Int) < 0) = false := by first | (simp; done) | (simp; omega)
        have gk1 : decide (xs.length < k) = false := by simp; omega
        cases m
        · have HN := Lib.hid (fun h => absurd ((inB_iff xs y).2 h) (by rw [← HM.out]; simp) : y ∉ xs)
          go_wp2_with fail
          go_loopw [7] (fun i wr => ∃ j : Nat, j ≤ xs.length ∧ i = .int .i64 j ∧ Below w.heap.size w wr) (fun i _ => xs.length - (intOf i).toNat)
          case atStart => exact ⟨0, Nat.zero_le _, rfl, HB2.out⟩
          case round =>
            clear HB2 HX2
            obtain ⟨j, hj, rfl, hB⟩ := hrel
            have HB := Lib.hid hB
            clear hB
            by_cases hlt : j < xs.length
            · have hjk := HBA.out j hlt
              obtain ⟨x, hx'⟩ : ∃ x, x = xs[j] := ⟨_, rfl⟩
              obtain ⟨b1, o1, rfl, _, hb1, hcx⟩ := (hx.ext HB.out).at_ hlt
              rw [← hx'] at hcx hjk
              rw [← HK.out] at hjk
              have hxm : x ∈ xs := by rw [hx']; exact List.getElem_mem _
              clear hx'
              by_cases hc : cmpB x y < 0
              · have hjk2 : j < k := hjk.1 hc
                have g1 : decide (Lib.compareBytes x.data.toList y.data.toList < 0) = true := by unfold cmpB at hc; simpa using hc
                have g2 : decide (j < k) = true := by simp; omega
                have g3 : (Lib.compareBytes x.data.toList y.data.toList == 0) = false := by unfold cmpB at hc; simp; omega
                clear hc hjk hxm
                go_wp2_with (go_at_call 65; refine (c65 _ _ _).mono ?_; rintro e w1 ⟨rfl, rfl⟩)
                go_roundw
                case rel => exact ⟨j + 1, by omega, by go_num, HB.out⟩
                case measure => simp [intOf]; omega
              · have hjk2 : ¬ j < k := fun h => hc (hjk.2 h)
                have g1 : decide (Lib.compareBytes x.data.toList y.data.toList < 0) = false := by unfold cmpB at hc; simp; omega
                have g2 : decide (j < k) = false := by simp; omega
                have hjk3 : k ≤ j := by omega
                have hne : cmpB x y ≠ 0 := fun h => HN.out (by rw [← (cmpB_eq x y).1 h]; exact hxm)
                have g3 : (Lib.compareBytes x.data.toList y.data.toList == 0) = false := by unfold cmpB at hne; simpa using hne
                clear hne
                clear hc hjk hxm hjk2
                go_wp2_with (go_at_call 65; refine (c65 _ _ _).mono ?_; rintro e w1 ⟨rfl, rfl⟩)
                go_roundw
                case rel => exact ⟨j + 1, by omega, by go_num, HB.out⟩
                case measure => simp [intOf]; omega
            · have hge : xs.length ≤ j := by omega
              clear hlt
              go_wp2_with (go_at_call 59; refine (c59 _).mono ?_; rintro e w3 ⟨rfl, hb⟩; have HB3 := Lib.hid (below_ext HB.out hb); clear hb)
              go_ret
              exact ⟨rfl, HB3.out⟩
        · have hin : y ∈ xs := (inB_iff xs y).1 HM.out.symm
          obtain ⟨hkl, hky⟩ := HMA.out.1 hin
          simp only [← HK.out] at hkl hky
          obtain ⟨b1, o1, rfl, _, hb1, hcx0⟩ := hx.all (by omega)
          have HALL := Lib.hid fun (W : World) (hW : Below w.heap.size w W) (j : Nat) (hj : j < xs.length) => (show W.cell? ⟨b1, o1 + j, none⟩ = some (.string xs[j]) from (World.cell?_of_block (a := ⟨b1, o1 + j, none⟩) (hW.block b1 hb1)).trans (hcx0 j hj))
          clear hcx0
          have hcx := HALL.out w2 HB2.out k hkl
          rw [hky] at hcx
          have gk2 : ((k : Int) == (xs.length : Int)) = false := by simp; omega
          clear hky hin
          go_wp2_with fail
          clear hcx
          go_loopw [7] (fun i wr => ∃ j : Nat, j ≤ xs.length ∧ i = .int .i64 j ∧ Below w.heap.size w wr) (fun i _ => xs.length - (intOf i).toNat)
          case atStart => exact ⟨0, Nat.zero_le _, rfl, HB2.out⟩
          case round =>
            clear HB2 HX2
            obtain ⟨j, hj, rfl, hB⟩ := hrel
            have HB := Lib.hid hB
            clear hB
            by_cases hlt : j < xs.length
            · have hjk := HBA.out j hlt
              obtain ⟨x, hx'⟩ : ∃ x, x = xs[j] := ⟨_, rfl⟩
              have hcx : wr.cell? ⟨b1, o1 + j, none⟩ = some (.string (xs[j]'hlt)) := (HALL.out wr HB.out) j hlt
              rw [← hx'] at hcx hjk
              rw [← HK.out] at hjk
              have hxm : x ∈ xs := by rw [hx']; exact List.getElem_mem _
              clear hx'
              by_cases hc : cmpB x y < 0
              · have hjk2 : j < k := hjk.1 hc
                have g1 : decide (Lib.compareBytes x.data.toList y.data.toList < 0) = true := by unfold cmpB at hc; simpa using hc
                have g2 : decide (j < k) = true := by simp; omega
                have g3 : (Lib.compareBytes x.data.toList y.data.toList == 0) = false := by unfold cmpB at hc; simp; omega
                clear hc hjk hxm
                go_wp2_with (go_at_call 65; refine (c65 _ _ _).mono ?_; rintro e w1 ⟨rfl, rfl⟩)
                go_roundw
                case rel => exact ⟨j + 1, by omega, by go_num, HB.out⟩
                case measure => simp [intOf]; omega
              · have hjk2 : ¬ j < k := fun h => hc (hjk.2 h)
                have g1 : decide (Lib.compareBytes x.data.toList y.data.toList < 0) = false := by unfold cmpB at hc; simp; omega
                have g2 : decide (j < k) = false := by simp; omega
                have hjk3 : k ≤ j := by omega
                obtain ⟨t, ht⟩ : ∃ t, t = (Lib.compareBytes x.data.toList y.data.toList == 0) := ⟨_, rfl⟩
                have g3 := ht.symm
                clear ht
                cases t
                · clear hc hjk hxm hjk2
                  go_wp2_with (go_at_call 65; refine (c65 _ _ _).mono ?_; rintro e w1 ⟨rfl, rfl⟩)
                  go_roundw
                  case rel => exact ⟨j + 1, by omega, by go_num, HB.out⟩
                  case measure => simp [intOf]; omega
                · clear hc hjk hxm hjk2
                  go_wp2_with (go_at_call 65; refine (c65 _ _ _).mono ?_; rintro e w1 ⟨rfl, rfl⟩)
                  go_roundw
                  case rel => exact ⟨j + 1, by omega, by go_num, HB.out⟩
                  case measure => simp [intOf]; omega
            · have hge : xs.length ≤ j := by omega
              clear hlt
              go_wp2_with (go_at_call 59; refine (c59 _).mono ?_; rintro e w3 ⟨rfl, hb⟩; have HB3 := Lib.hid (below_ext HB.out hb); clear hb)
              go_ret
              exact ⟨rfl, HB3.out⟩
      · have hgb : (gd == 0) = false := by simp [hg0]
        clear hg0
        go_enter Try.func16, Try.ntmps16
        go_wp2_with fail
        (with_reducible refine (c22 _ _ _ _ _ hx).mono ?_); rintro e w1 ⟨rfl, rfl⟩
        rw [← HG.out]
        go_wp2_with fail
        (with_reducible refine (c61 _ _ _ _ _ hx HSM.out).mono ?_); rintro e w1 ⟨rfl, hb⟩
        rw [← HGD.out]
        have HB1 := Lib.hid hb
        clear hb
        go_wp2_with (go_at_call 59; refine (c59 _).mono ?_; rintro e w1 ⟨rfl, hb⟩; have HB := Lib.hid (below_ext HB1.out hb); clear hb)
        go_ret
        exact ⟨rfl, HB.out⟩
  · go_enter Try.func16, Try.ntmps16
    go_wp2_with fail
    (with_reducible refine (c22 _ _ _ _ _ hx).mono ?_); rintro e w1 ⟨rfl, rfl⟩
    rw [← HG.out]
    go_wp2_with (go_at_call 59; refine (c59 _).mono ?_; rintro e w1 ⟨rfl, hb⟩; have HB := Lib.hid hb; clear hb)
    go_ret
    exact ⟨rfl, HB.out⟩

end Go.Proofs.Ytepmcfleijiloaa
