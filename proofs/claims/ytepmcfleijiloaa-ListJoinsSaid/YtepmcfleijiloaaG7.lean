/- The law ListJoins as a contract. -/
import Derived.Test.YtepmcfleijiloaaG1
import Derived.Test.YtepmcfleijiloaaG6
namespace Go.Proofs.Ytepmcfleijiloaa
open Go.RowKit

set_option maxHeartbeats 4000000 in
set_option maxRecDepth 100000 in
/-- inkhornlaw4.ListJoins -/
theorem c17 (w : World) (A B : Option Addr) (c d : Nat) (xsa xsb : List ByteArray) (y : ByteArray) (ha : Strs w 0 A c xsa) (hb : Strs w 0 B d xsb) :
    Calls Try.prog 17 #[.slice A xsa.length c, .slice B xsb.length d, .string y] w fun e w' => e = .returned (.bool true) ∧ Below w.heap.size w w' := by
  have HB : Hid (Below w.heap.size w w) := Lib.hid (Below.refl _ _)
  have Sa := Lib.hid ha
  have hl_a := ha.2.1
  have hm_a := ha.2.2
  clear ha
  have Sb := Lib.hid hb
  have hl_b := hb.2.1
  have hm_b := hb.2.2
  clear hb
  obtain ⟨gr_a, hg_a⟩ : ∃ g, g = greatB xsa := ⟨_, rfl⟩
  have HGa := Lib.hid hg_a
  clear hg_a
  cases gr_a
  · have HSMa := Lib.hid (great_small HGa.out.symm)
    have hn_a := (great_false HGa.out.symm).1
    obtain ⟨gr_b, hg_b⟩ : ∃ g, g = greatB xsb := ⟨_, rfl⟩
    have HGb := Lib.hid hg_b
    clear hg_b
    cases gr_b
    · have HSMb := Lib.hid (great_small HGb.out.symm)
      have hn_b := (great_false HGb.out.symm).1
      by_cases hy_y : y.size ≤ 100
      · have hyb_y : decide ((100 : Int) < (y.size : Int)) = false := by simp; omega
        obtain ⟨gd_a, hd_a⟩ : ∃ g, g = goodE xsa := ⟨_, rfl⟩
        have HGDa := Lib.hid hd_a
        clear hd_a
        by_cases hz_a : gd_a = 0
        · subst hz_a
          have HRa := Lib.hid (good_of HGa.out HGDa.out).2.2
          obtain ⟨gd_b, hd_b⟩ : ∃ g, g = goodE xsb := ⟨_, rfl⟩
          have HGDb := Lib.hid hd_b
          clear hd_b
          by_cases hz_b : gd_b = 0
          · subst hz_b
            have HRb := Lib.hid (good_of HGb.out HGDb.out).2.2
            obtain ⟨m, hm⟩ : ∃ m, m = inB xsa y := ⟨_, rfl⟩
            have HM := Lib.hid hm
            clear hm
            obtain ⟨k, hk⟩ : ∃ k, k = below xsa y := ⟨_, rfl⟩
            have HK := Lib.hid hk
            clear hk
            go_enter Try.func17, Try.ntmps17
            go_wp2_with fail
            (with_reducible refine (k22 Sa.out HGa.out).mono ?_); rintro e w1 ⟨rfl, hb⟩
            replace HB := Lib.hid (below_ext HB.out hb)
            replace Sa := Lib.hid (Sa.out.ext hb)
            replace Sb := Lib.hid (Sb.out.ext hb)
            clear hb
            go_wp2_with fail
            (with_reducible refine (k22 Sb.out HGb.out).mono ?_); rintro e w2 ⟨rfl, hb⟩
            replace HB := Lib.hid (below_ext HB.out hb)
            replace Sa := Lib.hid (Sa.out.ext hb)
            replace Sb := Lib.hid (Sb.out.ext hb)
            clear hb
            go_wp2_with fail
            (with_reducible refine (k62 Sa.out HSMa.out HGDa.out).mono ?_); rintro e w3 ⟨rfl, hb⟩
            replace HB := Lib.hid (below_ext HB.out hb)
            replace Sa := Lib.hid (Sa.out.ext hb)
            replace Sb := Lib.hid (Sb.out.ext hb)
            clear hb
            go_wp2_with fail
            (with_reducible refine (k62 Sb.out HSMb.out HGDb.out).mono ?_); rintro e w4 ⟨rfl, hb⟩
            replace HB := Lib.hid (below_ext HB.out hb)
            replace Sa := Lib.hid (Sa.out.ext hb)
            replace Sb := Lib.hid (Sb.out.ext hb)
            clear hb
            have hlm := mergeL_len xsa xsb
            have hlw := withoutL_len xsa xsb
            go_wp2_with fail
            (with_reducible refine (k24 Sa.out (by omega)).mono ?_); rintro e w5 ⟨gx, rfl, hle, hb⟩
            replace HB := Lib.hid (below_ext HB.out hb)
            replace Sa := Lib.hid (Sa.out.ext hb)
            replace Sb := Lib.hid (Sb.out.ext hb)
            clear hb
            have Lx := Lib.hid hle
            clear hle
            go_wp2_with fail
            (with_reducible refine (k24 Sb.out (by omega)).mono ?_); rintro e w6 ⟨gy, rfl, hle, hb⟩
            replace HB := Lib.hid (below_ext HB.out hb)
            replace Sa := Lib.hid (Sa.out.ext hb)
            replace Sb := Lib.hid (Sb.out.ext hb)
            replace Lx := Lib.hid (Lx.out.later hb)
            clear hb
            have Ly := Lib.hid hle
            clear hle
            have HBB : Hid (Below w6.heap.size w6 w6) := Lib.hid (Below.refl _ _)
            have Lx2 := Lx
            have Ly2 := Ly
            have Sa2 := Sa
            have Sb2 := Sb
            go_wp2_with fail
            (with_reducible refine (k66 (Lx.out.strs (by omega)) (Ly.out.strs (by omega)) (by omega) (by omega) rfl).mono ?_); rintro e w7 ⟨Am, cm, rfl, hs, ho, hb⟩
            replace HBB := Lib.hid (below_then HBB.out hb HBB.out.size)
            replace Sa := Lib.hid (Sa.out.ext hb)
            replace Sb := Lib.hid (Sb.out.ext hb)
            replace Lx := Lib.hid (Lx.out.later hb)
            replace Ly := Lib.hid (Ly.out.later hb)
            clear hb
            have Sm := Lib.hid hs
            have Om := Lib.hid ho
            clear hs ho
            have hl_m := Sm.out.2.1
            have hm_m := Sm.out.2.2
            have HMW := Lib.hid fun k hk => (Om.out.lt k hk).2
            have HW3 := Lib.hid HBB.out.size
            go_wp2_with fail
            (with_reducible refine (k67 (Lx.out.strs (by omega)) (Ly.out.strs (by omega)) HRb.out (by omega) (by omega) rfl).mono ?_); rintro e w8 ⟨An, cn, rfl, hs, ho, hb⟩
            replace HBB := Lib.hid (below_then HBB.out hb HBB.out.size)
            replace Sa := Lib.hid (Sa.out.ext hb)
            replace Sb := Lib.hid (Sb.out.ext hb)
            replace Sm := Lib.hid (Sm.out.ext hb)
            replace Lx := Lib.hid (Lx.out.later hb)
            replace Ly := Lib.hid (Ly.out.later hb)
            replace Om := Lib.hid (own_below Om.out hb)
            clear hb
            have Sn := Lib.hid hs
            have On := Lib.hid ho
            clear hs ho
            have hl_n := Sn.out.2.1
            have hm_n := Sn.out.2.2
            go_wp2_with fail
            (with_reducible refine (k41 (k := k) (b := m) (Lx.out.strs (by omega)) HRa.out (by omega) HK.out HM.out).mono ?_); rintro e w9 ⟨rfl, hb⟩
            replace HBB := Lib.hid (below_then HBB.out hb HBB.out.size)
            replace Sa := Lib.hid (Sa.out.ext hb)
            replace Sb := Lib.hid (Sb.out.ext hb)
            replace Sm := Lib.hid (Sm.out.ext hb)
            replace Sn := Lib.hid (Sn.out.ext hb)
            replace Lx := Lib.hid (Lx.out.later hb)
            replace Ly := Lib.hid (Ly.out.later hb)
            replace Om := Lib.hid (own_below Om.out hb)
            replace On := Lib.hid (own_below On.out hb)
            clear hb
            go_wp2_with fail
            (with_reducible refine (k68 (k := k) (b := m) Sa.out HRa.out HSMa.out (by omega) (by omega) HK.out HM.out).mono ?_); rintro e w10 ⟨rfl, hb⟩
            replace HBB := Lib.hid (below_then HBB.out hb HBB.out.size)
            replace Sa := Lib.hid (Sa.out.ext hb)
            replace Sb := Lib.hid (Sb.out.ext hb)
            replace Sm := Lib.hid (Sm.out.ext hb)
            replace Sn := Lib.hid (Sn.out.ext hb)
            replace Lx := Lib.hid (Lx.out.later hb)
            replace Ly := Lib.hid (Ly.out.later hb)
            replace Om := Lib.hid (own_below Om.out hb)
            replace On := Lib.hid (own_below On.out hb)
            clear hb
            go_wp2_with fail
            (with_reducible refine (k69 Sa.out Sb.out HRa.out HRb.out HSMa.out HSMb.out (by omega) (by omega) rfl).mono ?_); rintro e w11 ⟨Ar, cr, rfl, hs, ho, hb⟩
            replace HBB := Lib.hid (below_then HBB.out hb HBB.out.size)
            replace Sa := Lib.hid (Sa.out.ext hb)
            replace Sb := Lib.hid (Sb.out.ext hb)
            replace Sm := Lib.hid (Sm.out.ext hb)
            replace Sn := Lib.hid (Sn.out.ext hb)
            replace Lx := Lib.hid (Lx.out.later hb)
            replace Ly := Lib.hid (Ly.out.later hb)
            replace Om := Lib.hid (own_below Om.out hb)
            replace On := Lib.hid (own_below On.out hb)
            clear hb
            have Sr := Lib.hid hs
            clear hs ho
            have hl_r := Sr.out.2.1
            have hm_r := Sr.out.2.2
            go_wp2_with fail
            (with_reducible refine (k39 (b := true) Sm.out Sr.out (by simp)).mono ?_); rintro e w12 ⟨rfl, hb⟩
            replace HBB := Lib.hid (below_then HBB.out hb HBB.out.size)
            replace Sa := Lib.hid (Sa.out.ext hb)
            replace Sb := Lib.hid (Sb.out.ext hb)
            replace Sm := Lib.hid (Sm.out.ext hb)
            replace Sn := Lib.hid (Sn.out.ext hb)
            replace Sr := Lib.hid (Sr.out.ext hb)
            replace Lx := Lib.hid (Lx.out.later hb)
            replace Ly := Lib.hid (Ly.out.later hb)
            replace Om := Lib.hid (own_below Om.out hb)
            replace On := Lib.hid (own_below On.out hb)
            clear hb
            go_wp2_with fail
            (with_reducible refine (k70 Sa.out Sb.out HRb.out HSMa.out HSMb.out (by omega) (by omega) rfl).mono ?_); rintro e w13 ⟨As, cs, rfl, hs, ho, hb⟩
            replace HBB := Lib.hid (below_then HBB.out hb HBB.out.size)
            replace Sa := Lib.hid (Sa.out.ext hb)
            replace Sb := Lib.hid (Sb.out.ext hb)
            replace Sm := Lib.hid (Sm.out.ext hb)
            replace Sn := Lib.hid (Sn.out.ext hb)
            replace Sr := Lib.hid (Sr.out.ext hb)
            replace Lx := Lib.hid (Lx.out.later hb)
            replace Ly := Lib.hid (Ly.out.later hb)
            replace Om := Lib.hid (own_below Om.out hb)
            replace On := Lib.hid (own_below On.out hb)
            clear hb
            have Ss := Lib.hid hs
            clear hs ho
            have hl_s := Ss.out.2.1
            have hm_s := Ss.out.2.2
            go_wp2_with fail
            (with_reducible refine (k39 (b := true) Sn.out Ss.out (by simp)).mono ?_); rintro e w14 ⟨rfl, hb⟩
            replace HBB := Lib.hid (below_then HBB.out hb HBB.out.size)
            replace Sa := Lib.hid (Sa.out.ext hb)
            replace Sb := Lib.hid (Sb.out.ext hb)
            replace Sm := Lib.hid (Sm.out.ext hb)
            replace Sn := Lib.hid (Sn.out.ext hb)
            replace Sr := Lib.hid (Sr.out.ext hb)
            replace Ss := Lib.hid (Ss.out.ext hb)
            replace Lx := Lib.hid (Lx.out.later hb)
            replace Ly := Lib.hid (Ly.out.later hb)
            replace Om := Lib.hid (own_below Om.out hb)
            replace On := Lib.hid (own_below On.out hb)
            clear hb
            have HS3 := HBB.out.size
            go_wp2_with fail
            (with_reducible refine (k64 Om.out (by omega)).mono ?_); rintro e w15 ⟨rfl, hg⟩
            replace On := Lib.hid (own_far On.out hg HMW.out)
            replace HBB := Lib.hid (HBB.out.grown hg HS3 fun k hk => (Om.out.lt k hk).1)
            have HZ3 := hg.size
            clear hg Om Sm Sn Sr Ss Sa Sb Lx Ly
            have HS4 := HBB.out.size
            go_wp2_with fail
            (with_reducible refine (k64 On.out (by omega)).mono ?_); rintro e w16 ⟨rfl, hg⟩
            replace HBB := Lib.hid (HBB.out.grown hg HS4 fun k hk => Nat.le_trans HW3.out (On.out.lt k hk).1)
            clear hg On
            replace HB := Lib.hid (below_ext HB.out HBB.out)
            have Lx := Lib.hid (Lx2.out.later HBB.out)
            have Ly := Lib.hid (Ly2.out.later HBB.out)
            have Sa := Lib.hid (Sa2.out.ext HBB.out)
            have Sb := Lib.hid (Sb2.out.ext HBB.out)
            clear HBB Lx2 Ly2 Sa2 Sb2
            go_wp2_with fail
            (with_reducible refine (k28 Lx.out (by omega) Sa.out).mono ?_); rintro e w17 ⟨rfl, hb⟩
            replace HB := Lib.hid (below_ext HB.out hb)
            replace Sa := Lib.hid (Sa.out.ext hb)
            replace Sb := Lib.hid (Sb.out.ext hb)
            replace Lx := Lib.hid (Lx.out.later hb)
            replace Ly := Lib.hid (Ly.out.later hb)
            clear hb
            go_wp2_with fail
            (with_reducible refine (k28 Ly.out (by omega) Sb.out).mono ?_); rintro e w18 ⟨rfl, hb⟩
            replace HB := Lib.hid (below_ext HB.out hb)
            replace Sa := Lib.hid (Sa.out.ext hb)
            replace Sb := Lib.hid (Sb.out.ext hb)
            replace Lx := Lib.hid (Lx.out.later hb)
            replace Ly := Lib.hid (Ly.out.later hb)
            clear hb
            go_wp2_with fail
            (with_reducible refine (c59 _).mono ?_); rintro e w19 ⟨rfl, hb⟩
            replace HB := Lib.hid (below_ext HB.out hb)
            clear hb
            go_wp2_with fail
            go_ret
            exact ⟨rfl, HB.out⟩
          · have hzb_b : (gd_b == 0) = false := by simp [hz_b]
            go_enter Try.func17, Try.ntmps17
            go_wp2_with fail
            (with_reducible refine (k22 Sa.out HGa.out).mono ?_); rintro e w1 ⟨rfl, hb⟩
            replace HB := Lib.hid (below_ext HB.out hb)
            replace Sa := Lib.hid (Sa.out.ext hb)
            replace Sb := Lib.hid (Sb.out.ext hb)
            clear hb
            go_wp2_with fail
            (with_reducible refine (k22 Sb.out HGb.out).mono ?_); rintro e w2 ⟨rfl, hb⟩
            replace HB := Lib.hid (below_ext HB.out hb)
            replace Sa := Lib.hid (Sa.out.ext hb)
            replace Sb := Lib.hid (Sb.out.ext hb)
            clear hb
            go_wp2_with fail
            (with_reducible refine (k62 Sa.out HSMa.out HGDa.out).mono ?_); rintro e w3 ⟨rfl, hb⟩
            replace HB := Lib.hid (below_ext HB.out hb)
            replace Sa := Lib.hid (Sa.out.ext hb)
            replace Sb := Lib.hid (Sb.out.ext hb)
            clear hb
            go_wp2_with fail
            (with_reducible refine (k62 Sb.out HSMb.out HGDb.out).mono ?_); rintro e w4 ⟨rfl, hb⟩
            replace HB := Lib.hid (below_ext HB.out hb)
            replace Sa := Lib.hid (Sa.out.ext hb)
            replace Sb := Lib.hid (Sb.out.ext hb)
            clear hb
            go_wp2_with fail
            (with_reducible refine (c59 _).mono ?_); rintro e w5 ⟨rfl, hb⟩
            replace HB := Lib.hid (below_ext HB.out hb)
            clear hb
            go_wp2_with fail
            go_ret
            exact ⟨rfl, HB.out⟩
        · have hzb_a : (gd_a == 0) = false := by simp [hz_a]
          go_enter Try.func17, Try.ntmps17
          go_wp2_with fail
          (with_reducible refine (k22 Sa.out HGa.out).mono ?_); rintro e w1 ⟨rfl, hb⟩
          replace HB := Lib.hid (below_ext HB.out hb)
          replace Sa := Lib.hid (Sa.out.ext hb)
          replace Sb := Lib.hid (Sb.out.ext hb)
          clear hb
          go_wp2_with fail
          (with_reducible refine (k22 Sb.out HGb.out).mono ?_); rintro e w2 ⟨rfl, hb⟩
          replace HB := Lib.hid (below_ext HB.out hb)
          replace Sa := Lib.hid (Sa.out.ext hb)
          replace Sb := Lib.hid (Sb.out.ext hb)
          clear hb
          go_wp2_with fail
          (with_reducible refine (k62 Sa.out HSMa.out HGDa.out).mono ?_); rintro e w3 ⟨rfl, hb⟩
          replace HB := Lib.hid (below_ext HB.out hb)
          replace Sa := Lib.hid (Sa.out.ext hb)
          replace Sb := Lib.hid (Sb.out.ext hb)
          clear hb
          go_wp2_with fail
          (with_reducible refine (c59 _).mono ?_); rintro e w4 ⟨rfl, hb⟩
          replace HB := Lib.hid (below_ext HB.out hb)
          clear hb
          go_wp2_with fail
          go_ret
          exact ⟨rfl, HB.out⟩
      · have hyb_y : decide ((100 : Int) < (y.size : Int)) = true := by simp; omega
        clear hy_y
        go_enter Try.func17, Try.ntmps17
        go_wp2_with fail
        (with_reducible refine (k22 Sa.out HGa.out).mono ?_); rintro e w1 ⟨rfl, hb⟩
        replace HB := Lib.hid (below_ext HB.out hb)
        replace Sa := Lib.hid (Sa.out.ext hb)
        replace Sb := Lib.hid (Sb.out.ext hb)
        clear hb
        go_wp2_with fail
        (with_reducible refine (k22 Sb.out HGb.out).mono ?_); rintro e w2 ⟨rfl, hb⟩
        replace HB := Lib.hid (below_ext HB.out hb)
        replace Sa := Lib.hid (Sa.out.ext hb)
        replace Sb := Lib.hid (Sb.out.ext hb)
        clear hb
        go_wp2_with fail
        (with_reducible refine (c59 _).mono ?_); rintro e w3 ⟨rfl, hb⟩
        replace HB := Lib.hid (below_ext HB.out hb)
        clear hb
        go_wp2_with fail
        go_ret
        exact ⟨rfl, HB.out⟩
    · go_enter Try.func17, Try.ntmps17
      go_wp2_with fail
      (with_reducible refine (k22 Sa.out HGa.out).mono ?_); rintro e w1 ⟨rfl, hb⟩
      replace HB := Lib.hid (below_ext HB.out hb)
      replace Sa := Lib.hid (Sa.out.ext hb)
      replace Sb := Lib.hid (Sb.out.ext hb)
      clear hb
      go_wp2_with fail
      (with_reducible refine (k22 Sb.out HGb.out).mono ?_); rintro e w2 ⟨rfl, hb⟩
      replace HB := Lib.hid (below_ext HB.out hb)
      replace Sa := Lib.hid (Sa.out.ext hb)
      replace Sb := Lib.hid (Sb.out.ext hb)
      clear hb
      go_wp2_with fail
      (with_reducible refine (c59 _).mono ?_); rintro e w3 ⟨rfl, hb⟩
      replace HB := Lib.hid (below_ext HB.out hb)
      clear hb
      go_wp2_with fail
      go_ret
      exact ⟨rfl, HB.out⟩
  · go_enter Try.func17, Try.ntmps17
    go_wp2_with fail
    (with_reducible refine (k22 Sa.out HGa.out).mono ?_); rintro e w1 ⟨rfl, hb⟩
    replace HB := Lib.hid (below_ext HB.out hb)
    replace Sa := Lib.hid (Sa.out.ext hb)
    replace Sb := Lib.hid (Sb.out.ext hb)
    clear hb
    go_wp2_with fail
    (with_reducible refine (c59 _).mono ?_); rintro e w2 ⟨rfl, hb⟩
    replace HB := Lib.hid (below_ext HB.out hb)
    clear hb
    go_wp2_with fail
    go_ret
    exact ⟨rfl, HB.out⟩

end Go.Proofs.Ytepmcfleijiloaa
