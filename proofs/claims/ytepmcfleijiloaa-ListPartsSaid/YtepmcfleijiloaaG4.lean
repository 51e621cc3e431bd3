/- The law ListParts as a contract. -/
import Derived.Test.YtepmcfleijiloaaG1
import Derived.Test.YtepmcfleijiloaaG3
namespace Go.Proofs.Ytepmcfleijiloaa
open Go.RowKit

set_option maxHeartbeats 4000000 in
set_option maxRecDepth 100000 in
/-- inkhornlaw4.ListParts -/
theorem c18 (w : World) (A B : Option Addr) (c d : Nat) (xsa xsb : List ByteArray) (y : ByteArray) (ha : Strs w 0 A c xsa) (hb : Strs w 0 B d xsb) :
    Calls Try.prog 18 #[.slice A xsa.length c, .slice B xsb.length d, .string y] w fun e w' => e = .returned (.bool true) ∧ Below w.heap.size w w' := by
  have HB : Hid (Below w.heap.size w w) := Lib.hid (Below.refl _ _)
  have Sa := Lib.hid ha
  have hl_a := ha.2.1
  have hm_a := ha.2.2
  clear ha
  have Sb := Lib.hid hb
  have hl_b := hb.2.1
  have hm_b := hb.2.2
  clear hb
  obtain ⟨gr_a, hg_a⟩ : ∃ g, g = greatB xsa := ⟨_, rfl⟩
  have HGa := Lib.hid hg_a
  clear hg_a
  cases gr_a
  · have HSMa := Lib.hid (great_small HGa.out.symm)
    have hn_a := (great_false HGa.out.symm).1
    obtain ⟨gr_b, hg_b⟩ : ∃ g, g = greatB xsb := ⟨_, rfl⟩
    have HGb := Lib.hid hg_b
    clear hg_b
    cases gr_b
    · have HSMb := Lib.hid (great_small HGb.out.symm)
      have hn_b := (great_false HGb.out.symm).1
      by_cases hy_y : y.size ≤ 100
      · have hyb_y : decide ((100 : Int) < (y.size : Int)) = false := by simp; omega
        obtain ⟨gd_a, hd_a⟩ : ∃ g, g = goodE xsa := ⟨_, rfl⟩
        have HGDa := Lib.hid hd_a
        clear hd_a
        by_cases hz_a : gd_a = 0
        · subst hz_a
          have HRa := Lib.hid (good_of HGa.out HGDa.out).2.2
          obtain ⟨gd_b, hd_b⟩ : ∃ g, g = goodE xsb := ⟨_, rfl⟩
          have HGDb := Lib.hid hd_b
          clear hd_b
          by_cases hz_b : gd_b = 0
          · subst hz_b
            have HRb := Lib.hid (good_of HGb.out HGDb.out).2.2
            obtain ⟨m1, hm1⟩ : ∃ m, m = inB xsa y := ⟨_, rfl⟩
            have HM1 := Lib.hid hm1
            clear hm1
            obtain ⟨m2, hm2⟩ : ∃ m, m = inB xsb y := ⟨_, rfl⟩
            have HM2 := Lib.hid hm2
            clear hm2
            cases m1
            · cases m2
              · have HM3 := Lib.hid (show false = inB (mergeL xsa xsb) y by rw [in_merge, ← HM1.out, ← HM2.out]; rfl)
                go_enter Try.func18, Try.ntmps18
                go_wp2_with fail
                (with_reducible refine (k22 Sa.out HGa.out).mono ?_); rintro e w1 ⟨rfl, hb⟩
                replace HB := Lib.hid (below_ext HB.out hb)
                replace Sa := Lib.hid (Sa.out.ext hb)
                replace Sb := Lib.hid (Sb.out.ext hb)
                clear hb
                go_wp2_with fail
                (with_reducible refine (k22 Sb.out HGb.out).mono ?_); rintro e w2 ⟨rfl, hb⟩
                replace HB := Lib.hid (below_ext HB.out hb)
                replace Sa := Lib.hid (Sa.out.ext hb)
                replace Sb := Lib.hid (Sb.out.ext hb)
                clear hb
                go_wp2_with fail
                (with_reducible refine (k61 Sa.out HSMa.out HGDa.out).mono ?_); rintro e w3 ⟨rfl, hb⟩
                replace HB := Lib.hid (below_ext HB.out hb)
                replace Sa := Lib.hid (Sa.out.ext hb)
                replace Sb := Lib.hid (Sb.out.ext hb)
                clear hb
                go_wp2_with fail
                (with_reducible refine (k61 Sb.out HSMb.out HGDb.out).mono ?_); rintro e w4 ⟨rfl, hb⟩
                replace HB := Lib.hid (below_ext HB.out hb)
                replace Sa := Lib.hid (Sa.out.ext hb)
                replace Sb := Lib.hid (Sb.out.ext hb)
                clear hb
                have hlm := mergeL_len xsa xsb
                have hlm2 := mergeL_len xsb xsa
                have hlw := withoutL_len xsa xsb
                have hlw2 := mergeL_len (withoutL xsa xsb) xsb
                go_wp2_with fail
                (with_reducible refine (k66 Sa.out Sb.out (by omega) (by omega) rfl).mono ?_); rintro e w5 ⟨Am, cm, rfl, hs, ho, hb⟩
                replace HB := Lib.hid (below_ext HB.out hb)
                replace Sa := Lib.hid (Sa.out.ext hb)
                replace Sb := Lib.hid (Sb.out.ext hb)
                clear hb
                have Sm := Lib.hid hs
                clear hs ho
                have hl_m := Sm.out.2.1
                have hm_m := Sm.out.2.2
                go_wp2_with fail
                (with_reducible refine (k41 (b := false) Sa.out HRa.out (by omega) rfl HM1.out).mono ?_); rintro e w6 ⟨rfl, hb⟩
                replace HB := Lib.hid (below_ext HB.out hb)
                replace Sa := Lib.hid (Sa.out.ext hb)
                replace Sb := Lib.hid (Sb.out.ext hb)
                replace Sm := Lib.hid (Sm.out.ext hb)
                clear hb
                go_wp2_with fail
                (with_reducible refine (k41 (b := false) Sb.out HRb.out (by omega) rfl HM2.out).mono ?_); rintro e w7 ⟨rfl, hb⟩
                replace HB := Lib.hid (below_ext HB.out hb)
                replace Sa := Lib.hid (Sa.out.ext hb)
                replace Sb := Lib.hid (Sb.out.ext hb)
                replace Sm := Lib.hid (Sm.out.ext hb)
                clear hb
                go_wp2_with fail
                (with_reducible refine (k41 (b := false) Sm.out (mergeL_rises _ _ HRa.out HRb.out) (by omega) rfl HM3.out).mono ?_); rintro e w8 ⟨rfl, hb⟩
                replace HB := Lib.hid (below_ext HB.out hb)
                replace Sa := Lib.hid (Sa.out.ext hb)
                replace Sb := Lib.hid (Sb.out.ext hb)
                replace Sm := Lib.hid (Sm.out.ext hb)
                clear hb
                go_wp2_with fail
                (with_reducible refine (k66 Sb.out Sa.out (by omega) (by omega) rfl).mono ?_); rintro e w9 ⟨An, cn, rfl, hs, ho, hb⟩
                replace HB := Lib.hid (below_ext HB.out hb)
                replace Sa := Lib.hid (Sa.out.ext hb)
                replace Sb := Lib.hid (Sb.out.ext hb)
                replace Sm := Lib.hid (Sm.out.ext hb)
                clear hb
                have Sn := Lib.hid hs
                clear hs ho
                have hl_n := Sn.out.2.1
                have hm_n := Sn.out.2.2
                go_wp2_with fail
                (with_reducible refine (k39 (b := true) Sm.out Sn.out (by rw [merge_comm HRb.out HRa.out]; simp)).mono ?_); rintro e w10 ⟨rfl, hb⟩
                replace HB := Lib.hid (below_ext HB.out hb)
                replace Sa := Lib.hid (Sa.out.ext hb)
                replace Sb := Lib.hid (Sb.out.ext hb)
                replace Sm := Lib.hid (Sm.out.ext hb)
                replace Sn := Lib.hid (Sn.out.ext hb)
                clear hb
                go_wp2_with fail
                (with_reducible refine (k67 Sa.out Sb.out HRb.out (by omega) (by omega) rfl).mono ?_); rintro e w11 ⟨Ap, cp, rfl, hs, ho, hb⟩
                replace HB := Lib.hid (below_ext HB.out hb)
                replace Sa := Lib.hid (Sa.out.ext hb)
                replace Sb := Lib.hid (Sb.out.ext hb)
                replace Sm := Lib.hid (Sm.out.ext hb)
                replace Sn := Lib.hid (Sn.out.ext hb)
                clear hb
                have Sp := Lib.hid hs
                clear hs ho
                have hl_p := Sp.out.2.1
                have hm_p := Sp.out.2.2
                go_wp2_with fail
                (with_reducible refine (k66 Sp.out Sb.out (by omega) (by omega) rfl).mono ?_); rintro e w12 ⟨Aq, cq, rfl, hs, ho, hb⟩
                replace HB := Lib.hid (below_ext HB.out hb)
                replace Sa := Lib.hid (Sa.out.ext hb)
                replace Sb := Lib.hid (Sb.out.ext hb)
                replace Sm := Lib.hid (Sm.out.ext hb)
                replace Sn := Lib.hid (Sn.out.ext hb)
                replace Sp := Lib.hid (Sp.out.ext hb)
                clear hb
                have Sq := Lib.hid hs
                clear hs ho
                have hl_q := Sq.out.2.1
                have hm_q := Sq.out.2.2
                go_wp2_with fail
                (with_reducible refine (k39 (b := true) Sq.out Sm.out (by rw [merge_without HRa.out HRb.out]; simp)).mono ?_); rintro e w13 ⟨rfl, hb⟩
                replace HB := Lib.hid (below_ext HB.out hb)
                replace Sa := Lib.hid (Sa.out.ext hb)
                replace Sb := Lib.hid (Sb.out.ext hb)
                replace Sm := Lib.hid (Sm.out.ext hb)
                replace Sn := Lib.hid (Sn.out.ext hb)
                replace Sp := Lib.hid (Sp.out.ext hb)
                replace Sq := Lib.hid (Sq.out.ext hb)
                clear hb
                go_wp2_with fail
                (with_reducible refine (k67 Sa.out Sa.out HRa.out (by omega) (by omega) (without_self xsa).symm).mono ?_); rintro e w14 ⟨Ar, cr, rfl, hs, ho, hb⟩
                replace HB := Lib.hid (below_ext HB.out hb)
                replace Sa := Lib.hid (Sa.out.ext hb)
                replace Sb := Lib.hid (Sb.out.ext hb)
                replace Sm := Lib.hid (Sm.out.ext hb)
                replace Sn := Lib.hid (Sn.out.ext hb)
                replace Sp := Lib.hid (Sp.out.ext hb)
                replace Sq := Lib.hid (Sq.out.ext hb)
                clear hb
                have Sr := Lib.hid hs
                clear hs ho
                have hl_r := Sr.out.2.1
                have hm_r := Sr.out.2.2
                go_wp2_with fail
                (with_reducible refine (c59 _).mono ?_); rintro e w15 ⟨rfl, hb⟩
                replace HB := Lib.hid (below_ext HB.out hb)
                clear hb
                go_wp2_with fail
                go_ret
                exact ⟨rfl, HB.out⟩
              · have HM3 := Lib.hid (show true = inB (mergeL xsa xsb) y by rw [in_merge, ← HM1.out, ← HM2.out]; rfl)
                go_enter Try.func18, Try.ntmps18
                go_wp2_with fail
                (with_reducible refine (k22 Sa.out HGa.out).mono ?_); rintro e w1 ⟨rfl, hb⟩
                replace HB := Lib.hid (below_ext HB.out hb)
                replace Sa := Lib.hid (Sa.out.ext hb)
                replace Sb := Lib.hid (Sb.out.ext hb)
                clear hb
                go_wp2_with fail
                (with_reducible refine (k22 Sb.out HGb.out).mono ?_); rintro e w2 ⟨rfl, hb⟩
                replace HB := Lib.hid (below_ext HB.out hb)
                replace Sa := Lib.hid (Sa.out.ext hb)
                replace Sb := Lib.hid (Sb.out.ext hb)
                clear hb
                go_wp2_with fail
                (with_reducible refine (k61 Sa.out HSMa.out HGDa.out).mono ?_); rintro e w3 ⟨rfl, hb⟩
                replace HB := Lib.hid (below_ext HB.out hb)
                replace Sa := Lib.hid (Sa.out.ext hb)
                replace Sb := Lib.hid (Sb.out.ext hb)
                clear hb
                go_wp2_with fail
                (with_reducible refine (k61 Sb.out HSMb.out HGDb.out).mono ?_); rintro e w4 ⟨rfl, hb⟩
                replace HB := Lib.hid (below_ext HB.out hb)
                replace Sa := Lib.hid (Sa.out.ext hb)
                replace Sb := Lib.hid (Sb.out.ext hb)
                clear hb
                have hlm := mergeL_len xsa xsb
                have hlm2 := mergeL_len xsb xsa
                have hlw := withoutL_len xsa xsb
                have hlw2 := mergeL_len (withoutL xsa xsb) xsb
                go_wp2_with fail
                (with_reducible refine (k66 Sa.out Sb.out (by omega) (by omega) rfl).mono ?_); rintro e w5 ⟨Am, cm, rfl, hs, ho, hb⟩
                replace HB := Lib.hid (below_ext HB.out hb)
                replace Sa := Lib.hid (Sa.out.ext hb)
                replace Sb := Lib.hid (Sb.out.ext hb)
                clear hb
                have Sm := Lib.hid hs
                clear hs ho
                have hl_m := Sm.out.2.1
                have hm_m := Sm.out.2.2
                go_wp2_with fail
                (with_reducible refine (k41 (b := false) Sa.out HRa.out (by omega) rfl HM1.out).mono ?_); rintro e w6 ⟨rfl, hb⟩
                replace HB := Lib.hid (below_ext HB.out hb)
                replace Sa := Lib.hid (Sa.out.ext hb)
                replace Sb := Lib.hid (Sb.out.ext hb)
                replace Sm := Lib.hid (Sm.out.ext hb)
                clear hb
                go_wp2_with fail
                (with_reducible refine (k41 (b := true) Sb.out HRb.out (by omega) rfl HM2.out).mono ?_); rintro e w7 ⟨rfl, hb⟩
                replace HB := Lib.hid (below_ext HB.out hb)
                replace Sa := Lib.hid (Sa.out.ext hb)
                replace Sb := Lib.hid (Sb.out.ext hb)
                replace Sm := Lib.hid (Sm.out.ext hb)
                clear hb
                go_wp2_with fail
                (with_reducible refine (k41 (b := true) Sm.out (mergeL_rises _ _ HRa.out HRb.out) (by omega) rfl HM3.out).mono ?_); rintro e w8 ⟨rfl, hb⟩
                replace HB := Lib.hid (below_ext HB.out hb)
                replace Sa := Lib.hid (Sa.out.ext hb)
                replace Sb := Lib.hid (Sb.out.ext hb)
                replace Sm := Lib.hid (Sm.out.ext hb)
                clear hb
                go_wp2_with fail
                (with_reducible refine (k66 Sb.out Sa.out (by omega) (by omega) rfl).mono ?_); rintro e w9 ⟨An, cn, rfl, hs, ho, hb⟩
                replace HB := Lib.hid (below_ext HB.out hb)
                replace Sa := Lib.hid (Sa.out.ext hb)
                replace Sb := Lib.hid (Sb.out.ext hb)
                replace Sm := Lib.hid (Sm.out.ext hb)
                clear hb
                have Sn := Lib.hid hs
                clear hs ho
                have hl_n := Sn.out.2.1
                have hm_n := Sn.out.2.2
                go_wp2_with fail
                (with_reducible refine (k39 (b := true) Sm.out Sn.out (by rw [merge_comm HRb.out HRa.out]; simp)).mono ?_); rintro e w10 ⟨rfl, hb⟩
                replace HB := Lib.hid (below_ext HB.out hb)
                replace Sa := Lib.hid (Sa.out.ext hb)
                replace Sb := Lib.hid (Sb.out.ext hb)
                replace Sm := Lib.hid (Sm.out.ext hb)
                replace Sn := Lib.hid (Sn.out.ext hb)
                clear hb
                go_wp2_with fail
                (with_reducible refine (k67 Sa.out Sb.out HRb.out (by omega) (by omega) rfl).mono ?_); rintro e w11 ⟨Ap, cp, rfl, hs, ho, hb⟩
                replace HB := Lib.hid (below_ext HB.out hb)
                replace Sa := Lib.hid (Sa.out.ext hb)
                replace Sb := Lib.hid (Sb.out.ext hb)
                replace Sm := Lib.hid (Sm.out.ext hb)
                replace Sn := Lib.hid (Sn.out.ext hb)
                clear hb
                have Sp := Lib.hid hs
                clear hs ho
                have hl_p := Sp.out.2.1
                have hm_p := Sp.out.2.2
                go_wp2_with fail
                (with_reducible refine (k66 Sp.out Sb.out (by omega) (by omega) rfl).mono ?_); rintro e w12 ⟨Aq, cq, rfl, hs, ho, hb⟩
                replace HB := Lib.hid (below_ext HB.out hb)
                replace Sa := Lib.hid (Sa.out.ext hb)
                replace Sb := Lib.hid (Sb.out.ext hb)
                replace Sm := Lib.hid (Sm.out.ext hb)
                replace Sn := Lib.hid (Sn.out.ext hb)
                replace Sp := Lib.hid (Sp.out.ext hb)
                clear hb
                have Sq := Lib.hid hs
                clear hs ho
                have hl_q := Sq.out.2.1
                have hm_q := Sq.out.2.2
                go_wp2_with fail
                (with_reducible refine (k39 (b := true) Sq.out Sm.out (by rw [merge_without HRa.out HRb.out]; simp)).mono ?_); rintro e w13 ⟨rfl, hb⟩
                replace HB := Lib.hid (below_ext HB.out hb)
                replace Sa := Lib.hid (Sa.out.ext hb)
                replace Sb := Lib.hid (Sb.out.ext hb)
                replace Sm := Lib.hid (Sm.out.ext hb)
                replace Sn := Lib.hid (Sn.out.ext hb)
                replace Sp := Lib.hid (Sp.out.ext hb)
                replace Sq := Lib.hid (Sq.out.ext hb)
                clear hb
                go_wp2_with fail
                (with_reducible refine (k67 Sa.out Sa.out HRa.out (by omega) (by omega) (without_self xsa).symm).mono ?_); rintro e w14 ⟨Ar, cr, rfl, hs, ho, hb⟩
                replace HB := Lib.hid (below_ext HB.out hb)
                replace Sa := Lib.hid (Sa.out.ext hb)
                replace Sb := Lib.hid (Sb.out.ext hb)
                replace Sm := Lib.hid (Sm.out.ext hb)
                replace Sn := Lib.hid (Sn.out.ext hb)
                replace Sp := Lib.hid (Sp.out.ext hb)
                replace Sq := Lib.hid (Sq.out.ext hb)
                clear hb
                have Sr := Lib.hid hs
                clear hs ho
                have hl_r := Sr.out.2.1
                have hm_r := Sr.out.2.2
                go_wp2_with fail
                (with_reducible refine (c59 _).mono ?_); rintro e w15 ⟨rfl, hb⟩
                replace HB := Lib.hid (below_ext HB.out hb)
                clear hb
                go_wp2_with fail
                go_ret
                exact ⟨rfl, HB.out⟩
            · cases m2
              · have HM3 := Lib.hid (show true = inB (mergeL xsa xsb) y by rw [in_merge, ← HM1.out, ← HM2.out]; rfl)
                go_enter Try.func18, Try.ntmps18
                go_wp2_with fail
                (with_reducible refine (k22 Sa.out HGa.out).mono ?_); rintro e w1 ⟨rfl, hb⟩
                replace HB := Lib.hid (below_ext HB.out hb)
                replace Sa := Lib.hid (Sa.out.ext hb)
                replace Sb := Lib.hid (Sb.out.ext hb)
                clear hb
                go_wp2_with fail
                (with_reducible refine (k22 Sb.out HGb.out).mono ?_); rintro e w2 ⟨rfl, hb⟩
                replace HB := Lib.hid (below_ext HB.out hb)
                replace Sa := Lib.hid (Sa.out.ext hb)
                replace Sb := Lib.hid (Sb.out.ext hb)
                clear hb
                go_wp2_with fail
                (with_reducible refine (k61 Sa.out HSMa.out HGDa.out).mono ?_); rintro e w3 ⟨rfl, hb⟩
                replace HB := Lib.hid (below_ext HB.out hb)
                replace Sa := Lib.hid (Sa.out.ext hb)
                replace Sb := Lib.hid (Sb.out.ext hb)
                clear hb
                go_wp2_with fail
                (with_reducible refine (k61 Sb.out HSMb.out HGDb.out).mono ?_); rintro e w4 ⟨rfl, hb⟩
                replace HB := Lib.hid (below_ext HB.out hb)
                replace Sa := Lib.hid (Sa.out.ext hb)
                replace Sb := Lib.hid (Sb.out.ext hb)
                clear hb
                have hlm := mergeL_len xsa xsb
                have hlm2 := mergeL_len xsb xsa
                have hlw := withoutL_len xsa xsb
                have hlw2 := mergeL_len (withoutL xsa xsb) xsb
                go_wp2_with fail
                (with_reducible refine (k66 Sa.out Sb.out (by omega) (by omega) rfl).mono ?_); rintro e w5 ⟨Am, cm, rfl, hs, ho, hb⟩
                replace HB := Lib.hid (below_ext HB.out hb)
                replace Sa := Lib.hid (Sa.out.ext hb)
                replace Sb := Lib.hid (Sb.out.ext hb)
                clear hb
                have Sm := Lib.hid hs
                clear hs ho
                have hl_m := Sm.out.2.1
                have hm_m := Sm.out.2.2
                go_wp2_with fail
                (with_reducible refine (k41 (b := true) Sa.out HRa.out (by omega) rfl HM1.out).mono ?_); rintro e w6 ⟨rfl, hb⟩
                replace HB := Lib.hid (below_ext HB.out hb)
                replace Sa := Lib.hid (Sa.out.ext hb)
                replace Sb := Lib.hid (Sb.out.ext hb)
                replace Sm := Lib.hid (Sm.out.ext hb)
                clear hb
                go_wp2_with fail
                (with_reducible refine (k41 (b := false) Sb.out HRb.out (by omega) rfl HM2.out).mono ?_); rintro e w7 ⟨rfl, hb⟩
                replace HB := Lib.hid (below_ext HB.out hb)
                replace Sa := Lib.hid (Sa.out.ext hb)
                replace Sb := Lib.hid (Sb.out.ext hb)
                replace Sm := Lib.hid (Sm.out.ext hb)
                clear hb
                go_wp2_with fail
                (with_reducible refine (k41 (b := true) Sm.out (mergeL_rises _ _ HRa.out HRb.out) (by omega) rfl HM3.out).mono ?_); rintro e w8 ⟨rfl, hb⟩
                replace HB := Lib.hid (below_ext HB.out hb)
                replace Sa := Lib.hid (Sa.out.ext hb)
                replace Sb := Lib.hid (Sb.out.ext hb)
                replace Sm := Lib.hid (Sm.out.ext hb)
                clear hb
                go_wp2_with fail
                (with_reducible refine (k66 Sb.out Sa.out (by omega) (by omega) rfl).mono ?_); rintro e w9 ⟨An, cn, rfl, hs, ho, hb⟩
                replace HB := Lib.hid (below_ext HB.out hb)
                replace Sa := Lib.hid (Sa.out.ext hb)
                replace Sb := Lib.hid (Sb.out.ext hb)
                replace Sm := Lib.hid (Sm.out.ext hb)
                clear hb
                have Sn := Lib.hid hs
                clear hs ho
                have hl_n := Sn.out.2.1
                have hm_n := Sn.out.2.2
                go_wp2_with fail
                (with_reducible refine (k39 (b := true) Sm.out Sn.out (by rw [merge_comm HRb.out HRa.out]; simp)).mono ?_); rintro e w10 ⟨rfl, hb⟩
                replace HB := Lib.hid (below_ext HB.out hb)
                replace Sa := Lib.hid (Sa.out.ext hb)
                replace Sb := Lib.hid (Sb.out.ext hb)
                replace Sm := Lib.hid (Sm.out.ext hb)
                replace Sn := Lib.hid (Sn.out.ext hb)
                clear hb
                go_wp2_with fail
                (with_reducible refine (k67 Sa.out Sb.out HRb.out (by omega) (by omega) rfl).mono ?_); rintro e w11 ⟨Ap, cp, rfl, hs, ho, hb⟩
                replace HB := Lib.hid (below_ext HB.out hb)
                replace Sa := Lib.hid (Sa.out.ext hb)
                replace Sb := Lib.hid (Sb.out.ext hb)
                replace Sm := Lib.hid (Sm.out.ext hb)
                replace Sn := Lib.hid (Sn.out.ext hb)
                clear hb
                have Sp := Lib.hid hs
                clear hs ho
                have hl_p := Sp.out.2.1
                have hm_p := Sp.out.2.2
                go_wp2_with fail
                (with_reducible refine (k66 Sp.out Sb.out (by omega) (by omega) rfl).mono ?_); rintro e w12 ⟨Aq, cq, rfl, hs, ho, hb⟩
                replace HB := Lib.hid (below_ext HB.out hb)
                replace Sa := Lib.hid (Sa.out.ext hb)
                replace Sb := Lib.hid (Sb.out.ext hb)
                replace Sm := Lib.hid (Sm.out.ext hb)
                replace Sn := Lib.hid (Sn.out.ext hb)
                replace Sp := Lib.hid (Sp.out.ext hb)
                clear hb
                have Sq := Lib.hid hs
                clear hs ho
                have hl_q := Sq.out.2.1
                have hm_q := Sq.out.2.2
                go_wp2_with fail
                (with_reducible refine (k39 (b := true) Sq.out Sm.out (by rw [merge_without HRa.out HRb.out]; simp)).mono ?_); rintro e w13 ⟨rfl, hb⟩
                replace HB := Lib.hid (below_ext HB.out hb)
                replace Sa := Lib.hid (Sa.out.ext hb)
                replace Sb := Lib.hid (Sb.out.ext hb)
                replace Sm := Lib.hid (Sm.out.ext hb)
                replace Sn := Lib.hid (Sn.out.ext hb)
                replace Sp := Lib.hid (Sp.out.ext hb)
                replace Sq := Lib.hid (Sq.out.ext hb)
                clear hb
                go_wp2_with fail
                (with_reducible refine (k67 Sa.out Sa.out HRa.out (by omega) (by omega) (without_self xsa).symm).mono ?_); rintro e w14 ⟨Ar, cr, rfl, hs, ho, hb⟩
                replace HB := Lib.hid (below_ext HB.out hb)
                replace Sa := Lib.hid (Sa.out.ext hb)
                replace Sb := Lib.hid (Sb.out.ext hb)
                replace Sm := Lib.hid (Sm.out.ext hb)
                replace Sn := Lib.hid (Sn.out.ext hb)
                replace Sp := Lib.hid (Sp.out.ext hb)
                replace Sq := Lib.hid (Sq.out.ext hb)
                clear hb
                have Sr := Lib.hid hs
                clear hs ho
                have hl_r := Sr.out.2.1
                have hm_r := Sr.out.2.2
                go_wp2_with fail
                (with_reducible refine (c59 _).mono ?_); rintro e w15 ⟨rfl, hb⟩
                replace HB := Lib.hid (below_ext HB.out hb)
                clear hb
                go_wp2_with fail
                go_ret
                exact ⟨rfl, HB.out⟩
              · have HM3 := Lib.hid (show true = inB (mergeL xsa xsb) y by rw [in_merge, ← HM1.out, ← HM2.out]; rfl)
                go_enter Try.func18, Try.ntmps18
                go_wp2_with fail
                (with_reducible refine (k22 Sa.out HGa.out).mono ?_); rintro e w1 ⟨rfl, hb⟩
                replace HB := Lib.hid (below_ext HB.out hb)
                replace Sa := Lib.hid (Sa.out.ext hb)
                replace Sb := Lib.hid (Sb.out.ext hb)
                clear hb
                go_wp2_with fail
                (with_reducible refine (k22 Sb.out HGb.out).mono ?_); rintro e w2 ⟨rfl, hb⟩
                replace HB := Lib.hid (below_ext HB.out hb)
                replace Sa := Lib.hid (Sa.out.ext hb)
                replace Sb := Lib.hid (Sb.out.ext hb)
                clear hb
                go_wp2_with fail
                (with_reducible refine (k61 Sa.out HSMa.out HGDa.out).mono ?_); rintro e w3 ⟨rfl, hb⟩
                replace HB := Lib.hid (below_ext HB.out hb)
                replace Sa := Lib.hid (Sa.out.ext hb)
                replace Sb := Lib.hid (Sb.out.ext hb)
                clear hb
                go_wp2_with fail
                (with_reducible refine (k61 Sb.out HSMb.out HGDb.out).mono ?_); rintro e w4 ⟨rfl, hb⟩
                replace HB := Lib.hid (below_ext HB.out hb)
                replace Sa := Lib.hid (Sa.out.ext hb)
                replace Sb := Lib.hid (Sb.out.ext hb)
                clear hb
                have hlm := mergeL_len xsa xsb
                have hlm2 := mergeL_len xsb xsa
                have hlw := withoutL_len xsa xsb
                have hlw2 := mergeL_len (withoutL xsa xsb) xsb
                go_wp2_with fail
                (with_reducible refine (k66 Sa.out Sb.out (by omega) (by omega) rfl).mono ?_); rintro e w5 ⟨Am, cm, rfl, hs, ho, hb⟩
                replace HB := Lib.hid (below_ext HB.out hb)
                replace Sa := Lib.hid (Sa.out.ext hb)
                replace Sb := Lib.hid (Sb.out.ext hb)
                clear hb
                have Sm := Lib.hid hs
                clear hs ho
                have hl_m := Sm.out.2.1
                have hm_m := Sm.out.2.2
                go_wp2_with fail
                (with_reducible refine (k41 (b := true) Sa.out HRa.out (by omega) rfl HM1.out).mono ?_); rintro e w6 ⟨rfl, hb⟩
                replace HB := Lib.hid (below_ext HB.out hb)
                replace Sa := Lib.hid (Sa.out.ext hb)
                replace Sb := Lib.hid (Sb.out.ext hb)
                replace Sm := Lib.hid (Sm.out.ext hb)
                clear hb
                go_wp2_with fail
                (with_reducible refine (k41 (b := true) Sb.out HRb.out (by omega) rfl HM2.out).mono ?_); rintro e w7 ⟨rfl, hb⟩
                replace HB := Lib.hid (below_ext HB.out hb)
                replace Sa := Lib.hid (Sa.out.ext hb)
                replace Sb := Lib.hid (Sb.out.ext hb)
                replace Sm := Lib.hid (Sm.out.ext hb)
                clear hb
                go_wp2_with fail
                (with_reducible refine (k41 (b := true) Sm.out (mergeL_rises _ _ HRa.out HRb.out) (by omega) rfl HM3.out).mono ?_); rintro e w8 ⟨rfl, hb⟩
                replace HB := Lib.hid (below_ext HB.out hb)
                replace Sa := Lib.hid (Sa.out.ext hb)
                replace Sb := Lib.hid (Sb.out.ext hb)
                replace Sm := Lib.hid (Sm.out.ext hb)
                clear hb
                go_wp2_with fail
                (with_reducible refine (k66 Sb.out Sa.out (by omega) (by omega) rfl).mono ?_); rintro e w9 ⟨An, cn, rfl, hs, ho, hb⟩
                replace HB := Lib.hid (below_ext HB.out hb)
                replace Sa := Lib.hid (Sa.out.ext hb)
                replace Sb := Lib.hid (Sb.out.ext hb)
                replace Sm := Lib.hid (Sm.out.ext hb)
                clear hb
                have Sn := Lib.hid hs
                clear hs ho
                have hl_n := Sn.out.2.1
                have hm_n := Sn.out.2.2
                go_wp2_with fail
                (with_reducible refine (k39 (b := true) Sm.out Sn.out (by rw [merge_comm HRb.out HRa.out]; simp)).mono ?_); rintro e w10 ⟨rfl, hb⟩
                replace HB := Lib.hid (below_ext HB.out hb)
                replace Sa := Lib.hid (Sa.out.ext hb)
                replace Sb := Lib.hid (Sb.out.ext hb)
                replace Sm := Lib.hid (Sm.out.ext hb)
                replace Sn := Lib.hid (Sn.out.ext hb)
                clear hb
                go_wp2_with fail
                (with_reducible refine (k67 Sa.out Sb.out HRb.out (by omega) (by omega) rfl).mono ?_); rintro e w11 ⟨Ap, cp, rfl, hs, ho, hb⟩
                replace HB := Lib.hid (below_ext HB.out hb)
                replace Sa := Lib.hid (Sa.out.ext hb)
                replace Sb := Lib.hid (Sb.out.ext hb)
                replace Sm := Lib.hid (Sm.out.ext hb)
                replace Sn := Lib.hid (Sn.out.ext hb)
                clear hb
                have Sp := Lib.hid hs
                clear hs ho
                have hl_p := Sp.out.2.1
                have hm_p := Sp.out.2.2
                go_wp2_with fail
                (with_reducible refine (k66 Sp.out Sb.out (by omega) (by omega) rfl).mono ?_); rintro e w12 ⟨Aq, cq, rfl, hs, ho, hb⟩
                replace HB := Lib.hid (below_ext HB.out hb)
                replace Sa := Lib.hid (Sa.out.ext hb)
                replace Sb := Lib.hid (Sb.out.ext hb)
                replace Sm := Lib.hid (Sm.out.ext hb)
                replace Sn := Lib.hid (Sn.out.ext hb)
                replace Sp := Lib.hid (Sp.out.ext hb)
                clear hb
                have Sq := Lib.hid hs
                clear hs ho
                have hl_q := Sq.out.2.1
                have hm_q := Sq.out.2.2
                go_wp2_with fail
                (with_reducible refine (k39 (b := true) Sq.out Sm.out (by rw [merge_without HRa.out HRb.out]; simp)).mono ?_); rintro e w13 ⟨rfl, hb⟩
                replace HB := Lib.hid (below_ext HB.out hb)
                replace Sa := Lib.hid (Sa.out.ext hb)
                replace Sb := Lib.hid (Sb.out.ext hb)
                replace Sm := Lib.hid (Sm.out.ext hb)
                replace Sn := Lib.hid (Sn.out.ext hb)
                replace Sp := Lib.hid (Sp.out.ext hb)
                replace Sq := Lib.hid (Sq.out.ext hb)
                clear hb
                go_wp2_with fail
                (with_reducible refine (k67 Sa.out Sa.out HRa.out (by omega) (by omega) (without_self xsa).symm).mono ?_); rintro e w14 ⟨Ar, cr, rfl, hs, ho, hb⟩
                replace HB := Lib.hid (below_ext HB.out hb)
                replace Sa := Lib.hid (Sa.out.ext hb)
                replace Sb := Lib.hid (Sb.out.ext hb)
                replace Sm := Lib.hid (Sm.out.ext hb)
                replace Sn := Lib.hid (Sn.out.ext hb)
                replace Sp := Lib.hid (Sp.out.ext hb)
                replace Sq := Lib.hid (Sq.out.ext hb)
                clear hb
                have Sr := Lib.hid hs
                clear hs ho
                have hl_r := Sr.out.2.1
                have hm_r := Sr.out.2.2
                go_wp2_with fail
                (with_reducible refine (c59 _).mono ?_); rintro e w15 ⟨rfl, hb⟩
                replace HB := Lib.hid (below_ext HB.out hb)
                clear hb
                go_wp2_with fail
                go_ret
                exact ⟨rfl, HB.out⟩
          · have hzb_b : (gd_b == 0) = false := by simp [hz_b]
            go_enter Try.func18, Try.ntmps18
            go_wp2_with fail
            (with_reducible refine (k22 Sa.out HGa.out).mono ?_); rintro e w1 ⟨rfl, hb⟩
            replace HB := Lib.hid (below_ext HB.out hb)
            replace Sa := Lib.hid (Sa.out.ext hb)
            replace Sb := Lib.hid (Sb.out.ext hb)
            clear hb
            go_wp2_with fail
            (with_reducible refine (k22 Sb.out HGb.out).mono ?_); rintro e w2 ⟨rfl, hb⟩
            replace HB := Lib.hid (below_ext HB.out hb)
            replace Sa := Lib.hid (Sa.out.ext hb)
            replace Sb := Lib.hid (Sb.out.ext hb)
            clear hb
            go_wp2_with fail
            (with_reducible refine (k61 Sa.out HSMa.out HGDa.out).mono ?_); rintro e w3 ⟨rfl, hb⟩
            replace HB := Lib.hid (below_ext HB.out hb)
            replace Sa := Lib.hid (Sa.out.ext hb)
            replace Sb := Lib.hid (Sb.out.ext hb)
            clear hb
            go_wp2_with fail
            (with_reducible refine (k61 Sb.out HSMb.out HGDb.out).mono ?_); rintro e w4 ⟨rfl, hb⟩
            replace HB := Lib.hid (below_ext HB.out hb)
            replace Sa := Lib.hid (Sa.out.ext hb)
            replace Sb := Lib.hid (Sb.out.ext hb)
            clear hb
            go_wp2_with fail
            (with_reducible refine (c59 _).mono ?_); rintro e w5 ⟨rfl, hb⟩
            replace HB := Lib.hid (below_ext HB.out hb)
            clear hb
            go_wp2_with fail
            go_ret
            exact ⟨rfl, HB.out⟩
        · have hzb_a : (gd_a == 0) = false := by simp [hz_a]
          go_enter Try.func18, Try.ntmps18
          go_wp2_with fail
          (with_reducible refine (k22 Sa.out HGa.out).mono ?_); rintro e w1 ⟨rfl, hb⟩
          replace HB := Lib.hid (below_ext HB.out hb)
          replace Sa := Lib.hid (Sa.out.ext hb)
          replace Sb := Lib.hid (Sb.out.ext hb)
          clear hb
          go_wp2_with fail
          (with_reducible refine (k22 Sb.out HGb.out).mono ?_); rintro e w2 ⟨rfl, hb⟩
          replace HB := Lib.hid (below_ext HB.out hb)
          replace Sa := Lib.hid (Sa.out.ext hb)
          replace Sb := Lib.hid (Sb.out.ext hb)
          clear hb
          go_wp2_with fail
          (with_reducible refine (k61 Sa.out HSMa.out HGDa.out).mono ?_); rintro e w3 ⟨rfl, hb⟩
          replace HB := Lib.hid (below_ext HB.out hb)
          replace Sa := Lib.hid (Sa.out.ext hb)
          replace Sb := Lib.hid (Sb.out.ext hb)
          clear hb
          go_wp2_with fail
          (with_reducible refine (c59 _).mono ?_); rintro e w4 ⟨rfl, hb⟩
          replace HB := Lib.hid (below_ext HB.out hb)
          clear hb
          go_wp2_with fail
          go_ret
          exact ⟨rfl, HB.out⟩
      · have hyb_y : decide ((100 : Int) < (y.size : Int)) = true := by simp; omega
        clear hy_y
        go_enter Try.func18, Try.ntmps18
        go_wp2_with fail
        (with_reducible refine (k22 Sa.out HGa.out).mono ?_); rintro e w1 ⟨rfl, hb⟩
        replace HB := Lib.hid (below_ext HB.out hb)
        replace Sa := Lib.hid (Sa.out.ext hb)
        replace Sb := Lib.hid (Sb.out.ext hb)
        clear hb
        go_wp2_with fail
        (with_reducible refine (k22 Sb.out HGb.out).mono ?_); rintro e w2 ⟨rfl, hb⟩
        replace HB := Lib.hid (below_ext HB.out hb)
        replace Sa := Lib.hid (Sa.out.ext hb)
        replace Sb := Lib.hid (Sb.out.ext hb)
        clear hb
        go_wp2_with fail
        (with_reducible refine (c59 _).mono ?_); rintro e w3 ⟨rfl, hb⟩
        replace HB := Lib.hid (below_ext HB.out hb)
        clear hb
        go_wp2_with fail
        go_ret
        exact ⟨rfl, HB.out⟩
    · go_enter Try.func18, Try.ntmps18
      go_wp2_with fail
      (with_reducible refine (k22 Sa.out HGa.out).mono ?_); rintro e w1 ⟨rfl, hb⟩
      replace HB := Lib.hid (below_ext HB.out hb)
      replace Sa := Lib.hid (Sa.out.ext hb)
      replace Sb := Lib.hid (Sb.out.ext hb)
      clear hb
      go_wp2_with fail
      (with_reducible refine (k22 Sb.out HGb.out).mono ?_); rintro e w2 ⟨rfl, hb⟩
      replace HB := Lib.hid (below_ext HB.out hb)
      replace Sa := Lib.hid (Sa.out.ext hb)
      replace Sb := Lib.hid (Sb.out.ext hb)
      clear hb
      go_wp2_with fail
      (with_reducible refine (c59 _).mono ?_); rintro e w3 ⟨rfl, hb⟩
      replace HB := Lib.hid (below_ext HB.out hb)
      clear hb
      go_wp2_with fail
      go_ret
      exact ⟨rfl, HB.out⟩
  · go_enter Try.func18, Try.ntmps18
    go_wp2_with fail
    (with_reducible refine (k22 Sa.out HGa.out).mono ?_); rintro e w1 ⟨rfl, hb⟩
    replace HB := Lib.hid (below_ext HB.out hb)
    replace Sa := Lib.hid (Sa.out.ext hb)
    replace Sb := Lib.hid (Sb.out.ext hb)
    clear hb
    go_wp2_with fail
    (with_reducible refine (c59 _).mono ?_); rintro e w2 ⟨rfl, hb⟩
    replace HB := Lib.hid (below_ext HB.out hb)
    clear hb
    go_wp2_with fail
    go_ret
    exact ⟨rfl, HB.out⟩

end Go.Proofs.Ytepmcfleijiloaa
