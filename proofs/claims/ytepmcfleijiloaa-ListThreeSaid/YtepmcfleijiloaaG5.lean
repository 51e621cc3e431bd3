/- The law ListThree as a contract. -/
import Derived.Test.YtepmcfleijiloaaG1
import Derived.Test.YtepmcfleijiloaaG3
namespace Go.Proofs.Ytepmcfleijiloaa
open Go.RowKit

set_option maxHeartbeats 4000000 in
set_option maxRecDepth 100000 in
/-- inkhornlaw4.ListThree -/
theorem c19 (w : World) (A B C : Option Addr) (c d f : Nat) (xsa xsb xsc : List ByteArray) (ha : Strs w 0 A c xsa) (hb : Strs w 0 B d xsb) (hc : Strs w 0 C f xsc) :
    Calls Try.prog 19 #[.slice A xsa.length c, .slice B xsb.length d, .slice C xsc.length f] w fun e w' => e = .returned (.bool true) ∧ Below w.heap.size w w' := by
  have HB : Hid (Below w.heap.size w w) := Lib.hid (Below.refl _ _)
  have Sa := Lib.hid ha
  have hl_a := ha.2.1
  have hm_a := ha.2.2
  clear ha
  have Sb := Lib.hid hb
  have hl_b := hb.2.1
  have hm_b := hb.2.2
  clear hb
  have Sc := Lib.hid hc
  have hl_c := hc.2.1
  have hm_c := hc.2.2
  clear hc
  obtain ⟨gr_a, hg_a⟩ : ∃ g, g = greatB xsa := ⟨_, rfl⟩
  have HGa := Lib.hid hg_a
  clear hg_a
  cases gr_a
  · have HSMa := Lib.hid (great_small HGa.out.symm)
    have hn_a := (great_false HGa.out.symm).1
    obtain ⟨gr_b, hg_b⟩ : ∃ g, g = greatB xsb := ⟨_, rfl⟩
    have HGb := Lib.hid hg_b
    clear hg_b
    cases gr_b
    · have HSMb := Lib.hid (great_small HGb.out.symm)
      have hn_b := (great_false HGb.out.symm).1
      obtain ⟨gr_c, hg_c⟩ : ∃ g, g = greatB xsc := ⟨_, rfl⟩
      have HGc := Lib.hid hg_c
      clear hg_c
      cases gr_c
      · have HSMc := Lib.hid (great_small HGc.out.symm)
        have hn_c := (great_false HGc.out.symm).1
        obtain ⟨gd_a, hd_a⟩ : ∃ g, g = goodE xsa := ⟨_, rfl⟩
        have HGDa := Lib.hid hd_a
        clear hd_a
        by_cases hz_a : gd_a = 0
        · subst hz_a
          have HRa := Lib.hid (good_of HGa.out HGDa.out).2.2
          obtain ⟨gd_b, hd_b⟩ : ∃ g, g = goodE xsb := ⟨_, rfl⟩
          have HGDb := Lib.hid hd_b
          clear hd_b
          by_cases hz_b : gd_b = 0
          · subst hz_b
            have HRb := Lib.hid (good_of HGb.out HGDb.out).2.2
            obtain ⟨gd_c, hd_c⟩ : ∃ g, g = goodE xsc := ⟨_, rfl⟩
            have HGDc := Lib.hid hd_c
            clear hd_c
            by_cases hz_c : gd_c = 0
            · subst hz_c
              have HRc := Lib.hid (good_of HGc.out HGDc.out).2.2
              go_enter Try.func19, Try.ntmps19
              go_wp2_with fail
              (with_reducible refine (k22 Sa.out HGa.out).mono ?_); rintro e w1 ⟨rfl, hb⟩
              replace HB := Lib.hid (below_ext HB.out hb)
              replace Sa := Lib.hid (Sa.out.ext hb)
              replace Sb := Lib.hid (Sb.out.ext hb)
              replace Sc := Lib.hid (Sc.out.ext hb)
              clear hb
              go_wp2_with fail
              (with_reducible refine (k22 Sb.out HGb.out).mono ?_); rintro e w2 ⟨rfl, hb⟩
              replace HB := Lib.hid (below_ext HB.out hb)
              replace Sa := Lib.hid (Sa.out.ext hb)
              replace Sb := Lib.hid (Sb.out.ext hb)
              replace Sc := Lib.hid (Sc.out.ext hb)
              clear hb
              go_wp2_with fail
              (with_reducible refine (k22 Sc.out HGc.out).mono ?_); rintro e w3 ⟨rfl, hb⟩
              replace HB := Lib.hid (below_ext HB.out hb)
              replace Sa := Lib.hid (Sa.out.ext hb)
              replace Sb := Lib.hid (Sb.out.ext hb)
              replace Sc := Lib.hid (Sc.out.ext hb)
              clear hb
              go_wp2_with fail
              (with_reducible refine (k61 Sa.out HSMa.out HGDa.out).mono ?_); rintro e w4 ⟨rfl, hb⟩
              replace HB := Lib.hid (below_ext HB.out hb)
              replace Sa := Lib.hid (Sa.out.ext hb)
              replace Sb := Lib.hid (Sb.out.ext hb)
              replace Sc := Lib.hid (Sc.out.ext hb)
              clear hb
              go_wp2_with fail
              (with_reducible refine (k61 Sb.out HSMb.out HGDb.out).mono ?_); rintro e w5 ⟨rfl, hb⟩
              replace HB := Lib.hid (below_ext HB.out hb)
              replace Sa := Lib.hid (Sa.out.ext hb)
              replace Sb := Lib.hid (Sb.out.ext hb)
              replace Sc := Lib.hid (Sc.out.ext hb)
              clear hb
              go_wp2_with fail
              (with_reducible refine (k61 Sc.out HSMc.out HGDc.out).mono ?_); rintro e w6 ⟨rfl, hb⟩
              replace HB := Lib.hid (below_ext HB.out hb)
              replace Sa := Lib.hid (Sa.out.ext hb)
              replace Sb := Lib.hid (Sb.out.ext hb)
              replace Sc := Lib.hid (Sc.out.ext hb)
              clear hb
              have hl1 := mergeL_len xsa xsb
              have hl2 := mergeL_len (mergeL xsa xsb) xsc
              have hl3 := mergeL_len xsc xsb
              have hl4 := mergeL_len xsa (mergeL xsc xsb)
              have hl5 := withoutL_len xsa xsb
              have hl6 := withoutL_len (withoutL xsa xsb) xsc
              have hl7 := mergeL_len xsb xsc
              go_wp2_with fail
              (with_reducible refine (k66 Sa.out Sb.out (by omega) (by omega) rfl).mono ?_); rintro e w7 ⟨Ad, cd, rfl, hs, ho, hb⟩
              replace HB := Lib.hid (below_ext HB.out hb)
              replace Sa := Lib.hid (Sa.out.ext hb)
              replace Sb := Lib.hid (Sb.out.ext hb)
              replace Sc := Lib.hid (Sc.out.ext hb)
              clear hb
              have Sd := Lib.hid hs
              clear hs ho
              have hl_d := Sd.out.2.1
              have hm_d := Sd.out.2.2
              go_wp2_with fail
              (with_reducible refine (k66 Sd.out Sc.out (by omega) (by omega) rfl).mono ?_); rintro e w8 ⟨Ax, cx, rfl, hs, ho, hb⟩
              replace HB := Lib.hid (below_ext HB.out hb)
              replace Sa := Lib.hid (Sa.out.ext hb)
              replace Sb := Lib.hid (Sb.out.ext hb)
              replace Sc := Lib.hid (Sc.out.ext hb)
              replace Sd := Lib.hid (Sd.out.ext hb)
              clear hb
              have Sx := Lib.hid hs
              clear hs ho
              have hl_x := Sx.out.2.1
              have hm_x := Sx.out.2.2
              go_wp2_with fail
              (with_reducible refine (k66 Sc.out Sb.out (by omega) (by omega) rfl).mono ?_); rintro e w9 ⟨Af, cf, rfl, hs, ho, hb⟩
              replace HB := Lib.hid (below_ext HB.out hb)
              replace Sa := Lib.hid (Sa.out.ext hb)
              replace Sb := Lib.hid (Sb.out.ext hb)
              replace Sc := Lib.hid (Sc.out.ext hb)
              replace Sd := Lib.hid (Sd.out.ext hb)
              replace Sx := Lib.hid (Sx.out.ext hb)
              clear hb
              have Sf := Lib.hid hs
              clear hs ho
              have hl_f := Sf.out.2.1
              have hm_f := Sf.out.2.2
              go_wp2_with fail
              (with_reducible refine (k66 Sa.out Sf.out (by omega) (by omega) (merge_three HRa.out HRb.out HRc.out)).mono ?_); rintro e w10 ⟨Ay, cy, rfl, hs, ho, hb⟩
              replace HB := Lib.hid (below_ext HB.out hb)
              replace Sa := Lib.hid (Sa.out.ext hb)
              replace Sb := Lib.hid (Sb.out.ext hb)
              replace Sc := Lib.hid (Sc.out.ext hb)
              replace Sd := Lib.hid (Sd.out.ext hb)
              replace Sx := Lib.hid (Sx.out.ext hb)
              replace Sf := Lib.hid (Sf.out.ext hb)
              clear hb
              have Sy := Lib.hid hs
              clear hs ho
              have hl_y := Sy.out.2.1
              have hm_y := Sy.out.2.2
              go_wp2_with fail
              (with_reducible refine (k67 Sa.out Sb.out HRb.out (by omega) (by omega) rfl).mono ?_); rintro e w11 ⟨Ah, ch, rfl, hs, ho, hb⟩
              replace HB := Lib.hid (below_ext HB.out hb)
              replace Sa := Lib.hid (Sa.out.ext hb)
              replace Sb := Lib.hid (Sb.out.ext hb)
              replace Sc := Lib.hid (Sc.out.ext hb)
              replace Sd := Lib.hid (Sd.out.ext hb)
              replace Sx := Lib.hid (Sx.out.ext hb)
              replace Sf := Lib.hid (Sf.out.ext hb)
              replace Sy := Lib.hid (Sy.out.ext hb)
              clear hb
              have Sh := Lib.hid hs
              clear hs ho
              have hl_h := Sh.out.2.1
              have hm_h := Sh.out.2.2
              go_wp2_with fail
              (with_reducible refine (k67 Sh.out Sc.out HRc.out (by omega) (by omega) rfl).mono ?_); rintro e w12 ⟨Ap, cp, rfl, hs, ho, hb⟩
              replace HB := Lib.hid (below_ext HB.out hb)
              replace Sa := Lib.hid (Sa.out.ext hb)
              replace Sb := Lib.hid (Sb.out.ext hb)
              replace Sc := Lib.hid (Sc.out.ext hb)
              replace Sd := Lib.hid (Sd.out.ext hb)
              replace Sx := Lib.hid (Sx.out.ext hb)
              replace Sf := Lib.hid (Sf.out.ext hb)
              replace Sy := Lib.hid (Sy.out.ext hb)
              replace Sh := Lib.hid (Sh.out.ext hb)
              clear hb
              have Sp := Lib.hid hs
              clear hs ho
              have hl_p := Sp.out.2.1
              have hm_p := Sp.out.2.2
              go_wp2_with fail
              (with_reducible refine (k66 Sb.out Sc.out (by omega) (by omega) rfl).mono ?_); rintro e w13 ⟨Ai, ci, rfl, hs, ho, hb⟩
              replace HB := Lib.hid (below_ext HB.out hb)
              replace Sa := Lib.hid (Sa.out.ext hb)
              replace Sb := Lib.hid (Sb.out.ext hb)
              replace Sc := Lib.hid (Sc.out.ext hb)
              replace Sd := Lib.hid (Sd.out.ext hb)
              replace Sx := Lib.hid (Sx.out.ext hb)
              replace Sf := Lib.hid (Sf.out.ext hb)
              replace Sy := Lib.hid (Sy.out.ext hb)
              replace Sh := Lib.hid (Sh.out.ext hb)
              replace Sp := Lib.hid (Sp.out.ext hb)
              clear hb
              have Si := Lib.hid hs
              clear hs ho
              have hl_i := Si.out.2.1
              have hm_i := Si.out.2.2
              go_wp2_with fail
              (with_reducible refine (k67 Sa.out Si.out (mergeL_rises _ _ HRb.out HRc.out) (by omega) (by omega) (without_two HRa.out)).mono ?_); rintro e w14 ⟨Aq, cq, rfl, hs, ho, hb⟩
              replace HB := Lib.hid (below_ext HB.out hb)
              replace Sa := Lib.hid (Sa.out.ext hb)
              replace Sb := Lib.hid (Sb.out.ext hb)
              replace Sc := Lib.hid (Sc.out.ext hb)
              replace Sd := Lib.hid (Sd.out.ext hb)
              replace Sx := Lib.hid (Sx.out.ext hb)
              replace Sf := Lib.hid (Sf.out.ext hb)
              replace Sy := Lib.hid (Sy.out.ext hb)
              replace Sh := Lib.hid (Sh.out.ext hb)
              replace Sp := Lib.hid (Sp.out.ext hb)
              replace Si := Lib.hid (Si.out.ext hb)
              clear hb
              have Sq := Lib.hid hs
              clear hs ho
              have hl_q := Sq.out.2.1
              have hm_q := Sq.out.2.2
              go_wp2_with fail
              (with_reducible refine (k39 (b := true) Sx.out Sy.out (by simp)).mono ?_); rintro e w15 ⟨rfl, hb⟩
              replace HB := Lib.hid (below_ext HB.out hb)
              replace Sa := Lib.hid (Sa.out.ext hb)
              replace Sb := Lib.hid (Sb.out.ext hb)
              replace Sc := Lib.hid (Sc.out.ext hb)
              replace Sd := Lib.hid (Sd.out.ext hb)
              replace Sx := Lib.hid (Sx.out.ext hb)
              replace Sf := Lib.hid (Sf.out.ext hb)
              replace Sy := Lib.hid (Sy.out.ext hb)
              replace Sh := Lib.hid (Sh.out.ext hb)
              replace Sp := Lib.hid (Sp.out.ext hb)
              replace Si := Lib.hid (Si.out.ext hb)
              replace Sq := Lib.hid (Sq.out.ext hb)
              clear hb
              go_wp2_with fail
              (with_reducible refine (k39 (b := true) Sp.out Sq.out (by simp)).mono ?_); rintro e w16 ⟨rfl, hb⟩
              replace HB := Lib.hid (below_ext HB.out hb)
              replace Sa := Lib.hid (Sa.out.ext hb)
              replace Sb := Lib.hid (Sb.out.ext hb)
              replace Sc := Lib.hid (Sc.out.ext hb)
              replace Sd := Lib.hid (Sd.out.ext hb)
              replace Sx := Lib.hid (Sx.out.ext hb)
              replace Sf := Lib.hid (Sf.out.ext hb)
              replace Sy := Lib.hid (Sy.out.ext hb)
              replace Sh := Lib.hid (Sh.out.ext hb)
              replace Sp := Lib.hid (Sp.out.ext hb)
              replace Si := Lib.hid (Si.out.ext hb)
              replace Sq := Lib.hid (Sq.out.ext hb)
              clear hb
              go_wp2_with fail
              (with_reducible refine (k67 Sx.out Sc.out HRc.out (by omega) (by omega) rfl).mono ?_); rintro e w17 ⟨Ar, cr, rfl, hs, ho, hb⟩
              replace HB := Lib.hid (below_ext HB.out hb)
              replace Sa := Lib.hid (Sa.out.ext hb)
              replace Sb := Lib.hid (Sb.out.ext hb)
              replace Sc := Lib.hid (Sc.out.ext hb)
              replace Sd := Lib.hid (Sd.out.ext hb)
              replace Sx := Lib.hid (Sx.out.ext hb)
              replace Sf := Lib.hid (Sf.out.ext hb)
              replace Sy := Lib.hid (Sy.out.ext hb)
              replace Sh := Lib.hid (Sh.out.ext hb)
              replace Sp := Lib.hid (Sp.out.ext hb)
              replace Si := Lib.hid (Si.out.ext hb)
              replace Sq := Lib.hid (Sq.out.ext hb)
              clear hb
              have Sr := Lib.hid hs
              clear hs ho
              have hl_r := Sr.out.2.1
              have hm_r := Sr.out.2.2
              go_wp2_with fail
              (with_reducible refine (k66 Sa.out Sb.out (by omega) (by omega) rfl).mono ?_); rintro e w18 ⟨As, cs, rfl, hs, ho, hb⟩
              replace HB := Lib.hid (below_ext HB.out hb)
              replace Sa := Lib.hid (Sa.out.ext hb)
              replace Sb := Lib.hid (Sb.out.ext hb)
              replace Sc := Lib.hid (Sc.out.ext hb)
              replace Sd := Lib.hid (Sd.out.ext hb)
              replace Sx := Lib.hid (Sx.out.ext hb)
              replace Sf := Lib.hid (Sf.out.ext hb)
              replace Sy := Lib.hid (Sy.out.ext hb)
              replace Sh := Lib.hid (Sh.out.ext hb)
              replace Sp := Lib.hid (Sp.out.ext hb)
              replace Si := Lib.hid (Si.out.ext hb)
              replace Sq := Lib.hid (Sq.out.ext hb)
              replace Sr := Lib.hid (Sr.out.ext hb)
              clear hb
              have Ss := Lib.hid hs
              clear hs ho
              have hl_s := Ss.out.2.1
              have hm_s := Ss.out.2.2
              go_wp2_with fail
              (with_reducible refine (k67 Ss.out Sc.out HRc.out (by omega) (by omega) (without_merge (mergeL_rises _ _ HRa.out HRb.out) HRc.out)).mono ?_); rintro e w19 ⟨At, ct, rfl, hs, ho, hb⟩
              replace HB := Lib.hid (below_ext HB.out hb)
              replace Sa := Lib.hid (Sa.out.ext hb)
              replace Sb := Lib.hid (Sb.out.ext hb)
              replace Sc := Lib.hid (Sc.out.ext hb)
              replace Sd := Lib.hid (Sd.out.ext hb)
              replace Sx := Lib.hid (Sx.out.ext hb)
              replace Sf := Lib.hid (Sf.out.ext hb)
              replace Sy := Lib.hid (Sy.out.ext hb)
              replace Sh := Lib.hid (Sh.out.ext hb)
              replace Sp := Lib.hid (Sp.out.ext hb)
              replace Si := Lib.hid (Si.out.ext hb)
              replace Sq := Lib.hid (Sq.out.ext hb)
              replace Sr := Lib.hid (Sr.out.ext hb)
              replace Ss := Lib.hid (Ss.out.ext hb)
              clear hb
              have St := Lib.hid hs
              clear hs ho
              have hl_t := St.out.2.1
              have hm_t := St.out.2.2
              go_wp2_with fail
              (with_reducible refine (k39 (b := true) Sr.out St.out (by simp)).mono ?_); rintro e w20 ⟨rfl, hb⟩
              replace HB := Lib.hid (below_ext HB.out hb)
              replace Sa := Lib.hid (Sa.out.ext hb)
              replace Sb := Lib.hid (Sb.out.ext hb)
              replace Sc := Lib.hid (Sc.out.ext hb)
              replace Sd := Lib.hid (Sd.out.ext hb)
              replace Sx := Lib.hid (Sx.out.ext hb)
              replace Sf := Lib.hid (Sf.out.ext hb)
              replace Sy := Lib.hid (Sy.out.ext hb)
              replace Sh := Lib.hid (Sh.out.ext hb)
              replace Sp := Lib.hid (Sp.out.ext hb)
              replace Si := Lib.hid (Si.out.ext hb)
              replace Sq := Lib.hid (Sq.out.ext hb)
              replace Sr := Lib.hid (Sr.out.ext hb)
              replace Ss := Lib.hid (Ss.out.ext hb)
              replace St := Lib.hid (St.out.ext hb)
              clear hb
              go_wp2_with fail
              (with_reducible refine (c59 _).mono ?_); rintro e w21 ⟨rfl, hb⟩
              replace HB := Lib.hid (below_ext HB.out hb)
              clear hb
              go_wp2_with fail
              go_ret
              exact ⟨rfl, HB.out⟩
            · have hzb_c : (gd_c == 0) = false := by simp [hz_c]
              go_enter Try.func19, Try.ntmps19
              go_wp2_with fail
              (with_reducible refine (k22 Sa.out HGa.out).mono ?_); rintro e w1 ⟨rfl, hb⟩
              replace HB := Lib.hid (below_ext HB.out hb)
              replace Sa := Lib.hid (Sa.out.ext hb)
              replace Sb := Lib.hid (Sb.out.ext hb)
              replace Sc := Lib.hid (Sc.out.ext hb)
              clear hb
              go_wp2_with fail
              (with_reducible refine (k22 Sb.out HGb.out).mono ?_); rintro e w2 ⟨rfl, hb⟩
              replace HB := Lib.hid (below_ext HB.out hb)
              replace Sa := Lib.hid (Sa.out.ext hb)
              replace Sb := Lib.hid (Sb.out.ext hb)
              replace Sc := Lib.hid (Sc.out.ext hb)
              clear hb
              go_wp2_with fail
              (with_reducible refine (k22 Sc.out HGc.out).mono ?_); rintro e w3 ⟨rfl, hb⟩
              replace HB := Lib.hid (below_ext HB.out hb)
              replace Sa := Lib.hid (Sa.out.ext hb)
              replace Sb := Lib.hid (Sb.out.ext hb)
              replace Sc := Lib.hid (Sc.out.ext hb)
              clear hb
              go_wp2_with fail
              (with_reducible refine (k61 Sa.out HSMa.out HGDa.out).mono ?_); rintro e w4 ⟨rfl, hb⟩
              replace HB := Lib.hid (below_ext HB.out hb)
              replace Sa := Lib.hid (Sa.out.ext hb)
              replace Sb := Lib.hid (Sb.out.ext hb)
              replace Sc := Lib.hid (Sc.out.ext hb)
              clear hb
              go_wp2_with fail
              (with_reducible refine (k61 Sb.out HSMb.out HGDb.out).mono ?_); rintro e w5 ⟨rfl, hb⟩
              replace HB := Lib.hid (below_ext HB.out hb)
              replace Sa := Lib.hid (Sa.out.ext hb)
              replace Sb := Lib.hid (Sb.out.ext hb)
              replace Sc := Lib.hid (Sc.out.ext hb)
              clear hb
              go_wp2_with fail
              (with_reducible refine (k61 Sc.out HSMc.out HGDc.out).mono ?_); rintro e w6 ⟨rfl, hb⟩
              replace HB := Lib.hid (below_ext HB.out hb)
              replace Sa := Lib.hid (Sa.out.ext hb)
              replace Sb := Lib.hid (Sb.out.ext hb)
              replace Sc := Lib.hid (Sc.out.ext hb)
              clear hb
              go_wp2_with fail
              (with_reducible refine (c59 _).mono ?_); rintro e w7 ⟨rfl, hb⟩
              replace HB := Lib.hid (below_ext HB.out hb)
              clear hb
              go_wp2_with fail
              go_ret
              exact ⟨rfl, HB.out⟩
          · have hzb_b : (gd_b == 0) = false := by simp [hz_b]
            go_enter Try.func19, Try.ntmps19
            go_wp2_with fail
            (with_reducible refine (k22 Sa.out HGa.out).mono ?_); rintro e w1 ⟨rfl, hb⟩
            replace HB := Lib.hid (below_ext HB.out hb)
            replace Sa := Lib.hid (Sa.out.ext hb)
            replace Sb := Lib.hid (Sb.out.ext hb)
            replace Sc := Lib.hid (Sc.out.ext hb)
            clear hb
            go_wp2_with fail
            (with_reducible refine (k22 Sb.out HGb.out).mono ?_); rintro e w2 ⟨rfl, hb⟩
            replace HB := Lib.hid (below_ext HB.out hb)
            replace Sa := Lib.hid (Sa.out.ext hb)
            replace Sb := Lib.hid (Sb.out.ext hb)
            replace Sc := Lib.hid (Sc.out.ext hb)
            clear hb
            go_wp2_with fail
            (with_reducible refine (k22 Sc.out HGc.out).mono ?_); rintro e w3 ⟨rfl, hb⟩
            replace HB := Lib.hid (below_ext HB.out hb)
            replace Sa := Lib.hid (Sa.out.ext hb)
            replace Sb := Lib.hid (Sb.out.ext hb)
            replace Sc := Lib.hid (Sc.out.ext hb)
            clear hb
            go_wp2_with fail
            (with_reducible refine (k61 Sa.out HSMa.out HGDa.out).mono ?_); rintro e w4 ⟨rfl, hb⟩
            replace HB := Lib.hid (below_ext HB.out hb)
            replace Sa := Lib.hid (Sa.out.ext hb)
            replace Sb := Lib.hid (Sb.out.ext hb)
            replace Sc := Lib.hid (Sc.out.ext hb)
            clear hb
            go_wp2_with fail
            (with_reducible refine (k61 Sb.out HSMb.out HGDb.out).mono ?_); rintro e w5 ⟨rfl, hb⟩
            replace HB := Lib.hid (below_ext HB.out hb)
            replace Sa := Lib.hid (Sa.out.ext hb)
            replace Sb := Lib.hid (Sb.out.ext hb)
            replace Sc := Lib.hid (Sc.out.ext hb)
            clear hb
            go_wp2_with fail
            (with_reducible refine (c59 _).mono ?_); rintro e w6 ⟨rfl, hb⟩
            replace HB := Lib.hid (below_ext HB.out hb)
            clear hb
            go_wp2_with fail
            go_ret
            exact ⟨rfl, HB.out⟩
        · have hzb_a : (gd_a == 0) = false := by simp [hz_a]
          go_enter Try.func19, Try.ntmps19
          go_wp2_with fail
          (with_reducible refine (k22 Sa.out HGa.out).mono ?_); rintro e w1 ⟨rfl, hb⟩
          replace HB := Lib.hid (below_ext HB.out hb)
          replace Sa := Lib.hid (Sa.out.ext hb)
          replace Sb := Lib.hid (Sb.out.ext hb)
          replace Sc := Lib.hid (Sc.out.ext hb)
          clear hb
          go_wp2_with fail
          (with_reducible refine (k22 Sb.out HGb.out).mono ?_); rintro e w2 ⟨rfl, hb⟩
          replace HB := Lib.hid (below_ext HB.out hb)
          replace Sa := Lib.hid (Sa.out.ext hb)
          replace Sb := Lib.hid (Sb.out.ext hb)
          replace Sc := Lib.hid (Sc.out.ext hb)
          clear hb
          go_wp2_with fail
          (with_reducible refine (k22 Sc.out HGc.out).mono ?_); rintro e w3 ⟨rfl, hb⟩
          replace HB := Lib.hid (below_ext HB.out hb)
          replace Sa := Lib.hid (Sa.out.ext hb)
          replace Sb := Lib.hid (Sb.out.ext hb)
          replace Sc := Lib.hid (Sc.out.ext hb)
          clear hb
          go_wp2_with fail
          (with_reducible refine (k61 Sa.out HSMa.out HGDa.out).mono ?_); rintro e w4 ⟨rfl, hb⟩
          replace HB := Lib.hid (below_ext HB.out hb)
          replace Sa := Lib.hid (Sa.out.ext hb)
          replace Sb := Lib.hid (Sb.out.ext hb)
          replace Sc := Lib.hid (Sc.out.ext hb)
          clear hb
          go_wp2_with fail
          (with_reducible refine (c59 _).mono ?_); rintro e w5 ⟨rfl, hb⟩
          replace HB := Lib.hid (below_ext HB.out hb)
          clear hb
          go_wp2_with fail
          go_ret
          exact ⟨rfl, HB.out⟩
      · go_enter Try.func19, Try.ntmps19
        go_wp2_with fail
        (with_reducible refine (k22 Sa.out HGa.out).mono ?_); rintro e w1 ⟨rfl, hb⟩
        replace HB := Lib.hid (below_ext HB.out hb)
        replace Sa := Lib.hid (Sa.out.ext hb)
        replace Sb := Lib.hid (Sb.out.ext hb)
        replace Sc := Lib.hid (Sc.out.ext hb)
        clear hb
        go_wp2_with fail
        (with_reducible refine (k22 Sb.out HGb.out).mono ?_); rintro e w2 ⟨rfl, hb⟩
        replace HB := Lib.hid (below_ext HB.out hb)
        replace Sa := Lib.hid (Sa.out.ext hb)
        replace Sb := Lib.hid (Sb.out.ext hb)
        replace Sc := Lib.hid (Sc.out.ext hb)
        clear hb
        go_wp2_with fail
        (with_reducible refine (k22 Sc.out HGc.out).mono ?_); rintro e w3 ⟨rfl, hb⟩
        replace HB := Lib.hid (below_ext HB.out hb)
        replace Sa := Lib.hid (Sa.out.ext hb)
        replace Sb := Lib.hid (Sb.out.ext hb)
        replace Sc := Lib.hid (Sc.out.ext hb)
        clear hb
        go_wp2_with fail
        (with_reducible refine (c59 _).mono ?_); rintro e w4 ⟨rfl, hb⟩
        replace HB := Lib.hid (below_ext HB.out hb)
        clear hb
        go_wp2_with fail
        go_ret
        exact ⟨rfl, HB.out⟩
    · go_enter Try.func19, Try.ntmps19
      go_wp2_with fail
      (with_reducible refine (k22 Sa.out HGa.out).mono ?_); rintro e w1 ⟨rfl, hb⟩
      replace HB := Lib.hid (below_ext HB.out hb)
      replace Sa := Lib.hid (Sa.out.ext hb)
      replace Sb := Lib.hid (Sb.out.ext hb)
      replace Sc := Lib.hid (Sc.out.ext hb)
      clear hb
      go_wp2_with fail
      (with_reducible refine (k22 Sb.out HGb.out).mono ?_); rintro e w2 ⟨rfl, hb⟩
      replace HB := Lib.hid (below_ext HB.out hb)
      replace Sa := Lib.hid (Sa.out.ext hb)
      replace Sb := Lib.hid (Sb.out.ext hb)
      replace Sc := Lib.hid (Sc.out.ext hb)
      clear hb
      go_wp2_with fail
      (with_reducible refine (c59 _).mono ?_); rintro e w3 ⟨rfl, hb⟩
      replace HB := Lib.hid (below_ext HB.out hb)
      clear hb
      go_wp2_with fail
      go_ret
      exact ⟨rfl, HB.out⟩
  · go_enter Try.func19, Try.ntmps19
    go_wp2_with fail
    (with_reducible refine (k22 Sa.out HGa.out).mono ?_); rintro e w1 ⟨rfl, hb⟩
    replace HB := Lib.hid (below_ext HB.out hb)
    replace Sa := Lib.hid (Sa.out.ext hb)
    replace Sb := Lib.hid (Sb.out.ext hb)
    replace Sc := Lib.hid (Sc.out.ext hb)
    clear hb
    go_wp2_with fail
    (with_reducible refine (c59 _).mono ?_); rintro e w2 ⟨rfl, hb⟩
    replace HB := Lib.hid (below_ext HB.out hb)
    clear hb
    go_wp2_with fail
    go_ret
    exact ⟨rfl, HB.out⟩

end Go.Proofs.Ytepmcfleijiloaa
