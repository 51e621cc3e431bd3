/- The law GraphAsks as a contract. -/
import Derived.Test.YtepmcfleijiloaaK5
import Derived.Test.YtepmcfleijiloaaJ5
import Derived.Test.YtepmcfleijiloaaK1
set_option linter.unusedVariables false
namespace Go.Proofs.Ytepmcfleijiloaa
open Go.RowKit

theorem k26 {w : World} {A : Option Addr} {c : Nat} {xs : List ByteArray} {g : Int} (hx : Strs w 0 A c xs) (hsm : Small xs) (hg : g = goodE xs) :
    Calls Try.prog 26 #[.slice A xs.length c] w fun e w' => ∃ p, e = .returned (.tuple #[p, .int .i64 g]) ∧ Hid (g = 0 → RefG w' p (nodesOf (textsOf xs))) ∧ Below w.heap.size w w' := by
  refine (c26 w A c xs hx hsm).mono ?_
  rintro e w' ⟨p, rfl, h1, h2, hb⟩
  rw [← hg] at h1 h2 ⊢
  exact ⟨p, rfl, Lib.hid h2, hb⟩
theorem k47 {w : World} {p : Value} {xs l : List ByteArray} {q : ByteArray} {most : Int} (h : RefG w p (nodesOf (textsOf xs))) (hW : Wds xs) (hsm : Small xs) (hq : q.size ≤ 1000000) (hl : l = fromL xs q most) :
    Calls Try.prog 47 #[p, .string q, .int .i64 most] w (NewT w l) := NewT.of (c47 w p xs q most h hW hsm hq l hl)

set_option maxHeartbeats 2000000 in
set_option maxRecDepth 100000 in
/-- inkhornlaw8.GraphAsks -/
theorem c9 (w : World) (A : Option Addr) (c : Nat) (xs : List ByteArray) (n r : Int) (s : ByteArray) (m : Int) (hx : Strs w 0 A c xs) (hs : s.size ≤ 9223372036854775807)
    (hmm : m ≤ 9223372036854775807) :
    Calls Try.prog 9 #[.slice A xs.length c, .int .i64 n, .int .i32 r, .string s, .int .i64 m] w fun e w' => e = .returned (.bool true) ∧ Below w.heap.size w w' := by
  have HB : Hid (Below w.heap.size w w) := Lib.hid (Below.refl _ _)
  have Sa := Lib.hid hx
  have hl_a := hx.2.1
  have hm_a := hx.2.2
  clear hx
  obtain ⟨gr, hgr⟩ : ∃ g, g = greatB xs := ⟨_, rfl⟩
  have HGR := Lib.hid hgr
  clear hgr
  cases gr
  · have HSM := Lib.hid (great_small HGR.out.symm)
    have hn_a := (great_false HGR.out.symm).1
    by_cases hsz : s.size ≤ 100
    · have bsz : decide ((100 : Int) < s.size) = false := by simp; omega
      have hs2 : s.size ≤ 1000000 := by omega
      obtain ⟨gd, hgd⟩ : ∃ g, g = goodE xs := ⟨_, rfl⟩
      have HGD := Lib.hid hgd
      clear hgd
      go_enter Try.func9, Try.ntmps9
      go_wp2_with fail
      (with_reducible refine (k22 Sa.out HGR.out).mono ?_); rintro e w1 ⟨rfl, hb⟩
      replace HB := Lib.hid (below_ext HB.out hb)
      replace Sa := Lib.hid (Sa.out.ext hb)
      clear hb
      go_wp2_with fail
      (with_reducible refine (k25 Sa.out HSM.out HGD.out).mono ?_); rintro e w2 ⟨p, rfl, HP, hb⟩
      replace HB := Lib.hid (below_ext HB.out hb)
      replace Sa := Lib.hid (Sa.out.ext hb)
      clear hb
      go_wp2_with fail
      (with_reducible refine (k26 Sa.out HSM.out HGD.out).mono ?_); rintro e w3 ⟨p2, rfl, HP2, hb⟩
      replace HB := Lib.hid (below_ext HB.out hb)
      replace Sa := Lib.hid (Sa.out.ext hb)
      have HB3 := Lib.hid hb
      clear hb
      by_cases h0 : gd = 0
      · subst h0
        obtain ⟨g1, rfl, hgv, hw⟩ := HP.out.2 rfl
        have GV := Lib.hid (hgv.ext HB3.out)
        have HW := Lib.hid hw
        have RG := Lib.hid (HP2.out rfl)
        have HRI := Lib.hid (goodE_zero HGD.out.symm).2.2
        have NS : Hid (NsOK (graphOf (textsOf xs))) := Lib.hid (nsOK hw.wd)
        obtain ⟨⟨tn, is⟩, hnx⟩ : ∃ t : Nat × Bool, nextW (graphOf (textsOf xs)) n r = t := ⟨_, rfl⟩
        have HNX := Lib.hid hnx
        obtain ⟨inb, hin⟩ : ∃ b, b = inB xs s := ⟨_, rfl⟩
        have HAS : Hid (inb = hasW (graphOf (textsOf xs)) s) := Lib.hid (by rw [hin]; exact (has_in hw s).symm)
        have HIN := Lib.hid hin
        obtain ⟨fr, hfr⟩ : ∃ f, f = fromL xs s m := ⟨_, rfl⟩
        have HFR := Lib.hid hfr
        clear HP HP2 hgv hw hnx hin hfr HB3
        go_wp2_with fail
        (with_reducible refine (c40' n r GV.out tn is NS.out HNX.out).mono ?_); rintro e w4 ⟨rfl, hb⟩
        replace HB := Lib.hid (below_ext HB.out hb)
        replace Sa := Lib.hid (Sa.out.ext hb)
        replace GV := Lib.hid (GV.out.ext hb)
        replace RG := Lib.hid (RG.out.ext hb)
        clear hb
        go_wp2_with fail
        (with_reducible refine (c46 _ _ _ n r RG.out HW.out.wd tn is HNX.out).mono ?_); rintro e w5 ⟨rfl, hb⟩
        replace HB := Lib.hid (below_ext HB.out hb)
        replace Sa := Lib.hid (Sa.out.ext hb)
        replace GV := Lib.hid (GV.out.ext hb)
        replace RG := Lib.hid (RG.out.ext hb)
        clear hb
        go_wp2_with fail
        (with_reducible refine (k41 Sa.out HRI.out (by omega) rfl HIN.out).mono ?_); rintro e w6 ⟨rfl, hb⟩
        replace HB := Lib.hid (below_ext HB.out hb)
        replace Sa := Lib.hid (Sa.out.ext hb)
        replace GV := Lib.hid (GV.out.ext hb)
        replace RG := Lib.hid (RG.out.ext hb)
        clear hb
        go_wp2_with fail
        (with_reducible refine (k44 GV.out HW.out hmm HFR.out).mono ?_); rintro e w7 ⟨A7, c7, rfl, hs7, _, hb⟩
        replace HB := Lib.hid (below_ext HB.out hb)
        replace Sa := Lib.hid (Sa.out.ext hb)
        replace GV := Lib.hid (GV.out.ext hb)
        replace RG := Lib.hid (RG.out.ext hb)
        have S7 := Lib.hid hs7
        clear hb hs7
        have hbb : ((tn : Int) == (tn : Int)) = true := by simp
        have hbc : (is == is) = true := by simp
        have hbd : (inb == inb) = true := by simp
        go_wp2_with fail
        (with_reducible refine (k42 GV.out NS.out hs2 HAS.out).mono ?_); rintro e w8 ⟨rfl, hb⟩
        replace HB := Lib.hid (below_ext HB.out hb)
        replace Sa := Lib.hid (Sa.out.ext hb)
        replace GV := Lib.hid (GV.out.ext hb)
        replace RG := Lib.hid (RG.out.ext hb)
        replace S7 := Lib.hid (S7.out.ext hb)
        clear hb
        go_wp2_with fail
        (with_reducible refine (k47 RG.out HW.out HSM.out hs2 HFR.out).mono ?_); rintro e w9 ⟨A9, c9, rfl, hs9, _, hb⟩
        replace HB := Lib.hid (below_ext HB.out hb)
        replace Sa := Lib.hid (Sa.out.ext hb)
        replace GV := Lib.hid (GV.out.ext hb)
        replace S7 := Lib.hid (S7.out.ext hb)
        have S9 := Lib.hid hs9
        clear hb hs9 RG
        go_wp2_with fail
        (with_reducible refine (k39 S7.out S9.out (b := true) (by simp)).mono ?_); rintro e w10 ⟨rfl, hb⟩
        replace HB := Lib.hid (below_ext HB.out hb)
        replace Sa := Lib.hid (Sa.out.ext hb)
        replace GV := Lib.hid (GV.out.ext hb)
        clear hb S7 S9
        go_wp2_with fail
        (with_reducible refine (k45 GV.out HW.out).mono ?_); rintro e w11 ⟨A11, c11, rfl, hs11, _, hb⟩
        replace HB := Lib.hid (below_ext HB.out hb)
        replace Sa := Lib.hid (Sa.out.ext hb)
        have S11 := Lib.hid hs11
        clear hb hs11 GV
        go_wp2_with fail
        (with_reducible refine (k39 S11.out Sa.out (b := true) (by simp)).mono ?_); rintro e w12 ⟨rfl, hb⟩
        replace HB := Lib.hid (below_ext HB.out hb)
        clear hb
        go_wp2_with fail
        (with_reducible refine (c23 _).mono ?_); rintro e w6 ⟨rfl, hb⟩
        go_wp2_with fail
        go_ret
        exact ⟨rfl, below_ext HB.out hb⟩
      · have hg : (gd != 0) = true := by simpa using h0
        have hg2 : (gd == gd) = true := by simp
        have H0 := Lib.hid h0
        clear h0 HP
        go_wp2_with fail
        (with_reducible refine (k27 _ gd).mono ?_); rintro e w5 ⟨rfl, rfl⟩
        go_wp2_with fail
        (with_reducible refine (c23 _).mono ?_); rintro e w6 ⟨rfl, hb⟩
        go_wp2_with fail
        go_ret
        exact ⟨rfl, below_ext HB.out hb⟩
    · have bsz : decide ((100 : Int) < s.size) = true := by simp; omega
      go_enter Try.func9, Try.ntmps9
      go_wp2_with fail
      (with_reducible refine (k22 Sa.out HGR.out).mono ?_); rintro e w1 ⟨rfl, hb⟩
      replace HB := Lib.hid (below_ext HB.out hb)
      clear hb
      go_wp2_with fail
      (with_reducible refine (c23 _).mono ?_); rintro e w2 ⟨rfl, hb⟩
      go_wp2_with fail
      go_ret
      exact ⟨rfl, below_ext HB.out hb⟩
  · go_enter Try.func9, Try.ntmps9
    go_wp2_with fail
    (with_reducible refine (k22 Sa.out HGR.out).mono ?_); rintro e w1 ⟨rfl, hb⟩
    replace HB := Lib.hid (below_ext HB.out hb)
    clear hb
    go_wp2_with fail
    (with_reducible refine (c23 _).mono ?_); rintro e w2 ⟨rfl, hb⟩
    go_wp2_with fail
    go_ret
    exact ⟨rfl, below_ext HB.out hb⟩

end Go.Proofs.Ytepmcfleijiloaa
