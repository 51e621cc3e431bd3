/- The law ListGood as a contract. -/
import Derived.Test.YtepmcfleijiloaaG1
import Derived.Test.YtepmcfleijiloaaG6
namespace Go.Proofs.Ytepmcfleijiloaa
open Go.RowKit

/-- Num -/
theorem c27 (w : World) (g : Int) : Calls Try.prog 27 #[.int .i64 g] w fun e w' => e = .returned (.int .i64 g) ∧ Below w.heap.size w w' := by
  go_enter Try.func27, Try.ntmps27
  go_wp2_with fail
  go_ret
  exact ⟨rfl, Below.refl _ _⟩

set_option maxHeartbeats 4000000 in
set_option maxRecDepth 100000 in
/-- inkhornlaw4.ListGood -/
theorem c14 (w : World) (A : Option Addr) (c : Nat) (xsa : List ByteArray) (ha : Strs w 0 A c xsa) :
    Calls Try.prog 14 #[.slice A xsa.length c] w fun e w' => e = .returned (.bool true) ∧ Below w.heap.size w w' := by
  have HB : Hid (Below w.heap.size w w) := Lib.hid (Below.refl _ _)
  have Sa := Lib.hid ha
  have hl_a := ha.2.1
  have hm_a := ha.2.2
  clear ha
  obtain ⟨gr_a, hg_a⟩ : ∃ g, g = greatB xsa := ⟨_, rfl⟩
  have HGa := Lib.hid hg_a
  clear hg_a
  cases gr_a
  · have HSMa := Lib.hid (great_small HGa.out.symm)
    have hn_a := (great_false HGa.out.symm).1
    obtain ⟨gd, hgd⟩ : ∃ g, g = goodE xsa := ⟨_, rfl⟩
    have HGD := Lib.hid hgd
    clear hgd
    go_enter Try.func14, Try.ntmps14
    go_wp2_with fail
    (with_reducible refine (k22 Sa.out HGa.out).mono ?_); rintro e w1 ⟨rfl, hb⟩
    replace HB := Lib.hid (below_ext HB.out hb)
    replace Sa := Lib.hid (Sa.out.ext hb)
    clear hb
    have hlm := sortedL_len xsa
    go_wp2_with fail
    (with_reducible refine (k24 Sa.out (by omega)).mono ?_); rintro e w2 ⟨gx, rfl, hle, hb⟩
    replace HB := Lib.hid (below_ext HB.out hb)
    replace Sa := Lib.hid (Sa.out.ext hb)
    clear hb
    have Lx := Lib.hid hle
    clear hle
    have HBB : Hid (Below w2.heap.size w2 w2) := Lib.hid (Below.refl _ _)
    have Lx2 := Lx
    have Sa2 := Sa
    go_wp2_with fail
    (with_reducible refine (k60 (Lx.out.strs (by omega)) HSMa.out (by omega) rfl).mono ?_); rintro e w3 ⟨Am, cm, rfl, hs, ho, hb⟩
    replace HBB := Lib.hid (below_then HBB.out hb HBB.out.size)
    replace Sa := Lib.hid (Sa.out.ext hb)
    replace Lx := Lib.hid (Lx.out.later hb)
    clear hb
    have Sm := Lib.hid hs
    have Om := Lib.hid ho
    clear hs ho
    have hl_m := Sm.out.2.1
    have hm_m := Sm.out.2.2
    go_wp2_with fail
    (with_reducible refine (k61 (Lx.out.strs (by omega)) HSMa.out HGD.out).mono ?_); rintro e w4 ⟨rfl, hb⟩
    replace HBB := Lib.hid (below_then HBB.out hb HBB.out.size)
    replace Sa := Lib.hid (Sa.out.ext hb)
    replace Sm := Lib.hid (Sm.out.ext hb)
    replace Lx := Lib.hid (Lx.out.later hb)
    replace Om := Lib.hid (own_below Om.out hb)
    clear hb
    go_wp2_with fail
    (with_reducible refine (c27 _ gd).mono ?_); rintro e w5 ⟨rfl, hb⟩
    replace HBB := Lib.hid (below_then HBB.out hb HBB.out.size)
    replace Sa := Lib.hid (Sa.out.ext hb)
    replace Sm := Lib.hid (Sm.out.ext hb)
    replace Lx := Lib.hid (Lx.out.later hb)
    replace Om := Lib.hid (own_below Om.out hb)
    clear hb
    go_wp2_with fail
    (with_reducible refine (k62 Sa.out HSMa.out HGD.out).mono ?_); rintro e w6 ⟨rfl, hb⟩
    replace HBB := Lib.hid (below_then HBB.out hb HBB.out.size)
    replace Sa := Lib.hid (Sa.out.ext hb)
    replace Sm := Lib.hid (Sm.out.ext hb)
    replace Lx := Lib.hid (Lx.out.later hb)
    replace Om := Lib.hid (own_below Om.out hb)
    clear hb
    go_wp2_with fail
    (with_reducible refine (k63 Sa.out HSMa.out (by omega) rfl).mono ?_); rintro e w7 ⟨Ar, cr, rfl, hs, ho, hb⟩
    replace HBB := Lib.hid (below_then HBB.out hb HBB.out.size)
    replace Sa := Lib.hid (Sa.out.ext hb)
    replace Sm := Lib.hid (Sm.out.ext hb)
    replace Lx := Lib.hid (Lx.out.later hb)
    replace Om := Lib.hid (own_below Om.out hb)
    clear hb
    have Sr := Lib.hid hs
    clear hs ho
    have hl_r := Sr.out.2.1
    have hm_r := Sr.out.2.2
    go_wp2_with fail
    (with_reducible refine (k39 (b := true) Sm.out Sr.out (by simp)).mono ?_); rintro e w8 ⟨rfl, hb⟩
    replace HBB := Lib.hid (below_then HBB.out hb HBB.out.size)
    replace Sa := Lib.hid (Sa.out.ext hb)
    replace Sm := Lib.hid (Sm.out.ext hb)
    replace Sr := Lib.hid (Sr.out.ext hb)
    replace Lx := Lib.hid (Lx.out.later hb)
    replace Om := Lib.hid (own_below Om.out hb)
    clear hb
    go_wp2_with fail
    (with_reducible refine (k28 Lx.out (by omega) Sa.out).mono ?_); rintro e w9 ⟨rfl, hb⟩
    replace HBB := Lib.hid (below_then HBB.out hb HBB.out.size)
    replace Sa := Lib.hid (Sa.out.ext hb)
    replace Sm := Lib.hid (Sm.out.ext hb)
    replace Sr := Lib.hid (Sr.out.ext hb)
    replace Lx := Lib.hid (Lx.out.later hb)
    replace Om := Lib.hid (own_below Om.out hb)
    clear hb
    have HS3 := HBB.out.size
    go_wp2_with fail
    (with_reducible refine (k64 Om.out (by omega)).mono ?_); rintro e w10 ⟨rfl, hg⟩
    replace HBB := Lib.hid (HBB.out.grown hg HS3 fun k hk => (Om.out.lt k hk).1)
    clear hg Om Sm Sr Sa Lx HS3
    replace HB := Lib.hid (below_ext HB.out HBB.out)
    have Lx := Lib.hid (Lx2.out.later HBB.out)
    have Sa := Lib.hid (Sa2.out.ext HBB.out)
    clear HBB Lx2 Sa2
    go_wp2_with fail
    (with_reducible refine (k28 Lx.out (by omega) Sa.out).mono ?_); rintro e w11 ⟨rfl, hb⟩
    replace HB := Lib.hid (below_ext HB.out hb)
    replace Sa := Lib.hid (Sa.out.ext hb)
    replace Lx := Lib.hid (Lx.out.later hb)
    clear hb
    go_wp2_with fail
    (with_reducible refine (c59 _).mono ?_); rintro e w12 ⟨rfl, hb⟩
    replace HB := Lib.hid (below_ext HB.out hb)
    clear hb
    go_wp2_with fail
    go_ret
    exact ⟨rfl, HB.out⟩
  · go_enter Try.func14, Try.ntmps14
    go_wp2_with fail
    (with_reducible refine (k22 Sa.out HGa.out).mono ?_); rintro e w1 ⟨rfl, hb⟩
    replace HB := Lib.hid (below_ext HB.out hb)
    replace Sa := Lib.hid (Sa.out.ext hb)
    clear hb
    go_wp2_with fail
    (with_reducible refine (c59 _).mono ?_); rintro e w2 ⟨rfl, hb⟩
    replace HB := Lib.hid (below_ext HB.out hb)
    clear hb
    go_wp2_with fail
    go_ret
    exact ⟨rfl, HB.out⟩

end Go.Proofs.Ytepmcfleijiloaa
