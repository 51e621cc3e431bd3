/- The law GraphPaths as a contract. -/
import Derived.Test.YtepmcfleijiloaaH8
import Derived.Test.YtepmcfleijiloaaG3
set_option linter.unusedVariables false
namespace Go.Proofs.Ytepmcfleijiloaa
open Go.RowKit

theorem k42 {w : World} {v : Value} {ns : List Nd} {s : ByteArray} {b : Bool} (h : GraphV w 0 v ns) (hns : NsOK ns) (hs : s.size ≤ 1000000) (hb : b = hasW ns s) : Calls Try.prog 42 #[v, .string s] w fun e w' => e = .returned (.bool b) ∧ Below w.heap.size w w' := by
  rw [hb]; exact c42 w 0 v ns s h hns hs
theorem k31' {w : World} {v : Value} {ns : List Nd} {n : Int} {b : Bool} (h : GraphV w 0 v ns) (hb : b = (nodeOf ns n).1) : Calls Try.prog 31 #[v, .int .i64 n] w fun e w' => e = .returned (.bool b) ∧ Below w.heap.size w w' := by
  rw [hb]; exact c31 w 0 v ns n h
/-- Build in one form. -/
theorem k25 {w : World} {A : Option Addr} {c : Nat} {xs : List ByteArray} {g : Int} (hx : Strs w 0 A c xs) (hsm : Small xs) (hg : g = goodE xs) :
    Calls Try.prog 25 #[.slice A xs.length c] w fun e w' => ∃ p, e = .returned (.tuple #[p, .int .i64 g]) ∧ Hid ((g ≠ 0 → p = .pointer none) ∧ (g = 0 → ∃ q, p = .pointer (some ⟨q, 0, none⟩) ∧ GraphV w' 0 p (graphOf (textsOf xs)) ∧ Wds xs)) ∧ Below w.heap.size w w' := by
  refine (c25 w A c xs hx hsm).mono ?_
  rintro e w' ⟨p, rfl, h1, h2, hb⟩
  rw [← hg] at h1 h2 ⊢
  refine ⟨p, rfl, ⟨h1, fun h0 => ?_⟩, hb⟩
  have h3 := h2 h0
  obtain ⟨q, _, _, h4, _⟩ := h3.lt
  exact ⟨q, h4, .inr (h3.low (Nat.zero_le _)), Wds.of_good (hg.symm.trans h0)⟩
theorem walk_full {ns : List Nd} {s : Nat × Bool} {t : List Nat} {k n : Nat} (h : walkW ns s (t.take k) = (n, false)) : walkW ns s t = (n, false) := by
  have e : walkW ns s t = walkW ns (walkW ns s (t.take k)) (t.drop k) := by
    unfold walkW
    rw [← List.foldl_append, List.take_append_drop]
  rw [e, h, walk_false]

set_option maxHeartbeats 4000000 in
set_option maxRecDepth 100000 in
/-- inkhornlaw8.GraphPaths -/
theorem c6 (w : World) (A : Option Addr) (c : Nat) (xs : List ByteArray) (s : ByteArray) (hx : Strs w 0 A c xs) (hs : s.size ≤ 9223372036854775807) :
    Calls Try.prog 6 #[.slice A xs.length c, .string s] w fun e w' => e = .returned (.bool true) ∧ Below w.heap.size w w' := by
  have HB : Hid (Below w.heap.size w w) := Lib.hid (Below.refl _ _)
  have Sa := Lib.hid hx
  have hl_a := hx.2.1
  have hm_a := hx.2.2
  clear hx
  obtain ⟨gr, hgr⟩ : ∃ g, g = greatB xs := ⟨_, rfl⟩
  have HGR := Lib.hid hgr
  clear hgr
  cases gr
  · have HSM := Lib.hid (great_small HGR.out.symm)
    have hn_a := (great_false HGR.out.symm).1
    by_cases hsz : s.size ≤ 100
    · have bsz : decide ((100 : Int) < s.size) = false := by simp; omega
      have hs2 : s.size ≤ 1000000 := by omega
      obtain ⟨gd, hgd⟩ : ∃ g, g = goodE xs := ⟨_, rfl⟩
      have HGD := Lib.hid hgd
      clear hgd
      go_enter Try.func6, Try.ntmps6
      go_wp2_with fail
      (with_reducible refine (k22 Sa.out HGR.out).mono ?_); rintro e w1 ⟨rfl, hb⟩
      replace HB := Lib.hid (below_ext HB.out hb)
      replace Sa := Lib.hid (Sa.out.ext hb)
      clear hb
      go_wp2_with fail
      (with_reducible refine (k25 Sa.out HSM.out HGD.out).mono ?_); rintro e w2 ⟨p, rfl, HP, hb⟩
      replace HB := Lib.hid (below_ext HB.out hb)
      replace Sa := Lib.hid (Sa.out.ext hb)
      clear hb
      by_cases h0 : gd = 0
      · subst h0
        obtain ⟨g1, rfl, hgv, hw⟩ := HP.out.2 rfl
        have GV := Lib.hid hgv
        have HW := Lib.hid hw
        obtain ⟨ns, hns⟩ : ∃ ns, ns = graphOf (textsOf xs) := ⟨_, rfl⟩
        have NS : Hid (NsOK ns) := Lib.hid (by rw [hns]; exact nsOK hw.wd)
        obtain ⟨inb, hin⟩ : ∃ b, b = inB xs s := ⟨_, rfl⟩
        have HAS : Hid (inb = hasW ns s) := Lib.hid (by rw [hns, hin]; exact (has_in hw s).symm)
        have HIN := Lib.hid hin
        have hri := (goodE_zero HGD.out.symm).2.2
        have HRI := Lib.hid hri
        replace GV : Hid (GraphV w2 0 (.pointer (some ⟨g1, 0, none⟩)) ns) := Lib.hid (by rw [hns]; exact GV.out)
        have hgl := gotRunes_len s
        clear HP hgv hw hin hri hns
        go_wp2_with fail
        (with_reducible refine (c37 s w2 hs2).mono ?_); rintro e w3 ⟨v1, rfl, ho, hb⟩
        obtain ⟨Ar, cr, rfl, hc1, hc2⟩ := own_slice ho
        have HO := Lib.hid ho
        replace HB := Lib.hid (below_ext HB.out hb)
        replace Sa := Lib.hid (Sa.out.ext hb)
        replace GV := Lib.hid (GV.out.ext hb)
        clear ho hb
        go_wp2_with fail
        go_loopw [8, 9, 10] (fun ok at_ i wr => ∃ (k tn : Nat) (is : Bool), k ≤ (gotRunes s).length ∧ i = .int .i64 k ∧ ok = .bool is ∧ at_ = .int .i64 tn ∧ Hid (walkW ns (0, okRunes s) ((gotRunes s).take k) = (tn, is)) ∧ Hid (Below w3.heap.size w3 wr)) (fun _ _ i _ => (gotRunes s).length - (intOf i).toNat)
        case atStart => exact ⟨0, 0, okRunes s, by omega, rfl, rfl, rfl, Lib.hid rfl, Lib.hid (Below.refl _ _)⟩
        case round =>
          obtain ⟨k, tn, is, hk, rfl, rfl, rfl, HWK, HB1⟩ := hrel
          replace HB := Lib.hid (below_ext HB.out HB1.out)
          replace Sa := Lib.hid (Sa.out.ext HB1.out)
          replace GV := Lib.hid (GV.out.ext HB1.out)
          cases is
          · have HF : Hid (walkW ns (0, okRunes s) (gotRunes s) = (tn, false)) := Lib.hid (walk_full HWK.out)
            obtain rfl : inb = false := by rw [HAS.out]; unfold hasW; rw [HF.out]; rfl
            by_cases hl0 : k < (gotRunes s).length
            all_goals
              go_wp2_with fail
              (with_reducible refine (k41 Sa.out HRI.out (by omega) rfl HIN.out).mono ?_); rintro e w4 ⟨rfl, hb⟩
              replace HB := Lib.hid (below_ext HB.out hb)
              replace GV := Lib.hid (GV.out.ext hb)
              clear hb
              go_wp2_with fail
              (with_reducible refine (k42 GV.out NS.out hs2 HAS.out).mono ?_); rintro e w5 ⟨rfl, hb⟩
              replace HB := Lib.hid (below_ext HB.out hb)
              clear hb
              go_wp2_with fail
              (with_reducible refine (c23 _).mono ?_); rintro e w6 ⟨rfl, hb⟩
              go_wp2_with fail
              go_ret
              exact ⟨rfl, below_ext HB.out hb⟩
          · by_cases hlt : k < (gotRunes s).length
            · obtain ⟨b, o, hA, _, _, hc⟩ := ((Rd.of_own HO.out).ext HB1.out).at_ (k := k) (by rw [i32v_len]; exact hlt)
              cases hA
              rw [i32v_at hlt] at hc
              obtain ⟨r, hr⟩ : ∃ r, r = (gotRunes s)[k] := ⟨_, rfl⟩
              rw [← hr] at hc
              have HR := Lib.hid hr
              clear hr
              obtain ⟨⟨tn2, is2⟩, hnx⟩ : ∃ p : Nat × Bool, nextW ns tn r = p := ⟨_, rfl⟩
              have HX := Lib.hid hnx
              clear hnx
              go_wp2_with (go_at_call 40; (with_reducible refine (c40' tn r GV.out tn2 is2 NS.out HX.out).mono ?_); rintro e w4 ⟨rfl, hb2⟩)
              go_roundw
              case rel => exact ⟨k + 1, tn2, is2, by omega, by go_num, rfl, rfl, Lib.hid (by rw [List.take_succ_eq_append_getElem hlt, walkW_snoc, HWK.out, ← HR.out]; exact HX.out), Lib.hid (below_ext HB1.out hb2)⟩
              case measure => simp [intOf]; omega
            · obtain rfl : k = (gotRunes s).length := by omega
              have HF : Hid (inb = (nodeOf ns tn).1) := Lib.hid (by
                have h := HWK.out
                rw [List.take_length] at h
                rw [HAS.out]; unfold hasW; rw [h]; rfl)
              clear hlt hk
              go_wp2_with fail
              (with_reducible refine (k41 Sa.out HRI.out (by omega) rfl HIN.out).mono ?_); rintro e w4 ⟨rfl, hb⟩
              replace HB := Lib.hid (below_ext HB.out hb)
              replace GV := Lib.hid (GV.out.ext hb)
              clear hb
              have hbb : (inb == inb) = true := by simp
              go_wp2_with fail
              (with_reducible refine (k31' GV.out HF.out).mono ?_); rintro e w5 ⟨rfl, hb⟩
              replace HB := Lib.hid (below_ext HB.out hb)
              replace GV := Lib.hid (GV.out.ext hb)
              clear hb
              go_wp2_with fail
              (with_reducible refine (k42 GV.out NS.out hs2 HAS.out).mono ?_); rintro e w5 ⟨rfl, hb⟩
              replace HB := Lib.hid (below_ext HB.out hb)
              clear hb
              go_wp2_with fail
              (with_reducible refine (c23 _).mono ?_); rintro e w6 ⟨rfl, hb⟩
              go_wp2_with fail
              go_ret
              exact ⟨rfl, below_ext HB.out hb⟩
      · have hp := HP.out.1 h0
        subst hp
        have hg : (gd != 0) = true := by simpa using h0
        have H0 := Lib.hid h0
        clear h0 HP
        go_wp2_with fail
        (with_reducible refine (c23 _).mono ?_); rintro e w6 ⟨rfl, hb⟩
        go_wp2_with fail
        go_ret
        exact ⟨rfl, below_ext HB.out hb⟩
    · have bsz : decide ((100 : Int) < s.size) = true := by simp; omega
      go_enter Try.func6, Try.ntmps6
      go_wp2_with fail
      (with_reducible refine (k22 Sa.out HGR.out).mono ?_); rintro e w1 ⟨rfl, hb⟩
      replace HB := Lib.hid (below_ext HB.out hb)
      clear hb
      go_wp2_with fail
      (with_reducible refine (c23 _).mono ?_); rintro e w2 ⟨rfl, hb⟩
      go_wp2_with fail
      go_ret
      exact ⟨rfl, below_ext HB.out hb⟩
  · go_enter Try.func6, Try.ntmps6
    go_wp2_with fail
    (with_reducible refine (k22 Sa.out HGR.out).mono ?_); rintro e w1 ⟨rfl, hb⟩
    replace HB := Lib.hid (below_ext HB.out hb)
    clear hb
    go_wp2_with fail
    (with_reducible refine (c23 _).mono ?_); rintro e w2 ⟨rfl, hb⟩
    go_wp2_with fail
    go_ret
    exact ⟨rfl, below_ext HB.out hb⟩

end Go.Proofs.Ytepmcfleijiloaa
