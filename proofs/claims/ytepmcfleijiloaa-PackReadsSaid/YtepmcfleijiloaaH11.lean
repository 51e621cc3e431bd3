/- Contracts of package graph: each with the function of From; From. -/
import Derived.Test.YtepmcfleijiloaaH10
import Derived.Test.YtepmcfleijiloaaC1
set_option linter.unusedVariables false
namespace Go.Proofs.Ytepmcfleijiloaa
open Go.RowKit

theorem gath_cell {lb : Nat} {acc : List ByteArray} {w : World} (h : Gath lb acc w) : ∃ vl, w.heap[lb]? = some (.cells #[vl] 22 (0, 0)) := by
  obtain ⟨vl, h, _⟩ := h
  exact ⟨vl, h⟩

set_option maxHeartbeats 1000000 in
set_option maxRecDepth 100000 in
/-- From$1 -/
theorem c79 (w w1 : World) (lb mb wb : Nat) (most : Int) (q : ByteArray) (acc : List ByteArray) (s : ByteArray) (h : Gath lb acc w) (hn : acc.length ≤ 1000000) (hB : Below w1.heap.size w1 w) (hmb : mb < w1.heap.size) (hwb : wb < w1.heap.size) (hcm : w1.cell? ⟨mb, 0, none⟩ = some (.int .i64 most)) (hcq : w1.cell? ⟨wb, 0, none⟩ = some (.string q)) (hlb : w1.heap.size ≤ lb) (hms : most ≤ 9223372036854775807) :
    Calls Try.prog 79 #[.string s, .pointer (some ⟨lb, 0, none⟩), .pointer (some ⟨mb, 0, none⟩), .pointer (some ⟨wb, 0, none⟩)] w fun e w' => e = .returned (.bool (yF most q acc s).2) ∧ Gath lb (yF most q acc s).1 w' ∧ Fr lb w w' := by
  have HGA := Lib.hid h
  obtain ⟨vl, h1, h2⟩ := h
  obtain ⟨Av, cv, rfl, hv1, hv2⟩ := own_slice h2
  have hl : lb < w.heap.size := (Array.getElem?_eq_some_iff.1 h1).1
  have hc : w.cell? ⟨lb, 0, none⟩ = some (.slice Av acc.length cv) := by rw [cell_of_row _ _ _ _ _ _ h1]; rfl
  have km : w.cell? ⟨mb, 0, none⟩ = some (.int .i64 most) := (World.cell?_of_block (a := ⟨mb, 0, none⟩) (hB.block mb hmb)).trans hcm
  have kq : w.cell? ⟨wb, 0, none⟩ = some (.string q) := (World.cell?_of_block (a := ⟨wb, 0, none⟩) (hB.block wb hwb)).trans hcq
  have H1 := Lib.hid h1
  have H2 := Lib.hid h2
  clear h1 h2 hcm hcq hB
  by_cases c1 : (acc.length : Int) < most
  · have b1 : decide ((acc.length : Int) < most) = true := decide_eq_true c1
    by_cases c2 : 0 ≤ cmpB s q
    · have b2 : decide (0 ≤ Lib.compareBytes s.data.toList q.data.toList) = true := decide_eq_true c2
      have e1 : (yF most q acc s).1 = acc ++ [s] := by unfold yF; simp [c1, c2]
      have e2 : (yF most q acc s).2 = decide (((acc.length + 1 : Nat) : Int) < most) := by unfold yF; simp [c1, c2]
      rw [e1, e2]
      clear e1 e2 c2
      have HC1 := Lib.hid c1
      clear c1
      go_enter Try.func79, Try.ntmps79
      go_wp2_with fail
      (with_reducible refine (c65 s q w).mono ?_); rintro e w2 ⟨rfl, rfl⟩
      go_wp2_with (first
        | (at_builtin
           refine wpList_append_rd infoS rfl (.tmp 16) (.tmp 18) rfl (lb + 1) (.slice Av acc.length cv) acc.length (strv acc) rfl (H2.out.alloc _) w.heap.size (w.heap.size + 1) _ 1 1 [.string s] rfl (Rd.new w _ _) rfl (by simp [Value.oneCell']) (by omega) (by simp; omega) ?_
           intro v1 w3 hown1 hg1 hat1
           obtain ⟨A1, c1, rfl, hx1, hx2⟩ := own_slice hown1
           obtain ⟨X1, X2, hc3, hf3⟩ := Gath.put H1.out H2.out ((Below.refl w.heap.size w).alloc (Nat.le_refl _) _) hown1 hg1
           have X := Lib.hid (And.intro X1 X2)
           have hne : ¬ mb = lb := by omega
           have km3 : w3.cell? ⟨mb, 0, none⟩ = some (.int .i64 most) := (World.cell?_of_block (a := ⟨mb, 0, none⟩) (Below.heap_setCell w3 ⟨lb, 0, none⟩ (.slice A1 (acc.length + 1) c1) mb hne).symm).trans ((World.cell?_of_block (a := ⟨mb, 0, none⟩) (X2.below.block mb (Nat.lt_of_lt_of_le hmb hlb))).trans km)
           clear X1 X2 hown1 hg1 hat1))
      go_ret
      exact ⟨by rfl, X.out.1, X.out.2⟩
    · have b2 : decide (0 ≤ Lib.compareBytes s.data.toList q.data.toList) = false := decide_eq_false c2
      have e1 : (yF most q acc s).1 = acc := by unfold yF; simp [c2]
      have e2 : (yF most q acc s).2 = true := by unfold yF; simp [c1, c2]
      rw [e1, e2]
      clear e1 e2 c2
      go_enter Try.func79, Try.ntmps79
      go_wp2_with fail
      (with_reducible refine (c65 s q w).mono ?_); rintro e w2 ⟨rfl, rfl⟩
      go_wp2_with fail
      go_ret
      exact ⟨rfl, HGA.out, Fr.refl _ _⟩
  · have b1 : decide ((acc.length : Int) < most) = false := decide_eq_false c1
    have e1 : (yF most q acc s).1 = acc := by unfold yF; simp [c1]
    have e2 : (yF most q acc s).2 = false := by unfold yF; simp [c1] <;> omega
    rw [e1, e2]
    clear e1 e2
    go_enter Try.func79, Try.ntmps79
    go_wp2_with fail
    go_ret
    exact ⟨rfl, HGA.out, Fr.refl _ _⟩
theorem k79 {w w1 : World} {lb mb wb : Nat} {most : Int} {q : ByteArray} {acc a1 : List ByteArray} {s : ByteArray} {b1 : Bool} (h : Gath lb acc w) (hn : acc.length ≤ 1000000) (hB : Below w1.heap.size w1 w) (hmb : mb < w1.heap.size) (hwb : wb < w1.heap.size) (hcm : w1.cell? ⟨mb, 0, none⟩ = some (.int .i64 most)) (hcq : w1.cell? ⟨wb, 0, none⟩ = some (.string q)) (hms : most ≤ 9223372036854775807) (hlb : w1.heap.size ≤ lb) (hr : yF most q acc s = (a1, b1)) :
    Calls Try.prog 79 #[.string s, .pointer (some ⟨lb, 0, none⟩), .pointer (some ⟨mb, 0, none⟩), .pointer (some ⟨wb, 0, none⟩)] w fun e w' => e = .returned (.bool b1) ∧ Gath lb a1 w' ∧ Fr lb w w' := by
  have h2 := c79 w w1 lb mb wb most q acc s h hn hB hmb hwb hcm hcq hlb hms
  rw [hr] at h2
  exact h2

/-- each, from a node on. -/
def FromIH (lb mb wb : Nat) (most : Int) (q : ByteArray) (w1 : World) (v : Value) (ns : List Nd) (d : Nat) : Prop := ∀ (w : World) (n : Int) (p : List Nat) (R : Rs) (acc acc' : List ByteArray) (b : Bool), EachOK d ns n R → okT p → okTs R → R.Pairwise (· < ·) → p.length + d ≤ 1000 → acc.length + R.length ≤ 100000 →
  runY (yF most q) acc (told p R) = (acc', b) → Gath lb acc w → Below lb w1 w → Calls Try.prog 78 #[v, .int .i64 n, .string (txt p), .func (.func 79) #[] #[.pointer (some ⟨lb, 0, none⟩), .pointer (some ⟨mb, 0, none⟩), .pointer (some ⟨wb, 0, none⟩)]] w fun e w' => e = .returned (.bool b) ∧ Gath lb acc' w' ∧ Fr lb w w'
theorem FromIH.call {lb mb wb : Nat} {most : Int} {q : ByteArray} {w1 : World} {v : Value} {ns : List Nd} {d : Nat} (h : FromIH lb mb wb most q w1 v ns d) (w : World) (n : Int) (p : List Nat) (R : Rs) (acc acc' : List ByteArray) (b : Bool) (h1 : EachOK d ns n R) (h2 : okT p) (h3 : okTs R) (h4 : R.Pairwise (· < ·)) (h5 : p.length + d ≤ 1000) (h6 : acc.length + R.length ≤ 100000)
    (h7 : runY (yF most q) acc (told p R) = (acc', b)) (h8 : Gath lb acc w) (h9 : Below lb w1 w) (s : ByteArray) (hs : s = txt p) : Calls Try.prog 78 #[v, .int .i64 n, .string s, .func (.func 79) #[] #[.pointer (some ⟨lb, 0, none⟩), .pointer (some ⟨mb, 0, none⟩), .pointer (some ⟨wb, 0, none⟩)]] w fun e w' => e = .returned (.bool b) ∧ Gath lb acc' w' ∧ Fr lb w w' := by
  rw [hs]; exact h w n p R acc acc' b h1 h2 h3 h4 h5 h6 h7 h8 h9

set_option maxHeartbeats 4000000 in
set_option maxRecDepth 100000 in
theorem eachFrom (lb mb wb : Nat) (most : Int) (q : ByteArray) (w1 : World) (v : Value) (ns : List Nd) (hlb : w1.heap.size ≤ lb) (hns : NsOK ns) (hg : GraphV w1 0 v ns) (hmb : mb < w1.heap.size) (hwb : wb < w1.heap.size) (hcm : w1.cell? ⟨mb, 0, none⟩ = some (.int .i64 most)) (hcq : w1.cell? ⟨wb, 0, none⟩ = some (.string q)) (hms : most ≤ 9223372036854775807) (d : Nat) (ih : FromIH lb mb wb most q w1 v ns d) : FromIH lb mb wb most q w1 v ns (d + 1) := by
  intro w n p R acc acc' b hE hp hR hasc hpd hal hrun hga hB
  have HR := Lib.hid hR
  have HA := Lib.hid hasc
  have HRUN := Lib.hid hrun
  have HG := Lib.hid hga
  have HB := Lib.hid hB
  have HV := Lib.hid (hg.ext (hB.mono hlb))
  have HV1 := Lib.hid hg
  have HNS := Lib.hid hns
  have HP := Lib.hid hp
  obtain ⟨nd, hnd⟩ : ∃ nd, nd = nodeOf ns n := ⟨_, rfl⟩
  have hE1 : nd.1 = fin R := by rw [hnd]; exact hE.1
  have hE2 : nd.2.length = (groups R).length := by rw [hnd]; exact hE.2.1
  have HE3 : Hid (∀ k (h : k < (groups R).length) (h2 : k < nd.2.length), nd.2[k].1 = (groups R)[k].1 ∧ EachOK d ns (nd.2[k].2 : Nat) (groups R)[k].2) := Lib.hid (by
    intro k h h2
    simp only [hnd] at h2 ⊢
    exact hE.2.2 k h h2)
  have hgl := groups_len R
  have HND := Lib.hid hnd
  obtain ⟨f, hf⟩ : ∃ f, f = fin R := ⟨_, rfl⟩
  rw [← hf] at hE1
  have HF := Lib.hid hf
  have HE1 := Lib.hid hE1
  have HE2 := Lib.hid hE2
  have hlbw : lb < w.heap.size := by obtain ⟨vl, h, _⟩ := hga; exact (Array.getElem?_eq_some_iff.1 h).1
  have hpl : p.length ≤ 1000 := by omega
  have hps : (txt p).size ≤ 4000 := by rw [txt_size]; have := encL_len hp; omega
  have HCM := Lib.hid hcm
  have HCQ := Lib.hid hcq
  clear hE hR hasc hrun hga hB hg hns hp hnd hE1 hE2 hf hcm hcq
  go_enter Try.func78, Try.ntmps78
  go_wp2_with fail
  (with_reducible refine (c75w w1 w 0 v ns n nd HV1.out (HB.out.mono hlb) HND.out).mono ?_); rintro e w2 ⟨A, c, rfl, he, hb⟩
  have hl1 := he.2.1
  have hl2 := he.2.2
  have HEG := Lib.hid he
  have HG2 := Lib.hid (HG.out.below hb)
  have HB2 := Lib.hid (HB.out.trans (hb.mono (Nat.le_of_lt hlbw)))
  have HW2 := Lib.hid (Fr.of hb (Nat.le_of_lt hlbw))
  have hlb2 : lb < w2.heap.size := Nat.lt_of_lt_of_le hlbw hb.size
  clear he hb
  rw [HE1.out]
  cases f
  · have HR0 : Hid (runY (yF most q) acc (toldK p R 0) = (acc, true)) := Lib.hid (by rw [toldK_zero, ← HF.out]; rfl)
    have HX3 : Hid (Below w2.heap.size w2 (w2.alloc (.cells #[.bool false, .slice A nd.2.length c] 93))) := Lib.hid ((Below.refl _ _).alloc (Nat.le_refl _) _)
    have HG3 := Lib.hid (HG2.out.below HX3.out)
    have HW3 := Lib.hid (HW2.out.trans (Fr.of HX3.out (Nat.le_of_lt hlb2)))
    go_wp2_with fail
    go_loopw [26] (fun i wr => ∃ (k : Nat) (acck : List ByteArray), k ≤ nd.2.length ∧ i = .int .i64 k ∧ Hid (runY (yF most q) acc (toldK p R k) = (acck, true)) ∧ Hid (Gath lb acck wr) ∧ Hid (Fr lb w wr)) (fun i _ => nd.2.length - (intOf i).toNat)
    case atStart => exact ⟨0, acc, by omega, rfl, HR0, HG3, HW3⟩
    case round =>
      clear HG3 HW3 HR0
      obtain ⟨k, acck, hk, rfl, HRK, HGK, HFK⟩ := hrel
      obtain ⟨wo, rfl⟩ : ∃ wo : World, wo = wr := ⟨_, rfl⟩
      have hlbo : lb < wo.heap.size := by obtain ⟨vl, h, _⟩ := HGK.out; exact (Array.getElem?_eq_some_iff.1 h).1
      by_cases hlt : k < nd.2.length
      · have hkg : k < (groups R).length := by rw [← HE2.out]; exact hlt
        have HBK := Lib.hid (HB.out.trans HFK.out.below)
        obtain ⟨b0, o, hA, _, _, hc1, hc2⟩ := (HEG.out.ext (HBK.out.mono hlb)).at_ hlt
        cases hA
        obtain ⟨q1, q2⟩ := HE3.out k hkg hlt
        obtain ⟨r, hr⟩ : ∃ r, r = nd.2[k].1 := ⟨_, rfl⟩
        obtain ⟨tn, htn⟩ : ∃ t, t = nd.2[k].2 := ⟨_, rfl⟩
        obtain ⟨G, hG⟩ : ∃ G, G = (groups R)[k].2 := ⟨_, rfl⟩
        rw [← hr] at hc1 q1
        rw [← htn] at hc2 q2
        rw [← hG] at q2
        have hmem : (r, G) ∈ groups R := by rw [q1, hG]; exact List.getElem_mem hkg
        have hokr := group_okR HR.out hmem
        have hGok : okTs G := fun y hy => (okT_cons.1 (HR.out _ ((mem_groups R _ hmem).2 y hy))).2
        have hGasc : G.Pairwise (· < ·) := asc_map (r := r) (HA.out.sublist (groups_sub R _ hmem))
        obtain ⟨⟨acc2, b2⟩, h2⟩ : ∃ z, runY (yF most q) acck (told (p ++ [r]) G) = z := ⟨_, rfl⟩
        have HR2 : Hid (runY (yF most q) acc (toldK p R (k + 1)) = (acc2, b2)) := Lib.hid (by
          rw [toldK_succ p R k hkg, runY_on HRK.out, ← q1, ← hG]
          exact h2)
        have hlen : acck.length + G.length ≤ 100000 := by
          have l1 := runY_len (yF_len most q) (toldK p R k) acc
          rw [HRK.out] at l1
          have l2 := toldK_len p HA.out k hkg
          rw [← hG] at l2
          simp only at l1
          omega
        have hpr : okT (p ++ [r]) := okT_append.2 ⟨HP.out, by simpa [okT] using hokr⟩
        have hconv := conv_rune hokr
        have hsum : (txt p).size + (txt [r]).size ≤ 9223372036854775807 := by
          have l1 := encL_len (t := [r]) (by simpa [okT] using hokr)
          rw [txt_size [r]]
          simp only [List.length_cons, List.length_nil] at l1
          omega
        have HXA : Hid (Below wo.heap.size wo (wo.alloc (.cells #[.int .i32 r, .int .i64 tn] 49))) := Lib.hid ((Below.refl _ _).alloc (Nat.le_refl _) _)
        have HCALL := Lib.hid (ih.call (wo.alloc (.cells #[.int .i32 r, .int .i64 tn] 49)) tn (p ++ [r]) G acck acc2 b2 q2 hpr hGok hGasc (by simp; omega) hlen h2 (HGK.out.below HXA.out) (HBK.out.trans (HXA.out.mono (Nat.le_of_lt hlbo))) (txt p ++ txt [r]) (txt_add p r))
        have HFA := Lib.hid (HFK.out.trans (Fr.of HXA.out (Nat.le_of_lt hlbo)))
        clear q1 q2 hr htn hG hmem hokr hGok hGasc h2 hlen hpr HE3 HBK
        go_wp2_with fail
        (with_reducible refine HCALL.out.mono ?_); rintro e w5 ⟨rfl, hga5, hfr5⟩
        have HG5 := Lib.hid hga5
        have HF5 := Lib.hid (HFA.out.trans hfr5)
        clear hga5 hfr5
        cases b2
        · have hrun2 : Hid ((acc2, false) = (acc', b)) := Lib.hid (by
            rw [← HRUN.out, toldK_split p HA.out (k + 1)]
            exact (runY_off HR2.out).symm)
          obtain ⟨rfl, rfl⟩ := Prod.mk.inj hrun2.out
          go_wp2_with fail
          go_ret
          exact ⟨rfl, HG5.out, HF5.out⟩
        · go_wp2_with fail
          go_roundw
          case rel => exact ⟨k + 1, acc2, by omega, by go_num, HR2, HG5, HF5⟩
          case measure => simp [intOf]; omega
      · obtain rfl : k = nd.2.length := by omega
        have hfin := HRK.out
        rw [HE2.out, ← toldK_all p HA.out, HRUN.out] at hfin
        injection hfin with e1 e2
        subst e1
        subst e2
        go_wp2_with fail
        go_ret
        exact ⟨rfl, HGK.out, HFK.out⟩
  · obtain ⟨⟨a1, b1⟩, h1⟩ : ∃ r, (yF most q) acc (txt p) = r := ⟨_, rfl⟩
    have HX3 : Hid (Below w2.heap.size w2 (w2.alloc (.cells #[.bool true, .slice A nd.2.length c] 93))) := Lib.hid ((Below.refl _ _).alloc (Nat.le_refl _) _)
    have HG3 := Lib.hid (HG2.out.below HX3.out)
    have HW3 := Lib.hid (HW2.out.trans (Fr.of HX3.out (Nat.le_of_lt hlb2)))
    have H1 := Lib.hid h1
    clear h1
    go_wp2_with fail
    (with_reducible refine (k79 HG3.out (by omega) ((HB.out.mono hlb).trans ((HW3.out.below).mono hlb)) hmb hwb HCM.out HCQ.out hms hlb H1.out).mono ?_); rintro e w4 ⟨rfl, hga4, hfr4⟩
    have hx4 := hfr4.node w2.heap.size _ (heap_alloc_new w2 _)
    have hcx : w4.cell? ⟨w2.heap.size, 1, none⟩ = some (.slice A nd.2.length c) := by rw [cell_of_row _ _ _ _ _ _ hx4]; rfl
    replace HG3 := Lib.hid hga4
    replace HW3 := Lib.hid (HW3.out.trans hfr4)
    clear hga4 hfr4 hx4
    cases b1
    · have hrun2 : Hid ((a1, false) = (acc', b)) := Lib.hid (by
        have h1 := told_head p HA.out HF.out.symm
        rw [← HRUN.out, h1, runY, H1.out]
        rfl)
      obtain ⟨rfl, rfl⟩ := Prod.mk.inj hrun2.out
      go_wp2_with fail
      go_ret
      exact ⟨rfl, HG3.out, HW3.out⟩
    · have HR0 : Hid (runY (yF most q) acc (toldK p R 0) = (a1, true)) := Lib.hid (by
        rw [toldK_zero, ← HF.out]
        show runY (yF most q) acc [txt p] = _
        rw [runY, H1.out]
        rfl)
      go_wp2_with fail
      go_loopw [26] (fun i wr => ∃ (k : Nat) (acck : List ByteArray), k ≤ nd.2.length ∧ i = .int .i64 k ∧ Hid (runY (yF most q) acc (toldK p R k) = (acck, true)) ∧ Hid (Gath lb acck wr) ∧ Hid (Fr lb w wr)) (fun i _ => nd.2.length - (intOf i).toNat)
      case atStart => exact ⟨0, a1, by omega, rfl, HR0, HG3, HW3⟩
      case round =>
        clear HG3 HW3 HR0
        obtain ⟨k, acck, hk, rfl, HRK, HGK, HFK⟩ := hrel
        obtain ⟨wo, rfl⟩ : ∃ wo : World, wo = wr := ⟨_, rfl⟩
        have hlbo : lb < wo.heap.size := by obtain ⟨vl, h, _⟩ := HGK.out; exact (Array.getElem?_eq_some_iff.1 h).1
        by_cases hlt : k < nd.2.length
        · have hkg : k < (groups R).length := by rw [← HE2.out]; exact hlt
          have HBK := Lib.hid (HB.out.trans HFK.out.below)
          obtain ⟨b0, o, hA, _, _, hc1, hc2⟩ := (HEG.out.ext (HBK.out.mono hlb)).at_ hlt
          cases hA
          obtain ⟨q1, q2⟩ := HE3.out k hkg hlt
          obtain ⟨r, hr⟩ : ∃ r, r = nd.2[k].1 := ⟨_, rfl⟩
          obtain ⟨tn, htn⟩ : ∃ t, t = nd.2[k].2 := ⟨_, rfl⟩
          obtain ⟨G, hG⟩ : ∃ G, G = (groups R)[k].2 := ⟨_, rfl⟩
          rw [← hr] at hc1 q1
          rw [← htn] at hc2 q2
          rw [← hG] at q2
          have hmem : (r, G) ∈ groups R := by rw [q1, hG]; exact List.getElem_mem hkg
          have hokr := group_okR HR.out hmem
          have hGok : okTs G := fun y hy => (okT_cons.1 (HR.out _ ((mem_groups R _ hmem).2 y hy))).2
          have hGasc : G.Pairwise (· < ·) := asc_map (r := r) (HA.out.sublist (groups_sub R _ hmem))
          obtain ⟨⟨acc2, b2⟩, h2⟩ : ∃ z, runY (yF most q) acck (told (p ++ [r]) G) = z := ⟨_, rfl⟩
          have HR2 : Hid (runY (yF most q) acc (toldK p R (k + 1)) = (acc2, b2)) := Lib.hid (by
            rw [toldK_succ p R k hkg, runY_on HRK.out, ← q1, ← hG]
            exact h2)
          have hlen : acck.length + G.length ≤ 100000 := by
            have l1 := runY_len (yF_len most q) (toldK p R k) acc
            rw [HRK.out] at l1
            have l2 := toldK_len p HA.out k hkg
            rw [← hG] at l2
            simp only at l1
            omega
          have hpr : okT (p ++ [r]) := okT_append.2 ⟨HP.out, by simpa [okT] using hokr⟩
          have hconv := conv_rune hokr
          have hsum : (txt p).size + (txt [r]).size ≤ 9223372036854775807 := by
            have l1 := encL_len (t := [r]) (by simpa [okT] using hokr)
            rw [txt_size [r]]
            simp only [List.length_cons, List.length_nil] at l1
            omega
          have HXA : Hid (Below wo.heap.size wo (wo.alloc (.cells #[.int .i32 r, .int .i64 tn] 49))) := Lib.hid ((Below.refl _ _).alloc (Nat.le_refl _) _)
          have HCALL := Lib.hid (ih.call (wo.alloc (.cells #[.int .i32 r, .int .i64 tn] 49)) tn (p ++ [r]) G acck acc2 b2 q2 hpr hGok hGasc (by simp; omega) hlen h2 (HGK.out.below HXA.out) (HBK.out.trans (HXA.out.mono (Nat.le_of_lt hlbo))) (txt p ++ txt [r]) (txt_add p r))
          have HFA := Lib.hid (HFK.out.trans (Fr.of HXA.out (Nat.le_of_lt hlbo)))
          clear q1 q2 hr htn hG hmem hokr hGok hGasc h2 hlen hpr HE3 HBK
          go_wp2_with fail
          (with_reducible refine HCALL.out.mono ?_); rintro e w5 ⟨rfl, hga5, hfr5⟩
          have HG5 := Lib.hid hga5
          have HF5 := Lib.hid (HFA.out.trans hfr5)
          clear hga5 hfr5
          cases b2
          · have hrun2 : Hid ((acc2, false) = (acc', b)) := Lib.hid (by
              rw [← HRUN.out, toldK_split p HA.out (k + 1)]
              exact (runY_off HR2.out).symm)
            obtain ⟨rfl, rfl⟩ := Prod.mk.inj hrun2.out
            go_wp2_with fail
            go_ret
            exact ⟨rfl, HG5.out, HF5.out⟩
          · go_wp2_with fail
            go_roundw
            case rel => exact ⟨k + 1, acc2, by omega, by go_num, HR2, HG5, HF5⟩
            case measure => simp [intOf]; omega
        · obtain rfl : k = nd.2.length := by omega
          have hfin := HRK.out
          rw [HE2.out, ← toldK_all p HA.out, HRUN.out] at hfin
          injection hfin with e1 e2
          subst e1
          subst e2
          go_wp2_with fail
          go_ret
          exact ⟨rfl, HGK.out, HFK.out⟩

theorem allFrom (lb mb wb : Nat) (most : Int) (q : ByteArray) (w1 : World) (v : Value) (ns : List Nd) (hlb : w1.heap.size ≤ lb) (hns : NsOK ns) (hg : GraphV w1 0 v ns) (hmb : mb < w1.heap.size) (hwb : wb < w1.heap.size) (hcm : w1.cell? ⟨mb, 0, none⟩ = some (.int .i64 most)) (hcq : w1.cell? ⟨wb, 0, none⟩ = some (.string q)) (hms : most ≤ 9223372036854775807) : ∀ d, FromIH lb mb wb most q w1 v ns d
  | 0 => fun _ _ _ _ _ _ _ h => h.elim
  | d + 1 => eachFrom lb mb wb most q w1 v ns hlb hns hg hmb hwb hcm hcq hms d (allFrom lb mb wb most q w1 v ns hlb hns hg hmb hwb hcm hcq hms d)

set_option maxHeartbeats 1000000 in
set_option maxRecDepth 100000 in
/-- Graph.From -/
theorem c44 (w : World) (v : Value) (ns : List Nd) (d : Nat) (R : Rs) (q : ByteArray) (most : Int) (hg : GraphV w 0 v ns) (hns : NsOK ns) (hE : EachOK d ns 0 R) (hok : okTs R) (hasc : R.Pairwise (· < ·)) (hd : d ≤ 1000) (hn : R.length ≤ 100000) (hms : most ≤ 9223372036854775807) (l : List ByteArray) (hl : l = fromL (R.map txt) q most) :
    Calls Try.prog 44 #[v, .string q, .int .i64 most] w fun e w' => ∃ A c, e = .returned (.slice A l.length c) ∧ w'.ownsRow w.heap.size 9 1 (.slice A l.length c) l.length (strv l) ∧ Below w.heap.size w w' := by
  obtain ⟨W1, hW1⟩ : ∃ W, W = (w.alloc (.cells #[.string q] 9)).alloc (.cells #[.int .i64 most] 3) := ⟨_, rfl⟩
  have hsz : W1.heap.size = w.heap.size + 1 + 1 := by rw [hW1]; simp
  have hb1 : Below w.heap.size w W1 := by rw [hW1]; exact ((Below.refl _ _).alloc (Nat.le_refl _) _).alloc (by simp) _
  obtain ⟨⟨l', b⟩, hr⟩ : ∃ r, runY (yF most q) [] (told [] R) = r := ⟨_, rfl⟩
  have hl' : l' = l := by
    have := runF_all most q (told [] R)
    rw [hr, told_nil, ← hl] at this
    exact this
  subst hl'
  have hcall := (allFrom W1.heap.size (w.heap.size + 1) w.heap.size most q W1 v ns (Nat.le_refl _) hns (hg.ext hb1) (by omega) (by omega) (by
    rw [hW1]
    simp) (by
    rw [hW1, World.cell?_of_block (a := ⟨w.heap.size, 0, none⟩) (Below.heap_alloc _ _ _ (by simp))]
    simp) hms d).call (W1.alloc (.cells #[.slice none 0 0] 22)) 0 [] R [] l' b hE (by simp [okT]) hok hasc (by simpa using hd) (by simpa using hn) hr (Gath.start W1) ((Below.refl _ _).alloc (Nat.le_refl _) _) ⟨#[]⟩ rfl
  rw [hsz] at hcall
  rw [hW1] at hcall
  have HC := Lib.hid hcall
  have HW1 := Lib.hid hW1
  have HB1 := Lib.hid hb1
  have HSZ := Lib.hid hsz
  clear hcall hl hW1 hb1 hr hsz
  have hmf : ∀ (fn : Fn) (first cap : Array Value) (w : World), (Instr.makeFunc fn first cap).run Try.prog w = .ok (.func fn first cap) w := fun _ _ _ _ => rfl
  go_enter Try.func44, Try.ntmps44
  go_wp2_with fail
  (with_reducible refine HC.out.mono ?_); rintro e w2 ⟨rfl, ⟨vl, g1, g2⟩, hfr⟩
  obtain ⟨A, c, rfl, hc1, hc2⟩ := own_slice g2
  have hc : w2.cell? ⟨w.heap.size + 1 + 1, 0, none⟩ = some (.slice A l'.length c) := by rw [cell_of_row _ _ _ _ _ _ g1]; rfl
  have HO := Lib.hid g2
  have HF := Lib.hid hfr
  clear g1 g2 hfr
  go_wp2_with fail
  go_ret
  refine ⟨A, c, rfl, own_low HO.out (by omega), ?_⟩
  have h1 : Below w.heap.size w (((w.alloc (.cells #[.string q] 9)).alloc (.cells #[.int .i64 most] 3)).alloc (.cells #[.slice none 0 0] 22)) := (((Below.refl _ _).alloc (Nat.le_refl _) _).alloc (by simp) _).alloc (by simp; omega) _
  exact h1.trans (HF.out.below.mono (by omega))

end Go.Proofs.Ytepmcfleijiloaa
