/- The law GraphBuilds as a contract. -/
import Derived.Test.YtepmcfleijiloaaJ4
import Derived.Test.YtepmcfleijiloaaG6
set_option linter.unusedVariables false
namespace Go.Proofs.Ytepmcfleijiloaa
open Go.RowKit

/-- Num -/
theorem k27 (w : World) (g : Int) : Calls Try.prog 27 #[.int .i64 g] w fun e w' => e = .returned (.int .i64 g) ∧ w = w' := by
  go_enter Try.func27, Try.ntmps27
  go_wp2_with fail
  go_ret
  exact ⟨rfl, rfl⟩
theorem q29 {w : World} {v : Value} {ns : List Nd} {n : Nat} (h : GraphV w 0 v ns) (hn : n = ns.length) : Calls Try.prog 29 #[v] w fun e w' => e = .returned (.int .i64 n) ∧ Drawn w w' :=
  (c29 w 0 v ns h).mono fun e w' ⟨h1, h2⟩ => ⟨by rw [hn]; exact h1, h2 ▸ Drawn.refl _⟩
theorem GraphV.dr {w : World} {lo : Nat} {v : Value} {ns : List Nd} (h : GraphV w lo v ns) (n : Nat) : GraphV (w.drewN n) lo v ns := h.ext (below_drewN (Below.refl _ _) n)
theorem k31 {w : World} {v : Value} {ns : List Nd} {n : Int} {b : Bool} (h : GraphV w 0 v ns) (hb : b = (nodeOf ns n).1) : Calls Try.prog 31 #[v, .int .i64 n] w fun e w' => e = .returned (.bool b) ∧ Below w.heap.size w w' := by
  rw [hb]; exact c31 w 0 v ns n h
theorem k33 {w : World} {A B : Option Addr} {c d n m : Nat} {xs ys : List (Nat × Nat)} {b : Bool} (hx : Edgs w 0 A c xs) (hy : Edgs w 0 B d ys) (hn : n = xs.length) (hm : m = ys.length) (hb : b = decide (xs = ys)) :
    Calls Try.prog 33 #[.slice A n c, .slice B m d] w fun e w' => e = .returned (.bool b) ∧ Below w.heap.size w w' := by
  subst hn; subst hm
  refine (c33 w 0 0 A B c d xs ys hx hy).mono ?_
  rintro e w' ⟨rfl, n, rfl⟩
  exact ⟨by rw [hb], below_drewN (Below.refl _ _) n⟩
theorem k32 {w : World} {p : Value} {T : Rs} {z : Int} {b : Bool} (h : RefG w p (nodesOf T)) (hb : b = (nodeOf (graphOf T) z).1) (hW : Wd T) : Calls Try.prog 32 #[p, .int .i64 z] w fun e w' => e = .returned (.bool b) ∧ w = w' :=
  c32 w p (nodesOf T) z h b hb (fun R hR => (nodesOf_nod hW R hR).ok)
theorem k34 {w : World} {p : Value} {T : Rs} {z : Int} {es : List (Nat × Nat)} (h : RefG w p (nodesOf T)) (he : es = (nodeOf (graphOf T) z).2) (hl : es.length ≤ 1000000) :
    Calls Try.prog 34 #[p, .int .i64 z] w fun e w' => ∃ r, e = .returned r ∧ w'.ownsRow w.heap.size 49 2 r es.length (edgv es) ∧ Below w.heap.size w w' := c34 w p (nodesOf T) z h es he hl
theorem RefG.lt {w : World} {p : Value} {N : List Rs} (h : RefG w p N) : ∃ g A c, p = .pointer (some ⟨g, 0, none⟩) ∧ N.length ≤ c ∧ c ≤ 9223372036854775807 ∧ ∀ w', Below w.heap.size w w' → w'.cell? ⟨g, 0, none⟩ = some (.slice A N.length c) := by
  obtain ⟨g, A, c, cs, h1, h2, h3, h4, h5, h6, h7⟩ := h
  exact ⟨g, A, c, h1, h3, h4, fun w' hb => by rw [cell_of_row _ _ _ _ _ _ ((hb.block g (Array.getElem?_eq_some_iff.1 h2).1).trans h2)]; rfl⟩

set_option maxHeartbeats 4000000 in
set_option maxRecDepth 100000 in
/-- inkhornlaw8.GraphBuilds -/
theorem c3 (w : World) (A : Option Addr) (c : Nat) (xs : List ByteArray) (hx : Strs w 0 A c xs) :
    Calls Try.prog 3 #[.slice A xs.length c] w fun e w' => e = .returned (.bool true) ∧ Below w.heap.size w w' := by
  have HB : Hid (Below w.heap.size w w) := Lib.hid (Below.refl _ _)
  have Sa := Lib.hid hx
  have hl_a := hx.2.1
  have hm_a := hx.2.2
  clear hx
  obtain ⟨gr, hgr⟩ : ∃ g, g = greatB xs := ⟨_, rfl⟩
  have HGR := Lib.hid hgr
  clear hgr
  cases gr
  · have HSM := Lib.hid (great_small HGR.out.symm)
    have hn_a := (great_false HGR.out.symm).1
    obtain ⟨gd, hgd⟩ : ∃ g, g = goodE xs := ⟨_, rfl⟩
    have HGD := Lib.hid hgd
    clear hgd
    go_enter Try.func3, Try.ntmps3
    go_wp2_with fail
    (with_reducible refine (k22 Sa.out HGR.out).mono ?_); rintro e w1 ⟨rfl, hb⟩
    replace HB := Lib.hid (below_ext HB.out hb)
    replace Sa := Lib.hid (Sa.out.ext hb)
    clear hb
    go_wp2_with fail
    (with_reducible refine (k24 Sa.out (by omega)).mono ?_); rintro e w2 ⟨gx, rfl, hle, hb⟩
    replace HB := Lib.hid (below_ext HB.out hb)
    replace Sa := Lib.hid (Sa.out.ext hb)
    have Lx := Lib.hid hle
    clear hle hb
    go_wp2_with fail
    have h25 := c25 w2 (some ⟨gx, 0, none⟩) (xs.length + 3) xs (Lx.out.strs (by omega)) HSM.out
    rw [← HGD.out] at h25
    (with_reducible refine h25.mono ?_); rintro e w3 ⟨p, rfl, hp0, hp1, hb⟩
    have P0 := Lib.hid hp0
    have P1 := Lib.hid hp1
    have HB3 := Lib.hid hb
    replace HB := Lib.hid (below_ext HB.out hb)
    replace Sa := Lib.hid (Sa.out.ext hb)
    replace Lx := Lib.hid (Lx.out.later hb)
    clear hp0 hp1 hb h25
    go_wp2_with fail
    have h26 := c26 w3 A c xs Sa.out HSM.out
    rw [← HGD.out] at h26
    (with_reducible refine h26.mono ?_); rintro e w4 ⟨q, rfl, hq0, hq1, hb⟩
    have Q0 := Lib.hid hq0
    have Q1 := Lib.hid hq1
    have HB4 := Lib.hid hb
    replace HB := Lib.hid (below_ext HB.out hb)
    replace Sa := Lib.hid (Sa.out.ext hb)
    replace Lx := Lib.hid (Lx.out.later hb)
    clear hq0 hq1 hb h26
    by_cases h0 : gd = 0
    · have hW := Wds.of_good (HGD.out.symm.trans h0)
      have HW := Lib.hid hW
      have HGV : Hid (GraphV w4 0 p (graphOf (textsOf xs))) := Lib.hid (.inr (((P1.out h0).low (Nat.zero_le _)).ext HB4.out))
      have HRG := Lib.hid (Q1.out h0)
      have hpf : ∃ g, p = .pointer (some ⟨g, 0, none⟩) := by
        obtain ⟨g, _, _, h, _⟩ := (P1.out h0).lt
        exact ⟨g, h⟩
      obtain ⟨g1, rfl⟩ := hpf
      obtain ⟨g2, A2, c2, rfl, hcl1, hcl2, hcell⟩ := HRG.out.lt
      have HCELL := Lib.hid hcell
      subst h0
      obtain ⟨N, hN⟩ : ∃ N, N = nodesOf (textsOf xs) := ⟨_, rfl⟩
      have hNl : N.length ≤ 721 := by rw [hN]; exact nodesOf_size hW.wd
      rw [← hN] at hcl1
      have HN := Lib.hid hN
      clear hW hcell hN P0 Q0 P1 Q1
      go_wp2_with fail
      (with_reducible refine (k27 _ 0).mono ?_); rintro e w5 ⟨rfl, rfl⟩
      go_wp2_with fail
      (with_reducible refine (k28 Lx.out (by omega) Sa.out).mono ?_); rintro e w5 ⟨rfl, hb⟩
      have HB5 := Lib.hid hb
      have hc5 := HCELL.out w5 hb
      rw [← HN.out] at hc5
      clear hb
      go_wp2_with fail
      have hnl : N.length = (graphOf (textsOf xs)).length := by rw [graphOf_len, HN.out]
      go_quiet ((go_at_call 29; first | exact quiet_drawn (q29 ((HGV.out.ext HB5.out).dr _) hnl) | exact quiet_add_drawn (q29 ((HGV.out.ext HB5.out).dr _) hnl)))
      clear hnl
      go_wp2_with fail
      have HW5 : Hid (Below w4.heap.size w4 (w5.drewN nq)) := Lib.hid (below_drewN HB5.out nq)
      have HBW := Lib.hid (below_ext HB.out HW5.out)
      go_loopw [8] (fun i wr => ∃ k : Nat, k ≤ N.length + 2 ∧ i = .int .i64 ((k : Int) - 1) ∧ Hid (Below w4.heap.size w4 wr) ∧ Hid (Below w.heap.size w wr)) (fun i _ => (N.length + 2 : Int).toNat - (intOf i + 1).toNat)
      case atStart => exact ⟨0, by omega, rfl, HW5, HBW⟩
      case round =>
        clear HW5 HBW hc5 HB5 HB Sa Lx
        obtain ⟨k, hk, rfl, HBR, HBS⟩ := hrel
        have hcr := HCELL.out wr HBR.out
        rw [← HN.out] at hcr
        have GR := Lib.hid (HGV.out.ext HBR.out)
        have RR := Lib.hid (HRG.out.ext HBR.out)
        obtain ⟨z, hz⟩ : ∃ z : Int, z = (k : Int) - 1 := ⟨_, rfl⟩
        rw [← hz]
        have hz1 : -1 ≤ z := by omega
        have hz2 : z ≤ N.length + 1 := by omega
        have HZ := Lib.hid hz
        clear hz
        obtain ⟨es, hes⟩ : ∃ es, es = (nodeOf (graphOf (textsOf xs)) z).2 := ⟨_, rfl⟩
        have hel : es.length ≤ 1000000 := by rw [hes]; exact (nsOK HW.out.wd).of z
        have HES := Lib.hid hes
        clear hes
        obtain ⟨fb, hfb⟩ : ∃ b, b = (nodeOf (graphOf (textsOf xs)) z).1 := ⟨_, rfl⟩
        have HFB := Lib.hid hfb
        clear hfb
        by_cases hlt : z ≤ N.length
        · have b1 : decide (z ≤ (N.length : Int)) = true := by simpa using hlt
          go_wp2_with fail
          (with_reducible refine (c30 wr 0 _ _ z es GR.out HES.out hel).mono ?_); rintro e v1 ⟨r1, rfl, ho1, hb⟩
          obtain ⟨A5, c5, rfl, he5⟩ := Edgs.of_own ho1
          have O1 := Lib.hid ho1
          have E1 := Lib.hid (he5.low (Nat.zero_le _))
          have V1 := Lib.hid hb
          clear ho1 he5 hb
          go_wp2_with fail
          (with_reducible refine (k31 (GR.out.ext V1.out) HFB.out).mono ?_); rintro e v2 ⟨rfl, hb⟩
          have V2 := Lib.hid (below_ext V1.out hb)
          have E2 := Lib.hid (E1.out.ext hb)
          have O2 := Lib.hid (own_below O1.out hb)
          clear hb
          go_wp2_with fail
          (with_reducible refine (k32 (RR.out.ext V2.out) HFB.out HW.out.wd).mono ?_); rintro e v3 ⟨rfl, rfl⟩
          have hbb : (fb != fb) = false := by simp
          go_wp2_with fail
          (with_reducible refine (k34 (RR.out.ext V2.out) HES.out hel).mono ?_); rintro e v3 ⟨r2, rfl, ho2, hb⟩
          obtain ⟨A6, c6, rfl, he6⟩ := Edgs.of_own ho2
          have V3 := Lib.hid (below_ext V2.out hb)
          have E3 := Lib.hid (E2.out.ext hb)
          have O3 := Lib.hid (own_below O2.out hb)
          have F3 := Lib.hid (he6.low (Nat.zero_le _))
          clear ho2 he6 hb
          go_wp2_with fail
          (with_reducible refine (k33 E3.out F3.out rfl rfl (decide_eq_true rfl).symm).mono ?_); rintro e v4 ⟨rfl, hb⟩
          have V4 := Lib.hid (below_ext V3.out hb)
          have O4 := Lib.hid (own_below O3.out hb)
          clear hb
          go_wp2_with fail
          (with_reducible refine (c35 v4 wr.heap.size _ es O4.out hel wr.heap.size (Nat.le_refl _) V4.out.size).mono ?_); rintro e v5 ⟨rfl, hb⟩
          have V5 := Lib.hid (V4.out.trans hb)
          clear hb
          go_wp2_with fail
          (with_reducible refine (c30 v5 0 _ _ z es (GR.out.ext V5.out) HES.out hel).mono ?_); rintro e v6 ⟨r3, rfl, ho3, hb⟩
          obtain ⟨A7, c7, rfl, he7⟩ := Edgs.of_own ho3
          have V6 := Lib.hid (below_ext V5.out hb)
          have E6 := Lib.hid (he7.low (Nat.zero_le _))
          clear ho3 he7 hb
          go_wp2_with fail
          (with_reducible refine (k34 (RR.out.ext V6.out) HES.out hel).mono ?_); rintro e v7 ⟨r4, rfl, ho4, hb⟩
          obtain ⟨A8, c8, rfl, he8⟩ := Edgs.of_own ho4
          have V7 := Lib.hid (below_ext V6.out hb)
          have E7 := Lib.hid (E6.out.ext hb)
          have F7 := Lib.hid (he8.low (Nat.zero_le _))
          clear ho4 he8 hb
          go_wp2_with fail
          (with_reducible refine (k33 E7.out F7.out rfl rfl (decide_eq_true rfl).symm).mono ?_); rintro e v8 ⟨rfl, hb⟩
          have V8 := Lib.hid (below_ext V7.out hb)
          clear hb
          go_wp2_with fail
          go_roundw
          case rel => exact ⟨k + 1, by have := HZ.out; omega, by have := HZ.out; simp only [Value.int.injEq, true_and]; omega, Lib.hid (below_ext HBR.out V8.out), Lib.hid (below_ext HBS.out V8.out)⟩
          case measure => have := HZ.out; simp [intOf]; omega
        · have b1 : decide (z ≤ (N.length : Int)) = false := by simpa using hlt
          clear hlt
          go_wp2_with fail
          (with_reducible refine (c23 _).mono ?_); rintro e w6 ⟨rfl, hb⟩
          go_wp2_with fail
          go_ret
          exact ⟨rfl, below_ext HBS.out hb⟩
    · have hp := P0.out h0
      have hq := Q0.out h0
      subst hp
      subst hq
      clear P0 P1 Q0 Q1
      have hgg : (gd != gd) = false := by simp
      have H0 := Lib.hid h0
      clear h0
      go_wp2_with fail
      (with_reducible refine (k27 _ gd).mono ?_); rintro e w5 ⟨rfl, rfl⟩
      go_wp2_with fail
      (with_reducible refine (k28 Lx.out (by omega) Sa.out).mono ?_); rintro e w5 ⟨rfl, hb⟩
      replace HB := Lib.hid (below_ext HB.out hb)
      clear hb
      go_wp2_with fail
      (with_reducible refine (c23 _).mono ?_); rintro e w6 ⟨rfl, hb⟩
      go_wp2_with fail
      go_ret
      exact ⟨rfl, below_ext HB.out hb⟩
  · go_enter Try.func3, Try.ntmps3
    go_wp2_with fail
    (with_reducible refine (k22 Sa.out HGR.out).mono ?_); rintro e w1 ⟨rfl, hb⟩
    replace HB := Lib.hid (below_ext HB.out hb)
    clear hb
    go_wp2_with fail
    (with_reducible refine (c23 _).mono ?_); rintro e w2 ⟨rfl, hb⟩
    go_wp2_with fail
    go_ret
    exact ⟨rfl, below_ext HB.out hb⟩

end Go.Proofs.Ytepmcfleijiloaa
