/- The law GraphPieces as a contract. -/
import Derived.Test.YtepmcfleijiloaaK4
set_option linter.unusedVariables false
namespace Go.Proofs.Ytepmcfleijiloaa
open Go.RowKit

/-! ### From in a rising list -/
theorem from_drop {l : List ByteArray} (h : Rises l) (q : ByteArray) : (l.filter fun x => decide (0 ≤ cmpB x q)) = l.drop (below l q) := by
  induction l with
  | nil => rfl
  | cons x r ih =>
    have h' := List.pairwise_cons.1 h
    by_cases hx : cmpB x q < 0
    · have e : below (x :: r) q = below r q + 1 := by
        unfold below
        rw [List.countP_cons_of_pos (by simpa using hx)]
      rw [List.filter_cons_of_neg (by simp; omega), e, List.drop_succ_cons, ih h'.2]
    · have h0 : below (x :: r) q = 0 := by
        have hb := below_at h q 0 (by simp)
        simp only [List.getElem_cons_zero] at hb
        have : ¬ 0 < below (x :: r) q := fun h2 => hx (hb.2 h2)
        omega
      rw [h0, List.drop_zero]
      refine List.filter_eq_self.2 fun y hy => ?_
      obtain ⟨i, hi, rfl⟩ := List.getElem_of_mem hy
      have hb := below_at h q i hi
      rw [h0] at hb
      simp
      rcases Int.lt_or_le (cmpB ((x :: r)[i]) q) 0 with h2 | h2
      · exact absurd (hb.1 h2) (by omega)
      · exact h2
theorem below_self {l : List ByteArray} (h : Rises l) (i : Nat) (hi : i < l.length) : below l l[i] = i := by
  have h1 := below_at h l[i] i hi
  have h2 : ¬ i < below l l[i] := fun h3 => cmpB_irrefl _ (h1.2 h3)
  rcases Nat.lt_or_ge (below l l[i]) i with h3 | h3
  · have h4 := (List.pairwise_iff_getElem.1 h) (below l l[i]) i (by omega) hi h3
    have := (below_at h l[i] (below l l[i]) (by omega)).1 h4
    omega
  · omega
theorem from_eq {l : List ByteArray} (h : Rises l) (q : ByteArray) (most : Int) : fromL l q most = (l.drop (below l q)).take most.toNat := by
  unfold fromL
  rw [from_drop h]
theorem below_empty (l : List ByteArray) : below l ⟨#[]⟩ = 0 := by
  unfold below
  rw [List.countP_eq_zero]
  intro x _
  simp only [decide_eq_true_eq]
  intro h
  rw [cmpB_lt] at h
  simp at h
/-- What is behind the last of a piece. -/
theorem from_last {l : List ByteArray} (h : Rises l) (q : ByteArray) (k : Nat) (hk : 0 < k) (hl : k ≤ (l.drop (below l q)).length) (most : Int) :
    fromL l ((l.drop (below l q))[k - 1]'(by omega)) most = ((l.drop (below l q)).drop (k - 1)).take most.toNat := by
  rw [List.length_drop] at hl
  rw [List.getElem_drop, from_eq h, below_self h, List.drop_drop]

theorem c43 (w : World) (x : Int) (h1 : -9223372036854775808 ≤ x) (h2 : x ≤ 9223372036854775807) : Calls Try.prog 43 #[.int .i64 x, .int .i64 10] w fun e w' => ∃ z : Nat, e = .returned (.int .i64 z) ∧ z < 10 ∧ w = w' := by
  go_enter Try.func43, Try.ntmps43
  go_wp2_with fail
  go_ret
  refine ⟨((IntKind.u64.wrap x).tmod 10).toNat, ?_, ?_, rfl⟩
  all_goals
    have hx : 0 ≤ IntKind.u64.wrap x := by simp [IntKind.wrap, IntKind.signed, IntKind.bits]; omega
    have h3 : (IntKind.u64.wrap x).tmod 10 = IntKind.u64.wrap x % 10 := Int.tmod_eq_emod_of_nonneg hx
    generalize IntKind.u64.wrap x = y at *
    simp only [h3]
    clear h3
  · have : wrap64 (y % 10) = ((y % 10).toNat : Int) := by unfold wrap64; omega
    rw [this]
    rfl
  · omega

theorem Strs.take {w : World} {A : Option Addr} {c : Nat} {l : List ByteArray} (h : Strs w 0 A c l) (k : Nat) : Strs w 0 A c (l.take k) :=
  ⟨by have := h.1.take k; simpa [strv, List.map_take] using this, by have := h.2.1; simp; omega, h.2.2⟩
theorem Strs.cut {w : World} {A : Option Addr} {c : Nat} {l : List ByteArray} (h : Strs w 0 A c l) (k : Nat) (hk : k ≤ l.length) : Strs w 0 (if c = k then A else A.map (·.add k)) (c - k) (l.drop k) :=
  ⟨by have := h.1.cut (k := k) (cap := c) (by have := h.2.1; simpa [strv] using this); simpa [strv, List.map_drop] using this, by have := h.2.1; simp; omega, by have := h.2.2; omega⟩
/-- What the walk needs of the pieces. -/
structure Pcs (xs : List ByteArray) (q : ByteArray) (za zb : Nat) (all x : List ByteArray) : Prop where
  all_ : all = fromL xs q 100
  x_ : x = fromL xs q za
  pre : x = all.take x.length
  len : x.length = min za all.length
  short : all.length ≤ 80
theorem pcs {xs : List ByteArray} (h : Rises xs) (hl : xs.length ≤ 80) (q : ByteArray) (za zb : Nat) : Pcs xs q za zb (fromL xs q 100) (fromL xs q za) := by
  have h1 : fromL xs q 100 = xs.drop (below xs q) := by
    rw [from_eq h]
    exact List.take_of_length_le (by simp; omega)
  have h2 : fromL xs q za = (xs.drop (below xs q)).take za := by rw [from_eq h]; simp
  refine ⟨rfl, rfl, ?_, ?_, ?_⟩
  · rw [h1, h2, List.length_take]
    rw [Nat.min_def]
    split
    · rfl
    · rw [List.take_of_length_le (Nat.le_refl _), List.take_of_length_le (by omega)]
  · rw [h1, h2, List.length_take]
  · rw [h1]; simp; omega
/-- .. and behind the last of the piece. -/
theorem Pcs.rest {xs all x : List ByteArray} {q : ByteArray} {za zb : Nat} (P : Pcs xs q za zb all x) (h : Rises xs) (hl : xs.length ≤ 80) (k : Nat) (hk : k + 1 = x.length) :
    fromL xs (x[k]'(by omega)) ((zb : Int) + 1) = (all.drop k).take (min (zb + 1) (all.drop k).length) := by
  have h1 : all = xs.drop (below xs q) := by
    rw [P.all_, from_eq h]
    exact List.take_of_length_le (by simp; omega)
  have hle := P.len
  have e : x[k]'(by omega) = (xs.drop (below xs q))[k]'(by rw [← h1]; omega) := by
    have := P.pre
    subst h1
    rw [List.getElem_of_eq this, List.getElem_take]
  have := from_last h q (k + 1) (by omega) (by rw [← h1]; omega) ((zb : Int) + 1)
  simp only [Nat.add_sub_cancel] at this
  rw [e, this, ← h1]
  have e2 : ((zb : Int) + 1).toNat = zb + 1 := by omega
  rw [e2, Nat.min_def]
  split
  · rfl
  · rw [List.take_of_length_le (Nat.le_refl _), List.take_of_length_le (by omega)]

set_option maxHeartbeats 2000000 in
set_option maxRecDepth 100000 in
/-- inkhornlaw8.GraphPieces -/
theorem c7 (w : World) (A : Option Addr) (c : Nat) (xs : List ByteArray) (q : ByteArray) (a b : Int) (hx : Strs w 0 A c xs) (hs : q.size ≤ 9223372036854775807)
    (ha1 : -9223372036854775808 ≤ a) (ha2 : a ≤ 9223372036854775807) (hb1 : -9223372036854775808 ≤ b) (hb2 : b ≤ 9223372036854775807) :
    Calls Try.prog 7 #[.slice A xs.length c, .string q, .int .i64 a, .int .i64 b] w fun e w' => e = .returned (.bool true) ∧ Below w.heap.size w w' := by
  have HB : Hid (Below w.heap.size w w) := Lib.hid (Below.refl _ _)
  have Sa := Lib.hid hx
  have hl_a := hx.2.1
  have hm_a := hx.2.2
  clear hx
  obtain ⟨gr, hgr⟩ : ∃ g, g = greatB xs := ⟨_, rfl⟩
  have HGR := Lib.hid hgr
  clear hgr
  cases gr
  · have HSM := Lib.hid (great_small HGR.out.symm)
    have hn_a := (great_false HGR.out.symm).1
    by_cases hsz : q.size ≤ 100
    · have bsz : decide ((100 : Int) < q.size) = false := by simp; omega
      have hs2 : q.size ≤ 1000000 := by omega
      obtain ⟨gd, hgd⟩ : ∃ g, g = goodE xs := ⟨_, rfl⟩
      have HGD := Lib.hid hgd
      clear hgd
      go_enter Try.func7, Try.ntmps7
      go_wp2_with fail
      (with_reducible refine (k22 Sa.out HGR.out).mono ?_); rintro e w1 ⟨rfl, hb⟩
      replace HB := Lib.hid (below_ext HB.out hb)
      replace Sa := Lib.hid (Sa.out.ext hb)
      clear hb
      go_wp2_with fail
      (with_reducible refine (k25 Sa.out HSM.out HGD.out).mono ?_); rintro e w2 ⟨p, rfl, HP, hb⟩
      replace HB := Lib.hid (below_ext HB.out hb)
      replace Sa := Lib.hid (Sa.out.ext hb)
      clear hb
      by_cases h0 : gd = 0
      · subst h0
        obtain ⟨g1, rfl, hgv, hw⟩ := HP.out.2 rfl
        have GV := Lib.hid hgv
        have HW := Lib.hid hw
        have HRI := Lib.hid (goodE_zero HGD.out.symm).2.2
        clear HP hgv hw
        go_wp2_with fail
        (with_reducible refine (c43 w2 a ha1 ha2).mono ?_); rintro e w2' ⟨za, rfl, hza, rfl⟩
        go_wp2_with fail
        (with_reducible refine (c43 w2 b hb1 hb2).mono ?_); rintro e w2' ⟨zb, rfl, hzb, rfl⟩
        obtain ⟨all, x, hpc⟩ : ∃ all x, Pcs xs q za zb all x := ⟨_, _, pcs HRI.out hn_a q za zb⟩
        have hlen := hpc.len
        have hshort := hpc.short
        have PC := Lib.hid hpc
        clear hpc
        go_wp2_with fail
        (with_reducible refine (k44 GV.out HW.out (by omega) PC.out.all_).mono ?_); rintro e w3 ⟨A3, c3, rfl, hs3, _, hb⟩
        replace HB := Lib.hid (below_ext HB.out hb)
        replace Sa := Lib.hid (Sa.out.ext hb)
        replace GV := Lib.hid (GV.out.ext hb)
        have hl3 := hs3.2.1
        have hm3 := hs3.2.2
        have S3 := Lib.hid hs3
        clear hb hs3
        go_wp2_with fail
        (with_reducible refine (k44 GV.out HW.out (by omega) PC.out.x_).mono ?_); rintro e w4 ⟨A4, c4, rfl, hs4, _, hb⟩
        replace HB := Lib.hid (below_ext HB.out hb)
        replace Sa := Lib.hid (Sa.out.ext hb)
        replace GV := Lib.hid (GV.out.ext hb)
        replace S3 := Lib.hid (S3.out.ext hb)
        have hl4 := hs4.2.1
        have hm4 := hs4.2.2
        have S4 := Lib.hid hs4
        clear hb hs4
        have hle : x.length ≤ all.length := by omega
        have hmin : min (za : Int) (all.length : Int) = (x.length : Int) := by omega
        have hbb : ((x.length : Int) != (x.length : Int)) = false := by simp
        clear hlen
        have S5 : Hid (Strs w4 0 A3 c3 x) := Lib.hid (by
          have h := S3.out.take x.length
          rwa [← PC.out.pre] at h)
        go_wp2_with fail
        (with_reducible refine (k39 S4.out S5.out (b := true) (by simp)).mono ?_); rintro e w5 ⟨rfl, hb⟩
        replace HB := Lib.hid (below_ext HB.out hb)
        replace Sa := Lib.hid (Sa.out.ext hb)
        replace GV := Lib.hid (GV.out.ext hb)
        replace S3 := Lib.hid (S3.out.ext hb)
        replace S4 := Lib.hid (S4.out.ext hb)
        clear hb S5
        by_cases hz : x.length = 0
        · have hz2 : ((x.length : Int) == 0) = true := by simp [hz]
          clear hmin
          go_wp2_with fail
          (with_reducible refine (c23 _).mono ?_); rintro e w6 ⟨rfl, hb⟩
          go_wp2_with fail
          go_ret
          exact ⟨rfl, below_ext HB.out hb⟩
        · have hz2 : ((x.length : Int) == 0) = false := beq_eq_false_iff_ne.2 (by omega)
          obtain ⟨k, hk⟩ : ∃ k, k + 1 = x.length := ⟨x.length - 1, by omega⟩
          have hks : (x.length : Int) - 1 = k := by omega
          obtain ⟨bA, oA, rfl, _, _, hc4⟩ := S4.out.at_ (k := k) (by omega)
          obtain ⟨last, hlast⟩ : ∃ l, l = x[k]'(by omega) := ⟨_, rfl⟩
          rw [← hlast] at hc4
          obtain ⟨y, hy⟩ : ∃ y, y = fromL xs last ((zb : Int) + 1) := ⟨_, rfl⟩
          obtain ⟨rest, hrest⟩ : ∃ r, r = all.drop k := ⟨_, rfl⟩
          have hrl : rest.length = all.length - k := by rw [hrest]; simp
          have HY : Hid (y = rest.take (min (zb + 1) rest.length)) := Lib.hid (by rw [hy, hrest, hlast]; exact PC.out.rest HRI.out hn_a k hk)
          have hyl : y.length = min (zb + 1) rest.length := by rw [HY.out, List.length_take]; omega
          have HYE := Lib.hid hy
          have HRE := Lib.hid hrest
          clear hlast hy hrest
          go_wp2_with fail
          (with_reducible refine (k44 GV.out HW.out (by omega) HYE.out).mono ?_); rintro e w6 ⟨A6, c6, rfl, hs6, _, hb⟩
          replace HB := Lib.hid (below_ext HB.out hb)
          replace Sa := Lib.hid (Sa.out.ext hb)
          replace GV := Lib.hid (GV.out.ext hb)
          replace S3 := Lib.hid (S3.out.ext hb)
          have hl6 := hs6.2.1
          have hm6 := hs6.2.2
          have S6 := Lib.hid hs6
          clear hb hs6
          have S8 : Hid (Strs w6 0 (Option.map ((fun x => x) ∘ fun x => Addr.add x k) A3) (c3 - k) y) := Lib.hid (by
            have h := (S3.out.cut k (by omega)).take (min (zb + 1) rest.length)
            rw [← HRE.out, ← HY.out, if_neg (by omega)] at h
            exact h)
          have hmin2 : min ((zb : Int) + 1) (rest.length : Int) = (y.length : Int) := by omega
          have hyr : y.length ≤ rest.length := by omega
          have hkl : k ≤ all.length := by omega
          have hkr : all.length - k = rest.length := by omega
          have hky : y.length ≤ c3 - k := by omega
          clear hyl hrl hmin S4 hc4
          go_wp2_with fail
          (with_reducible refine (k39 S6.out S8.out (b := true) (by simp)).mono ?_); rintro e w7 ⟨rfl, hb⟩
          replace HB := Lib.hid (below_ext HB.out hb)
          replace Sa := Lib.hid (Sa.out.ext hb)
          replace GV := Lib.hid (GV.out.ext hb)
          clear hb S8 S6 S3
          have HA0 : Hid (xs = fromL xs ⟨#[]⟩ 100) := Lib.hid (by rw [from_eq HRI.out, below_empty, List.drop_zero]; exact (List.take_of_length_le (by simp; omega)).symm)
          go_wp2_with fail
          (with_reducible refine (k44 GV.out HW.out (by omega) HA0.out).mono ?_); rintro e w8 ⟨A8, c8, rfl, hs8, _, hb⟩
          replace HB := Lib.hid (below_ext HB.out hb)
          replace Sa := Lib.hid (Sa.out.ext hb)
          replace GV := Lib.hid (GV.out.ext hb)
          have S8 := Lib.hid hs8
          clear hb hs8
          go_wp2_with fail
          (with_reducible refine (k39 S8.out Sa.out (b := true) (by simp)).mono ?_); rintro e w9 ⟨rfl, hb⟩
          replace HB := Lib.hid (below_ext HB.out hb)
          replace GV := Lib.hid (GV.out.ext hb)
          clear hb S8 Sa
          have HN0 : Hid ([] = fromL xs q (-(za : Int))) := Lib.hid (by
            rw [from_eq HRI.out, show (-(za : Int)).toNat = 0 by omega, List.take_zero])
          go_wp2_with fail
          (with_reducible refine (k44 GV.out HW.out (by omega) HN0.out).mono ?_); rintro e w10 ⟨A10, c10, rfl, hs10, _, hb⟩
          replace HB := Lib.hid (below_ext HB.out hb)
          clear hb hs10
          go_wp2_with fail
          (with_reducible refine (c23 _).mono ?_); rintro e w6 ⟨rfl, hb⟩
          go_wp2_with fail
          go_ret
          exact ⟨rfl, below_ext HB.out hb⟩
      · have hp := HP.out.1 h0
        subst hp
        have hg : (gd != 0) = true := by simpa using h0
        have H0 := Lib.hid h0
        clear h0 HP
        go_wp2_with fail
        (with_reducible refine (c23 _).mono ?_); rintro e w6 ⟨rfl, hb⟩
        go_wp2_with fail
        go_ret
        exact ⟨rfl, below_ext HB.out hb⟩
    · have bsz : decide ((100 : Int) < q.size) = true := by simp; omega
      go_enter Try.func7, Try.ntmps7
      go_wp2_with fail
      (with_reducible refine (k22 Sa.out HGR.out).mono ?_); rintro e w1 ⟨rfl, hb⟩
      replace HB := Lib.hid (below_ext HB.out hb)
      clear hb
      go_wp2_with fail
      (with_reducible refine (c23 _).mono ?_); rintro e w2 ⟨rfl, hb⟩
      go_wp2_with fail
      go_ret
      exact ⟨rfl, below_ext HB.out hb⟩
  · go_enter Try.func7, Try.ntmps7
    go_wp2_with fail
    (with_reducible refine (k22 Sa.out HGR.out).mono ?_); rintro e w1 ⟨rfl, hb⟩
    replace HB := Lib.hid (below_ext HB.out hb)
    clear hb
    go_wp2_with fail
    (with_reducible refine (c23 _).mono ?_); rintro e w2 ⟨rfl, hb⟩
    go_wp2_with fail
    go_ret
    exact ⟨rfl, below_ext HB.out hb⟩

theorem i64b {n : Int} (h : (Lit.int .i64 n).wf = true) : -9223372036854775808 ≤ n ∧ n ≤ 9223372036854775807 := by
  simp [Lit.wf, IntKind.min, IntKind.max, IntKind.signed, IntKind.bits] at h
  omega

end Go.Proofs.Ytepmcfleijiloaa
