/- The law GraphOne as a contract: the graph of one word is a thread. -/
import Derived.Test.YtepmcfleijiloaaK2
set_option linter.unusedVariables false
namespace Go.Proofs.Ytepmcfleijiloaa
open Go.RowKit

/-- The nodes of one word, from the i-th on. -/
def chainF (t : List Nat) (i : Nat) (m : Nat) : List Rs := (List.range' i m).map fun j => [t.drop j]
theorem chainF_succ (t : List Nat) (i m : Nat) : chainF t i (m + 1) = [t.drop i] :: chainF t (i + 1) m := by
  unfold chainF
  rw [List.range'_succ]
  rfl
theorem chain_not {t : List Nat} {i : Nat} (hi : i ≤ t.length) : [t.drop i] ∉ chainF t 0 i := by
  intro h
  obtain ⟨j, hj, e⟩ := List.mem_map.1 h
  have hj' : j < i := by simpa using hj
  have h1 := congrArg (fun R : Rs => (R.map List.length)) e
  simp at h1
  omega
theorem chain_snoc (t : List Nat) (i : Nat) : chainF t 0 i ++ [[t.drop i]] = chainF t 0 (i + 1) := by
  unfold chainF
  rw [List.range'_concat]
  simp
theorem chain_add (t : List Nat) : ∀ (m d i : Nat), t.length - i = m → i ≤ t.length → m < d → addN d (chainF t 0 i) [t.drop i] = chainF t 0 (t.length + 1)
  | 0, d, i, hm, hi, hd => by
    obtain ⟨d, rfl⟩ : ∃ k, d = k + 1 := ⟨d - 1, by omega⟩
    have e : i = t.length := by omega
    rw [addN_new _ _ _ (chain_not hi), chain_snoc]
    subst e
    rw [List.drop_length, groups_emp, groups_nil, addG_nil]
  | m + 1, d, i, hm, hi, hd => by
    obtain ⟨d, rfl⟩ : ∃ k, d = k + 1 := ⟨d - 1, by omega⟩
    have hlt : i < t.length := by omega
    rw [addN_new _ _ _ (chain_not hi), chain_snoc]
    have e : groups [t.drop i] = [(t[i], [t.drop (i + 1)])] := by
      rw [List.drop_eq_getElem_cons hlt, groups_cons, grp_nil, remv_nil, groups_nil]
    rw [e, addG_cons, addG_nil]
    exact chain_add t m d (i + 1) (by omega) (by omega) (by omega)
theorem chain_nodes {t : List Nat} (h : t.length ≤ 12) : nodesOf [t] = chainF t 0 (t.length + 1) := by
  have := chain_add t t.length 13 0 (by omega) (by omega) (by omega)
  unfold nodesOf
  simpa [chainF] using this
theorem chain_at (t : List Nat) (n i : Nat) (h : i < n) : (chainF t 0 n)[i]'(by simpa [chainF] using h) = [t.drop i] := by simp [chainF]
theorem idx_first2 {T : Rs} : ∀ (N : List Rs) (k : Nat) (h : k < N.length), N[k] = T → (∀ j (h : j < N.length), j < k → N[j] ≠ T) → N.idxOf T = k
  | [], k, h, _, _ => by simp at h
  | x :: N, 0, _, he, _ => by
    have he' : x = T := he
    rw [he', List.idxOf_cons_self]
  | x :: N, k + 1, h, he, hf => by
    have h0 : x ≠ T := hf 0 (by simp) (by omega)
    have := idx_first2 N k (by simpa using h) (by simpa using he) (fun j hj hjk => by have := hf (j + 1) (by simpa using hj) (by omega); simpa using this)
    rw [List.idxOf_cons, this]
    have hb : (x == T) = false := by simpa using h0
    rw [hb]
    rfl
theorem chain_idx {t : List Nat} (h : t.length ≤ 12) {i : Nat} (hi : i ≤ t.length) : (nodesOf [t]).idxOf [t.drop i] = i := by
  have hn := nodesOf_nodup [t]
  rw [chain_nodes h] at hn ⊢
  refine idx_first2 _ i (by simp [chainF]; omega) (chain_at t _ i (by omega)) (fun j hj hji => ?_)
  rw [chain_at t _ j (by omega)]
  intro e
  have h1 := congrArg (fun R : Rs => (R.map List.length)) e
  simp at h1
  omega
theorem one_node {t : List Nat} (h : t.length ≤ 12) {i : Nat} (hi : i ≤ t.length) : nodeOf (graphOf [t]) (i : Nat) = (decide (i = t.length), if h : i < t.length then [(t[i], i + 1)] else []) := by
  have hm : [t.drop i] ∈ nodesOf [t] := by
    rw [chain_nodes h]
    exact List.mem_map.2 ⟨i, by simp; omega, rfl⟩
  have h1 := node_idx hm
  rw [chain_idx h hi] at h1
  rw [h1]
  unfold ndOf edgesOf
  by_cases hlt : i < t.length
  · have e : groups [t.drop i] = [(t[i], [t.drop (i + 1)])] := by
      rw [List.drop_eq_getElem_cons hlt, groups_cons, grp_nil, remv_nil, groups_nil]
    rw [e]
    simp only [List.map_cons, List.map_nil]
    rw [chain_idx h (by omega), dif_pos hlt, List.drop_eq_getElem_cons hlt, decide_eq_false (by omega)]
    rfl
  · have e : i = t.length := by omega
    subst e
    rw [List.drop_length, groups_emp, groups_nil, dif_neg hlt]
    simp [fin]

theorem build_one (s : ByteArray) (w : World) {g : Int} (hsm : Small [s]) (hg : g = goodE [s]) :
    Calls Try.prog 25 #[.slice (some ⟨w.heap.size, 0, none⟩) 1 1] (w.alloc (.cells #[.string s] 9)) fun e w' => ∃ p, e = .returned (.tuple #[p, .int .i64 g]) ∧ Hid ((g ≠ 0 → p = .pointer none) ∧ (g = 0 → ∃ q, p = .pointer (some ⟨q, 0, none⟩) ∧ GraphV w' 0 p (graphOf (textsOf [s])) ∧ Wds [s])) ∧ Below (w.alloc (.cells #[.string s] 9)).heap.size (w.alloc (.cells #[.string s] 9)) w' :=
  k25 (Strs.make w 9 [s] 1 rfl (by simp)) hsm hg
theorem same_one {w : World} {A : Option Addr} {c : Nat} {r k : Nat} {z : Int} (he : Edgs w 0 A c [(r, k)]) (hz : z = (k : Int)) : Calls Try.prog 33 #[.slice A 1 c, .slice (some ⟨w.heap.size, 0, none⟩) 1 1] (w.alloc (.cells #[.int .i32 r, .int .i64 z] 49)) fun e w' =>
    e = .returned (.bool true) ∧ Below w.heap.size w w' := by
  subst hz
  have h := c33 _ 0 0 _ _ _ _ [(r, k)] [(r, k)] (he.ext ((Below.refl _ _).alloc (Nat.le_refl _) (Obj.cells (edgv [(r, k)]).toArray 49))) (Edgs.make w 49 [(r, k)] 1 rfl (by simp))
  rw [decide_eq_true rfl] at h
  refine h.mono ?_
  rintro e w' ⟨rfl, n, rfl⟩
  exact ⟨rfl, below_drewN ((Below.refl _ _).alloc (Nat.le_refl _) _) _⟩

set_option maxHeartbeats 4000000 in
set_option maxRecDepth 100000 in
/-- inkhornlaw8.GraphOne -/
theorem c4 (w : World) (s : ByteArray) (hs : s.size ≤ 9223372036854775807) :
    Calls Try.prog 4 #[.string s] w fun e w' => e = .returned (.bool true) ∧ Below w.heap.size w w' := by
  have HB : Hid (Below w.heap.size w w) := Lib.hid (Below.refl _ _)
  by_cases hsz : s.size ≤ 100
  · have bsz : decide ((100 : Int) < s.size) = false := by simp; omega
    have hs2 : s.size ≤ 1000000 := by omega
    have hs3 : s.size ≤ 4611686018427387904 := by omega
    obtain ⟨b, hb⟩ : ∃ b, b = isWord s := ⟨_, rfl⟩
    have HW := Lib.hid hb
    have h36 := c36 s w hs3
    rw [← hb] at h36
    have H36 := Lib.hid h36
    clear hb h36
    cases b
    · go_enter Try.func4, Try.ntmps4
      go_wp2_with fail
      (with_reducible refine H36.out.mono ?_); rintro e w1 ⟨rfl, hb⟩
      replace HB := Lib.hid (below_ext HB.out hb)
      clear hb
      go_wp2_with fail
      (with_reducible refine (c23 _).mono ?_); rintro e w2 ⟨rfl, hb⟩
      go_wp2_with fail
      go_ret
      exact ⟨rfl, below_ext HB.out hb⟩
    · have hw1 := word_ok HW.out.symm
      have hgood : goodE [s] = 0 := by
        unfold goodE
        rw [if_neg (by simp), if_neg (by simp [← HW.out]), if_neg (by simp [risesB])]
      have HGD : Hid (0 = goodE [s]) := Lib.hid hgood.symm
      obtain ⟨t, ht⟩ : ∃ t, t = runes s 0 := ⟨_, rfl⟩
      rw [← ht] at hw1
      have htl : t.length ≤ 12 := hw1.2.2.2
      have HOK : Hid (okRunes s = true) := Lib.hid (by
        refine decide_eq_true (fun hm => ?_)
        rw [← ht] at hm
        exact (hw1.2.1 _ hm).2 rfl)
      have HGT : Hid (gotRunes s = t) := Lib.hid (by
        unfold gotRunes
        rw [if_neg (of_decide_eq_true HOK.out), ht])
      have HTX : Hid (textsOf [s] = [t]) := Lib.hid (by rw [ht]; rfl)
      have hgr : ∃ ns, ns = graphOf [t] := ⟨_, rfl⟩
      obtain ⟨ns, hns⟩ := hgr
      have HNS := Lib.hid hns
      have HLN : Hid (ns.length = t.length + 1) := Lib.hid (by rw [hns, graphOf_len, chain_nodes htl]; simp [chainF])
      have hsmall : Small [s] := by intro x hx; simp at hx; subst hx; exact hs2
      have HSM := Lib.hid hsmall
      clear hw1 hgood ht hns hsmall
      go_enter Try.func4, Try.ntmps4
      go_wp2_with fail
      (with_reducible refine H36.out.mono ?_); rintro e w1 ⟨rfl, hb⟩
      replace HB := Lib.hid (below_ext HB.out hb)
      clear hb
      go_wp2_with fail
      have h25 := build_one s w1 HSM.out HGD.out
      (with_reducible refine h25.mono ?_); rintro e w2 ⟨p, rfl, HP, hb⟩
      replace HB := Lib.hid (below_then HB.out (below_then ((Below.refl w1.heap.size w1).alloc (Nat.le_refl _) _) hb (by simp)) HB.out.size)
      clear hb h25
      obtain ⟨g1, rfl, hgv, hw⟩ := HP.out.2 rfl
      rw [HTX.out, ← HNS.out] at hgv
      have GV := Lib.hid hgv
      have NS : Hid (NsOK ns) := Lib.hid (by have := nsOK hw.wd; rw [HTX.out, ← HNS.out] at this; exact this)
      clear HP hgv hw
      go_wp2_with fail
      have h37 := c37 s w2 hs2
      rw [HOK.out, HGT.out] at h37
      (with_reducible refine h37.mono ?_); rintro e w3 ⟨v1, rfl, ho, hb⟩
      obtain ⟨Ar, cr, rfl, hc1, hc2⟩ := own_slice ho
      have HO := Lib.hid ho
      replace HB := Lib.hid (below_ext HB.out hb)
      replace GV := Lib.hid (GV.out.ext hb)
      clear ho hb h37
      go_wp2_with fail
      have h29 := c29 w3 0 _ ns GV.out
      rw [HLN.out] at h29
      (with_reducible refine h29.mono ?_); rintro e w4 ⟨rfl, rfl⟩
      clear h29
      go_wp2_with fail
      go_loopw [7] (fun i wr => ∃ k : Nat, k ≤ t.length + 1 ∧ i = .int .i64 k ∧ Hid (Below w3.heap.size w3 wr)) (fun i _ => t.length + 1 - (intOf i).toNat)
      case atStart => exact ⟨0, by omega, rfl, Lib.hid (Below.refl _ _)⟩
      case round =>
        obtain ⟨k, hk, rfl, HB1⟩ := hrel
        replace GV := Lib.hid (GV.out.ext HB1.out)
        replace HB := Lib.hid (below_ext HB.out HB1.out)
        by_cases hle : k ≤ t.length
        · have hnd := one_node htl hle
          rw [← HNS.out] at hnd
          by_cases hlt : k < t.length
          · have b1 : decide ((k : Int) ≤ t.length) = true := by simp; omega
            have b2 : decide ((k : Int) < t.length) = true := by simp; omega
            have b3 : ((k : Int) == t.length) = false := by simp; omega
            rw [dif_pos hlt, decide_eq_false (by omega)] at hnd
            obtain ⟨b, o, hA, _, hbl, hc⟩ := ((Rd.of_own HO.out).ext HB1.out).at_ (k := k) (by rw [i32v_len]; exact hlt)
            cases hA
            rw [i32v_at hlt] at hc
            obtain ⟨r, hr⟩ : ∃ r, r = t[k] := ⟨_, rfl⟩
            rw [← hr] at hc hnd
            have HND := Lib.hid hnd
            clear hnd hr
            go_wp2_with fail
            (with_reducible refine (c30 wr 0 _ ns k [(r, k + 1)] GV.out (by rw [HND.out]) (by simp)).mono ?_); rintro e v1 ⟨r1, rfl, ho1, hb⟩
            obtain ⟨A5, c5, rfl, he5⟩ := Edgs.of_own ho1
            have E1 := Lib.hid (he5.low (Nat.zero_le _))
            have hc1 := (World.cell?_of_block (a := ⟨b, o + k, none⟩) (hb.block b hbl)).trans hc
            have hbl1 : b < v1.heap.size := Nat.lt_of_lt_of_le hbl hb.size
            replace GV := Lib.hid (GV.out.ext hb)
            replace HB := Lib.hid (below_ext HB.out hb)
            have V1 := Lib.hid hb
            clear ho1 he5 hb hc
            go_wp2_with fail
            (with_reducible refine (k31' (b := false) GV.out (by rw [HND.out])).mono ?_); rintro e v2 ⟨rfl, hb⟩
            have hc2' := (World.cell?_of_block (a := ⟨b, o + k, none⟩) (hb.block b hbl1)).trans hc1
            replace E1 := Lib.hid (E1.out.ext hb)
            replace GV := Lib.hid (GV.out.ext hb)
            replace HB := Lib.hid (below_ext HB.out hb)
            replace V1 := Lib.hid (below_ext V1.out hb)
            clear hb hc1
            go_wp2_with fail
            (with_reducible refine (same_one E1.out (by omega)).mono ?_); rintro e v3 ⟨rfl, hb⟩
            have V3 := Lib.hid (below_ext V1.out hb)
            clear hb
            go_wp2_with fail
            go_roundw
            case rel => exact ⟨k + 1, by omega, by go_num, Lib.hid (below_ext HB1.out V3.out)⟩
            case measure => simp [intOf]; omega
          · have b1 : decide ((k : Int) ≤ t.length) = true := by simp; omega
            have b2 : decide ((k : Int) < t.length) = false := by simp; omega
            have b3 : ((k : Int) == t.length) = true := by simp; omega
            rw [dif_neg hlt, decide_eq_true (by omega)] at hnd
            have HND := Lib.hid hnd
            clear hnd
            go_wp2_with fail
            (with_reducible refine (c30 wr 0 _ ns k [] GV.out (by rw [HND.out]) (by simp)).mono ?_); rintro e v1 ⟨r1, rfl, ho1, hb⟩
            obtain ⟨A5, c5, rfl, he5⟩ := Edgs.of_own ho1
            replace GV := Lib.hid (GV.out.ext hb)
            have V1 := Lib.hid hb
            clear ho1 he5 hb
            go_wp2_with fail
            (with_reducible refine (k31' (b := true) GV.out (by rw [HND.out])).mono ?_); rintro e v2 ⟨rfl, hb⟩
            have V2 := Lib.hid (below_ext V1.out hb)
            clear hb
            go_wp2_with fail
            go_roundw
            case rel => exact ⟨k + 1, by omega, by go_num, Lib.hid (below_ext HB1.out V2.out)⟩
            case measure => simp [intOf]; omega
        · have b1 : decide ((k : Int) ≤ t.length) = false := by simp; omega
          go_wp2_with fail
          (with_reducible refine (c23 _).mono ?_); rintro e w6 ⟨rfl, hb⟩
          go_wp2_with fail
          go_ret
          exact ⟨rfl, below_ext HB.out hb⟩
  · have bsz : decide ((100 : Int) < s.size) = true := by simp; omega
    go_enter Try.func4, Try.ntmps4
    go_wp2_with fail
    (with_reducible refine (c23 _).mono ?_); rintro e w2 ⟨rfl, hb⟩
    go_wp2_with fail
    go_ret
    exact ⟨rfl, hb⟩

end Go.Proofs.Ytepmcfleijiloaa
