/- The law GraphPut as a contract. -/
import Derived.Test.YtepmcfleijiloaaK6
import Derived.Test.YtepmcfleijiloaaP9
import Derived.Test.YtepmcfleijiloaaE4
set_option linter.unusedVariables false
namespace Go.Proofs.Ytepmcfleijiloaa
open Go.RowKit

theorem txt_put (s t : List Nat) : txt s ++ txt t = txt (s ++ t) := by
  apply txt_ext
  rw [txt_data, encL_append, ByteArray.data_append, Array.toList_append, txt_data, txt_data]
/-- A word behind a beginning. -/
theorem runes_put {s x : ByteArray} (hs : 0 ≤ rlen s) (hx : isWord x = true) : runes (s ++ x) 0 = runes s 0 ++ runes x 0 ∧ okT (runes s 0 ++ runes x 0) ∧ rlen s = (runes s 0).length ∧ rlen x = (runes x 0).length ∧ rlen (s ++ x) = (runes s 0).length + (runes x 0).length := by
  have h2 : 65533 ∉ runes s 0 := by
    intro h3
    unfold rlen at hs
    rw [if_pos h3] at hs
    omega
  obtain ⟨h4, h5⟩ := txt_runes s (decide_eq_true h2)
  obtain ⟨h6, h7, h8, h9⟩ := word_ok hx
  have ha : okT (runes s 0 ++ runes x 0) := okT_append.2 ⟨h5, h7⟩
  have e : runes (s ++ x) 0 = runes s 0 ++ runes x 0 := by
    conv => lhs; rw [← h4, ← h6, txt_put]
    exact runes_txt _ ha
  have h1 : 1 ≤ rlen x ∧ rlen x ≤ 12 := of_decide_eq_true hx
  have h3 : 65533 ∉ runes x 0 := by
    intro h3
    unfold rlen at h1
    rw [if_pos h3] at h1
    omega
  refine ⟨e, ha, ?_, ?_, ?_⟩
  · unfold rlen; rw [if_neg h2]
  · unfold rlen; rw [if_neg h3]
  · unfold rlen
    rw [e, if_neg (by simp [h2, h3])]
    simp
/-- The list of GraphPut. -/
def putL' (s : ByteArray) (l : List ByteArray) : List ByteArray := l.map (s ++ ·)
structure Put (s : ByteArray) (l : List ByteArray) : Prop where
  pos : 0 ≤ rlen s
  words : ∀ x ∈ l, isWord x = true
  ris : Rises l
  few : l.length ≤ 40
  some : l ≠ []
  size : ∀ x ∈ l, x.size ≤ 100
theorem Put.good {s : ByteArray} {l : List ByteArray} (h : Put s l) : goodE l = 0 := by
  unfold goodE
  rw [if_neg (by have := h.few; omega), if_neg (by simp; exact h.words), if_neg (by rw [(risesB_iff l).2 h.ris]; simp)]
theorem Put.good2 {s : ByteArray} {l : List ByteArray} (h : Put s l) (hle : ∀ x ∈ l, rlen x + rlen s ≤ 12) : goodE (putL' s l) = 0 := by
  unfold goodE putL'
  have hw : ∀ x ∈ l, isWord (s ++ x) = true := fun x hx => by
    obtain ⟨_, _, h3, h4, h5⟩ := runes_put h.pos (h.words x hx)
    have := hle x hx
    have h1 : 1 ≤ rlen x ∧ rlen x ≤ 12 := of_decide_eq_true (h.words x hx)
    refine decide_eq_true ⟨?_, ?_⟩ <;> omega
  rw [if_neg (by have := h.few; simp; omega), if_neg (by simp; exact hw), if_neg ?_]
  rw [(risesB_iff _).2 ?_]
  · simp
  · unfold Rises
    rw [List.pairwise_map]
    refine h.ris.imp fun {a b} hab => ?_
    rw [cmpB_lt] at hab ⊢
    rw [ByteArray.data_append, ByteArray.data_append, Array.toList_append, Array.toList_append]
    exact List.append_left_lt hab
theorem Put.nodes {s : ByteArray} {l : List ByteArray} (h : Put s l) (hle : ∀ x ∈ l, rlen x + rlen s ≤ 12) : ((graphOf (textsOf (putL' s l))).length : Int) = (graphOf (textsOf l)).length + rlen s := by
  unfold graphOf
  rw [List.length_map, List.length_map]
  have e : textsOf (putL' s l) = (textsOf l).map (runes s 0 ++ ·) := by
    unfold textsOf putL'
    rw [List.map_map, List.map_map]
    exact List.map_congr_left fun x hx => (runes_put h.pos (h.words x hx)).1
  have h1 := put_len (runes s 0) 13 (textsOf l) (by omega) (by have := h.some; simpa [textsOf] using this) (fun y hy => by
    obtain ⟨t, ht, rfl⟩ := List.mem_map.1 hy
    obtain ⟨x, hx, rfl⟩ := List.mem_map.1 ht
    have h2 := runes_put h.pos (h.words x hx)
    have := hle x hx
    rw [List.length_append]
    omega)
  rw [e]
  unfold nodesOf at h1 ⊢
  rw [h1]
  cases l with
  | nil => exact absurd rfl h.some
  | cons x l =>
    have h2 := (runes_put h.pos (h.words x (by simp))).2.2.1
    rw [h2]
    omega

theorem cell_ext {w w' : World} {b o : Nat} {v : Value} (h : w.cell? ⟨b, o, none⟩ = some v) (hl : b < w.heap.size) (hb : Below w.heap.size w w') : w'.cell? ⟨b, o, none⟩ = some v :=
  (World.cell?_of_block (a := ⟨b, o, none⟩) (hb.block b hl)).trans h
theorem k71 {w : World} {s : ByteArray} {n : Int} (hs : s.size ≤ 1000000) (hn : n = rlen s) : Calls Try.prog 71 #[.string s] w fun e w' => e = .returned (.int .i64 n) ∧ Below w.heap.size w w' := by
  rw [hn]; exact c71 s w (by omega)
theorem q29' {w : World} {v : Value} {ns : List Nd} {n : Nat} (h : GraphV w 0 v ns) (hn : n = ns.length) : Calls Try.prog 29 #[v] w fun e w' => e = .returned (.int .i64 n) ∧ w = w' :=
  (c29 w 0 v ns h).mono fun e w' ⟨h1, h2⟩ => ⟨by rw [hn]; exact h1, h2⟩

set_option maxHeartbeats 4000000 in
set_option maxRecDepth 100000 in
/-- inkhornlaw8.GraphPut -/
theorem c20 (w : World) (A : Option Addr) (c : Nat) (xs : List ByteArray) (s : ByteArray) (hx : Strs w 0 A c xs) (hs : s.size ≤ 9223372036854775807) :
    Calls Try.prog 20 #[.slice A xs.length c, .string s] w fun e w' => e = .returned (.bool true) ∧ Below w.heap.size w w' := by
  have HB : Hid (Below w.heap.size w w) := Lib.hid (Below.refl _ _)
  have Sa := Lib.hid hx
  have hl_a := hx.2.1
  have hm_a := hx.2.2
  clear hx
  obtain ⟨gr, hgr⟩ : ∃ g, g = greatB xs := ⟨_, rfl⟩
  have HGR := Lib.hid hgr
  clear hgr
  cases gr
  · have HSM := Lib.hid (great_small HGR.out.symm)
    have hn_a := (great_false HGR.out.symm).1
    by_cases hsz : s.size ≤ 40
    · have bsz : decide ((40 : Int) < s.size) = false := by simp; omega
      have hs2 : s.size ≤ 1000000 := by omega
      obtain ⟨l, hl⟩ : ∃ l, l = sortedL xs := ⟨_, rfl⟩
      have hll : l.length ≤ 80 := by rw [hl]; exact Nat.le_trans (sortedL_len xs) hn_a
      have HL := Lib.hid hl
      obtain ⟨rs, hrs⟩ : ∃ n, n = rlen s := ⟨_, rfl⟩
      have hrl := rlen_le s
      have HRS := Lib.hid hrs
      rw [← hrs] at hrl
      clear hl hrs
      go_enter Try.func20, Try.ntmps20
      go_wp2_with fail
      (with_reducible refine (k22 Sa.out HGR.out).mono ?_); rintro e w1 ⟨rfl, hb⟩
      replace HB := Lib.hid (below_ext HB.out hb)
      replace Sa := Lib.hid (Sa.out.ext hb)
      clear hb
      go_wp2_with fail
      (with_reducible refine (k60 Sa.out HSM.out (by omega) HL.out).mono ?_); rintro e w2 ⟨A2, c2, rfl, hs2', _, hb⟩
      replace HB := Lib.hid (below_ext HB.out hb)
      have hl2 := hs2'.2.1
      have hm2 := hs2'.2.2
      have S2 := Lib.hid hs2'
      clear hb hs2' Sa
      by_cases h0 : l.length = 0
      · have b0 : ((l.length : Int) == 0) = true := by simp [h0]
        go_wp2_with fail
        (with_reducible refine (c23 _).mono ?_); rintro e w6 ⟨rfl, hb⟩
        go_wp2_with fail
        go_ret
        exact ⟨rfl, below_ext HB.out hb⟩
      · have b0 : ((l.length : Int) == 0) = false := beq_eq_false_iff_ne.2 (by omega)
        by_cases h40 : 40 < l.length
        · have b40 : decide ((40 : Int) < l.length) = true := by simp; omega
          go_wp2_with fail
          (with_reducible refine (c23 _).mono ?_); rintro e w6 ⟨rfl, hb⟩
          go_wp2_with fail
          go_ret
          exact ⟨rfl, below_ext HB.out hb⟩
        · have b40 : decide ((40 : Int) < l.length) = false := by simp; omega
          go_wp2_with fail
          (with_reducible refine (k71 hs2 HRS.out).mono ?_); rintro e w3 ⟨rfl, hb⟩
          replace HB := Lib.hid (below_ext HB.out hb)
          replace S2 := Lib.hid (S2.out.ext hb)
          clear hb
          by_cases hneg : rs < 0
          · have bn : decide (rs < 0) = true := by simpa using hneg
            go_wp2_with fail
            (with_reducible refine (c23 _).mono ?_); rintro e w6 ⟨rfl, hb⟩
            go_wp2_with fail
            go_ret
            exact ⟨rfl, below_ext HB.out hb⟩
          · have bn : decide (rs < 0) = false := by simpa using hneg
            have HP : Hid (Put s l) := Lib.hid ⟨by rw [← HRS.out]; omega, fun x hx => by rw [HL.out] at hx; exact ((sortedL_mem xs x).1 hx).2, by rw [HL.out]; exact sortedL_rises xs, by omega, by intro e; rw [e] at h0; exact h0 rfl, fun x hx => by rw [HL.out] at hx; exact (great_false HGR.out.symm).2 x ((sortedL_mem xs x).1 hx).1⟩
            have hneg' : 0 ≤ rs := by omega
            have hpos : 0 < l.length := by omega
            have h40' : l.length ≤ 40 := by omega
            clear hneg h40 h0 HL HGR HSM
            go_wp2_with fail
            go_loopw [6, 7] (fun v i wr => ∃ k : Nat, k ≤ l.length ∧ i = .int .i64 k ∧ Hid (wr.ownsRow w3.heap.size 9 1 v (putL' s (l.take k)).length (strv (putL' s (l.take k)))) ∧ Hid (Below w3.heap.size w3 wr) ∧ Hid (∀ x ∈ l.take k, rlen x + rlen s ≤ 12)) (fun _ i _ => l.length - (intOf i).toNat)
            case atStart => exact ⟨0, Nat.zero_le _, rfl, Lib.hid (by simpa [putL', strv] using World.ownsRow_nil _ _ _ _), Lib.hid (Below.refl _ _), Lib.hid (by simp)⟩
            case round =>
              obtain ⟨k, hk, rfl, HO, HB3, HLE⟩ := hrel
              replace S2 := Lib.hid (S2.out.ext HB3.out)
              by_cases hlt : k < l.length
              · obtain ⟨b1, o1, rfl, _, hb1, hcx⟩ := S2.out.at_ hlt
                obtain ⟨x, hx'⟩ : ∃ x, x = l[k] := ⟨_, rfl⟩
                rw [← hx'] at hcx
                have hsx : x.size ≤ 100 := by rw [hx']; exact HP.out.size _ (List.getElem_mem _)
                have hsx2 : x.size ≤ 1000000 := by omega
                obtain ⟨rx, hrx⟩ : ∃ n, n = rlen x := ⟨_, rfl⟩
                have hrb := rlen_le x
                rw [← hrx] at hrb
                have HRX := Lib.hid hrx
                have HT : Hid (putL' s (l.take (k + 1)) = putL' s (l.take k) ++ [s ++ x]) := Lib.hid (by rw [List.take_succ_eq_append_getElem hlt, ← hx']; simp [putL'])
                have HT2 : Hid (l.take (k + 1) = l.take k ++ [x]) := Lib.hid (by rw [List.take_succ_eq_append_getElem hlt, ← hx'])
                have hal : (putL' s (l.take k)).length ≤ 1000 := by simp [putL']; omega
                generalize putL' s (l.take k) = acc at *
                clear hx' hrx
                go_wp2_with fail
                (with_reducible refine (k71 hsx2 HRX.out).mono ?_); rintro e w4 ⟨rfl, hb⟩
                have hcx4 := cell_ext hcx hb1 hb
                have hb2 := Nat.lt_of_lt_of_le hb1 hb.size
                replace HB3 := Lib.hid (below_ext HB3.out hb)
                replace HO := Lib.hid (own_below HO.out hb)
                clear hb hcx
                go_wp2_with fail
                (with_reducible refine (k71 hs2 HRS.out).mono ?_); rintro e w5 ⟨rfl, hb⟩
                have hcx := cell_ext hcx4 hb2 hb
                replace HB3 := Lib.hid (below_ext HB3.out hb)
                replace HO := Lib.hid (own_below HO.out hb)
                clear hb hcx4
                have hsum : s.size + x.size ≤ 9223372036854775807 := by omega
                have hsum2 : ¬ (9223372036854775807 < s.size + x.size) := by omega
                by_cases h12 : 12 < rx + rs
                · have d12 : decide (12 < rx + rs) = true := by simpa using h12
                  go_wp2_with fail
                  (with_reducible refine (c23 _).mono ?_); rintro e w6 ⟨rfl, hb⟩
                  go_wp2_with fail
                  go_ret
                  exact ⟨rfl, below_ext (below_ext HB.out HB3.out) hb⟩
                · have d12 : decide (12 < rx + rs) = false := by simpa using h12
                  go_wp2_with (first
                    | (at_builtin
                       with_reducible refine wpList_append_rd infoS rfl (.tmp 52) (.tmp 59) rfl w3.heap.size _ acc.length (strv acc) rfl (HO.out.alloc _) w5.heap.size (w5.heap.size + 1) _ 1 1 [.string (s ++ x)] rfl (Rd.new w5 _ _) rfl (by simp [Value.oneCell']) (by omega) (by have := HB3.out.size; simp; omega) ?_
                       intro v1 w1 hown1 hg1 hat1
                       have X := own_step (x := s ++ x) HO.out HB3.out ((Below.refl _ _).alloc (Nat.le_refl _) _) hown1 hg1
                       clear hown1 hg1 hat1))
                  go_roundw
                  case rel =>
                    refine ⟨k + 1, by omega, by go_num, ?_, Lib.hid X.out.2, Lib.hid ?_⟩
                    · rw [HT.out]
                      exact Lib.hid (by simpa using X.out.1)
                    · rw [HT2.out]
                      intro y hy
                      rcases List.mem_append.1 hy with hy | hy
                      · exact HLE.out y hy
                      · rw [List.mem_singleton.1 hy, ← HRX.out, ← HRS.out]; omega
                  case measure => simp [intOf]; omega
              · have hge : l.length ≤ k := by omega
                rw [List.take_of_length_le hge] at HO HLE
                clear hlt hk
                obtain ⟨A6, c6, rfl, _, _⟩ := own_slice HO.out
                have HG1 : Hid ((0 : Int) = goodE l) := Lib.hid HP.out.good.symm
                have HG2 : Hid ((0 : Int) = goodE (putL' s l)) := Lib.hid (HP.out.good2 HLE.out).symm
                have SP : Hid (Strs wr 0 (A6) c6 (putL' s l)) := Lib.hid ⟨(Rd.of_own HO.out).wide (Nat.zero_le _) (Nat.le_refl _), by assumption, by assumption⟩
                have HSP : Hid (Small (putL' s l)) := Lib.hid (by
                  intro y hy
                  obtain ⟨x, hx, rfl⟩ := List.mem_map.1 hy
                  have := HP.out.size x hx
                  rw [ByteArray.size_append]; omega)
                have HSL : Hid (Small l) := Lib.hid fun x hx => Nat.le_trans (HP.out.size x hx) (by omega)
                obtain ⟨n1, hn1⟩ : ∃ n, n = (graphOf (textsOf l)).length := ⟨_, rfl⟩
                obtain ⟨n2, hn2⟩ : ∃ n, n = (graphOf (textsOf (putL' s l))).length := ⟨_, rfl⟩
                have hnn : (n2 : Int) = n1 + rs := by rw [hn1, hn2, HRS.out]; exact HP.out.nodes HLE.out
                have HN1 := Lib.hid hn1
                have HN2 := Lib.hid hn2
                have hpl : (putL' s l).length ≤ 40 := by simp [putL']; omega
                replace HB := Lib.hid (below_ext HB.out HB3.out)
                generalize putL' s l = pl at *
                clear hn1 hn2 HO HLE
                go_wp2_with fail
                (with_reducible refine (k25 S2.out HSL.out HG1.out).mono ?_); rintro e w4 ⟨p, rfl, HPA, hb⟩
                replace HB := Lib.hid (below_ext HB.out hb)
                replace SP := Lib.hid (SP.out.ext hb)
                clear hb
                obtain ⟨g1, rfl, hgv, hw⟩ := HPA.out.2 rfl
                have GV := Lib.hid hgv
                have hnb : n1 ≤ 721 := by rw [HN1.out]; unfold graphOf; rw [List.length_map]; exact nodesOf_size hw.wd
                have hrs12 : n1 + rs ≤ 1000 := by omega
                clear hgv HPA hw
                go_wp2_with fail
                (with_reducible refine (k25 SP.out HSP.out HG2.out).mono ?_); rintro e w5 ⟨p, rfl, HPA, hb⟩
                replace HB := Lib.hid (below_ext HB.out hb)
                replace GV := Lib.hid (GV.out.ext hb)
                clear hb
                obtain ⟨g2, rfl, hgv, hw⟩ := HPA.out.2 rfl
                have GV2 := Lib.hid hgv
                clear hgv HPA
                go_wp2_with fail
                (with_reducible refine (q29' GV2.out HN2.out).mono ?_); rintro e w6 ⟨rfl, rfl⟩
                go_wp2_with fail
                (with_reducible refine (q29' GV.out HN1.out).mono ?_); rintro e w6 ⟨rfl, rfl⟩
                go_wp2_with fail
                (with_reducible refine (k71 hs2 HRS.out).mono ?_); rintro e w6 ⟨rfl, hb⟩
                replace HB := Lib.hid (below_ext HB.out hb)
                clear hb
                have hq : ((n2 : Int) == (n1 : Int) + rs) = true := beq_iff_eq.2 hnn
                clear hnn hnb
                go_wp2_with fail
                (with_reducible refine (c23 _).mono ?_); rintro e w7 ⟨rfl, hb⟩
                go_wp2_with fail
                go_ret
                exact ⟨rfl, below_ext HB.out hb⟩
    · have bsz : decide ((40 : Int) < s.size) = true := by simp; omega
      go_enter Try.func20, Try.ntmps20
      go_wp2_with fail
      (with_reducible refine (k22 Sa.out HGR.out).mono ?_); rintro e w1 ⟨rfl, hb⟩
      replace HB := Lib.hid (below_ext HB.out hb)
      clear hb
      go_wp2_with fail
      (with_reducible refine (c23 _).mono ?_); rintro e w2 ⟨rfl, hb⟩
      go_wp2_with fail
      go_ret
      exact ⟨rfl, below_ext HB.out hb⟩
  · go_enter Try.func20, Try.ntmps20
    go_wp2_with fail
    (with_reducible refine (k22 Sa.out HGR.out).mono ?_); rintro e w1 ⟨rfl, hb⟩
    replace HB := Lib.hid (below_ext HB.out hb)
    clear hb
    go_wp2_with fail
    (with_reducible refine (c23 _).mono ?_); rintro e w2 ⟨rfl, hb⟩
    go_wp2_with fail
    go_ret
    exact ⟨rfl, below_ext HB.out hb⟩

end Go.Proofs.Ytepmcfleijiloaa
