/- The law GraphLeast as a contract. -/
import Derived.Test.YtepmcfleijiloaaL2
set_option linter.unusedVariables false
namespace Go.Proofs.Ytepmcfleijiloaa
open Go.RowKit

theorem deepAll (v : Value) (ns : List Nd) (hns : NsOK ns) : ∀ d, d ≤ 1000 → DeepIH v ns d
  | 0, _ => fun w n R _ h => by unfold EachOK at h; exact h.elim
  | d + 1, hd => deep v ns hns d (by omega) (deepAll v ns hns d (by omega))
/-- from, at each node of a graph of words. -/
theorem k38 {w : World} {v : Value} {xs l : List ByteArray} {k : Nat} (h : GraphV w 0 v (graphOf (textsOf xs))) (hW : Wds xs) (hk : k < (nodesOf (textsOf xs)).length) (hl : l = told [] (nodesOf (textsOf xs))[k]) :
    Calls Try.prog 38 #[v, .int .i64 k, .int .i64 13] w (NewT w l) := by
  have hm := List.getElem_mem hk
  have hN := nodesOf_nod hW.wd _ hm
  have e : (nodesOf (textsOf xs)).idxOf (nodesOf (textsOf xs))[k] = k := (nodesOf_nodup _).idxOf_getElem k hk
  have hE := eachOK hW.wd 12 _ hm hN.short
  rw [e] at hE
  rw [hl]
  exact deepAll v _ (nsOK hW.wd) 13 (by omega) w k _ h hE hN.ok hN.asc (fun t ht => Nat.lt_trans (hN.short t ht) (by omega)) (by have := hN.len; omega)
theorem told_inj : ∀ {R S : Rs}, okTs R → okTs S → told [] R = told [] S → R = S
  | [], [], _, _, _ => rfl
  | [], _ :: _, _, _, h => by simp [told] at h
  | _ :: _, [], _, _, h => by simp [told] at h
  | t :: R, u :: S, hR, hS, h => by
    simp only [told, List.map_cons, List.nil_append, List.cons.injEq] at h
    obtain ⟨h1, h2⟩ := h
    have e1 : t = u := (txt_inj (hR t (by simp)) (hS u (by simp))).1 h1
    have e2 : R = S := told_inj (fun y hy => hR y (by simp [hy])) (fun y hy => hS y (by simp [hy])) (by simpa [told] using h2)
    rw [e1, e2]
theorem infoL : Info Try.prog 50 22 (.slice none 0 0) 1 24 := ⟨Try.underlying50, by kernel_rfl, rfl, by omega, by omega⟩
/-- A list that lies beside what v grows in. -/
def Slot (w : World) (v u : Value) (l : List ByteArray) : Prop := ∃ A c lo wa, u = .slice A l.length c ∧ Held lo wa.heap.size wa w v ∧ Strs wa lo A c l
theorem Slot.ext {w w' : World} {v u : Value} {l : List ByteArray} (h : Slot w v u l) (hb : Below w.heap.size w w') : Slot w' v u l := by
  obtain ⟨A, c, lo, wa, h1, h2, h3⟩ := h
  exact ⟨A, c, lo, wa, h1, h2.ext hb, h3⟩
theorem Slot.grown {w wz w1 : World} {v v1 u : Value} {l : List ByteArray} (h : Slot w v u l) (hb : Below w.heap.size w wz) (hg : wz.grownBy w1 v.ownBlock) (hat : v1.ownBlock = v.ownBlock ∨ v1.ownBlock = some wz.heap.size) : Slot w1 v1 u l := by
  obtain ⟨A, c, lo, wa, h1, h2, h3⟩ := h
  exact ⟨A, c, lo, wa, h1, h2.grown hb hg hat, h3⟩
theorem Slot.strs {w : World} {v u : Value} {l : List ByteArray} (h : Slot w v u l) : ∃ A c, u = .slice A l.length c ∧ Strs w 0 A c l := by
  obtain ⟨A, c, lo, wa, h1, h2, h3⟩ := h
  exact ⟨A, c, h1, h2.strs h3⟩

set_option maxHeartbeats 4000000 in
set_option maxRecDepth 100000 in
/-- inkhornlaw8.GraphLeast -/
theorem c5 (w : World) (A : Option Addr) (c : Nat) (xs : List ByteArray) (hx : Strs w 0 A c xs) :
    Calls Try.prog 5 #[.slice A xs.length c] w fun e w' => e = .returned (.bool true) ∧ Below w.heap.size w w' := by
  have HB : Hid (Below w.heap.size w w) := Lib.hid (Below.refl _ _)
  have Sa := Lib.hid hx
  have hl_a := hx.2.1
  have hm_a := hx.2.2
  clear hx
  obtain ⟨gr, hgr⟩ : ∃ g, g = greatB xs := ⟨_, rfl⟩
  have HGR := Lib.hid hgr
  clear hgr
  cases gr
  · have HSM := Lib.hid (great_small HGR.out.symm)
    have hn_a := (great_false HGR.out.symm).1
    by_cases hsz : xs.length ≤ 40
    · have bsz : decide ((40 : Int) < xs.length) = false := by simp; omega
      obtain ⟨gd, hgd⟩ : ∃ g, g = goodE xs := ⟨_, rfl⟩
      have HGD := Lib.hid hgd
      clear hgd
      go_enter Try.func5, Try.ntmps5
      go_wp2_with fail
      (with_reducible refine (k22 Sa.out HGR.out).mono ?_); rintro e w1 ⟨rfl, hb⟩
      replace HB := Lib.hid (below_ext HB.out hb)
      replace Sa := Lib.hid (Sa.out.ext hb)
      clear hb
      go_wp2_with fail
      (with_reducible refine (k25 Sa.out HSM.out HGD.out).mono ?_); rintro e w2 ⟨p, rfl, HP, hb⟩
      replace HB := Lib.hid (below_ext HB.out hb)
      replace Sa := Lib.hid (Sa.out.ext hb)
      clear hb
      by_cases h0 : gd = 0
      · subst h0
        obtain ⟨g1, rfl, hgv, hw⟩ := HP.out.2 rfl
        have GV := Lib.hid hgv
        have HW := Lib.hid hw
        obtain ⟨N, hN⟩ : ∃ N, N = nodesOf (textsOf xs) := ⟨_, rfl⟩
        have hNl : N.length ≤ 721 := by rw [hN]; exact nodesOf_size hw.wd
        have hNp : 0 < N.length := by rw [hN]; obtain ⟨M, hM⟩ := nodesOf_head (textsOf xs); rw [hM]; simp
        have HN := Lib.hid hN
        have HGL : Hid (N.length = (graphOf (textsOf xs)).length) := Lib.hid (by rw [hN, graphOf_len])
        have HNO : Hid (∀ R ∈ N, Nod (textsOf xs) R) := Lib.hid (by rw [hN]; exact nodesOf_nod hw.wd)
        have HND : Hid N.Nodup := Lib.hid (by rw [hN]; exact nodesOf_nodup _)
        have HZ : Hid (told [] (N[0]'hNp) = xs) := Lib.hid (by
          have : N[0]'hNp = textsOf xs := by
            subst hN
            obtain ⟨M, hM⟩ := nodesOf_head (textsOf xs)
            simp [hM]
          rw [this]
          have h := hw.txt
          simpa [told] using h)
        clear HP hgv hw hN
        go_wp2_with fail
        (with_reducible refine (q29' GV.out HGL.out).mono ?_); rintro e w3 ⟨rfl, rfl⟩
        go_wp2_with fail
        go_loopw [6, 7] (fun vo i wr => ∃ (k : Nat) (us : List Value), k ≤ N.length ∧ Hid (us.length = k) ∧ i = .int .i64 k ∧ Hid (wr.ownsRow w2.heap.size 22 1 vo k us) ∧ Hid (Below w2.heap.size w2 wr) ∧ Hid (∀ j (h : j < N.length) (h2 : j < us.length), Slot wr vo us[j] (told [] N[j]))) (fun _ i _ => N.length - (intOf i).toNat)
        case atStart => exact ⟨0, [], by omega, Lib.hid rfl, rfl, Lib.hid (World.ownsRow_nil _ _ _ _), Lib.hid (Below.refl _ _), Lib.hid (by intro j h h2; simp at h2)⟩
        case round =>
          obtain ⟨k, us, hk, HUS, rfl, HO, HB2, HSL⟩ := hrel
          have hus := HUS.out
          obtain ⟨wo, rfl⟩ : ∃ wo : World, wo = wr := ⟨_, rfl⟩
          replace GV := Lib.hid (GV.out.ext HB2.out)
          replace Sa := Lib.hid (Sa.out.ext HB2.out)
          obtain ⟨Ar, cr, rfl, har, hac⟩ := own_slice HO.out
          by_cases hlt : k < N.length
          · obtain ⟨l, hl⟩ : ∃ l, l = told [] N[k] := ⟨_, rfl⟩
            have HL := Lib.hid hl
            have hll : l.length ≤ 60 := by rw [hl, told_len]; exact (HNO.out _ (List.getElem_mem hlt)).len
            have hne : l.length = 0 → xs.length = 0 := fun h => by
              rw [hl, told_len] at h
              rcases Nat.eq_zero_or_pos xs.length with h2 | h2
              · exact h2
              · exact absurd (List.eq_nil_of_length_eq_zero h) ((HNO.out _ (List.getElem_mem hlt)).ne (by intro e; have := congrArg List.length e; simp [textsOf] at this; subst this; simp at h2))
            have HLK : Hid (l = told [] ((nodesOf (textsOf xs))[k]'(by rw [← HN.out]; exact hlt))) := Lib.hid (by rw [hl]; have := HN.out; subst this; rfl)
            clear hl
            go_wp2_with fail
            (with_reducible refine (k38 GV.out HW.out (by rw [← HN.out]; exact hlt) HLK.out).mono ?_); rintro e w4 ⟨A4, c4, rfl, hs4, ho4, hb⟩
            have hl4 := hs4.2.1
            have hm4 := hs4.2.2
            have S4 : Hid (Strs w4 wo.heap.size A4 c4 l) := Lib.hid (by obtain ⟨_, _, e, h⟩ := IsStrs.of_own ho4; cases e; exact h)
            have HSl4 : Hid (Slot w4 (.slice Ar k cr) (.slice A4 l.length c4) l) := Lib.hid ⟨A4, c4, wo.heap.size, w4, rfl, Held.refl fun b hb => (HO.out.lt b hb).2, S4.out⟩
            replace HSL : Hid (∀ j (h : j < N.length) (h2 : j < us.length), Slot w4 (.slice Ar k cr) us[j] (told [] N[j])) := Lib.hid fun j h h2 => (HSL.out j h h2).ext hb
            replace HO := Lib.hid (own_below HO.out hb)
            replace HB2 := Lib.hid (below_ext HB2.out hb)
            replace Sa := Lib.hid (Sa.out.ext hb)
            replace GV := Lib.hid (GV.out.ext hb)
            have S40 := Lib.hid hs4
            clear hs4 ho4 hb S4
            go_wp2_with fail
            go_loopw [9] (fun j wr => ∃ m : Nat, m ≤ k ∧ j = .int .i64 m ∧ Hid (Below w4.heap.size w4 wr)) (fun j _ => k - (intOf j).toNat)
            case atStart => exact ⟨0, by omega, rfl, Lib.hid (Below.refl _ _)⟩
            case round =>
              obtain ⟨m, hm, rfl, HB4⟩ := hrel
              by_cases hmk : m < k
              · have hmu : m < us.length := by omega
                obtain ⟨b5, o5, hA, _, hb5, hc5⟩ := ((Rd.of_own HO.out).ext HB4.out).at_ hmu
                subst hA
                obtain ⟨A6, c6, hu, hs6⟩ := ((HSL.out m (by omega) hmu).ext HB4.out).strs
                rw [hu] at hc5
                obtain ⟨l6, hl6⟩ : ∃ l6, l6 = told [] (N[m]'(by omega)) := ⟨_, rfl⟩
                rw [← hl6] at hc5 hs6
                have HDF : Hid (false = decide (l6 = l)) := Lib.hid (by
                  symm
                  apply decide_eq_false
                  rw [hl6, HL.out]
                  intro e
                  have h1 := told_inj (HNO.out _ (List.getElem_mem (by omega))).ok (HNO.out _ (List.getElem_mem hlt)).ok e
                  have h2 := (List.getElem_inj HND.out).1 h1
                  omega)
                have S6 := Lib.hid hs6
                have S41 := Lib.hid (S40.out.ext HB4.out)
                clear hl6 hs6 hu
                go_wp2_with fail
                (with_reducible refine (k39 S6.out S41.out HDF.out).mono ?_); rintro e w7 ⟨rfl, hb⟩
                go_wp2_with fail
                go_roundw
                case rel => exact ⟨m + 1, by omega, by go_num, Lib.hid (below_ext HB4.out hb)⟩
                case measure => simp [intOf]; omega
              · obtain rfl : m = k := by omega
                have hul : us.length ≤ 721 := by omega
                replace HO := Lib.hid (own_below HO.out HB4.out)
                replace HB2 := Lib.hid (below_ext HB2.out HB4.out)
                replace HSl4 := Lib.hid (HSl4.out.ext HB4.out)
                replace HSL : Hid (∀ j (h : j < N.length) (h2 : j < us.length), Slot wr (.slice Ar m cr) us[j] (told [] N[j])) := Lib.hid fun j h h2 => (HSL.out j h h2).ext HB4.out
                by_cases hl0 : l.length = 0
                · have bl0 : ((l.length : Int) == 0) = true := by simp [hl0]
                  have nx0 : ¬ 0 < xs.length := by have := hne hl0; omega
                  have bx0 : decide ((0 : Int) < xs.length) = false := decide_eq_false (by have := hne hl0; omega)
                  clear hne hmk hm hl0
                  go_wp2_with (first
                    | (at_builtin
                       with_reducible refine wpList_append_rd infoL rfl (.tmp 64) (.tmp 66) rfl w2.heap.size (.slice Ar m cr) m us rfl (HO.out.alloc _) wr.heap.size (wr.heap.size + 1) _ 1 1 [.slice A4 l.length c4] rfl (Rd.new wr _ _) rfl (by simp [Value.oneCell']) (by omega) (by have := HB2.out.size; simp; omega) ?_
                       intro v1 w1 hown1 hg1 hat1
                       have X : Hid (w1.ownsRow w2.heap.size 22 1 v1 (m + 1) (us ++ [.slice A4 l.length c4])) := Lib.hid hown1
                       have X2 : Hid (Below w2.heap.size w2 w1) := Lib.hid (below_grown (below_ext HB2.out ((Below.refl _ _).alloc (Nat.le_refl _) _)) (own_below HO.out ((Below.refl _ _).alloc (Nat.le_refl _) _)) hg1 (Nat.le_refl _) (Nat.le_trans HB2.out.size (by simp)))
                       have X3 : Hid (Slot w1 v1 (.slice A4 l.length c4) l) := Lib.hid (HSl4.out.grown ((Below.refl _ _).alloc (Nat.le_refl _) _) hg1 hat1)
                       have X4 : Hid (∀ j (h : j < N.length) (h2 : j < us.length), Slot w1 v1 us[j] (told [] N[j])) := Lib.hid fun j h h2 => (HSL.out j h h2).grown ((Below.refl _ _).alloc (Nat.le_refl _) _) hg1 hat1
                       clear hown1 hg1 hat1))
                  go_roundw
                  case rel =>
                    refine ⟨m + 1, us ++ [.slice A4 l.length c4], by omega, Lib.hid (by simp; omega), by go_num, X, X2, Lib.hid fun j h h2 => ?_⟩
                    rcases Nat.lt_or_ge j us.length with h3 | h3
                    · rw [List.getElem_append_left h3]; exact X4.out j h h3
                    · obtain rfl : j = m := by simp at h2; omega
                      rw [List.getElem_append_right h3, ← HL.out]
                      simp
                      exact X3.out
                  case measure => simp [intOf]; omega
                · have bl0 : ((l.length : Int) == 0) = false := beq_eq_false_iff_ne.2 (by omega)
                  clear hne hmk hm hl0
                  go_wp2_with (first
                    | (at_builtin
                       with_reducible refine wpList_append_rd infoL rfl (.tmp 64) (.tmp 66) rfl w2.heap.size (.slice Ar m cr) m us rfl (HO.out.alloc _) wr.heap.size (wr.heap.size + 1) _ 1 1 [.slice A4 l.length c4] rfl (Rd.new wr _ _) rfl (by simp [Value.oneCell']) (by omega) (by have := HB2.out.size; simp; omega) ?_
                       intro v1 w1 hown1 hg1 hat1
                       have X : Hid (w1.ownsRow w2.heap.size 22 1 v1 (m + 1) (us ++ [.slice A4 l.length c4])) := Lib.hid hown1
                       have X2 : Hid (Below w2.heap.size w2 w1) := Lib.hid (below_grown (below_ext HB2.out ((Below.refl _ _).alloc (Nat.le_refl _) _)) (own_below HO.out ((Below.refl _ _).alloc (Nat.le_refl _) _)) hg1 (Nat.le_refl _) (Nat.le_trans HB2.out.size (by simp)))
                       have X3 : Hid (Slot w1 v1 (.slice A4 l.length c4) l) := Lib.hid (HSl4.out.grown ((Below.refl _ _).alloc (Nat.le_refl _) _) hg1 hat1)
                       have X4 : Hid (∀ j (h : j < N.length) (h2 : j < us.length), Slot w1 v1 us[j] (told [] N[j])) := Lib.hid fun j h h2 => (HSL.out j h h2).grown ((Below.refl _ _).alloc (Nat.le_refl _) _) hg1 hat1
                       clear hown1 hg1 hat1))
                  go_roundw
                  case rel =>
                    refine ⟨m + 1, us ++ [.slice A4 l.length c4], by omega, Lib.hid (by simp; omega), by go_num, X, X2, Lib.hid fun j h h2 => ?_⟩
                    rcases Nat.lt_or_ge j us.length with h3 | h3
                    · rw [List.getElem_append_left h3]; exact X4.out j h h3
                    · obtain rfl : j = m := by simp at h2; omega
                      rw [List.getElem_append_right h3, ← HL.out]
                      simp
                      exact X3.out
                  case measure => simp [intOf]; omega
          · obtain rfl : k = N.length := by omega
            obtain ⟨b5, o5, hA, _, hb5, hc5⟩ := (Rd.of_own HO.out).at_ (k := 0) (by omega)
            subst hA
            obtain ⟨A6, c6, hu, hs6⟩ := (HSL.out 0 hNp (by omega)).strs
            rw [HZ.out] at hu hs6
            rw [hu, Nat.add_zero] at hc5
            have S6 := Lib.hid hs6
            have dn : decide ((1 : Int) ≤ N.length) = true := by simp; omega
            clear hlt hk hu hs6 HSL
            go_wp2_with fail
            (with_reducible refine (k39 S6.out Sa.out (b := true) (by simp)).mono ?_); rintro e w7 ⟨rfl, hb⟩
            go_wp2_with fail
            (with_reducible refine (c23 _).mono ?_); rintro e w8 ⟨rfl, hb2⟩
            go_wp2_with fail
            go_ret
            exact ⟨rfl, below_ext HB.out (below_ext HB2.out (below_ext hb hb2))⟩
      · have hp := HP.out.1 h0
        subst hp
        have hg : (gd != 0) = true := by simpa using h0
        have H0 := Lib.hid h0
        clear h0 HP
        go_wp2_with fail
        (with_reducible refine (c23 _).mono ?_); rintro e w6 ⟨rfl, hb⟩
        go_wp2_with fail
        go_ret
        exact ⟨rfl, below_ext HB.out hb⟩
    · have bsz : decide ((40 : Int) < xs.length) = true := by simp; omega
      go_enter Try.func5, Try.ntmps5
      go_wp2_with fail
      (with_reducible refine (k22 Sa.out HGR.out).mono ?_); rintro e w1 ⟨rfl, hb⟩
      replace HB := Lib.hid (below_ext HB.out hb)
      clear hb
      go_wp2_with fail
      (with_reducible refine (c23 _).mono ?_); rintro e w2 ⟨rfl, hb⟩
      go_wp2_with fail
      go_ret
      exact ⟨rfl, below_ext HB.out hb⟩
  · go_enter Try.func5, Try.ntmps5
    go_wp2_with fail
    (with_reducible refine (k22 Sa.out HGR.out).mono ?_); rintro e w1 ⟨rfl, hb⟩
    replace HB := Lib.hid (below_ext HB.out hb)
    clear hb
    go_wp2_with fail
    (with_reducible refine (c23 _).mono ?_); rintro e w2 ⟨rfl, hb⟩
    go_wp2_with fail
    go_ret
    exact ⟨rfl, below_ext HB.out hb⟩

end Go.Proofs.Ytepmcfleijiloaa
