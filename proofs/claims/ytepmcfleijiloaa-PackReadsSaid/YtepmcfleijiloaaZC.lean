/- Joined: P10 M19 M20 M21 M22 M23 M24 M25 M26 M27 M28 M29 -/
import Derived.Test.YtepmcfleijiloaaP5
import Derived.Test.YtepmcfleijiloaaZB
import Derived.Test.YtepmcfleijiloaaG3
import Derived.Test.YtepmcfleijiloaaZA
section
set_option linter.unusedVariables false
/- Edges and nodes of a graph; the length of its image. -/
namespace Go.Proofs.Ytepmcfleijiloaa

/-- How many edges rests have. -/
def edgN (M : List Rs) : Nat := (M.map fun x => (groups x).length).sum
theorem edgN_append (a b : List Rs) : edgN (a ++ b) = edgN a + edgN b := by simp [edgN]
theorem edgN_one (R : Rs) : edgN [R] = (groups R).length := by simp [edgN]
theorem addG_edges_of {d : Nat} (ih : ∀ N R, ∃ M, addN d N R = N ++ M ∧ M.length ≤ 1 + edgN M) : ∀ (gs : List (Nat × Rs)) (N : List Rs), ∃ M, addG d N gs = N ++ M ∧ M.length ≤ gs.length + edgN M
  | [], N => ⟨[], by simp [addG_nil], by simp⟩
  | g :: gs, N => by
    obtain ⟨M1, h1, h2⟩ := ih N g.2
    obtain ⟨M2, h3, h4⟩ := addG_edges_of ih gs (addN d N g.2)
    refine ⟨M1 ++ M2, ?_, ?_⟩
    · rw [addG_cons, h3, h1, List.append_assoc]
    · rw [edgN_append, List.length_append, List.length_cons]; omega
theorem addN_edges : ∀ (d : Nat) (N : List Rs) (R : Rs), ∃ M, addN d N R = N ++ M ∧ M.length ≤ 1 + edgN M
  | 0, N, R => ⟨[], by simp [addN], by simp⟩
  | d + 1, N, R => by
    by_cases h : R ∈ N
    · exact ⟨[], by rw [addN_old d N R h]; simp, by simp⟩
    · obtain ⟨M, h1, h2⟩ := addG_edges_of (addN_edges d) (groups R) (N ++ [R])
      refine ⟨[R] ++ M, ?_, ?_⟩
      · rw [addN_new d N R h, h1, List.append_assoc]
      · rw [edgN_append, edgN_one, List.length_append]; simp; omega

end Go.Proofs.Ytepmcfleijiloaa

end
section
set_option linter.unusedVariables false
set_option linter.unusedSimpArgs false
/- PackBack. -/
namespace Go.Proofs.Ytepmcfleijiloaa
open Go.RowKit

set_option maxHeartbeats 4000000 in
set_option maxRecDepth 100000 in
/-- inkhornlaw9.PackBack -/
theorem c13 (w : World) (A : Option Addr) (c : Nat) (xs : List ByteArray) (hx : Strs w 0 A c xs) :
    Calls Try.prog 13 #[.slice A xs.length c] w fun e w' => e = .returned (.bool true) ∧ Below w.heap.size w w' := by
  have HB : Hid (Below w.heap.size w w) := Lib.hid (Below.refl _ _)
  have Sa := Lib.hid hx
  have hl_a := hx.2.1
  have hm_a := hx.2.2
  clear hx
  obtain ⟨gr, hgr⟩ : ∃ g, g = greatB xs := ⟨_, rfl⟩
  have HGR := Lib.hid hgr
  clear hgr
  cases gr
  · have HSM := Lib.hid (great_small HGR.out.symm)
    obtain ⟨gd, hgd⟩ : ∃ g, g = goodE xs := ⟨_, rfl⟩
    have HGD := Lib.hid hgd
    clear hgd
    go_enter Try.func13, Try.ntmps13
    go_wp2_with fail
    (with_reducible refine (k22 Sa.out HGR.out).mono ?_); rintro e w1 ⟨rfl, hb⟩
    replace HB := Lib.hid (below_ext HB.out hb)
    replace Sa := Lib.hid (Sa.out.ext hb)
    clear hb
    have hs01 := HB.out.size
    go_wp2_with fail
    (with_reducible refine (c49 Sa.out HSM.out HGD.out).mono ?_); rintro e w2 ⟨A1, n1, c1, rfl, HP1, hb⟩
    replace HB := Lib.hid (below_ext HB.out hb)
    replace Sa := Lib.hid (Sa.out.ext hb)
    clear hb
    by_cases h0 : gd = 0
    · subst h0
      obtain ⟨hw, hn1, ho1⟩ := HP1.out.2 rfl
      have HW := Lib.hid hw
      have HN1 := Lib.hid hn1
      have BY := Lib.hid (owned_byts ho1)
      clear hw hn1 ho1 HP1
      go_wp2_with fail
      (with_reducible refine (c54 BY.out HW.out HN1.out HSM.out HGD.out).mono ?_); rintro e w3 ⟨q, rfl, hgv, hb⟩
      replace HB := Lib.hid (below_ext HB.out hb)
      replace Sa := Lib.hid (Sa.out.ext hb)
      replace BY := Lib.hid (BY.out.ext hb)
      have GV := Lib.hid hgv
      clear hgv hb
      go_wp2_with fail
      (with_reducible refine (c52 w3 q _ GV.out (ok9 HW.out)).mono ?_); rintro e w4 ⟨A7, c7, rfl, ho, hb⟩
      replace HB := Lib.hid (below_ext HB.out hb)
      replace Sa := Lib.hid (Sa.out.ext hb)
      replace BY := Lib.hid (BY.out.ext hb)
      replace GV := Lib.hid (GV.out.ext hb)
      have BY7 := Lib.hid (owned_byts ho)
      clear ho hb
      go_wp2_with fail
      (with_reducible refine (k45 GV.out HW.out).mono ?_); rintro e w5 ⟨A11, c11, rfl, hs11, _, hb⟩
      replace HB := Lib.hid (below_ext HB.out hb)
      replace Sa := Lib.hid (Sa.out.ext hb)
      replace BY := Lib.hid (BY.out.ext hb)
      replace BY7 := Lib.hid (BY7.out.ext hb)
      have S11 := Lib.hid hs11
      clear hb hs11 GV
      go_wp2_with fail
      (with_reducible refine (k39 S11.out Sa.out (b := true) (by simp)).mono ?_); rintro e w6 ⟨rfl, hb⟩
      replace HB := Lib.hid (below_ext HB.out hb)
      replace BY := Lib.hid (BY.out.ext hb)
      replace BY7 := Lib.hid (BY7.out.ext hb)
      clear hb S11 Sa
      go_wp2_with fail
      (with_reducible refine (c51 BY7.out BY.out rfl HN1.out (b := true) (by simp)).mono ?_); rintro e w7 ⟨rfl, hb⟩
      replace HB := Lib.hid (below_ext HB.out hb)
      clear hb
      go_wp2_with fail
      (with_reducible refine (c48 _).mono ?_); rintro e w10 ⟨rfl, hb⟩
      go_wp2_with fail
      go_ret
      exact ⟨rfl, below_ext HB.out hb⟩
    · obtain ⟨hA1, hn1, hc1⟩ := HP1.out.1 h0
      subst hA1 hn1 hc1
      have hg : (gd != 0) = true := by simpa using h0
      clear h0 HP1
      go_wp2_with fail
      (with_reducible refine (c48 _).mono ?_); rintro e w10 ⟨rfl, hb⟩
      go_wp2_with fail
      go_ret
      exact ⟨rfl, below_ext HB.out hb⟩
  · go_enter Try.func13, Try.ntmps13
    go_wp2_with fail
    (with_reducible refine (k22 Sa.out HGR.out).mono ?_); rintro e w1 ⟨rfl, hb⟩
    replace HB := Lib.hid (below_ext HB.out hb)
    clear hb
    go_wp2_with fail
    (with_reducible refine (c48 _).mono ?_); rintro e w2 ⟨rfl, hb⟩
    go_wp2_with fail
    go_ret
    exact ⟨rfl, below_ext HB.out hb⟩

end Go.Proofs.Ytepmcfleijiloaa

end
section
set_option linter.unusedVariables false
set_option linter.unusedSimpArgs false
/- Graph.whole, of any graph. -/
namespace Go.Proofs.Ytepmcfleijiloaa
open Go.RowKit

/-- A graph in memory, any one whose edges lead to its nodes. -/
structure GdA (w0 : World) (g b o c nl : Nat) (ns : List Nd) : Prop where
  nleq : nl = ns.length
  cap : nl ≤ c
  cap2 : c ≤ 9223372036854775807
  top : ∀ w', Below w0.heap.size w0 w' → w'.cell? ⟨g, 0, none⟩ = some (.slice (some ⟨b, o, none⟩) nl c)
  node : ∀ k (hk : k < ns.length), ∃ A2 c2, ∀ w', Below w0.heap.size w0 w' → w'.cell? ⟨b, o + k * 2, none⟩ = some (.bool ns[k].1) ∧ w'.cell? ⟨b, o + k * 2 + 1, none⟩ = some (.slice A2 ns[k].2.length c2) ∧ Edgs w' 0 A2 c2 ns[k].2
  few : ∀ k (hk : k < ns.length), ns[k].2.length ≤ 65535
  to_ : ∀ k (hk : k < ns.length), ∀ e ∈ ns[k].2, e.2 < nl
  rn : ∀ k (hk : k < ns.length), ∀ e ∈ ns[k].2, e.1 ≤ 1114111
def WholeA (w0 : World) (g b o c nl gv sv fv sb : Nat) (f : Nat) : Prop := ∀ (n : Nat) (hn : n < nl) (d : Nat) (w : World) (s : List Nat), d ≤ 13 → 14 ≤ f + d → Wh w0 w g gv sv fv sb nl s →
  Calls Try.prog 124 #[.int .i64 n, .int .i64 d, .pointer (some ⟨gv, 0, none⟩), .pointer (some ⟨sv, 0, none⟩), .pointer (some ⟨fv, 0, none⟩)] w fun e w' => ∃ (bb : Bool) (s' : List Nat), e = .returned (.bool bb) ∧ Wh w0 w' g gv sv fv sb nl s'
theorem WholeA.call {w0 : World} {g b o c nl gv sv fv sb : Nat} {f : Nat} (h : WholeA w0 g b o c nl gv sv fv sb f) (n : Nat) (hn : n < nl) (d : Nat) (w : World) (s : List Nat) (h1 : d ≤ 13) (h2 : 14 ≤ f + d) (h3 : Wh w0 w g gv sv fv sb nl s) (e : Int) (he : e = d) :
    Calls Try.prog 124 #[.int .i64 n, .int .i64 e, .pointer (some ⟨gv, 0, none⟩), .pointer (some ⟨sv, 0, none⟩), .pointer (some ⟨fv, 0, none⟩)] w fun e w' => ∃ (bb : Bool) (s' : List Nat), e = .returned (.bool bb) ∧ Wh w0 w' g gv sv fv sb nl s' := by rw [he]; exact h n hn d w s h1 h2 h3

set_option maxHeartbeats 8000000 in
set_option maxRecDepth 100000 in
theorem wholeA1 {w0 : World} {g b o c nl gv sv fv sb : Nat} {ns : List Nd} (hg : GdA w0 g b o c nl ns) (f : Nat) (ih : WholeA w0 g b o c nl gv sv fv sb f) : WholeA w0 g b o c nl gv sv fv sb (f + 1) := by
  intro n hnn d w s hd hfd hW
  have HW := Lib.hid hW
  have hn : n < ns.length := by have := hg.nleq; omega
  obtain ⟨A2, c2, hnode⟩ := hg.node n hn
  have hsl : n < s.length := by have := hW.len; omega
  obtain ⟨fi, hfi⟩ : ∃ x, x = ns[n].1 := ⟨_, rfl⟩
  obtain ⟨es, hes⟩ : ∃ x, x = ns[n].2 := ⟨_, rfl⟩
  have hel := hg.few n hn
  have HTO := Lib.hid (hg.to_ n hn)
  rw [← hfi, ← hes] at hnode
  rw [← hes] at hel HTO
  have HNO := Lib.hid hnode
  have k1 := hg.top w hW.bel
  obtain ⟨k2, k3, k4⟩ := hnode w hW.bel
  have hl1 := k4.2.1
  have hl2 := k4.2.2
  obtain ⟨c1, c3, c4, c5, c6⟩ := hW.cells
  have c5n := c5 n hsl
  obtain ⟨sn, hsn⟩ : ∃ x, x = s[n] := ⟨_, rfl⟩
  rw [← hsn] at c5n
  have hcap := hg.cap
  have hcap2 := hg.cap2
  have hb0 : b < w.heap.size := World.block_lt_of_cell? _ _ k2
  have hg0 : g < w.heap.size := World.block_lt_of_cell? _ _ k1
  have hgv0 : gv < w.heap.size := World.block_lt_of_cell? _ _ c1
  have hsv0 : sv < w.heap.size := World.block_lt_of_cell? _ _ c3
  have hfv0 : fv < w.heap.size := World.block_lt_of_cell? _ _ c4
  have hsb0 : sb < w.heap.size := hW.lt
  have f6 := c6 n
  have D1 := hW.d1
  have D2 := hW.d2
  have D3 := hW.d3
  clear hg hW hnode hfi hes k4 c5 c6 hsn
  by_cases h2 : sn = 2
  · have b2 : ((sn : Int) == 2) = true := by rw [h2]; rfl
    clear h2
    go_enter Try.func124, Try.ntmps124
    go_wp2_with fail
    go_ret
    have hx : Below w.heap.size w (w.alloc (.cells #[.bool fi, .slice A2 es.length c2] 93)) := (Below.refl _ _).alloc (Nat.le_refl _) _
    exact ⟨true, s, rfl, HW.out.ext hx⟩
  · have b2 : ((sn : Int) == 2) = false := beq_eq_false_iff_ne.2 (by omega)
    by_cases h1 : sn = 1
    · have b1 : ((sn : Int) == 1) = true := by rw [h1]; rfl
      clear h1 h2
      go_enter Try.func124, Try.ntmps124
      go_wp2_with fail
      go_ret
      have hx : Below w.heap.size w (w.alloc (.cells #[.bool fi, .slice A2 es.length c2] 93)) := (Below.refl _ _).alloc (Nat.le_refl _) _
      exact ⟨false, s, rfl, HW.out.ext hx⟩
    · have b1 : ((sn : Int) == 1) = false := beq_eq_false_iff_ne.2 (by omega)
      have n1 : ¬ ((sn : Int) = 1) := by omega
      by_cases hdd : d = 13
      · have hd12 : decide ((12 : Int) < d) = true := decide_eq_true (by omega)
        go_enter Try.func124, Try.ntmps124
        go_wp2_with fail
        go_ret
        have hx : Below w.heap.size w (w.alloc (.cells #[.bool fi, .slice A2 es.length c2] 93)) := (Below.refl _ _).alloc (Nat.le_refl _) _
        exact ⟨false, s, rfl, HW.out.ext hx⟩
      · have hd12 : decide ((12 : Int) < d) = false := decide_eq_false (by omega)
        cases fi
        · by_cases h0 : es.length = 0
          · have be : ((es.length : Int) == 0) = true := by rw [h0]; rfl
            clear h0
            go_enter Try.func124, Try.ntmps124
            go_wp2_with fail
            go_ret
            have hx : Below w.heap.size w (w.alloc (.cells #[.bool false, .slice A2 es.length c2] 93)) := (Below.refl _ _).alloc (Nat.le_refl _) _
            exact ⟨false, s, rfl, HW.out.ext hx⟩
          · have be : ((es.length : Int) == 0) = false := beq_eq_false_iff_ne.2 (by omega)
            go_enter Try.func124, Try.ntmps124
            go_wp2_with fail
            have HWL : Hid (Wh w0 ((w.setCell ⟨sb, n, none⟩ (.int .i64 1)).alloc (.cells #[.bool false, .slice A2 es.length c2] 93)) g gv sv fv sb nl (s.set n 1)) := Lib.hid ((HW.out.set n 1).ext ((Below.refl _ _).alloc (Nat.le_refl _) _))
            clear k1 k2 k3 c1 c3 c4 f6 c5n
            go_loopw [49] (fun i wr => ∃ (m : Nat) (s1 : List Nat), m ≤ es.length ∧ i = .int .i64 m ∧ Hid (Wh w0 wr g gv sv fv sb nl s1)) (fun i _ => es.length - (intOf i).toNat)
            case atStart => exact ⟨0, s.set n 1, by omega, rfl, HWL⟩
            case round =>
              clear HWL
              obtain ⟨m, s1, hm, rfl, HWr⟩ := hrel
              obtain ⟨c1, c3, c4, c5, c6⟩ := HWr.out.cells
              have f6 := c6 n
              have hsb1 : sb < wr.heap.size := HWr.out.lt
              have hs1l : n < s1.length := by have := HWr.out.len; omega
              by_cases hlt : m < es.length
              · obtain ⟨b9, o9, hA, _, hb9, hx1, hx2⟩ := ((HNO.out wr HWr.out.bel).2.2).at_ hlt
                subst hA
                obtain ⟨r, hr⟩ : ∃ r, r = es[m].1 := ⟨_, rfl⟩
                obtain ⟨tn, htn⟩ : ∃ t, t = es[m].2 := ⟨_, rfl⟩
                have htl : tn < nl := by rw [htn]; exact HTO.out _ (List.getElem_mem hlt)
                rw [← hr] at hx1
                rw [← htn] at hx2
                have HXA : Hid (Below wr.heap.size wr (wr.alloc (.cells #[.int .i32 r, .int .i64 tn] 49))) := Lib.hid ((Below.refl _ _).alloc (Nat.le_refl _) _)
                have HCALL := Lib.hid (ih.call tn htl (d + 1) (wr.alloc (.cells #[.int .i32 r, .int .i64 tn] 49)) s1 (by omega) (by omega) (HWr.out.ext HXA.out) ((d : Int) + 1) (by omega))
                have hfv1 : fv < wr.heap.size := World.block_lt_of_cell? _ _ c4
                have hdb : d ≤ 12 := by omega
                clear hr htn htl c5 c6
                go_wp2_with fail
                (with_reducible refine HCALL.out.mono ?_); rintro e w5 ⟨bb, s2, rfl, hw5⟩
                have HW5 := Lib.hid hw5
                clear hw5
                cases bb
                · go_wp2_with fail
                  go_ret
                  exact ⟨false, s2, rfl, HW5.out⟩
                · go_wp2_with fail
                  go_roundw
                  case rel => exact ⟨m + 1, s2, by omega, by go_num, HW5⟩
                  case measure => simp [intOf]; omega
              · obtain rfl : m = es.length := by omega
                have hc5 := c5 n hs1l
                clear c5 c6 hlt
                go_wp2_with fail
                go_ret
                exact ⟨true, s1.set n 2, rfl, HWr.out.set n 2⟩
        · go_enter Try.func124, Try.ntmps124
          go_wp2_with fail
          have HWL : Hid (Wh w0 ((w.setCell ⟨sb, n, none⟩ (.int .i64 1)).alloc (.cells #[.bool true, .slice A2 es.length c2] 93)) g gv sv fv sb nl (s.set n 1)) := Lib.hid ((HW.out.set n 1).ext ((Below.refl _ _).alloc (Nat.le_refl _) _))
          clear k1 k2 k3 c1 c3 c4 f6 c5n
          go_loopw [49] (fun i wr => ∃ (m : Nat) (s1 : List Nat), m ≤ es.length ∧ i = .int .i64 m ∧ Hid (Wh w0 wr g gv sv fv sb nl s1)) (fun i _ => es.length - (intOf i).toNat)
          case atStart => exact ⟨0, s.set n 1, by omega, rfl, HWL⟩
          case round =>
            clear HWL
            obtain ⟨m, s1, hm, rfl, HWr⟩ := hrel
            obtain ⟨c1, c3, c4, c5, c6⟩ := HWr.out.cells
            have f6 := c6 n
            have hsb1 : sb < wr.heap.size := HWr.out.lt
            have hs1l : n < s1.length := by have := HWr.out.len; omega
            by_cases hlt : m < es.length
            · obtain ⟨b9, o9, hA, _, hb9, hx1, hx2⟩ := ((HNO.out wr HWr.out.bel).2.2).at_ hlt
              subst hA
              obtain ⟨r, hr⟩ : ∃ r, r = es[m].1 := ⟨_, rfl⟩
              obtain ⟨tn, htn⟩ : ∃ t, t = es[m].2 := ⟨_, rfl⟩
              have htl : tn < nl := by rw [htn]; exact HTO.out _ (List.getElem_mem hlt)
              rw [← hr] at hx1
              rw [← htn] at hx2
              have HXA : Hid (Below wr.heap.size wr (wr.alloc (.cells #[.int .i32 r, .int .i64 tn] 49))) := Lib.hid ((Below.refl _ _).alloc (Nat.le_refl _) _)
              have HCALL := Lib.hid (ih.call tn htl (d + 1) (wr.alloc (.cells #[.int .i32 r, .int .i64 tn] 49)) s1 (by omega) (by omega) (HWr.out.ext HXA.out) ((d : Int) + 1) (by omega))
              have hfv1 : fv < wr.heap.size := World.block_lt_of_cell? _ _ c4
              have hdb : d ≤ 12 := by omega
              clear hr htn htl c5 c6
              go_wp2_with fail
              (with_reducible refine HCALL.out.mono ?_); rintro e w5 ⟨bb, s2, rfl, hw5⟩
              have HW5 := Lib.hid hw5
              clear hw5
              cases bb
              · go_wp2_with fail
                go_ret
                exact ⟨false, s2, rfl, HW5.out⟩
              · go_wp2_with fail
                go_roundw
                case rel => exact ⟨m + 1, s2, by omega, by go_num, HW5⟩
                case measure => simp [intOf]; omega
            · obtain rfl : m = es.length := by omega
              have hc5 := c5 n hs1l
              clear c5 c6 hlt
              go_wp2_with fail
              go_ret
              exact ⟨true, s1.set n 2, rfl, HWr.out.set n 2⟩

theorem wholeAllA {w0 : World} {g b o c nl gv sv fv sb : Nat} {ns : List Nd} (hg : GdA w0 g b o c nl ns) : ∀ f, WholeA w0 g b o c nl gv sv fv sb f
  | 0 => fun n hn d w s h1 h2 => by omega
  | f + 1 => wholeA1 hg f (wholeAllA hg f)
theorem GdA.of {w : World} {v : Value} {ns : List Nd} (h : GraphV w 0 v ns) (hp : 0 < ns.length) (hf : ∀ k (hk : k < ns.length), ns[k].2.length ≤ 65535) (ht : ∀ k (hk : k < ns.length), ∀ e ∈ ns[k].2, e.2 < ns.length) (hr : ∀ k (hk : k < ns.length), ∀ e ∈ ns[k].2, e.1 ≤ 1114111) : ∃ g b o c nl, v = .pointer (some ⟨g, 0, none⟩) ∧ g < w.heap.size ∧ GdA w g b o c nl ns := by
  obtain ⟨g, b, o, c, h1, h2, h3, h4, h5, h6⟩ := h.cells2 hp ns.length rfl
  exact ⟨g, b, o, c, _, h1, h2, rfl, h3, h4, h5, h6, hf, ht, hr⟩
theorem Wh.start (w : World) (g nl : Nat) : Wh w ((((w.alloc (.cells #[.pointer (some ⟨g, 0, none⟩)] 26)).alloc (.cells (cellsN (List.replicate nl 0)) 3)).alloc (.cells #[.slice (some ⟨w.heap.size + 1, 0, none⟩) nl nl] 151)).alloc (.cells #[.func (.func 124) #[] #[.pointer (some ⟨w.heap.size, 0, none⟩), .pointer (some ⟨w.heap.size + 1 + 1, 0, none⟩), .pointer (some ⟨w.heap.size + 1 + 1 + 1, 0, none⟩)]] 152)) g w.heap.size (w.heap.size + 1 + 1) (w.heap.size + 1 + 1 + 1) (w.heap.size + 1) nl (List.replicate nl 0) := by
  obtain ⟨h1, h2, h3, h4⟩ := alloc4 w (.cells #[.pointer (some ⟨g, 0, none⟩)] 26) (.cells (cellsN (List.replicate nl 0)) 3) (.cells #[.slice (some ⟨w.heap.size + 1, 0, none⟩) nl nl] 151) (.cells #[.func (.func 124) #[] #[.pointer (some ⟨w.heap.size, 0, none⟩), .pointer (some ⟨w.heap.size + 1 + 1, 0, none⟩), .pointer (some ⟨w.heap.size + 1 + 1 + 1, 0, none⟩)]] 152)
  exact ⟨((((Below.refl _ _).alloc (Nat.le_refl _) _).alloc (by simp) _).alloc (by simp; omega) _).alloc (by simp; omega) _, h1, h3, h4, h2, by simp, by omega, by omega, by omega, by omega⟩

set_option maxHeartbeats 4000000 in
set_option maxRecDepth 100000 in
/-- Graph.whole -/
theorem c107a {w : World} {v : Value} {ns : List Nd} (h : GraphV w 0 v ns) (hp : 0 < ns.length) (hle : ns.length ≤ 721) (hf : ∀ k (hk : k < ns.length), ns[k].2.length ≤ 65535) (ht : ∀ k (hk : k < ns.length), ∀ e ∈ ns[k].2, e.2 < ns.length) (hr : ∀ k (hk : k < ns.length), ∀ e ∈ ns[k].2, e.1 ≤ 1114111) :
    Calls Try.prog 107 #[v] w fun e w' => ∃ bb : Bool, e = .returned (.bool bb) ∧ Below w.heap.size w w' := by
  obtain ⟨g, b, o, c, nl, rfl, hgl, hgd⟩ := GdA.of h hp hf ht hr
  have HG := Lib.hid hgd
  have hnl1 : 0 < nl := by rw [hgd.nleq]; exact hp
  have hnl2 : nl ≤ 721 := by rw [hgd.nleq]; exact hle
  have hcap := hgd.cap
  have hcap2 := hgd.cap2
  have k1 := hgd.top w (Below.refl _ _)
  obtain ⟨A2, c2, hnode⟩ := hgd.node 0 hp
  have HNO := Lib.hid hnode
  obtain ⟨k2, k3, k4⟩ := hnode w (Below.refl _ _)
  have hbb : b < w.heap.size := World.block_lt_of_cell? _ _ k2
  clear h hgd hnode k2 k3 k4
  have hmk := make_ints nl hnl2
  obtain ⟨WW, hWW⟩ : ∃ WW, WW = ((((w.alloc (.cells #[.pointer (some ⟨g, 0, none⟩)] 26)).alloc (.cells (cellsN (List.replicate nl 0)) 3)).alloc (.cells #[.slice (some ⟨w.heap.size + 1, 0, none⟩) nl nl] 151)).alloc (.cells #[.func (.func 124) #[] #[.pointer (some ⟨w.heap.size, 0, none⟩), .pointer (some ⟨w.heap.size + 1 + 1, 0, none⟩), .pointer (some ⟨w.heap.size + 1 + 1 + 1, 0, none⟩)]] 152)) := ⟨_, rfl⟩
  have HWH : Hid (Wh w WW g w.heap.size (w.heap.size + 1 + 1) (w.heap.size + 1 + 1 + 1) (w.heap.size + 1) nl (List.replicate nl 0)) := Lib.hid (by rw [hWW]; exact Wh.start w g nl)
  have HBW := Lib.hid HWH.out.bel
  obtain ⟨kw2, kw3, kw4⟩ := HNO.out WW HBW.out
  have kw1 := HG.out.top WW HBW.out
  have e01 : o + 0 * 2 + 1 = o + 1 := by omega
  rw [e01] at kw3
  obtain ⟨es, hes⟩ : ∃ es, es = (ns[0]'hp).2 := ⟨_, rfl⟩
  rw [← hes] at kw3 kw4
  have hl1 := kw4.2.1
  have hl2 := kw4.2.2
  have HCALL := Lib.hid ((wholeAllA (gv := w.heap.size) (sv := w.heap.size + 1 + 1) (fv := w.heap.size + 1 + 1 + 1) (sb := w.heap.size + 1) HG.out 14).call 0 hnl1 0 WW (List.replicate nl 0) (by omega) (by omega) HWH.out 0 rfl)
  rw [hWW] at kw1 kw3
  rw [hWW] at HCALL HBW HWH
  clear kw2 kw4 e01 hWW hes
  by_cases hn1 : nl = 1
  · have b1 : ((nl : Int) == 1) = true := by rw [hn1]; rfl
    by_cases hel : es.length = 0
    · have b2 : ((es.length : Int) == 0) = true := by rw [hel]; rfl
      clear hn1 hel
      go_enter Try.func107, Try.ntmps107
      go_wp2_with fail
      go_ret
      exact ⟨true, rfl, HBW.out⟩
    · have b2 : ((es.length : Int) == 0) = false := beq_eq_false_iff_ne.2 (by omega)
      clear hn1
      go_enter Try.func107, Try.ntmps107
      go_wp2_with fail
      (refine HCALL.out.mono ?_); rintro e w5 ⟨bb, s5, rfl, hw5⟩
      have HB5 := Lib.hid hw5.bel
      clear hw5
      go_wp2_with fail
      go_ret
      exact ⟨bb, rfl, HB5.out⟩
  · have b1 : ((nl : Int) == 1) = false := beq_eq_false_iff_ne.2 (by omega)
    clear hn1
    go_enter Try.func107, Try.ntmps107
    go_wp2_with fail
    (refine HCALL.out.mono ?_); rintro e w5 ⟨bb, s5, rfl, hw5⟩
    have HB5 := Lib.hid hw5.bel
    clear hw5
    go_wp2_with fail
    go_ret
    exact ⟨bb, rfl, HB5.out⟩

end Go.Proofs.Ytepmcfleijiloaa

end
section
set_option linter.unusedVariables false
set_option linter.unusedSimpArgs false
/- Graph.some, of any graph. -/
namespace Go.Proofs.Ytepmcfleijiloaa
open Go.RowKit

theorem encode_size (r : Int) : (Utf8.encode r).size ≤ 4 := by
  unfold Utf8.encode
  dsimp only
  generalize (if Utf8.valid r then r.toNat else Utf8.runeError) = c
  split
  · show (1 : Nat) ≤ 4; omega
  · split
    · show (2 : Nat) ≤ 4; omega
    · split
      · show (3 : Nat) ≤ 4; omega
      · show (4 : Nat) ≤ 4; omega
theorem conv_runeA (r : Nat) (w : World) : (convert 21 9 (.int .i32 r)).run Try.prog w = .ok (.string (Utf8.encode (r : Int))) w := by
  rw [run_convert_int_string w 21 9 .i32 (r : Int) (by rw [Try.underlying21]; rfl) Try.underlying9]

/-- What some's inner function leans on. -/
structure SmA (w0 w : World) (g gv wb okb fv : Nat) (ok : Bool) (acc : List ByteArray) : Prop where
  bel : Below w0.heap.size w0 w
  gc : w.heap[gv]? = some (.cells #[.pointer (some ⟨g, 0, none⟩)] 26 (0, 0))
  oc : w.heap[okb]? = some (.cells #[.bool ok] 4 (0, 0))
  fc : w.heap[fv]? = some (.cells #[.func (.func 125) #[] #[.pointer (some ⟨okb, 0, none⟩), .pointer (some ⟨wb, 0, none⟩), .pointer (some ⟨gv, 0, none⟩), .pointer (some ⟨fv, 0, none⟩)]] 153 (0, 0))
  wc : ∃ Av cv, w.heap[wb]? = some (.cells #[.slice Av acc.length cv] 22 (0, 0)) ∧ w.ownsRow (fv + 1) 9 1 (.slice Av acc.length cv) acc.length (strv acc)
  l1 : w0.heap.size ≤ gv
  l2 : gv < wb
  l3 : wb < okb
  l4 : okb < fv
  few : acc.length ≤ 61
  short : ∀ x ∈ acc, x.size ≤ 100
section
variable {w0 w w' : World} {g gv wb okb fv : Nat} {ok : Bool} {acc : List ByteArray}
theorem SmA.ext (h : SmA w0 w g gv wb okb fv ok acc) (hb : Below w.heap.size w w') : SmA w0 w' g gv wb okb fv ok acc := by
  have m1 := (Array.getElem?_eq_some_iff.1 h.gc).1
  have m2 := (Array.getElem?_eq_some_iff.1 h.oc).1
  have m3 := (Array.getElem?_eq_some_iff.1 h.fc).1
  obtain ⟨Av, cv, h1, h2⟩ := h.wc
  have m4 := (Array.getElem?_eq_some_iff.1 h1).1
  exact ⟨h.bel.trans (hb.mono h.bel.size), (hb.block _ m1).trans h.gc, (hb.block _ m2).trans h.oc, (hb.block _ m3).trans h.fc, ⟨Av, cv, (hb.block _ m4).trans h1, own_below h2 hb⟩, h.l1, h.l2, h.l3, h.l4, h.few, h.short⟩
/-- It is no longer so. -/
theorem SmA.off (h : SmA w0 w g gv wb okb fv ok acc) : SmA w0 (w.setCell ⟨okb, 0, none⟩ (.bool false)) g gv wb okb fv false acc := by
  obtain ⟨Av, cv, h1, h2⟩ := h.wc
  have e1 := h.l1
  have e2 := h.l2
  have e3 := h.l3
  have e4 := h.l4
  refine ⟨h.bel.setCell (by show w0.heap.size ≤ okb; omega) _, ?_, ?_, ?_, ⟨Av, cv, ?_, ?_⟩, h.l1, h.l2, h.l3, h.l4, h.few, h.short⟩
  · exact (Below.heap_setCell w ⟨okb, 0, none⟩ _ gv (by show gv ≠ okb; omega)).trans h.gc
  · rw [Go.Joins.block_setCell h.oc]; rfl
  · exact (Below.heap_setCell w ⟨okb, 0, none⟩ _ fv (by show fv ≠ okb; omega)).trans h.fc
  · exact (Below.heap_setCell w ⟨okb, 0, none⟩ _ wb (by show wb ≠ okb; omega)).trans h1
  · exact h2.kept (grown_set w okb 0 (.bool false)) (Or.inr fun e => by have := h2.lt _ e; omega)
/-- One text more. -/
theorem SmA.put {wz w1 : World} {Av A1 : Option Addr} {cv c1 : Nat} {x : ByteArray} (h : SmA w0 w g gv wb okb fv ok acc) (hf : acc.length ≤ 60) (hx : x.size ≤ 100) (h1 : w.heap[wb]? = some (.cells #[.slice Av acc.length cv] 22 (0, 0))) (h2 : w.ownsRow (fv + 1) 9 1 (.slice Av acc.length cv) acc.length (strv acc))
    (hb : Below w.heap.size w wz) (ho : w1.ownsRow (fv + 1) 9 1 (.slice A1 (acc.length + 1) c1) (acc.length + 1) (strv acc ++ [.string x])) (hg : wz.grownBy w1 (Value.slice Av acc.length cv).ownBlock) :
    SmA w0 (w1.setCell ⟨wb, 0, none⟩ (.slice A1 (acc.length + 1) c1)) g gv wb okb fv ok (acc ++ [x]) ∧ w1.cell? ⟨wb, 0, none⟩ = some (.slice Av acc.length cv) ∧ w1.frozen? ⟨wb, 0, none⟩ = false := by
  have g1 : w.grownBy w1 (Value.slice Av acc.length cv).ownBlock := grown_trans (grown_below hb) hg
  have hlt : ∀ k, (Value.slice Av acc.length cv).ownBlock = some k → fv + 1 ≤ k := fun k hk => (h2.lt k hk).1
  have blk : ∀ i, i < w.heap.size → i ≤ fv → w1.heap[i]? = w.heap[i]? := fun i hi hf => g1.block i hi (fun e => by have := hlt i e.symm; omega)
  have m1 := (Array.getElem?_eq_some_iff.1 h.gc).1
  have m2 := (Array.getElem?_eq_some_iff.1 h.oc).1
  have m3 := (Array.getElem?_eq_some_iff.1 h.fc).1
  have m4 := (Array.getElem?_eq_some_iff.1 h1).1
  have e1 := h.l1
  have e2 := h.l2
  have e3 := h.l3
  have e4 := h.l4
  have kwb : w1.heap[wb]? = some (.cells #[.slice Av acc.length cv] 22 (0, 0)) := (blk wb m4 (by omega)).trans h1
  refine ⟨⟨?_, ?_, ?_, ?_, ?_, h.l1, h.l2, h.l3, h.l4, by simp; omega, fun y hy => ?_⟩, by rw [cell_of_row _ _ _ _ _ _ kwb]; rfl, by simp [World.frozen?, kwb]⟩
  · refine Below.setCell ?_ (by show w0.heap.size ≤ wb; omega) _
    have hb2 : Below w0.heap.size w0 wz := h.bel.trans (hb.mono h.bel.size)
    exact hb2.grown hg (Nat.le_trans h.bel.size hb.size) (fun k hk => by have := hlt k hk; omega)
  · exact (Below.heap_setCell w1 ⟨wb, 0, none⟩ _ gv (by show gv ≠ wb; omega)).trans ((blk gv m1 (by omega)).trans h.gc)
  · exact (Below.heap_setCell w1 ⟨wb, 0, none⟩ _ okb (by show okb ≠ wb; omega)).trans ((blk okb m2 (by omega)).trans h.oc)
  · exact (Below.heap_setCell w1 ⟨wb, 0, none⟩ _ fv (by show fv ≠ wb; omega)).trans ((blk fv m3 (by omega)).trans h.fc)
  · refine ⟨A1, c1, ?_, ?_⟩
    · rw [Go.Joins.block_setCell kwb]
      simp
    · have := ho.kept (grown_set w1 wb 0 (.slice A1 (acc.length + 1) c1)) (Or.inr fun e => by have := ho.lt _ e; omega)
      rw [strv_append, List.length_append]
      exact this
  · rcases List.mem_append.1 hy with hy | hy
    · exact h.short y hy
    · obtain rfl : y = x := by simpa using hy
      exact hx
theorem SmA.cells (h : SmA w0 w g gv wb okb fv ok acc) : w.cell? ⟨gv, 0, none⟩ = some (.pointer (some ⟨g, 0, none⟩)) ∧ w.cell? ⟨okb, 0, none⟩ = some (.bool ok) ∧
    w.cell? ⟨fv, 0, none⟩ = some (.func (.func 125) #[] #[.pointer (some ⟨okb, 0, none⟩), .pointer (some ⟨wb, 0, none⟩), .pointer (some ⟨gv, 0, none⟩), .pointer (some ⟨fv, 0, none⟩)]) ∧
    ∃ Av cv, w.cell? ⟨wb, 0, none⟩ = some (.slice Av acc.length cv) ∧ w.heap[wb]? = some (.cells #[.slice Av acc.length cv] 22 (0, 0)) ∧ w.ownsRow (fv + 1) 9 1 (.slice Av acc.length cv) acc.length (strv acc) := by
  obtain ⟨Av, cv, h1, h2⟩ := h.wc
  refine ⟨?_, ?_, ?_, Av, cv, ?_, h1, h2⟩
  · rw [cell_of_row _ _ _ _ _ _ h.gc]; rfl
  · rw [cell_of_row _ _ _ _ _ _ h.oc]; rfl
  · rw [cell_of_row _ _ _ _ _ _ h.fc]; rfl
  · rw [cell_of_row _ _ _ _ _ _ h1]; rfl
end

def SomeA (w0 : World) (g b o c nl gv wb okb fv : Nat) (f : Nat) : Prop := ∀ (n : Nat) (hn : n < nl) (p : ByteArray) (d : Nat) (w : World) (ok : Bool) (acc : List ByteArray), d ≤ 13 → 14 ≤ f + d → p.size ≤ 4 * d → SmA w0 w g gv wb okb fv ok acc →
  Calls Try.prog 125 #[.int .i64 n, .string p, .int .i64 d, .pointer (some ⟨okb, 0, none⟩), .pointer (some ⟨wb, 0, none⟩), .pointer (some ⟨gv, 0, none⟩), .pointer (some ⟨fv, 0, none⟩)] w fun e w' => ∃ (ok' : Bool) (acc' : List ByteArray), e = .returned (.tuple #[]) ∧ SmA w0 w' g gv wb okb fv ok' acc'
theorem SomeA.call {w0 : World} {g b o c nl gv wb okb fv : Nat} {f : Nat} (h : SomeA w0 g b o c nl gv wb okb fv f) (n : Nat) (hn : n < nl) (p : ByteArray) (d : Nat) (w : World) (ok : Bool) (acc : List ByteArray) (h1 : d ≤ 13) (h2 : 14 ≤ f + d) (h3 : p.size ≤ 4 * d) (h4 : SmA w0 w g gv wb okb fv ok acc) (e : Int) (he : e = d) :
    Calls Try.prog 125 #[.int .i64 n, .string p, .int .i64 e, .pointer (some ⟨okb, 0, none⟩), .pointer (some ⟨wb, 0, none⟩), .pointer (some ⟨gv, 0, none⟩), .pointer (some ⟨fv, 0, none⟩)] w fun e w' => ∃ (ok' : Bool) (acc' : List ByteArray), e = .returned (.tuple #[]) ∧ SmA w0 w' g gv wb okb fv ok' acc' := by
  rw [he]; exact h n hn p d w ok acc h1 h2 h3 h4

set_option maxHeartbeats 8000000 in
set_option maxRecDepth 100000 in
theorem someA1 {w0 : World} {g b o c nl gv wb okb fv : Nat} {ns : List Nd} (hg : GdA w0 g b o c nl ns) (f : Nat) (ih : SomeA w0 g b o c nl gv wb okb fv f) : SomeA w0 g b o c nl gv wb okb fv (f + 1) := by
  intro n hnn p d w ok acc hd hfd hps hS
  have HG := Lib.hid hg
  have HS := Lib.hid hS
  have hn : n < ns.length := by have := hg.nleq; omega
  obtain ⟨A2, c2, hnode⟩ := hg.node n hn
  obtain ⟨fi, hfi⟩ : ∃ x, x = ns[n].1 := ⟨_, rfl⟩
  obtain ⟨es, hes⟩ : ∃ x, x = ns[n].2 := ⟨_, rfl⟩
  have hel := hg.few n hn
  have HTO := Lib.hid (hg.to_ n hn)
  rw [← hfi, ← hes] at hnode
  rw [← hes] at hel HTO
  have HNO := Lib.hid hnode
  have k1 := hg.top w hS.bel
  obtain ⟨k2, k3, k4⟩ := hnode w hS.bel
  have hl1 := k4.2.1
  have hl2 := k4.2.2
  obtain ⟨c1, c3, c4, Av, cv, c5, c6, c7⟩ := hS.cells
  have HC6 := Lib.hid c6
  have HC7 := Lib.hid c7
  have hcap := hg.cap
  have hcap2 := hg.cap2
  have hacc := hS.few
  have fo : w.frozen? ⟨okb, 0, none⟩ = false := by simp [World.frozen?, hS.oc]
  clear hg hS hnode hfi hes k4 c6 c7
  cases ok
  · go_enter Try.func125, Try.ntmps125
    go_wp2_with fail
    refine bodyPost_ret (results_none rfl _ _ _) rfl ?_
    exact ⟨false, acc, rfl, HS.out.off⟩
  · by_cases h60 : 60 < acc.length
    · have hb60 : decide ((60 : Int) < acc.length) = true := decide_eq_true (by omega)
      go_enter Try.func125, Try.ntmps125
      go_wp2_with fail
      refine bodyPost_ret (results_none rfl _ _ _) rfl ?_
      exact ⟨false, acc, rfl, HS.out.off⟩
    · have hb60 : decide ((60 : Int) < acc.length) = false := decide_eq_false (by omega)
      by_cases hdd : d = 13
      · have hd12 : decide ((12 : Int) < d) = true := decide_eq_true (by omega)
        go_enter Try.func125, Try.ntmps125
        go_wp2_with fail
        refine bodyPost_ret (results_none rfl _ _ _) rfl ?_
        exact ⟨false, acc, rfl, HS.out.off⟩
      · have hd12 : decide ((12 : Int) < d) = false := decide_eq_false (by omega)
        have hd12' : d ≤ 12 := by omega
        cases fi
        · go_enter Try.func125, Try.ntmps125
          go_wp2_with fail
          have HS0 := Lib.hid (show SmA w0 _ g gv wb okb fv true _ from HS.out)
          clear k1 k2 k3 c1 c3 c4 c5
          go_loopw [44] (fun i wr => ∃ (m : Nat) (ok : Bool) (l : List ByteArray), m ≤ es.length ∧ i = .int .i64 m ∧ Hid (SmA w0 wr g gv wb okb fv ok l)) (fun i _ => es.length - (intOf i).toNat)
          case atStart => exact ⟨0, true, _, by omega, rfl, HS0⟩
          case round =>
            clear HS0
            obtain ⟨m, ok, l, hm, rfl, HSr⟩ := hrel
            by_cases hlt : m < es.length
            · obtain ⟨b9, o9, hA, _, hb9, hx1, hx2⟩ := ((HNO.out wr HSr.out.bel).2.2).at_ hlt
              subst hA
              obtain ⟨r, hr⟩ : ∃ r, r = es[m].1 := ⟨_, rfl⟩
              obtain ⟨tn, htn⟩ : ∃ t, t = es[m].2 := ⟨_, rfl⟩
              have htl : tn < nl := by rw [htn]; exact HTO.out _ (List.getElem_mem hlt)
              rw [← hr] at hx1
              rw [← htn] at hx2
              obtain ⟨er, her⟩ : ∃ er, er = Utf8.encode (r : Int) := ⟨_, rfl⟩
              have hsz4 : er.size ≤ 4 := by rw [her]; exact encode_size _
              have HXA : Hid (Below wr.heap.size wr (wr.alloc (.cells #[.int .i32 r, .int .i64 tn] 49))) := Lib.hid ((Below.refl _ _).alloc (Nat.le_refl _) _)
              have HCALL := Lib.hid (ih.call tn htl (p ++ er) (d + 1) (wr.alloc (.cells #[.int .i32 r, .int .i64 tn] 49)) ok l (by omega) (by omega) (by rw [ByteArray.size_append]; omega) (HSr.out.ext HXA.out) ((d : Int) + 1) (by omega))
              have hconv := conv_runeA r
              rw [← her] at hconv
              have hsum : p.size + er.size ≤ 9223372036854775807 := by omega
              have c4 := HSr.out.cells.2.2.1
              have hfv1 : fv < wr.heap.size := World.block_lt_of_cell? _ _ c4
              clear hr htn htl her
              go_wp2_with fail
              (with_reducible refine HCALL.out.mono ?_); rintro e w5 ⟨ok2, l2, rfl, hs5⟩
              have HS5 := Lib.hid hs5
              clear hs5
              go_wp2_with fail
              go_roundw
              case rel => exact ⟨m + 1, ok2, l2, by omega, by go_num, HS5⟩
              case measure => simp [intOf]; omega
            · obtain rfl : m = es.length := by omega
              go_wp2_with fail
              go_end0
              exact ⟨ok, l, rfl, HSr.out⟩
        · go_enter Try.func125, Try.ntmps125
          go_wp2_with (first
            | (at_builtin
               refine wpList_append_rd infoS rfl (.tmp 31) (.tmp 33) rfl (fv + 1) (.slice Av acc.length cv) acc.length (strv acc) rfl (HC7.out.alloc _) w.heap.size (w.heap.size + 1) _ 1 1 [.string p] rfl (Rd.new w _ _) rfl (by simp [Value.oneCell']) (by omega) (by have := HS.out.fc; have := (Array.getElem?_eq_some_iff.1 this).1; simp; omega) ?_
               intro v1 w1 hown1 hg1 hat1
               obtain ⟨A1, c1', rfl, _, _⟩ := own_slice hown1
               obtain ⟨hs1, kc1, kf1⟩ := HS.out.put (x := p) (by omega) (by omega) HC6.out HC7.out ((Below.refl _ _).alloc (Nat.le_refl _) _) hown1 hg1
               have HS1 := Lib.hid hs1
               have kgv1 := hs1.cells.1
               have kg1 := HG.out.top _ hs1.bel
               have kb1 := (HNO.out _ hs1.bel).2.1
               clear hown1 hg1 hat1 hs1))
          have HS0 := Lib.hid (show SmA w0 _ g gv wb okb fv true _ from HS1.out)
          clear k1 k2 k3 c1 c3 c4 c5
          go_loopw [44] (fun i wr => ∃ (m : Nat) (ok : Bool) (l : List ByteArray), m ≤ es.length ∧ i = .int .i64 m ∧ Hid (SmA w0 wr g gv wb okb fv ok l)) (fun i _ => es.length - (intOf i).toNat)
          case atStart => exact ⟨0, true, _, by omega, rfl, HS0⟩
          case round =>
            clear HS0
            obtain ⟨m, ok, l, hm, rfl, HSr⟩ := hrel
            by_cases hlt : m < es.length
            · obtain ⟨b9, o9, hA, _, hb9, hx1, hx2⟩ := ((HNO.out wr HSr.out.bel).2.2).at_ hlt
              subst hA
              obtain ⟨r, hr⟩ : ∃ r, r = es[m].1 := ⟨_, rfl⟩
              obtain ⟨tn, htn⟩ : ∃ t, t = es[m].2 := ⟨_, rfl⟩
              have htl : tn < nl := by rw [htn]; exact HTO.out _ (List.getElem_mem hlt)
              rw [← hr] at hx1
              rw [← htn] at hx2
              obtain ⟨er, her⟩ : ∃ er, er = Utf8.encode (r : Int) := ⟨_, rfl⟩
              have hsz4 : er.size ≤ 4 := by rw [her]; exact encode_size _
              have HXA : Hid (Below wr.heap.size wr (wr.alloc (.cells #[.int .i32 r, .int .i64 tn] 49))) := Lib.hid ((Below.refl _ _).alloc (Nat.le_refl _) _)
              have HCALL := Lib.hid (ih.call tn htl (p ++ er) (d + 1) (wr.alloc (.cells #[.int .i32 r, .int .i64 tn] 49)) ok l (by omega) (by omega) (by rw [ByteArray.size_append]; omega) (HSr.out.ext HXA.out) ((d : Int) + 1) (by omega))
              have hconv := conv_runeA r
              rw [← her] at hconv
              have hsum : p.size + er.size ≤ 9223372036854775807 := by omega
              have c4 := HSr.out.cells.2.2.1
              have hfv1 : fv < wr.heap.size := World.block_lt_of_cell? _ _ c4
              clear hr htn htl her
              go_wp2_with fail
              (with_reducible refine HCALL.out.mono ?_); rintro e w5 ⟨ok2, l2, rfl, hs5⟩
              have HS5 := Lib.hid hs5
              clear hs5
              go_wp2_with fail
              go_roundw
              case rel => exact ⟨m + 1, ok2, l2, by omega, by go_num, HS5⟩
              case measure => simp [intOf]; omega
            · obtain rfl : m = es.length := by omega
              go_wp2_with fail
              go_end0
              exact ⟨ok, l, rfl, HSr.out⟩

theorem someAllA {w0 : World} {g b o c nl gv wb okb fv : Nat} {ns : List Nd} (hg : GdA w0 g b o c nl ns) : ∀ f, SomeA w0 g b o c nl gv wb okb fv f
  | 0 => fun n hn p d w ok acc h1 h2 => by omega
  | f + 1 => someA1 hg f (someAllA hg f)

set_option maxHeartbeats 4000000 in
set_option maxRecDepth 100000 in
/-- Graph.some -/
theorem c108a {w : World} {v : Value} {ns : List Nd} (h : GraphV w 0 v ns) (hp : 0 < ns.length) (hf : ∀ k (hk : k < ns.length), ns[k].2.length ≤ 65535) (ht : ∀ k (hk : k < ns.length), ∀ e ∈ ns[k].2, e.2 < ns.length) (hr : ∀ k (hk : k < ns.length), ∀ e ∈ ns[k].2, e.1 ≤ 1114111) :
    Calls Try.prog 108 #[v] w fun e w' => ∃ (A : Option Addr) (c : Nat) (l : List ByteArray) (bb : Bool), e = .returned (.tuple #[.slice A l.length c, .bool bb]) ∧ Strs w' 0 A c l ∧ Below w.heap.size w w' ∧ l.length ≤ 61 ∧ ∀ x ∈ l, x.size ≤ 100 := by
  obtain ⟨g, b, o, c, nl, rfl, hgl, hgd⟩ := GdA.of h hp hf ht hr
  have HG := Lib.hid hgd
  have hnl1 : 0 < nl := by rw [hgd.nleq]; exact hp
  obtain ⟨WW, hWW⟩ : ∃ WW, WW = ((((w.alloc (.cells #[.pointer (some ⟨g, 0, none⟩)] 26)).alloc (.cells #[.slice none 0 0] 22)).alloc (.cells #[.bool true] 4)).alloc (.cells #[.func (.func 125) #[] #[.pointer (some ⟨w.heap.size + 1 + 1, 0, none⟩), .pointer (some ⟨w.heap.size + 1, 0, none⟩), .pointer (some ⟨w.heap.size, 0, none⟩), .pointer (some ⟨w.heap.size + 1 + 1 + 1, 0, none⟩)]] 153)) := ⟨_, rfl⟩
  have HBW : Hid (Below w.heap.size w WW) := Lib.hid (by rw [hWW]; exact ((((Below.refl _ _).alloc (Nat.le_refl _) _).alloc (by simp) _).alloc (by simp; omega) _).alloc (by simp; omega) _)
  have HSM : Hid (SmA w WW g w.heap.size (w.heap.size + 1) (w.heap.size + 1 + 1) (w.heap.size + 1 + 1 + 1) true []) := Lib.hid (by
    obtain ⟨h1, h2, h3, h4⟩ := alloc4 w (.cells #[.pointer (some ⟨g, 0, none⟩)] 26) (.cells #[.slice none 0 0] 22) (.cells #[.bool true] 4) (.cells #[.func (.func 125) #[] #[.pointer (some ⟨w.heap.size + 1 + 1, 0, none⟩), .pointer (some ⟨w.heap.size + 1, 0, none⟩), .pointer (some ⟨w.heap.size, 0, none⟩), .pointer (some ⟨w.heap.size + 1 + 1 + 1, 0, none⟩)]] 153)
    rw [← hWW] at h1 h2 h3 h4
    exact ⟨HBW.out, h1, h3, h4, ⟨none, 0, h2, World.ownsRow_nil _ _ _ _⟩, by omega, by omega, by omega, by omega, by simp, fun x hx => by cases hx⟩)
  have HCALL := Lib.hid ((someAllA HG.out 14).call 0 hnl1 ⟨#[]⟩ 0 WW true [] (by omega) (by omega) (by simp [ByteArray.size]) HSM.out 0 rfl)
  rw [hWW] at HCALL HBW HSM
  clear hWW h hgd
  go_enter Try.func108, Try.ntmps108
  go_wp2_with fail
  (refine HCALL.out.mono ?_); rintro e w5 ⟨ok, l, rfl, hs5⟩
  obtain ⟨c1, c3, c4, Av, cv, c5, c6, c7⟩ := hs5.cells
  have HS5 := Lib.hid hs5
  have HO := Lib.hid c7
  clear hs5 c6 c7
  cases ok
  · go_wp2_with fail
    go_quiet (fail)
    all_goals
      go_wp2_with fail
      go_ret2
      obtain ⟨_, _, e, hs⟩ := IsStrs.of_own HO.out
      cases e
      exact ⟨Av, cv, l, _, rfl, (hs.low (Nat.zero_le _)).ext (below_drewN (Below.refl _ _) _), below_drewN HS5.out.bel _, HS5.out.few, HS5.out.short⟩
  · by_cases hl : l.length ≤ 60
    · have d60 : decide ((l.length : Int) ≤ 60) = true := decide_eq_true (by omega)
      go_wp2_with fail
      go_quiet (fail)
      all_goals
        go_wp2_with fail
        go_ret2
        obtain ⟨_, _, e, hs⟩ := IsStrs.of_own HO.out
        cases e
        exact ⟨Av, cv, l, _, rfl, (hs.low (Nat.zero_le _)).ext (below_drewN (Below.refl _ _) _), below_drewN HS5.out.bel _, HS5.out.few, HS5.out.short⟩
    · have d60 : decide ((l.length : Int) ≤ 60) = false := decide_eq_false (by omega)
      go_wp2_with fail
      go_quiet (fail)
      all_goals
        go_wp2_with fail
        go_ret2
        obtain ⟨_, _, e, hs⟩ := IsStrs.of_own HO.out
        cases e
        exact ⟨Av, cv, l, _, rfl, (hs.low (Nat.zero_le _)).ext (below_drewN (Below.refl _ _) _), below_drewN HS5.out.bel _, HS5.out.few, HS5.out.short⟩

end Go.Proofs.Ytepmcfleijiloaa

end
section
set_option linter.unusedVariables false
set_option linter.unusedSimpArgs false
/- Graph.like, of any two; Made, of any nodes that are no graph of words. -/
namespace Go.Proofs.Ytepmcfleijiloaa
open Go.RowKit

set_option maxHeartbeats 8000000 in
set_option maxRecDepth 100000 in
/-- Graph.like: what it calls alike is alike. -/
theorem c109a {w : World} {v u : Value} {ns ms : List Nd} (h : GraphV w 0 v ns) (h2 : GraphV w 0 u ms) (hp : 0 < ns.length) (hp2 : 0 < ms.length) :
    Calls Try.prog 109 #[v, u] w fun e w' => ∃ bb : Bool, e = .returned (.bool bb) ∧ (bb = true → ns = ms) ∧ Below w.heap.size w w' := by
  obtain ⟨nl, hnl⟩ : ∃ n, n = ns.length := ⟨_, rfl⟩
  obtain ⟨ml, hml⟩ : ∃ n, n = ms.length := ⟨_, rfl⟩
  obtain ⟨g, b, o, c, rfl, hgl, hc1, hc2, hcells⟩ := h.cells hp nl hnl
  obtain ⟨g2, b2, o2, c2, rfl, hgl2, hd1, hd2, hcells2⟩ := h2.cells hp2 ml hml
  have HC := Lib.hid hcells
  have HC2 := Lib.hid hcells2
  have HNL := Lib.hid hnl
  have HML := Lib.hid hml
  have k1 := (HC.out w (Below.refl _ _)).1
  have k2 := (HC2.out w (Below.refl _ _)).1
  have he49 := eq49
  clear h h2 hcells hcells2 hnl hml
  by_cases hnm : nl = ml
  · subst hnm
    have hbn : ((nl : Int) != (nl : Int)) = false := by simp
    go_enter Try.func109, Try.ntmps109
    go_wp2_with fail
    go_quiet (fail)
    all_goals
      go_wp2_with fail
      go_loopw [26] (fun i wr => ∃ k : Nat, k ≤ nl ∧ i = .int .i64 k ∧ Hid (ns.take k = ms.take k) ∧ Hid (Below w.heap.size w wr)) (fun i _ => nl - (intOf i).toNat)
      case atStart => exact ⟨0, by omega, rfl, Lib.hid rfl, Lib.hid (below_drewN (Below.refl _ _) _)⟩
      case round =>
        obtain ⟨k, hk, rfl, HEQ, HB⟩ := hrel
        obtain ⟨wo, rfl⟩ : ∃ wo : World, wo = wr := ⟨_, rfl⟩
        by_cases hlt : k < nl
        · have hkn : k < ns.length := by rw [← HNL.out]; exact hlt
          have hkm : k < ms.length := by rw [← HML.out]; exact hlt
          have kg2 := (HC2.out wo HB.out).1
          obtain ⟨A3, c3, e1, e2, e3⟩ := (HC.out wo HB.out).2 k hkn
          obtain ⟨A4, c4, f1, f2, f3⟩ := (HC2.out wo HB.out).2 k hkm
          obtain ⟨nd, hnd⟩ : ∃ nd, nd = ns[k] := ⟨_, rfl⟩
          obtain ⟨md, hmd⟩ : ∃ nd, nd = ms[k] := ⟨_, rfl⟩
          have HTK : Hid (nd = md → ns.take (k + 1) = ms.take (k + 1)) := Lib.hid fun e => by
            rw [List.take_succ_eq_append_getElem hkn, List.take_succ_eq_append_getElem hkm, HEQ.out, ← hnd, ← hmd, e]
          rw [← hnd] at e1 e2 e3
          rw [← hmd] at f1 f2 f3
          obtain ⟨fb, es⟩ := nd
          obtain ⟨gb, fs⟩ := md
          simp only at e1 e2 e3 f1 f2 f3
          have hl3 := e3.2.1
          have hm3 := e3.2.2
          have hl4 := f3.2.1
          have hm4 := f3.2.2
          have HE3 := Lib.hid e3
          have HE4 := Lib.hid f3
          have hg2w : g2 < wo.heap.size := Nat.lt_of_lt_of_le hgl2 HB.out.size
          have hb2w : b2 < wo.heap.size := World.block_lt_of_cell? _ _ f1
          have hbw : b < wo.heap.size := World.block_lt_of_cell? _ _ e1
          clear hnd hmd e3 f3
          obtain ⟨tb, htb⟩ : ∃ x, x = (fb != gb) := ⟨_, rfl⟩
          obtain ⟨te, hte⟩ : ∃ x, x = ((es.length : Int) != (fs.length : Int)) := ⟨_, rfl⟩
          have HTB := Lib.hid htb
          have HTE := Lib.hid hte
          rcases hq : tb with _ | _
          · rcases hq2 : te with _ | _
            · subst hq hq2
              obtain rfl : fb = gb := by simpa using htb
              have hel : es.length = fs.length := by
                have := hte
                simp at this
                omega
              obtain ⟨el, hel2⟩ : ∃ x, x = es.length := ⟨_, rfl⟩
              rw [← hel2] at e2 hl3
              rw [← hel, ← hel2] at f2 hl4
              have HEL := Lib.hid hel
              have HEL2 := Lib.hid hel2
              have hbb : (fb != fb) = false := by cases fb <;> rfl
              have hbe : ((el : Int) != (el : Int)) = false := by simp
              clear htb hte hel hel2 HTB HTE
              go_wp2_with fail
              go_loopw [55] (fun i wr => ∃ m : Nat, m ≤ el ∧ i = .int .i64 m ∧ Hid (es.take m = fs.take m) ∧ Hid (Below wo.heap.size wo wr) ∧ Hid (wr.cell? ⟨wo.heap.size + 1, 1, none⟩ = some (.slice A4 el c4)) ∧ wo.heap.size + 1 < wr.heap.size) (fun i _ => el - (intOf i).toNat)
              case atStart => exact ⟨0, by omega, rfl, Lib.hid rfl, Lib.hid (((Below.refl _ _).alloc (Nat.le_refl _) _).alloc (by simp) _), Lib.hid (by rw [cell_of_row _ _ _ _ _ _ (heap_alloc2_new wo _ _)]; rfl), by simp⟩
              case round =>
                obtain ⟨m, hm, rfl, HEM, HBW, HCE, hsz⟩ := hrel
                by_cases hlm : m < el
                · have hme : m < es.length := by rw [← HEL2.out]; exact hlm
                  have hmf : m < fs.length := by rw [← HEL.out]; exact hme
                  obtain ⟨b7, o7, hA, _, hb7, hx1, hx2⟩ := (HE3.out.ext HBW.out).at_ hme
                  obtain ⟨b8, o8, hA2, _, hb8, hy1, hy2⟩ := (HE4.out.ext HBW.out).at_ hmf
                  subst hA
                  subst hA2
                  obtain ⟨⟨x, y⟩, hx⟩ : ∃ x, x = es[m] := ⟨_, rfl⟩
                  obtain ⟨⟨x', y'⟩, hx'⟩ : ∃ x, x = fs[m] := ⟨_, rfl⟩
                  have HTM : Hid (x = x' → y = y' → es.take (m + 1) = fs.take (m + 1)) := Lib.hid fun e e' => by
                    rw [List.take_succ_eq_append_getElem hme, List.take_succ_eq_append_getElem hmf, HEM.out, ← hx, ← hx', e, e']
                  rw [← hx] at hx1 hx2
                  rw [← hx'] at hy1 hy2
                  simp only at hx1 hx2 hy1 hy2
                  have hce := HCE.out
                  have HN1 : Hid ((wr.alloc (.cells #[.int .i32 x, .int .i64 y] 49)).cell? ⟨wo.heap.size + 1, 1, none⟩ = some (.slice (some ⟨b8, o8, none⟩) el c4)) := Lib.hid ((World.cell?_of_block (a := ⟨wo.heap.size + 1, 1, none⟩) (heap_alloc_old wr _ hsz)).trans HCE.out)
                  clear hx hx'
                  by_cases hxx : x = x'
                  · have hb1 : ((x : Int) == (x' : Int)) = true := by simp [hxx]
                    by_cases hyy : y = y'
                    · have hb2 : ((y : Int) == (y' : Int)) = true := by simp [hyy]
                      have HX2 := Lib.hid (HTM.out hxx hyy)
                      clear hxx hyy
                      go_wp2_with fail
                      go_quiet (fail)
                      all_goals
                        go_wp2_with fail
                        go_roundw
                        case rel => exact ⟨m + 1, by omega, by go_num, HX2, Lib.hid (below_drewN (HBW.out.alloc HBW.out.size _) _), HN1, by simp; omega⟩
                        case measure => simp [intOf]; omega
                    · have hb2 : ((y : Int) == (y' : Int)) = false := beq_eq_false_iff_ne.2 (by omega)
                      clear hxx
                      go_wp2_with fail
                      go_quiet (fail)
                      all_goals
                        go_wp2_with fail
                        go_ret
                        exact ⟨false, rfl, (fun h => by cases h), below_ext HB.out (below_drewN (HBW.out.alloc HBW.out.size _) _)⟩
                  · have hb1 : ((x : Int) == (x' : Int)) = false := beq_eq_false_iff_ne.2 (by omega)
                    go_wp2_with fail
                    go_quiet (fail)
                    all_goals
                      go_wp2_with fail
                      go_ret
                      exact ⟨false, rfl, (fun h => by cases h), below_ext HB.out (below_drewN (HBW.out.alloc HBW.out.size _) _)⟩
                · obtain rfl : m = el := by omega
                  have HXX : Hid (ns.take (k + 1) = ms.take (k + 1)) := Lib.hid (HTK.out (by
                    have h := HEM.out
                    rw [List.take_of_length_le (by rw [HEL2.out]; omega), List.take_of_length_le (by rw [HEL2.out, HEL.out]; omega)] at h
                    rw [h]))
                  go_wp2_with fail
                  go_roundw
                  case rel => exact ⟨k + 1, by omega, by go_num, HXX, Lib.hid (below_ext HB.out HBW.out)⟩
                  case measure => simp [intOf]; omega
            · subst hq hq2
              obtain rfl : fb = gb := by simpa using htb
              have hbb : (fb != fb) = false := by cases fb <;> rfl
              have hbe := hte.symm
              clear htb hte
              go_wp2_with fail
              go_ret
              exact ⟨false, rfl, (fun h => by cases h), below_ext HB.out (((Below.refl _ _).alloc (Nat.le_refl _) _).alloc (by simp) _)⟩
          · subst hq
            have hbb := htb.symm
            clear htb hte HTB HTE
            cases fb
            · cases gb
              · simp at hbb
              · go_wp2_with fail
                go_ret
                exact ⟨false, rfl, (fun h => by cases h), below_ext HB.out (((Below.refl _ _).alloc (Nat.le_refl _) _).alloc (by simp) _)⟩
            · cases gb
              · go_wp2_with fail
                go_ret
                exact ⟨false, rfl, (fun h => by cases h), below_ext HB.out (((Below.refl _ _).alloc (Nat.le_refl _) _).alloc (by simp) _)⟩
              · simp at hbb
        · obtain rfl : k = nl := by omega
          have HXX : Hid (ns = ms) := Lib.hid (by
            have h := HEQ.out
            rwa [List.take_of_length_le (by rw [← HNL.out]; omega), List.take_of_length_le (by rw [← HML.out]; omega)] at h)
          go_wp2_with fail
          go_ret
          exact ⟨true, rfl, fun _ => HXX.out, HB.out⟩
  · have hbn : ((nl : Int) != (ml : Int)) = true := by simp; omega
    have HNM := Lib.hid hnm
    clear hnm
    go_enter Try.func109, Try.ntmps109
    go_wp2_with fail
    go_quiet (fail)
    all_goals
      go_wp2_with fail
      go_ret
      exact ⟨false, rfl, (fun h => by cases h), below_drewN (Below.refl _ _) _⟩

end Go.Proofs.Ytepmcfleijiloaa

end
section
set_option linter.unusedVariables false
set_option linter.unusedSimpArgs false
/- graph.Made, of nodes that are no graph of words. -/
namespace Go.Proofs.Ytepmcfleijiloaa
open Go.RowKit

set_option maxHeartbeats 8000000 in
set_option maxRecDepth 100000 in
/-- graph.Made -/
theorem c88a {w : World} {A : Option Addr} {c : Nat} {cs : List (Value × Value)} {ns : List Nd} (h : Nods w A c cs ns) (len : Nat) (hlen : len = ns.length) (hlb : ns.length ≤ 65535) (hfw : ∀ k (hk : k < ns.length), ns[k].2.length ≤ 65535) (hrn : ∀ k (hk : k < ns.length), ∀ e ∈ ns[k].2, e.1 ≤ 1114111)
    (hnot : ∀ xs, Small xs → goodE xs = 0 → ns ≠ graphOf (textsOf xs)) :
    Calls Try.prog 88 #[.slice A len c] w fun e w' => e = .returned (.pointer none) ∧ Below w.heap.size w w' := by
  obtain ⟨nl, hnl⟩ : ∃ n, n = len := ⟨_, rfl⟩
  have hlen2 : nl = ns.length := by rw [hnl, hlen]
  have hnl2 : nl ≤ 65535 := by omega
  rw [← hnl]
  have HFW := Lib.hid hfw
  have HRN := Lib.hid hrn
  have HNOT := Lib.hid hnot
  have hcap := h.2.2.1
  have hcap2 := h.2.2.2.1
  have HN := Lib.hid h
  have HLEN := Lib.hid hlen2
  rw [← hlen2] at hcap
  clear h hnl hlen hlen2 hlb hfw hrn hnot
  have hx0 := heap_alloc_new w (.cells #[.slice none 0 0] 88)
  have HX0 : Hid (Below w.heap.size w (w.alloc (.cells #[.slice none 0 0] 88))) := Lib.hid ((Below.refl _ _).alloc (Nat.le_refl _) _)
  have HX1 := Lib.hid hx0
  clear hx0
  go_enter Try.func88, Try.ntmps88
  go_wp2_with fail
  go_loopw [16] (fun i wr => ∃ (k cg : Nat) (Ag : Option Addr), k ≤ nl ∧ i = .int .i64 k ∧ Hid (wr.heap[w.heap.size]? = some (.cells #[.slice Ag k cg] 88 (0, 0))) ∧ Hid (wr.ownsRow (w.heap.size + 1) 93 2 (.slice Ag k cg) k (flat (cs.take k))) ∧ Hid (Below w.heap.size w wr) ∧ w.heap.size < wr.heap.size ∧ Hid (∀ nd ∈ ns.take k, ∀ e ∈ nd.2, e.2 < nl)) (fun i _ => nl - (intOf i).toNat)
  case atStart => exact ⟨0, 0, none, by omega, rfl, HX1, Lib.hid (by simpa [flat] using World.ownsRow_nil _ _ _ _), HX0, by simp, Lib.hid (fun nd h => by simp at h)⟩
  case round =>
    clear HX0 HX1
    obtain ⟨k, cg, Ag, hk, rfl, HGC, HO, HB, hsz, HTK⟩ := hrel
    obtain ⟨wo, rfl⟩ : ∃ wo : World, wo = wr := ⟨_, rfl⟩
    by_cases hlt : k < nl
    · have hkn : k < ns.length := by rw [← HLEN.out]; exact hlt
      have hkc : k < cs.length := by rw [HN.out.2.1]; exact hkn
      have hfew := HFW.out k hkn
      obtain ⟨A2, c2, e, he⟩ := (HN.out.ext HB.out).2.2.2.2 k hkn hkc
      have hf := flat_at cs k hkc
      obtain ⟨b, o, rfl, _, hbl, hc⟩ := (HN.out.ext HB.out).1 (by rw [flat_len]; omega)
      have HT1 : Hid (cs.take (k + 1) = cs.take k ++ [(.bool ns[k].1, .slice A2 ns[k].2.length c2)]) := Lib.hid (by rw [List.take_succ_eq_append_getElem hkc, e])
      have HTN : Hid ((∀ e ∈ ns[k].2, e.2 < nl) → ∀ nd ∈ ns.take (k + 1), ∀ e ∈ nd.2, e.2 < nl) := Lib.hid fun h2 nd hnd => by
        rw [List.take_succ_eq_append_getElem hkn] at hnd
        rcases List.mem_append.1 hnd with h3 | h3
        · exact HTK.out nd h3
        · obtain rfl : nd = ns[k] := by simpa using h3
          exact h2
      rw [e] at hf
      have k1 := hc _ _ hf.1
      have k2 := hc _ _ hf.2
      rw [← Nat.add_assoc] at k2
      rw [Nat.mul_comm] at k1 k2
      obtain ⟨fb, hfb⟩ : ∃ f, f = ns[k].1 := ⟨_, rfl⟩
      obtain ⟨es, hes⟩ : ∃ f, f = ns[k].2 := ⟨_, rfl⟩
      rw [← hfb, ← hes] at HT1
      rw [← hes] at HTN
      rw [← hfb] at k1
      rw [← hes] at k2 he hfew
      simp only at k1 k2
      have hl1 := he.2.1
      have hl2 := he.2.2
      have HE := Lib.hid he
      have hn0 := cell_new wo #[.bool fb, .slice A2 es.length c2] 113 (0, 0) 0
      have hn1 := cell_new wo #[.bool fb, .slice A2 es.length c2] 113 (0, 0) 1
      have HN0 : Hid ((wo.alloc (.cells #[.bool fb, .slice A2 es.length c2] 113)).cell? ⟨wo.heap.size, 0, none⟩ = some (.bool fb)) := Lib.hid (by simp)
      have HN1 : Hid ((wo.alloc (.cells #[.bool fb, .slice A2 es.length c2] 113)).cell? ⟨wo.heap.size, 1, none⟩ = some (.slice A2 es.length c2)) := Lib.hid (by simp)
      clear hfb hes he hc hf e hn0 hn1
      go_wp2_with fail
      go_loopw [23] (fun i wr => ∃ m : Nat, m ≤ es.length ∧ i = .int .i64 m ∧ Hid (Below wo.heap.size wo wr) ∧ Hid (wr.cell? ⟨wo.heap.size, 0, none⟩ = some (.bool fb)) ∧ Hid (wr.cell? ⟨wo.heap.size, 1, none⟩ = some (.slice A2 es.length c2)) ∧ wo.heap.size < wr.heap.size ∧ Hid (∀ e ∈ es.take m, e.2 < nl)) (fun i _ => es.length - (intOf i).toNat)
      case atStart => exact ⟨0, by omega, rfl, Lib.hid ((Below.refl _ _).alloc (Nat.le_refl _) _), HN0, HN1, by simp, Lib.hid (fun e h => by simp at h)⟩
      case round =>
        clear HN0 HN1
        obtain ⟨m, hm, rfl, HBW, HC0, HC1, hszr, HTE⟩ := hrel
        by_cases hlm : m < es.length
        · obtain ⟨b7, o7, hA, _, hb7, hx1, hx2⟩ := (HE.out.ext HBW.out).at_ hlm
          subst hA
          obtain ⟨x, hx⟩ : ∃ x, x = es[m].1 := ⟨_, rfl⟩
          obtain ⟨y, hy⟩ : ∃ x, x = es[m].2 := ⟨_, rfl⟩
          have HTE2 : Hid (y < nl → ∀ e ∈ es.take (m + 1), e.2 < nl) := Lib.hid fun h2 e he => by
            rw [List.take_succ_eq_append_getElem hlm] at he
            rcases List.mem_append.1 he with h3 | h3
            · exact HTE.out e h3
            · obtain rfl : e = es[m] := by simpa using h3
              rw [← hy]; exact h2
          rw [← hx] at hx1
          rw [← hy] at hx2
          have HA0 : Hid ((wr.alloc (.cells #[.int .i32 x, .int .i64 y] 49)).cell? ⟨wo.heap.size, 0, none⟩ = some (.bool fb)) := Lib.hid (cell_ext9 HC0.out hszr ((Below.refl _ _).alloc (Nat.le_refl _) _))
          have HA1 := Lib.hid (cell_ext9 HC1.out hszr ((Below.refl _ _).alloc (Nat.le_refl _) (.cells #[.int .i32 x, .int .i64 y] 49)))
          have HBR : Hid (Below w.heap.size w (wr.alloc (.cells #[.int .i32 x, .int .i64 y] 49))) := Lib.hid (below_ext HB.out (HBW.out.alloc HBW.out.size _))
          clear hx hy
          by_cases hy1 : y < 1
          · have d1 : decide ((y : Int) < 1) = true := decide_eq_true (by omega)
            go_wp2_with fail
            go_ret
            exact ⟨rfl, HBR.out⟩
          · have d1 : decide ((y : Int) < 1) = false := decide_eq_false (by omega)
            by_cases hy2 : nl ≤ y
            · have d2 : decide ((nl : Int) ≤ y) = true := decide_eq_true (by omega)
              go_wp2_with fail
              go_ret
              exact ⟨rfl, HBR.out⟩
            · have d2 : decide ((nl : Int) ≤ y) = false := decide_eq_false (by omega)
              have HTE3 := Lib.hid (HTE2.out (by omega))
              go_wp2_with fail
              go_roundw
              case rel => exact ⟨m + 1, by omega, by go_num, Lib.hid (HBW.out.alloc HBW.out.size _), HA0, HA1, by simp; omega, HTE3⟩
              case measure => simp [intOf]; omega
        · obtain rfl : m = es.length := by omega
          have HTN2 := Lib.hid (HTN.out (by have h := HTE.out; rwa [List.take_length] at h))
          have kc0 := HC0.out
          have kc1 := HC1.out
          have HG2 : Hid (wr.heap[w.heap.size]? = some (.cells #[.slice Ag k cg] 88 (0, 0))) := Lib.hid ((HBW.out.block _ hsz).trans HGC.out)
          have HO2 := Lib.hid (own_below HO.out HBW.out)
          have HB2 := Lib.hid (below_ext HB.out HBW.out)
          have kg2 : wr.cell? ⟨w.heap.size, 0, none⟩ = some (.slice Ag k cg) := by rw [cell_of_row _ _ _ _ _ _ HG2.out]; rfl
          have hsz2 : w.heap.size + 1 ≤ wr.heap.size := by omega
          have hszr2 : w.heap.size < wr.heap.size := by omega
          have kg3 : (wr.alloc (.cells #[.bool fb, .slice A2 es.length c2] 93)).cell? ⟨w.heap.size, 0, none⟩ = some (.slice Ag k cg) := cell_ext9 kg2 hszr2 ((Below.refl _ _).alloc (Nat.le_refl _) _)
          have hkl : (flat (cs.take k)).length = k * 2 := HO2.out.1
          go_wp2_with fail
          go_region_law (first
            | (refine step_append_rd infoN (by rfl) (.tmp 42) (.tmp 48) (by rfl) (w.heap.size + 1) (.slice Ag k cg) k (flat (cs.take k)) (by rfl) (own_below HO2.out (by repeat (first | exact Below.refl _ _ | apply below_drewN | apply Below.drew | (refine Below.alloc ?_ (by simp) _)))) _ _ _ 1 1 [.bool fb, .slice A2 es.length c2] (by rfl) (by first | exact Rd.two _ _ _ _ | exact Rd.drewN (Rd.two _ _ _ _) _) (by rfl) (by simp [Value.oneCell']) (by omega) (by simp; omega) ?_; intro v6 w6 hown1 hg1 hat1; obtain ⟨A6, c6, rfl, _, _⟩ := own_slice hown1; have hlt6 := HO2.out.lt; have hg6 : wr.grownBy w6 (Value.slice Ag k cg).ownBlock := grown_trans (grown_below (by repeat (first | exact Below.refl _ _ | apply below_drewN | apply Below.drew | (refine Below.alloc ?_ (by simp) _)))) hg1; have HG6 : Hid (w6.heap[w.heap.size]? = some (.cells #[.slice Ag k cg] 88 (0, 0))) := Lib.hid ((hg6.block _ (by omega) (fun e => by have := hlt6 _ e.symm; omega)).trans HG2.out); have fg6 : w6.frozen? ⟨w.heap.size, 0, none⟩ = false := (by simp [World.frozen?, HG6.out]); have kg6 : w6.cell? ⟨w.heap.size, 0, none⟩ = some (.slice Ag k cg) := (by rw [cell_of_row _ _ _ _ _ _ HG6.out]; rfl); have HB6 : Hid (Below w.heap.size w w6) := Lib.hid (HB2.out.grown hg6 HB2.out.size (fun q hq => by have := hlt6 _ hq; omega)); have HO6 := Lib.hid hown1; have hsz6 : w.heap.size < w6.heap.size := Nat.lt_of_lt_of_le (by omega) hg6.size; clear hown1 hg1 hat1 hg6 hlt6))
          all_goals
            have hgx := Lib.hid (grown_set w6 w.heap.size 0 (.slice A6 (k + 1) c6))
            have HGf : Hid ((w6.setCell ⟨w.heap.size, 0, none⟩ (.slice A6 (k + 1) c6)).heap[w.heap.size]? = some (.cells #[.slice A6 (k + 1) c6] 88 (0, 0))) := Lib.hid (by rw [Go.Joins.block_setCell HG6.out]; rfl)
            have HOf := Lib.hid (HO6.out.kept hgx.out (Or.inr fun e => by have := HO6.out.lt _ e; omega))
            have HBf : Hid (Below w.heap.size w (w6.setCell ⟨w.heap.size, 0, none⟩ (.slice A6 (k + 1) c6))) := Lib.hid (HB6.out.setCell (Nat.le_refl _) _)
            have hszf : w.heap.size < (w6.setCell ⟨w.heap.size, 0, none⟩ (.slice A6 (k + 1) c6)).heap.size := Nat.lt_of_lt_of_le hsz6 hgx.out.size
            clear HG6 fg6 kg6 HO6 HB6 hgx hkl
            go_wp2_with fail
            go_roundw
            case rel => exact ⟨k + 1, c6, A6, by omega, by go_num, HGf, Lib.hid (by rw [HT1.out, flat_append]; exact HOf.out), HBf, hszf, HTN2⟩
            case measure => simp [intOf]; omega
    · obtain rfl : k = nl := by omega
      by_cases hk0 : k = 0
      · subst hk0
        go_wp2_with fail
        go_ret
        exact ⟨rfl, HB.out⟩
      · have d0 : ((k : Int) == 0) = false := beq_eq_false_iff_ne.2 (by omega)
        by_cases hk7 : 721 < k
        · have d1 : decide ((721 : Int) < k) = true := decide_eq_true (by omega)
          go_wp2_with fail
          go_ret
          exact ⟨rfl, HB.out⟩
        · have d1 : decide ((721 : Int) < k) = false := decide_eq_false (by omega)
          obtain ⟨_, _, e0, hc1, hc2⟩ := own_slice HO.out
          cases e0
          have hkc : cs.take k = cs := List.take_of_length_le (by rw [HN.out.2.1, HLEN.out]; omega)
          have GV : Hid (GraphV wo 0 (.pointer (some ⟨w.heap.size, 0, none⟩)) ns) := Lib.hid (by
            have hO := HO.out
            rw [hkc] at hO
            have hg := HGC.out
            have e := HLEN.out
            subst e
            exact .inr ⟨w.heap.size, Ag, cg, cs, rfl, Nat.zero_le _, hg, hc1, hc2, (Rd.of_own hO).wide (Nat.zero_le _) (Nat.le_refl _), HN.out.2.1, fun i h1 h2 => ((HN.out.2.2.2.2 i h1 h2).ext HB.out)⟩)
          have HP : Hid (0 < ns.length) := Lib.hid (by rw [← HLEN.out]; omega)
          have HLE : Hid (ns.length ≤ 721) := Lib.hid (by rw [← HLEN.out]; omega)
          have HTO : Hid (∀ k (hk : k < ns.length), ∀ e ∈ ns[k].2, e.2 < ns.length) := Lib.hid fun j hj e he => by
            have h := HTK.out
            rw [List.take_of_length_le (by rw [HLEN.out]; omega)] at h
            have h := h _ (List.getElem_mem hj) e he
            rw [HLEN.out] at h
            exact h
          clear hkc HGC HO hk0 hk7
          go_wp2_with fail
          (with_reducible refine (c107a GV.out HP.out HLE.out HFW.out HTO.out HRN.out).mono ?_); rintro e w2 ⟨bb, rfl, hb⟩
          replace HB := Lib.hid (below_ext HB.out hb)
          replace GV := Lib.hid (GV.out.ext hb)
          clear hb
          cases bb
          · go_wp2_with fail
            go_ret
            exact ⟨rfl, HB.out⟩
          · go_wp2_with fail
            (with_reducible refine (c108a GV.out HP.out HFW.out HTO.out HRN.out).mono ?_); rintro e w3 ⟨A3, c3, l, bb, rfl, hs3, hb, hl61, hsh⟩
            replace HB := Lib.hid (below_ext HB.out hb)
            replace GV := Lib.hid (GV.out.ext hb)
            have S3 := Lib.hid hs3
            have hl3 := hs3.2.1
            have hm3 := hs3.2.2
            have HSM : Hid (Small l) := Lib.hid fun x hx => Nat.le_trans (hsh x hx) (by omega)
            clear hb hs3 hsh
            cases bb
            · go_wp2_with fail
              go_ret
              exact ⟨rfl, HB.out⟩
            · obtain ⟨gd, hgd⟩ : ∃ g, g = goodE l := ⟨_, rfl⟩
              have HGD := Lib.hid hgd
              clear hgd
              go_wp2_with fail
              (with_reducible refine (k25 S3.out HSM.out HGD.out).mono ?_); rintro e w4 ⟨p, rfl, HPQ, hb⟩
              replace HB := Lib.hid (below_ext HB.out hb)
              replace GV := Lib.hid (GV.out.ext hb)
              clear hb
              by_cases hg0 : gd = 0
              · subst hg0
                obtain ⟨g2, rfl, hgv, hw⟩ := HPQ.out.2 rfl
                have GV2 := Lib.hid hgv
                have hgl : 0 < (graphOf (textsOf l)).length := by rw [graphOf_len]; obtain ⟨M, hM⟩ := nodesOf_head (textsOf l); rw [hM]; simp
                have HGL := Lib.hid hgl
                clear hgv hw HPQ hgl
                go_wp2_with fail
                (with_reducible refine (c109a GV2.out GV.out HGL.out HP.out).mono ?_); rintro e w5 ⟨bb, rfl, hbt, hb⟩
                replace HB := Lib.hid (below_ext HB.out hb)
                have HBT := Lib.hid hbt
                clear hb hbt
                cases bb
                · go_wp2_with fail
                  go_ret
                  exact ⟨rfl, HB.out⟩
                · exact absurd (HBT.out rfl).symm (HNOT.out l HSM.out HGD.out.symm)
              · have hg : (gd != 0) = true := by simpa using hg0
                have HG0 := Lib.hid hg0
                clear hg0 HPQ
                go_wp2_with fail
                go_ret
                exact ⟨rfl, HB.out⟩

end Go.Proofs.Ytepmcfleijiloaa

end
section
set_option linter.unusedVariables false
set_option linter.unusedSimpArgs false
/- Any bytes read: what was read is laid again; plain. -/
namespace Go.Proofs.Ytepmcfleijiloaa

theorem be_snoc (k n x : Nat) (hx : x < 256) : be (k + 1) (n * 256 + x) = be k n ++ [x] := by
  unfold be
  rw [List.range_succ, List.map_append]
  congr 1
  · apply List.map_congr_left
    intro i hi
    have hi : i < k := List.mem_range.1 hi
    have e : 8 * (k + 1 - 1 - i) = 8 + 8 * (k - 1 - i) := by omega
    rw [e, Nat.pow_add, ← Nat.div_div_eq_div_mul]
    have e2 : (n * 256 + x) / 2 ^ 8 = n := by omega
    rw [e2]
  · simp
    omega
theorem be_foldN : ∀ (k : Nat) (m : List Nat), m.length = k → (∀ x ∈ m, x < 256) → be m.length (m.foldl (fun n x => n * 256 + x) 0) = m
  | 0, m, hk, _ => by
    obtain rfl := List.length_eq_zero_iff.1 hk
    rfl
  | k + 1, m, hk, h => by
    have hne : m ≠ [] := fun e => by rw [e] at hk; cases hk
    have e := List.dropLast_concat_getLast hne
    obtain ⟨d, hd⟩ : ∃ d, d = m.dropLast := ⟨_, rfl⟩
    obtain ⟨x, hx⟩ : ∃ x, x = m.getLast hne := ⟨_, rfl⟩
    rw [← hd, ← hx] at e
    clear hd hx hne
    subst e
    have ih := be_foldN k d (by simpa using hk) fun y hy => h y (by simp [hy])
    rw [List.foldl_append, List.length_append]
    show be (d.length + 1) (d.foldl _ 0 * 256 + x) = _
    rw [be_snoc _ _ _ (h x (by simp)), ih]
theorem be_fold (m : List Nat) (h : ∀ x ∈ m, x < 256) : be m.length (m.foldl (fun n x => n * 256 + x) 0) = m := be_foldN _ m rfl h
theorem take_num {l : List Nat} (hb : ∀ x ∈ l, x < 256) {p size : Nat} (h : p + size ≤ l.length) : l.take (p + size) = l.take p ++ be size (numB l p size) := by
  have e : ((l.drop p).take size).length = size := by simp; omega
  have h2 := be_fold ((l.drop p).take size) (fun x hx => hb x (List.mem_of_mem_drop (List.mem_of_mem_take hx)))
  rw [e] at h2
  unfold numB
  rw [h2, List.take_add]
theorem rdN_inv {l : List Nat} (hb : ∀ x ∈ l, x < 256) {p q n size : Nat} {bad : Bool} (h : rdN l p bad size = (n, q, false)) : bad = false ∧ q = p + size ∧ q ≤ l.length ∧ n = numB l p size ∧ l.take q = l.take p ++ be size n := by
  unfold rdN at h
  split at h
  · rename_i h1
    simp only [Prod.mk.injEq] at h
    obtain ⟨rfl, rfl, rfl⟩ := h
    exact ⟨rfl, rfl, h1, rfl, take_num hb h1⟩
  · simp at h
theorem stE_le {l : List Nat} (hb : ∀ x ∈ l, x < 256) {s : List (Nat × Nat) × Nat × Bool} (h : s.2.1 ≤ l.length) : (stE l s).2.1 ≤ l.length := by
  unfold stE
  split
  · exact h
  · obtain ⟨x, p2, g2, h3⟩ : ∃ a b c, rdN l s.2.1 false 4 = (a, b, c) := ⟨_, _, _, rfl⟩
    rw [h3]
    simp only
    obtain ⟨y, p3, g3, h4⟩ : ∃ a b c, rdN l p2 (g2 || decide (1114111 < x)) 2 = (a, b, c) := ⟨_, _, _, rfl⟩
    rw [h4]
    exact (rdN_le hb h4 (rdN_le hb h3 h).1).1
theorem itE_le {l : List Nat} (hb : ∀ x ∈ l, x < 256) {s : List (Nat × Nat) × Nat × Bool} (h : s.2.1 ≤ l.length) : ∀ k, (itE l k s).2.1 ≤ l.length
  | 0 => h
  | k + 1 => by rw [itE_succ]; exact stE_le hb (itE_le hb h k)
theorem rdNode_le {l : List Nat} (hb : ∀ x ∈ l, x < 256) {p q : Nat} {bad bd : Bool} {nd : Nd} (hp : p ≤ l.length) (h : rdNode l p bad = (nd, q, bd)) : q ≤ l.length := by
  unfold rdNode at h
  obtain ⟨f, p1, g1, h1⟩ : ∃ a b c, rdN l p bad 1 = (a, b, c) := ⟨_, _, _, rfl⟩
  rw [h1] at h
  simp only at h
  obtain ⟨n, p2, g2, h2⟩ : ∃ a b c, rdN l p1 (g1 || decide (1 < f)) 2 = (a, b, c) := ⟨_, _, _, rfl⟩
  rw [h2] at h
  simp only [Prod.mk.injEq] at h
  obtain ⟨_, rfl, _⟩ := h
  exact itE_le hb (rdN_le hb h2 (rdN_le hb h1 hp).1).1 n
theorem itE_inv {l : List Nat} (hb : ∀ x ∈ l, x < 256) {p0 : Nat} {b0 : Bool} (h0 : p0 ≤ l.length) : ∀ (k : Nat) {es : List (Nat × Nat)} {q : Nat}, itE l k ([], p0, b0) = (es, q, false) →
    b0 = false ∧ es.length = k ∧ q ≤ l.length ∧ l.take q = l.take p0 ++ edgesB es ∧ ∀ e ∈ es, e.1 ≤ 1114111 ∧ e.2 ≤ 65535
  | 0, es, q, h => by
    simp only [itE, Prod.mk.injEq] at h
    obtain ⟨rfl, rfl, rfl⟩ := h
    exact ⟨rfl, rfl, h0, by simp [edgesB], fun e he => by simp at he⟩
  | k + 1, es, q, h => by
    rw [itE_succ] at h
    obtain ⟨es1, q1, f1, h1⟩ : ∃ a b c, itE l k ([], p0, b0) = (a, b, c) := ⟨_, _, _, rfl⟩
    rw [h1] at h
    unfold stE at h
    simp only at h
    split at h
    · rename_i h2
      simp only [Prod.mk.injEq] at h
      obtain ⟨_, _, rfl⟩ := h
      cases h2
    · rename_i h2
      have h2 : f1 = false := by simpa using h2
      subst h2
      obtain ⟨i1, i2, i3, i4, i5⟩ := itE_inv hb h0 k h1
      obtain ⟨x, p2, g2, h3⟩ : ∃ a b c, rdN l q1 false 4 = (a, b, c) := ⟨_, _, _, rfl⟩
      rw [h3] at h
      simp only at h
      obtain ⟨y, p3, g3, h4⟩ : ∃ a b c, rdN l p2 (g2 || decide (1114111 < x)) 2 = (a, b, c) := ⟨_, _, _, rfl⟩
      rw [h4] at h
      simp only [Prod.mk.injEq] at h
      obtain ⟨rfl, rfl, rfl⟩ := h
      obtain ⟨j1, j2, j3, j4, j5⟩ := rdN_inv hb h4
      have j1' : g2 = false ∧ x ≤ 1114111 := by
        rw [Bool.or_eq_false_iff] at j1
        refine ⟨j1.1, ?_⟩
        have := j1.2
        simp at this
        exact this
      rw [j1'.1] at h3
      obtain ⟨k1, k2, k3, k4, k5⟩ := rdN_inv hb h3
      refine ⟨i1, by simp [i2], j3, ?_, fun e he => ?_⟩
      · rw [j5, k5, i4]
        unfold edgesB
        rw [List.flatMap_append]
        simp [edgeB]
      · rcases List.mem_append.1 he with he | he
        · exact i5 e he
        · obtain rfl : e = (x, y) := by simpa using he
          refine ⟨j1'.2, ?_⟩
          have := numB_lt hb p2 2 (by omega)
          rw [← j4] at this
          show y ≤ 65535
          omega
theorem rdNode_inv {l : List Nat} (hb : ∀ x ∈ l, x < 256) {p q : Nat} {nd : Nd} (hp : p ≤ l.length) (h : rdNode l p false = (nd, q, false)) :
    q ≤ l.length ∧ l.take q = l.take p ++ nodeB nd ∧ nd.2.length ≤ 65535 ∧ ∀ e ∈ nd.2, e.1 ≤ 1114111 ∧ e.2 ≤ 65535 := by
  unfold rdNode at h
  obtain ⟨f, p1, g1, h1⟩ : ∃ a b c, rdN l p false 1 = (a, b, c) := ⟨_, _, _, rfl⟩
  rw [h1] at h
  simp only at h
  obtain ⟨n, p2, g2, h2⟩ : ∃ a b c, rdN l p1 (g1 || decide (1 < f)) 2 = (a, b, c) := ⟨_, _, _, rfl⟩
  rw [h2] at h
  simp only at h
  obtain ⟨es, p3, g3, h3⟩ : ∃ a b c, itE l n ([], p2, g2) = (a, b, c) := ⟨_, _, _, rfl⟩
  rw [h3] at h
  simp only [Prod.mk.injEq] at h
  obtain ⟨rfl, rfl, rfl⟩ := h
  have hp2 : p2 ≤ l.length := (rdN_le hb h2 (rdN_le hb h1 hp).1).1
  obtain ⟨i1, i2, i3, i4, i5⟩ := itE_inv hb hp2 n h3
  rw [i1] at h2
  obtain ⟨j1, j2, j3, j4, j5⟩ := rdN_inv hb h2
  rw [Bool.or_eq_false_iff] at j1
  have hf1 : f ≤ 1 := by have := j1.2; simp at this; omega
  rw [j1.1] at h1
  obtain ⟨k1, k2, k3, k4, k5⟩ := rdN_inv hb h1
  refine ⟨i3, ?_, ?_, i5⟩
  · rw [i4, j5, k5]
    have e : (if decide (f = 1) then 1 else 0 : Nat) = f := by
      rcases (show f = 0 ∨ f = 1 by omega) with rfl | rfl <;> rfl
    unfold nodeB
    simp only
    rw [e, i2]
    simp only [List.append_assoc]
  · show es.length ≤ 65535
    rw [i2, j4]
    have := numB_lt hb p1 2 (by omega)
    omega
theorem nodesB_snoc (ns : List Nd) (nd : Nd) : nodesB (ns ++ [nd]) = nodesB ns ++ nodeB nd := by
  unfold nodesB; rw [List.flatMap_append]; simp

/-! No image is the beginning of another one. -/
theorem be_inj4 {size m n : Nat} (h4 : size = 1 ∨ size = 2 ∨ size = 4) (hm : m < 256 ^ size) (hn : n < 256 ^ size) {x y : List Nat} (h : be size m ++ x = be size n ++ y) : m = n ∧ x = y := by
  have h2 := List.append_inj h (by rw [be_len, be_len])
  refine ⟨?_, h2.2⟩
  have h3 := congrArg (List.foldl (fun n x => n * 256 + x) 0) h2.1
  rcases h4 with rfl | rfl | rfl
  · rwa [fold_be1 m (by omega), fold_be1 n (by omega)] at h3
  · rwa [fold_be2 m (by omega), fold_be2 n (by omega)] at h3
  · rwa [fold_be4 m (by omega), fold_be4 n (by omega)] at h3
theorem edgesB_pre : ∀ {es fs : List (Nat × Nat)} {x y : List Nat}, es.length = fs.length → (∀ e ∈ es, e.1 ≤ 1114111 ∧ e.2 < 721) → (∀ e ∈ fs, e.1 ≤ 1114111 ∧ e.2 < 721) → edgesB es ++ x = edgesB fs ++ y → es = fs ∧ x = y
  | [], [], x, y, _, _, _, h => ⟨rfl, by simpa [edgesB] using h⟩
  | [], _ :: _, _, _, h, _, _, _ => by simp at h
  | _ :: _, [], _, _, h, _, _, _ => by simp at h
  | e :: es, f :: fs, x, y, hl, he, hf, h => by
    have e1 : ∀ (e : Nat × Nat) (es : List (Nat × Nat)) (x : List Nat), edgesB (e :: es) ++ x = be 4 e.1 ++ (be 2 e.2 ++ (edgesB es ++ x)) := fun e es x => by
      unfold edgesB; simp [edgeB, List.append_assoc]
    rw [e1, e1] at h
    obtain ⟨a1, a2⟩ := he e (by simp)
    obtain ⟨b1, b2⟩ := hf f (by simp)
    obtain ⟨h1, h⟩ := be_inj4 (Or.inr (Or.inr rfl)) (by omega) (by omega) h
    obtain ⟨h2, h⟩ := be_inj4 (Or.inr (Or.inl rfl)) (by omega) (by omega) h
    obtain ⟨h3, h4⟩ := edgesB_pre (by simpa using hl) (fun g hg => he g (by simp [hg])) (fun g hg => hf g (by simp [hg])) h
    exact ⟨by rw [h3, Prod.ext h1 h2], h4⟩
theorem nodesB_pre : ∀ {ns ms : List Nd} {x y : List Nat}, ns.length = ms.length → (∀ nd ∈ ns, nd.2.length ≤ 60 ∧ ∀ e ∈ nd.2, e.1 ≤ 1114111 ∧ e.2 < 721) → (∀ nd ∈ ms, nd.2.length ≤ 60 ∧ ∀ e ∈ nd.2, e.1 ≤ 1114111 ∧ e.2 < 721) → nodesB ns ++ x = nodesB ms ++ y → ns = ms ∧ x = y
  | [], [], x, y, _, _, _, h => ⟨rfl, by simpa [nodesB] using h⟩
  | [], _ :: _, _, _, h, _, _, _ => by simp at h
  | _ :: _, [], _, _, h, _, _, _ => by simp at h
  | e :: es, f :: fs, x, y, hl, he, hf, h => by
    have e1 : ∀ (e : Nd) (es : List Nd) (x : List Nat), nodesB (e :: es) ++ x = be 1 (if e.1 then 1 else 0) ++ (be 2 e.2.length ++ (edgesB e.2 ++ (nodesB es ++ x))) := fun e es x => by
      unfold nodesB; simp [nodeB, List.append_assoc]
    rw [e1, e1] at h
    obtain ⟨a1, a2⟩ := he e (by simp)
    obtain ⟨b1, b2⟩ := hf f (by simp)
    obtain ⟨h1, h⟩ := be_inj4 (Or.inl rfl) (by split <;> omega) (by split <;> omega) h
    obtain ⟨h2, h⟩ := be_inj4 (Or.inr (Or.inl rfl)) (by omega) (by omega) h
    obtain ⟨h3, h⟩ := edgesB_pre h2 a2 b2 h
    obtain ⟨h4, h5⟩ := nodesB_pre (by simpa using hl) (fun g hg => he g (by simp [hg])) (fun g hg => hf g (by simp [hg])) h
    have h6 : e.1 = f.1 := by
      cases hx : e.1 <;> cases hy : f.1 <;> simp [hx, hy] at h1 ⊢
    exact ⟨by rw [h4, Prod.ext h6 h3], h5⟩

end Go.Proofs.Ytepmcfleijiloaa

end
section
set_option linter.unusedVariables false
set_option linter.unusedSimpArgs false
/- pack.Decode, of bytes that are no image. -/
namespace Go.Proofs.Ytepmcfleijiloaa
open Go.RowKit

/-- Are the last four bytes the sum of the others? -/
def sumOk (l : List Nat) : Bool := decide (4 ≤ l.length) && decide (numB l (l.length - 4) 4 = crc (l.take (l.length - 4)))
/-- No image of words. -/
def NoImg (l : List Nat) : Prop := ∀ xs, Small xs → goodE xs = 0 → l ≠ imageB (graphOf (textsOf xs))

theorem head_any {w : World} {b o c : Nat} {l : List Nat} (h : Byts w 0 (some ⟨b, o, none⟩) c l) (hb : Okb l) (h4 : 4 ≤ l.length) (cap : Nat) :
    ∃ s : ByteArray, (convert 62 9 (.slice (some ⟨b, o, none⟩) 4 cap)).run Try.prog w = .ok (.string s) w ∧ s.size ≤ 1000 ∧ (s = ⟨#[73, 78, 75, 49]⟩ → l.take 4 = [73, 78, 75, 49]) := by
  have hl : (l.take 4).length = 4 := by simp; omega
  obtain ⟨m, hm⟩ : ∃ m : List UInt8, m = (l.take 4).map fun n => n.toUInt8 := ⟨_, rfl⟩
  have hml : m.length = 4 := by rw [hm]; simpa using hl
  have := run_convert_bytes_back (P := Try.prog) w 62 9 5 ⟨b, o, none⟩ cap m Try.underlying62 Try.underlying5 Try.underlying9 (fun j hj => by
    have hj4 : j < 4 := by omega
    obtain ⟨b', o', e, _, _, hc⟩ := h.at_ (k := j) (by omega)
    cases e
    rw [add_plain, hc]
    have e2 : m[j] = (l[j]'(by omega)).toUInt8 := by simp [hm]
    rw [e2]
    have hlt := hb _ (List.getElem_mem (by omega : j < l.length))
    congr 2
    simp
    omega)
  rw [hml] at this
  refine ⟨_, this, by rw [show (ByteArray.mk m.toArray).size = m.length by simp [ByteArray.size]]; omega, fun e => ?_⟩
  have e : m = [73, 78, 75, 49] := by
    have := congrArg (fun s => s.data.toList) e
    simpa using this
  apply List.ext_getElem
  · rw [hl]; rfl
  · intro j h1 h2
    have hlt := hb _ (List.mem_of_mem_take (List.getElem_mem h1))
    have e3 : m[j]'(by omega) = ((l.take 4)[j]).toUInt8 := by simp [hm]
    have e4 := List.getElem_of_eq e (by omega : j < m.length)
    rw [e3] at e4
    have e5 := congrArg UInt8.toNat e4
    have e6 : ((l.take 4)[j]).toUInt8.toNat = (l.take 4)[j] := (show ∀ z : Nat, z < 256 → z.toUInt8.toNat = z from fun z hz => by simp; omega) _ hlt
    rw [e6] at e5
    rw [e5]
    have h7 : j < 4 := by rw [hl] at h1; exact h1
    obtain rfl | rfl | rfl | rfl : j = 0 ∨ j = 1 ∨ j = 2 ∨ j = 3 := by omega
    all_goals rfl

set_option maxHeartbeats 8000000 in
set_option maxRecDepth 100000 in
/-- pack.Decode of bytes that are no image -/
theorem c54a {w : World} {A : Option Addr} {c len : Nat} {L : List Nat} (h : Byts w 0 A c L) (hb : Okb L) (hlen : len = L.length) (hL : L.length ≤ 300100) (hnot : NoImg L) (v : Int) (hv : v = if sumOk L then 8 else 9) :
    Calls Try.prog 54 #[.slice A len c] w fun e w' => e = .returned (.tuple #[.pointer none, .int .i64 v]) ∧ Below w.heap.size w w' := by
  have HL := Lib.hid hlen
  have HV := Lib.hid hv
  have BY := Lib.hid h
  have HOKB : Hid (∀ x ∈ L, x < 256) := Lib.hid hb
  by_cases h4 : len < 4
  · have d1 : decide ((len : Int) - 4 < 0) = true := decide_eq_true (by omega)
    obtain rfl : v = 9 := by rw [hv]; unfold sumOk; rw [decide_eq_false (by omega)]; rfl
    have hwr : wrap64 ((len : Int) - 4) = (len : Int) - 4 := by unfold wrap64; omega
    have hn4 : (len : Int) - 4 < 0 := by omega
    clear hv h hb hlen hL hnot h4
    go_enter Try.func54, Try.ntmps54
    go_wp2_with fail
    go_ret2
    exact ⟨rfl, Below.refl _ _⟩
  · obtain ⟨n, hn⟩ : ∃ n, len = n + 4 := ⟨len - 4, by omega⟩
    have d1 : decide ((len : Int) - 4 < 0) = false := decide_eq_false (by omega)
    have hls : (len : Int) - 4 = n := by omega
    have hnl : n ≤ 300096 := by omega
    have hle : n ≤ len := by omega
    have hl4' : 4 ≤ len := by omega
    have HL4 := Lib.hid hn
    obtain ⟨BB, hBB⟩ : ∃ B, B = L.take n := ⟨_, rfl⟩
    have hBl : n = BB.length := by rw [hBB]; simp; omega
    have HBB := Lib.hid hBB
    have HB := Lib.hid (h.take n)
    rw [← hBB] at HB
    have hcap := h.2.1
    have hcap2 := h.2.2
    have hcapn : n ≤ c := by omega
    have HN := Lib.hid hBl
    obtain ⟨cr, hcr⟩ : ∃ x, x = crc BB := ⟨_, rfl⟩
    have hcrl : cr < 4294967296 := by rw [hcr]; exact crc_lt _
    have HCR := Lib.hid hcr
    obtain ⟨cn, hcn⟩ : ∃ x, x = numB L n 4 := ⟨_, rfl⟩
    have hcnl : cn < 4294967296 := by rw [hcn]; exact numB_lt hb n 4 (by omega)
    have HCN := Lib.hid hcn
    have HOKC : Hid (∀ x ∈ BB, x < 256) := Lib.hid (by rw [hBB]; exact fun x hx => hb x (List.mem_of_mem_take hx))
    have HOKD : Hid (Okb BB) := Lib.hid HOKC.out
    have HS : Hid (sumOk L = decide (cn = cr)) := Lib.hid (by
      unfold sumOk
      rw [decide_eq_true (by omega : 4 ≤ L.length), Bool.true_and, ← hlen, show len - 4 = n by omega, hcn, hcr, hBB])
    have hcw : IntKind.u32.wrap (cn : Int) = cn := by simp [IntKind.wrap, IntKind.signed, IntKind.bits]; omega
    have HNOT := Lib.hid hnot
    have h1 := k85 BY.out HOKB.out len n 4 n 4 cn HL.out (by omega) (by omega) (by omega) (by omega) (by omega) HCN.out rfl rfl
    have H85 := Lib.hid h1
    clear hv h hb hlen hL hnot h4 hn hBB hBl hcr hcn h1
    by_cases hcc : cn = cr
    · have hce : ((cn : Int) != (cr : Int)) = false := by simp [hcc]
      obtain rfl : v = 8 := by rw [HV.out, HS.out, decide_eq_true hcc]; rfl
      have HCC := Lib.hid hcc
      clear hcc
      by_cases hn4 : n < 4
      · have d2 : decide ((n : Int) < 4) = true := decide_eq_true (by omega)
        go_enter Try.func54, Try.ntmps54
        go_wp2_with fail
        (with_reducible refine H85.out.mono ?_); rintro e w1 ⟨rfl, rfl⟩
        go_wp2_with fail
        (with_reducible refine (k84 HB.out HOKD.out (by rw [← HN.out]; omega) HCR.out HN.out).mono ?_); rintro e w1 ⟨rfl, rfl⟩
        go_wp2_with fail
        go_ret2
        exact ⟨rfl, Below.refl _ _⟩
      · have d2 : decide ((n : Int) < 4) = false := decide_eq_false (by omega)
        obtain ⟨b, o, rfl, _, hb0, hcx⟩ := BY.out.at_ (k := 0) (by rw [← HL.out]; omega)
        clear hcx
        obtain ⟨hs, hconv, hss, hsh⟩ := head_any BY.out HOKB.out (by rw [← HL.out]; omega) c
        by_cases hh : hs = ⟨#[73, 78, 75, 49]⟩
        · subst hh
          have H4 : Hid (L.take 4 = [73, 78, 75, 49]) := Lib.hid (hsh rfl)
          clear hsh hss
          have HRD : Hid (Rdr (w.alloc (.cells #[.slice (some ⟨b, o, none⟩) n c, .int .i64 4, .bool false] 109)) w.heap.size w.heap.size (some ⟨b, o, none⟩) c BB 4 false) := Lib.hid (by
            have h1 := heap_alloc_new w (.cells #[.slice (some ⟨b, o, none⟩) n c, .int .i64 4, .bool false] 109)
            have h2 := HB.out.1.below (w' := w.alloc (.cells #[.slice (some ⟨b, o, none⟩) n c, .int .i64 4, .bool false] 109)) ((Below.refl _ _).alloc (Nat.le_refl _) _)
            refine ⟨?_, h2, Nat.le_refl _, HB.out.2.1, HB.out.2.2⟩
            rw [h1, HN.out]
            rfl)
          have hbl2 : BB.length ≤ 900000 := by rw [← HN.out]; omega
          have h4b : 4 ≤ BB.length := by rw [← HN.out]; omega
          obtain ⟨cnt, p0, bad0, hcnt⟩ : ∃ a b c, rdN BB 4 false 2 = (a, b, c) := ⟨_, _, _, rfl⟩
          have HCNT := Lib.hid hcnt
          have hcl : cnt ≤ 65535 := by
            have := hcnt
            unfold rdN at this
            split at this
            · rename_i h7
              simp only [Prod.mk.injEq] at this
              have h8 := numB_lt HOKC.out 4 2 (by omega)
              omega
            · simp only [Prod.mk.injEq] at this
              omega
          have HPRE : Hid (bad0 = false → BB.take p0 = [73, 78, 75, 49] ++ be 2 cnt ∧ p0 ≤ BB.length) := Lib.hid fun e => by
            have h7 := HCNT.out
            rw [e] at h7
            obtain ⟨_, i2, i3, i4, i5⟩ := rdN_inv HOKC.out h7
            refine ⟨?_, i3⟩
            rw [i5]
            congr 1
            rw [HBB.out, List.take_take, Nat.min_eq_left (by omega)]
            exact H4.out
          clear hcnt
          go_enter Try.func54, Try.ntmps54
          go_wp2_with fail
          (with_reducible refine H85.out.mono ?_); rintro e w1 ⟨rfl, rfl⟩
          go_wp2_with fail
          (with_reducible refine (k84 HB.out HOKD.out (by rw [← HN.out]; omega) HCR.out HN.out).mono ?_); rintro e w1 ⟨rfl, rfl⟩
          go_wp2_with fail
          (with_reducible refine (k86 HRD.out HOKC.out hbl2 h4b 2 2 HCNT.out rfl (by omega) (by omega)).mono ?_); rintro e w2 ⟨rfl, hr2, hg2⟩
          have HR2 := Lib.hid hr2
          have HB2 : Hid (Below w.heap.size w w2) := Lib.hid (((Below.refl w.heap.size w).alloc (Nat.le_refl _) _).grown hg2 (by simp) (fun k hk => by injection hk with hk; omega))
          clear hr2 hg2 hconv
          go_wp2_with fail
          go_loopw [8, 43] (fun vo i wr => ∃ (k cn p : Nat) (bad : Bool) (An : Option Addr) (cs : List (Value × Value)) (ns : List Nd), k ≤ cnt ∧ i = .int .i64 k ∧ vo = .slice An k cn ∧ Hid (wr.ownsRow (w.heap.size + 1) 113 2 (.slice An k cn) k (flat cs)) ∧ Hid (cs.length = k ∧ ns.length = k ∧ p ≤ BB.length) ∧ Hid (bad = false → BB.take p = [73, 78, 75, 49] ++ be 2 cnt ++ nodesB ns ∧ (∀ nd ∈ ns, nd.2.length ≤ 65535 ∧ ∀ e ∈ nd.2, e.1 ≤ 1114111 ∧ e.2 ≤ 65535) ∧ ∀ j (h : j < ns.length) (h2 : j < cs.length), NSlot wr w.heap.size (.slice An k cn) cs[j] ns[j]) ∧ Hid (Rdr wr w.heap.size w.heap.size (some ⟨b, o, none⟩) c BB p bad) ∧ Hid (Below w.heap.size w wr)) (fun _ i _ => cnt - (intOf i).toNat)
          case atStart => exact ⟨0, 0, p0, bad0, none, [], [], by omega, rfl, rfl, Lib.hid (World.ownsRow_nil _ _ _ _), Lib.hid ⟨rfl, rfl, by
              have h7 := HCNT.out
              unfold rdN at h7
              split at h7
              · simp only [Prod.mk.injEq] at h7; omega
              · simp only [Prod.mk.injEq] at h7; omega⟩, Lib.hid fun e => ⟨by rw [(HPRE.out e).1]; simp [nodesB], fun nd h => by simp at h, fun j h => by simp at h⟩, HR2, HB2⟩
          case round =>
            clear HR2 HB2 HRD
            obtain ⟨k, cn2, p, bad, An, cs, ns, hk, rfl, rfl, HO, HLN, HNO, HR, HBW⟩ := hrel
            have k2 : wr.cell? ⟨w.heap.size, 2, none⟩ = some (.bool bad) := by rw [cell_of_row _ _ _ _ _ _ HR.out.row]; rfl
            have k1 : wr.cell? ⟨w.heap.size, 1, none⟩ = some (.int .i64 (p : Nat)) := by rw [cell_of_row _ _ _ _ _ _ HR.out.row]; rfl
            have hrb := HR.out.lt
            cases bad
            · by_cases hlt : k < cnt
              · have C := c87 wr w.heap.size w.heap.size (some ⟨b, o, none⟩) c BB p false HR.out HOKC.out hbl2 HLN.out.2.2
                obtain ⟨nd, q, bd, hnd⟩ : ∃ a b c, rdNode BB p false = (a, b, c) := ⟨_, _, _, rfl⟩
                rw [hnd] at C
                have HC := Lib.hid C
                have HND := Lib.hid hnd
                clear C k1 hnd
                go_wp2_with fail
                (with_reducible refine HC.out.mono ?_); rintro e w5 ⟨f, A5, n5, c5, vs, rfl, hr5, hg5, ho5, hv5⟩
                have HN5 : Hid (bd = false → NSlot w5 w.heap.size (.slice An k cn2) (.bool f, .slice A5 n5 c5) nd) := Lib.hid fun hbd => by
                  obtain ⟨hf5, hn5, hvs5⟩ := hv5 hbd
                  subst hvs5
                  obtain ⟨_, _, e5, hE5⟩ := Edgs.of_own ho5
                  cases e5
                  exact ⟨A5, c5, wr.heap.size, w5, by rw [hf5], hrb, Hold.refl (fun q hq => (HO.out.lt q hq).2), hE5⟩
                have HOLD : Hid (∀ j (h : j < ns.length) (h2 : j < cs.length), NSlot w5 w.heap.size (.slice An k cn2) cs[j] ns[j]) := Lib.hid fun j h h2 => ((HNO.out (by trivial)).2.2 j h h2).far hg5
                have HO5 := Lib.hid (HO.out.kept hg5 (Or.inr fun e => by have := HO.out.lt _ e; omega))
                have HR5 := Lib.hid hr5
                have HB5 : Hid (Below w.heap.size w w5) := Lib.hid (HBW.out.grown hg5 HBW.out.size (fun q hq => by injection hq with hq; omega))
                have hkl : (flat cs).length = k * 2 := HO5.out.1
                have hrb5 := hr5.lt
                clear hr5 hg5 ho5 hv5 HC hkl
                go_wp2_with (first
                  | (at_builtin
                     refine wpList_append_rd infoM rfl (.tmp 49) (.tmp 52) rfl (w.heap.size + 1) (.slice An k cn2) k (flat cs) rfl (HO5.out.alloc _) w5.heap.size (w5.heap.size + 1) _ 1 1 [.bool f, .slice A5 n5 c5] rfl (Rd.two w5 _ _ _) rfl (by simp [Value.oneCell']) (by omega) (by simp; omega) ?_
                     intro v6 w6 hown1 hg1 hat1
                     obtain ⟨A6, c6, rfl, _, _⟩ := own_slice hown1
                     have hlt6 := HO5.out.lt
                     have HR6 := Lib.hid (HR5.out.own (grown_trans (grown_below ((Below.refl _ _).alloc (Nat.le_refl _) _)) hg1) (fun q hq => by have := hlt6 _ hq; omega))
                     have HB6 : Hid (Below w.heap.size w w6) := Lib.hid ((HB5.out.alloc HB5.out.size _).grown hg1 (by simp; omega) (fun q hq => by have := hlt6 _ hq; omega))
                     have HOLD6 : Hid (∀ j (h : j < ns.length) (h2 : j < cs.length), NSlot w6 w.heap.size (.slice A6 (k + 1) c6) cs[j] ns[j]) := Lib.hid fun j h h2 => (HOLD.out j h h2).grown ((Below.refl _ _).alloc (Nat.le_refl _) _) hg1 hat1
                     have HN6 : Hid (bd = false → NSlot w6 w.heap.size (.slice A6 (k + 1) c6) (.bool f, .slice A5 n5 c5) nd) := Lib.hid fun hbd => (HN5.out hbd).grown ((Below.refl _ _).alloc (Nat.le_refl _) _) hg1 hat1
                     have HO6 := Lib.hid hown1
                     clear hown1 hg1 hat1 hlt6))
                go_roundw
                case rel =>
                  refine ⟨k + 1, c6, q, bd, A6, cs ++ [(.bool f, .slice A5 n5 c5)], ns ++ [nd], by omega, by go_num, rfl, Lib.hid (by rw [flat_append]; exact HO6.out), Lib.hid ⟨by rw [List.length_append, HLN.out.1]; rfl, by rw [List.length_append, HLN.out.2.1]; rfl, rdNode_le HOKC.out HLN.out.2.2 HND.out⟩, Lib.hid fun hbd => ?_, HR6, HB6⟩
                  have h7 := HND.out
                  rw [hbd] at h7
                  obtain ⟨i1, i2, i3, i4⟩ := rdNode_inv HOKC.out HLN.out.2.2 h7
                  obtain ⟨j1, j2, j3⟩ := HNO.out (by trivial)
                  refine ⟨by rw [i2, j1, nodesB_snoc]; simp only [List.append_assoc], fun nd' hnd' => ?_, fun j h h2 => ?_⟩
                  · rcases List.mem_append.1 hnd' with h8 | h8
                    · exact j2 nd' h8
                    · obtain rfl : nd' = nd := by simpa using h8
                      exact ⟨i3, i4⟩
                  · have hcl2 := HLN.out.1
                    have hnl2 := HLN.out.2.1
                    rcases Nat.lt_or_ge j cs.length with h3 | h3
                    · rw [List.getElem_append_left h3, List.getElem_append_left (by omega)]; exact HOLD6.out j (by omega) h3
                    · obtain rfl : j = k := by simp at h2; omega
                      have e : (cs ++ [(Value.bool f, Value.slice A5 n5 c5)])[j]'h2 = (.bool f, .slice A5 n5 c5) := by
                        rw [List.getElem_append_right h3]; simp
                      have e' : (ns ++ [nd])[j]'h = nd := by
                        rw [List.getElem_append_right (by omega)]; simp
                      rw [e, e']
                      exact HN6.out hbd
                case measure => simp [intOf]; omega
              · obtain rfl : k = cnt := by omega
                by_cases hpn : p = n
                · subst hpn
                  have hnn : ((p : Int) != (p : Int)) = false := by simp
                  obtain ⟨_, _, e0, hc1, hc2⟩ := own_slice HO.out
                  cases e0
                  obtain ⟨j1, j2, j3⟩ := HNO.out (by trivial)
                  have hnl2 := HLN.out.2.1
                  have HND : Hid (Nods wr An cn2 cs ns) := Lib.hid
                    ⟨(Rd.of_own HO.out).wide (Nat.zero_le _) (Nat.le_refl _), by rw [HLN.out.1, HLN.out.2.1], by rw [hnl2]; exact hc1, hc2, fun j h1 h2 => (j3 j h1 h2).node⟩
                  have HKL : Hid (k = ns.length) := Lib.hid hnl2.symm
                  have HBD : Hid (bodyB ns = BB) := Lib.hid (by
                    rw [List.take_of_length_le (by rw [← HN.out]; exact Nat.le_refl _)] at j1
                    rw [j1]
                    unfold bodyB
                    rw [hnl2])
                  have HNI : Hid (∀ xs, Small xs → goodE xs = 0 → ns ≠ graphOf (textsOf xs)) := Lib.hid fun xs h1 h2 h3 => HNOT.out xs h1 h2 (by
                    rw [← h3]
                    unfold imageB sealB
                    rw [HBD.out, ← HCR.out, ← HCC.out, HCN.out, HBB.out]
                    have h9 := take_num HOKB.out (p := p) (size := 4) (by rw [← HL.out, HL4.out]; exact Nat.le_refl _)
                    rw [← h9, List.take_of_length_le (by rw [← HL.out, HL4.out]; exact Nat.le_refl _)])
                  have HFW : Hid (∀ k (hk : k < ns.length), ns[k].2.length ≤ 65535) := Lib.hid fun j hj => (j2 _ (List.getElem_mem hj)).1
                  have HRN : Hid (∀ k (hk : k < ns.length), ∀ e ∈ ns[k].2, e.1 ≤ 1114111) := Lib.hid fun j hj e he => ((j2 _ (List.getElem_mem hj)).2 e he).1
                  clear HNO HO j1 j2 j3 hlt hnl2
                  go_wp2_with fail
                  (with_reducible refine (c88a HND.out k HKL.out (by rw [← HKL.out]; omega) HFW.out HRN.out HNI.out).mono ?_); rintro e w5 ⟨rfl, hb⟩
                  have HB5 := Lib.hid (below_ext HBW.out hb)
                  clear hb
                  go_wp2_with fail
                  go_ret2
                  exact ⟨rfl, HB5.out⟩
                · have hnn : ((p : Int) != (n : Int)) = true := by simp; omega
                  clear HNO HO hlt hpn
                  go_wp2_with fail
                  go_ret2
                  exact ⟨rfl, HBW.out⟩
            · by_cases hlt : k < cnt
              · clear HNO HO
                go_wp2_with fail
                go_ret2
                exact ⟨rfl, HBW.out⟩
              · obtain rfl : k = cnt := by omega
                clear HNO HO
                go_wp2_with fail
                go_ret2
                exact ⟨rfl, HBW.out⟩
        · have hne : hs.toList ≠ ([73, 78, 75, 49] : List UInt8) := fun e => hh (txt_ext (by rw [← Lib.toList_data, e]))
          have hne2 : (!hs.toList == ([73, 78, 75, 49] : List UInt8)) = true := by simpa using hne
          clear hsh hh
          go_enter Try.func54, Try.ntmps54
          go_wp2_with fail
          (with_reducible refine H85.out.mono ?_); rintro e w1 ⟨rfl, rfl⟩
          go_wp2_with fail
          (with_reducible refine (k84 HB.out HOKD.out (by rw [← HN.out]; omega) HCR.out HN.out).mono ?_); rintro e w1 ⟨rfl, rfl⟩
          go_wp2_with fail
          go_ret2
          exact ⟨rfl, Below.refl _ _⟩
    · have hce : ((cn : Int) != (cr : Int)) = true := by simp; omega
      obtain rfl : v = 9 := by rw [HV.out, HS.out, decide_eq_false hcc]; rfl
      go_enter Try.func54, Try.ntmps54
      go_wp2_with fail
      (with_reducible refine H85.out.mono ?_); rintro e w1 ⟨rfl, rfl⟩
      go_wp2_with fail
      (with_reducible refine (k84 HB.out HOKD.out (by rw [← HN.out]; omega) HCR.out HN.out).mono ?_); rintro e w1 ⟨rfl, rfl⟩
      go_wp2_with fail
      go_ret2
      exact ⟨rfl, Below.refl _ _⟩

end Go.Proofs.Ytepmcfleijiloaa

end
section
set_option linter.unusedVariables false
set_option linter.unusedSimpArgs false
/- PackSize. -/
namespace Go.Proofs.Ytepmcfleijiloaa
open Go.RowKit

/-- How many edges nodes have. -/
def edgS (ns : List Nd) : Nat := (ns.map fun nd => nd.2.length).sum
theorem edgS_take (ns : List Nd) (k : Nat) (hk : k < ns.length) : edgS (ns.take (k + 1)) = edgS (ns.take k) + ns[k].2.length := by
  unfold edgS
  rw [List.take_succ_eq_append_getElem hk, List.map_append, List.sum_append]
  simp only [List.map_cons, List.map_nil, List.sum_cons, List.sum_nil, Nat.add_zero]
theorem edgS_le : ∀ {ns : List Nd}, (∀ nd ∈ ns, nd.2.length ≤ 60) → edgS ns ≤ 60 * ns.length
  | [], _ => by simp [edgS]
  | nd :: ns, h => by
    have h1 := edgS_le (ns := ns) fun x hx => h x (by simp [hx])
    have h2 := h nd (by simp)
    simp only [edgS, List.map_cons, List.sum_cons, List.length_cons] at h1 ⊢
    omega
theorem nodesB_size : ∀ ns : List Nd, (nodesB ns).length = 3 * ns.length + 6 * edgS ns
  | [] => rfl
  | nd :: ns => by
    have h1 := nodesB_size ns
    have e : nodesB (nd :: ns) = nodeB nd ++ nodesB ns := by simp [nodesB]
    rw [e, List.length_append, nodeB_len, h1]
    simp only [edgS, List.map_cons, List.sum_cons, List.length_cons]
    omega
theorem imageB_size (ns : List Nd) : (imageB ns).length = 10 + 3 * ns.length + 6 * edgS ns := by
  unfold imageB sealB bodyB
  rw [List.length_append, be_len, List.length_append, List.length_append, be_len, nodesB_size]
  simp
  omega
theorem edges_nodes (T : Rs) : (graphOf T).length ≤ 1 + edgS (graphOf T) := by
  obtain ⟨M, h1, h2⟩ := addN_edges 13 [] T
  have e : nodesOf T = M := by unfold nodesOf; rw [h1]; simp
  rw [graphOf_len, e]
  have e2 : edgS (graphOf T) = edgN M := by
    unfold edgS edgN graphOf
    rw [e, List.map_map]
    congr 1
    apply List.map_congr_left
    intro x _
    simp [ndOf, edgesOf]
  rw [e2]
  exact h2
theorem k52 {w : World} {g1 : Nat} {ns : List Nd} (h : GraphV w 0 (.pointer (some ⟨g1, 0, none⟩)) ns) (hok : Ok9 ns) (n : Nat) (hn : n = (imageB ns).length) :
    Calls Try.prog 52 #[.pointer (some ⟨g1, 0, none⟩)] w fun e w' => ∃ A c, e = .returned (.tuple #[.slice A n c, .int .i64 0]) ∧ w'.ownsRow w.heap.size 5 1 (.slice A n c) n (bytv (imageB ns)) ∧ Below w.heap.size w w' := by
  subst hn; exact c52 w g1 ns h hok
theorem good_sorted {l xs : List ByteArray} (h : l = sortedL xs) (h0 : goodE l ≠ 0) : 60 < l.length := by
  subst h
  unfold goodE at h0
  split at h0
  · assumption
  · rw [if_neg ?_, if_neg ?_] at h0
    · exact absurd rfl h0
    · rw [(risesB_iff _).2 (sortedL_rises xs)]; simp
    · simp
      exact fun x hx => ((sortedL_mem xs x).1 hx).2

set_option maxHeartbeats 4000000 in
set_option maxRecDepth 100000 in
/-- inkhornlaw9.PackSize -/
theorem c21 (w : World) (A : Option Addr) (c : Nat) (xs : List ByteArray) (hx : Strs w 0 A c xs) :
    Calls Try.prog 21 #[.slice A xs.length c] w fun e w' => e = .returned (.bool true) ∧ Below w.heap.size w w' := by
  have HB : Hid (Below w.heap.size w w) := Lib.hid (Below.refl _ _)
  have Sa := Lib.hid hx
  have hl_a := hx.2.1
  have hm_a := hx.2.2
  clear hx
  obtain ⟨gr, hgr⟩ : ∃ g, g = greatB xs := ⟨_, rfl⟩
  have HGR := Lib.hid hgr
  clear hgr
  cases gr
  · have HSM := Lib.hid (great_small HGR.out.symm)
    have hn_a := (great_false HGR.out.symm).1
    obtain ⟨l, hl⟩ : ∃ l, l = sortedL xs := ⟨_, rfl⟩
    have HL := Lib.hid hl
    have HSL : Hid (Small l) := Lib.hid fun x hx => HSM.out x ((sortedL_mem xs x).1 (hl ▸ hx)).1
    obtain ⟨gd, hgd⟩ : ∃ g, g = goodE l := ⟨_, rfl⟩
    have HGD := Lib.hid hgd
    clear hgd hl
    go_enter Try.func21, Try.ntmps21
    go_wp2_with fail
    (with_reducible refine (k22 Sa.out HGR.out).mono ?_); rintro e w1 ⟨rfl, hb⟩
    replace HB := Lib.hid (below_ext HB.out hb)
    replace Sa := Lib.hid (Sa.out.ext hb)
    clear hb
    go_wp2_with fail
    (with_reducible refine (k60 Sa.out HSM.out (by omega) HL.out).mono ?_); rintro e w2 ⟨A2, c2, rfl, hs2, _, hb⟩
    replace HB := Lib.hid (below_ext HB.out hb)
    have S2 := Lib.hid hs2
    have hl_2 := hs2.2.1
    have hm_2 := hs2.2.2
    clear hb hs2 Sa
    go_wp2_with fail
    (with_reducible refine (k25 S2.out HSL.out HGD.out).mono ?_); rintro e w3 ⟨p, rfl, HP, hb⟩
    replace HB := Lib.hid (below_ext HB.out hb)
    clear hb S2
    by_cases h0 : gd = 0
    · subst h0
      obtain ⟨g1, rfl, hgv, hw⟩ := HP.out.2 rfl
      have GV := Lib.hid hgv
      have HW := Lib.hid hw
      obtain ⟨ns, hns⟩ : ∃ ns, ns = graphOf (textsOf l) := ⟨_, rfl⟩
      have OK : Hid (Ok9 ns) := Lib.hid (by rw [hns]; exact ok9 hw)
      obtain ⟨nl, hnl⟩ : ∃ n, n = ns.length := ⟨_, rfl⟩
      obtain ⟨ed, hed⟩ : ∃ n, n = edgS ns := ⟨_, rfl⟩
      have hnl7 : nl ≤ 721 := by rw [hnl]; exact OK.out.len
      have hed7 : ed ≤ 43260 := by rw [hed]; have := edgS_le OK.out.few; omega
      have hne : nl ≤ 1 + ed := by rw [hnl, hed, hns]; exact edges_nodes _
      obtain ⟨il, hil⟩ : ∃ n, n = (imageB ns).length := ⟨_, rfl⟩
      have hil2 : il = 10 + 3 * nl + 6 * ed := by rw [hil, hnl, hed]; exact imageB_size ns
      have HIL := Lib.hid hil
      have HNL := Lib.hid hnl
      have HED := Lib.hid hed
      rw [← hns] at GV
      clear HP hgv hw hns hnl hed hil
      go_wp2_with fail
      go_loopw [6, 7] (fun ev i wr => ∃ (k e : Nat), k ≤ nl ∧ e ≤ 43260 ∧ i = .int .i64 k ∧ ev = .int .i64 e ∧ Hid (e = edgS (ns.take k)) ∧ Hid (GraphV wr 0 (.pointer (some ⟨g1, 0, none⟩)) ns) ∧ Hid (Below w.heap.size w wr)) (fun _ i _ => nl - (intOf i).toNat)
      case atStart => exact ⟨0, 0, by omega, by omega, rfl, rfl, Lib.hid rfl, GV, HB⟩
      case round =>
        clear GV HB
        obtain ⟨k, e, hk, he7, rfl, rfl, HE, GV, HB⟩ := hrel
        by_cases hlt : k < nl
        · have hkn : k < ns.length := by rw [← HNL.out]; exact hlt
          have HND : Hid (nodeOf ns k = ns[k]) := Lib.hid (nodeOf_in hkn)
          obtain ⟨es, hes⟩ : ∃ es, es = ns[k].2 := ⟨_, rfl⟩
          have HES : Hid (es = (nodeOf ns k).2) := Lib.hid (by rw [HND.out]; exact hes)
          have hfew : es.length ≤ 60 := by rw [hes]; exact OK.out.few _ (List.getElem_mem hkn)
          have hle : e + es.length ≤ 43260 := by
            have h1 := edgS_take ns k hkn
            have h2 := edgS_le (ns := ns.take (k + 1)) fun x hx => OK.out.few x (List.mem_of_mem_take hx)
            rw [← HE.out, ← hes] at h1
            rw [List.length_take] at h2
            omega
          have HE2 : Hid (e + es.length = edgS (ns.take (k + 1))) := Lib.hid (by rw [edgS_take ns k hkn, ← HE.out, hes])
          have hk2 : decide ((k : Int) < 2000) = true := decide_eq_true (by omega)
          clear hes
          go_wp2_with fail
          (with_reducible refine (q29m GV.out HNL.out).mono ?_); rintro e1 w4 ⟨rfl, rfl⟩
          go_wp2_with fail
          (with_reducible refine (c30 wr 0 _ ns k es GV.out HES.out (by omega)).mono ?_); rintro e1 w5 ⟨r5, rfl, ho, hb⟩
          obtain ⟨A5, c5, rfl, hE5⟩ := Edgs.of_own ho
          have hl1 := hE5.2.1
          have hl2 := hE5.2.2
          replace HB := Lib.hid (below_ext HB.out hb)
          replace GV := Lib.hid (GV.out.ext hb)
          clear hb ho hE5
          go_wp2_with fail
          go_roundw
          case rel => exact ⟨k + 1, e + es.length, by omega, hle, by go_num, by go_num, HE2, GV, HB⟩
          case measure => simp [intOf]; omega
        · obtain rfl : k = nl := by omega
          obtain rfl : e = ed := by rw [HE.out, HNL.out, List.take_length]; exact HED.out.symm
          have b1 : ((il : Int) == 10 + 3 * (k : Int) + 6 * (e : Int)) = true := by
            rw [beq_iff_eq]; omega
          have b2 : decide ((k : Int) - 1 ≤ (e : Int)) = true := decide_eq_true (by omega)
          clear hil2 hlt hk HE
          go_wp2_with fail
          (with_reducible refine (q29m GV.out HNL.out).mono ?_); rintro e1 w4 ⟨rfl, rfl⟩
          go_wp2_with fail
          (with_reducible refine (k52 GV.out OK.out il HIL.out).mono ?_); rintro e1 w5 ⟨A7, c7, rfl, ho, hb⟩
          have BY := Lib.hid (Rd.of_own ho)
          obtain ⟨_, _, e0, hc1, hc2⟩ := own_slice ho
          cases e0
          replace HB := Lib.hid (below_ext HB.out hb)
          replace GV := Lib.hid (GV.out.ext hb)
          clear hb ho
          go_wp2_with fail
          (with_reducible refine (q29m GV.out HNL.out).mono ?_); rintro e1 w6 ⟨rfl, rfl⟩
          go_wp2_with fail
          (with_reducible refine (q29m GV.out HNL.out).mono ?_); rintro e1 w6 ⟨rfl, rfl⟩
          go_wp2_with fail
          (with_reducible refine (c48 _).mono ?_); rintro e1 w10 ⟨rfl, hb⟩
          go_wp2_with fail
          go_ret
          exact ⟨rfl, below_ext HB.out hb⟩
    · have hp := HP.out.1 h0
      subst hp
      have hg : (gd != 0) = true := by simpa using h0
      have hl60 : 60 < l.length := good_sorted HL.out (by rw [← HGD.out]; exact h0)
      have d60 : decide ((60 : Int) < l.length) = true := decide_eq_true (by omega)
      clear h0 HP hl60
      go_wp2_with fail
      (with_reducible refine (c48 _).mono ?_); rintro e w10 ⟨rfl, hb⟩
      go_wp2_with fail
      go_ret
      exact ⟨rfl, below_ext HB.out hb⟩
  · go_enter Try.func21, Try.ntmps21
    go_wp2_with fail
    (with_reducible refine (k22 Sa.out HGR.out).mono ?_); rintro e w1 ⟨rfl, hb⟩
    replace HB := Lib.hid (below_ext HB.out hb)
    clear hb
    go_wp2_with fail
    (with_reducible refine (c48 _).mono ?_); rintro e w2 ⟨rfl, hb⟩
    go_wp2_with fail
    go_ret
    exact ⟨rfl, below_ext HB.out hb⟩

end Go.Proofs.Ytepmcfleijiloaa

end
section
set_option linter.unusedVariables false
set_option linter.unusedSimpArgs false
/- The sum of changed bytes is another one; images are no beginnings of images; plain. -/
namespace Go.Proofs.Ytepmcfleijiloaa

theorem xor_back (a p : Nat) : (a ^^^ p) ^^^ p = a := by rw [Nat.xor_assoc, Nat.xor_self, Nat.xor_zero]
theorem xor_inj {a b p : Nat} (h : a ^^^ p = b ^^^ p) : a = b := by
  rw [← xor_back a p, h, xor_back]
theorem top_bit {a b : Nat} (ha : a < 2147483648) (hb : b < 2147483648) : a ^^^ 3988292384 ≠ b := fun h => by
  have h2 := congrArg (Nat.testBit · 31) h
  simp only [Nat.testBit_xor] at h2
  rw [Nat.testBit_lt_two_pow (x := a) (i := 31) (by omega), Nat.testBit_lt_two_pow (x := b) (i := 31) (by omega)] at h2
  revert h2
  decide
theorem st_inj {a b : Nat} (ha : a < 4294967296) (hb : b < 4294967296) (h : st a = st b) : a = b := by
  unfold st at h
  split at h
  · split at h
    · have := xor_inj h; omega
    · exact absurd h (top_bit (by omega) (by omega))
  · split at h
    · exact absurd h.symm (top_bit (by omega) (by omega))
    · omega
theorem stN_inj {a b : Nat} (ha : a < 4294967296) (hb : b < 4294967296) : ∀ k, stN k a = stN k b → a = b
  | 0, h => h
  | k + 1, h => stN_inj ha hb k (st_inj (stN_lt ha k) (stN_lt hb k) h)
theorem turn_inj {c d x y : Nat} (hc : c < 4294967296) (hd : d < 4294967296) (hx : x < 256) (hy : y < 256) (h : turnB c x = turnB d y) : c ^^^ x = d ^^^ y :=
  stN_inj (xor_lt32 hc (by omega)) (xor_lt32 hd (by omega)) 8 h
theorem crcI_inj : ∀ (l : List Nat) {c d : Nat}, Okb l → c < 4294967296 → d < 4294967296 → crcI c l = crcI d l → c = d
  | [], c, d, _, _, _, h => h
  | x :: l, c, d, hl, hc, hd, h => by
    have hx := hl x (by simp)
    have h2 := crcI_inj l (c := turnB c x) (d := turnB d x) (fun y hy => hl y (by simp [hy])) (turnB_lt hc hx) (turnB_lt hd hx) h
    exact xor_inj (turn_inj hc hd hx hx h2)
theorem crcI_append (c : Nat) (a b : List Nat) : crcI c (a ++ b) = crcI (crcI c a) b := by simp [crcI]
theorem crc_changed {a z : List Nat} {x y : Nat} (ha : Okb a) (hz : Okb z) (hx : x < 256) (hy : y < 256) (h : crc (a ++ x :: z) = crc (a ++ y :: z)) : x = y := by
  have hok : ∀ v, v < 256 → Okb (a ++ v :: z) := fun v hv u hu => by
    rcases List.mem_append.1 hu with hu | hu
    · exact ha u hu
    · rcases List.mem_cons.1 hu with rfl | hu
      · exact hv
      · exact hz u hu
  have l1 := crcI_lt (a ++ x :: z) 4294967295 (hok x hx) (by omega)
  have l2 := crcI_lt (a ++ y :: z) 4294967295 (hok y hy) (by omega)
  unfold crc at h
  have h1 : crcI 4294967295 (a ++ x :: z) = crcI 4294967295 (a ++ y :: z) := by omega
  rw [crcI_append, crcI_append] at h1
  have l3 := crcI_lt a 4294967295 ha (by omega)
  have h2 := crcI_inj z (c := turnB (crcI 4294967295 a) x) (d := turnB (crcI 4294967295 a) y) hz (turnB_lt l3 hx) (turnB_lt l3 hy) h1
  have h3 := turn_inj l3 l3 hx hy h2
  rw [Nat.xor_comm _ x, Nat.xor_comm _ y] at h3
  exact xor_inj h3
theorem sumOk_seal (b : List Nat) : sumOk (sealB b) = true := by
  unfold sumOk sealB
  rw [List.length_append, be_len]
  have e : b.length + 4 - 4 = b.length := by omega
  have h := numB_at b (be 4 (crc b)) []
  rw [be_len, fold_be4 _ (crc_lt b), List.append_nil] at h
  rw [e, h, List.take_left]
  simp
/-- One byte of sealed bytes is another one. -/
theorem turned_bad {b : List Nat} {k v : Nat} (hb : Okb b) (hk : k < (sealB b).length) (hv : v < 256) (hne : v ≠ (sealB b)[k]) : sumOk ((sealB b).set k v) = false := by
  have hsl : (sealB b).length = b.length + 4 := by unfold sealB; rw [List.length_append, be_len]
  cases hq : sumOk ((sealB b).set k v) with
  | false => rfl
  | true =>
    exfalso
    unfold sumOk at hq
    rw [Bool.and_eq_true, decide_eq_true_eq, decide_eq_true_eq, List.length_set, hsl] at hq
    have e : b.length + 4 - 4 = b.length := by omega
    rw [e] at hq
    obtain ⟨_, hq⟩ := hq
    have hk2 : k < (b ++ be 4 (crc b)).length := hk
    have hne2 : v ≠ (b ++ be 4 (crc b))[k]'hk2 := hne
    clear hne
    have hne := hne2
    unfold sealB at hq
    have hbe : (be 4 (crc b)).length = 4 := be_len _ _
    by_cases hkb : k < b.length
    · rw [List.set_append_left _ _ hkb] at hq
      have h1 := numB_at (b.set k v) (be 4 (crc b)) []
      rw [be_len, fold_be4 _ (crc_lt b), List.append_nil, List.length_set] at h1
      rw [h1, show b.length = (b.set k v).length by simp, List.take_left] at hq
      have h2 : b = b.take k ++ b[k] :: b.drop (k + 1) := by
        conv => lhs; rw [← List.take_append_drop k b]
        rw [List.drop_eq_getElem_cons hkb]
      have h3 : b.set k v = b.take k ++ v :: b.drop (k + 1) := by
        rw [List.set_eq_take_append_cons_drop, if_pos hkb]
      rw [h3] at hq
      have h4 := crc_changed (a := b.take k) (z := b.drop (k + 1)) (x := b[k]) (y := v) (fun x hx => hb x (List.mem_of_mem_take hx)) (fun x hx => hb x (List.mem_of_mem_drop hx)) (hb _ (List.getElem_mem hkb)) hv (by rw [← h2]; exact hq)
      rw [List.getElem_append_left hkb] at hne
      exact hne h4.symm
    · rw [List.set_append_right _ _ (by omega)] at hq
      rw [List.take_left] at hq
      have h1 := numB_at b ((be 4 (crc b)).set (k - b.length) v) []
      rw [List.length_set, be_len, List.append_nil] at h1
      rw [h1] at hq
      have h2 := be_fold ((be 4 (crc b)).set (k - b.length) v) (fun x hx => by
        rcases List.mem_or_eq_of_mem_set hx with h | h
        · exact be_okb _ _ x h
        · rw [h]; exact hv)
      rw [hq, List.length_set, be_len] at h2
      have hkl : k - b.length < (be 4 (crc b)).length := by rw [be_len]; unfold sealB at hk; rw [List.length_append, be_len] at hk; omega
      rw [List.getElem_append_right (by omega)] at hne
      have h3 := List.getElem_of_eq h2 hkl
      rw [List.getElem_set_self] at h3
      exact hne h3.symm
theorem noimg_sum {l : List Nat} (h : sumOk l = false) : NoImg l := fun xs _ _ e => by
  rw [e] at h
  have := sumOk_seal (bodyB (graphOf (textsOf xs)))
  unfold imageB at h
  rw [this] at h
  cases h
theorem body_pre {ns ms : List Nd} (h1 : Ok9 ns) (h2 : Ok9 ms) {z : List Nat} (h : bodyB ns = bodyB ms ++ z) : z = [] := by
  unfold bodyB at h
  simp only [List.append_assoc] at h
  have h3 := (List.append_inj h rfl).2
  have h1l := h1.len
  have h2l := h2.len
  obtain ⟨h4, h5⟩ := be_inj4 (Or.inr (Or.inl rfl)) (by omega) (by omega) h3
  have h6 := nodesB_pre (x := []) (y := z) h4 (fun nd hn => ⟨h1.few nd hn, h1.small nd hn⟩) (fun nd hn => ⟨h2.few nd hn, h2.small nd hn⟩) (by simpa using h5)
  exact h6.2.symm
theorem image_pre {ns ms : List Nd} (h1 : Ok9 ns) (h2 : Ok9 ms) {x y : List Nat} (h : imageB ns ++ x = imageB ms ++ y) : x.length = y.length := by
  have hl := congrArg List.length h
  unfold imageB sealB at h hl
  simp only [List.length_append, be_len] at hl
  rw [List.append_assoc, List.append_assoc] at h
  rcases List.append_eq_append_iff.1 h with ⟨z, hz, _⟩ | ⟨z, hz, _⟩
  · have := body_pre h2 h1 hz
    rw [this, List.append_nil] at hz
    rw [hz] at hl
    omega
  · have := body_pre h1 h2 hz
    rw [this, List.append_nil] at hz
    rw [hz] at hl
    omega
theorem cut_noimg {xs : List ByteArray} (hW : Wds xs) : NoImg ((imageB (graphOf (textsOf xs))).take ((imageB (graphOf (textsOf xs))).length - 1)) := fun ys hs hg e => by
  have h2 := Wds.of_good hg
  have h3 := image_pre (ok9 hW) (ok9 h2) (x := []) (y := (imageB (graphOf (textsOf xs))).drop ((imageB (graphOf (textsOf xs))).length - 1)) (by rw [← e, List.take_append_drop, List.append_nil])
  have h4 : 0 < (imageB (graphOf (textsOf xs))).length := by unfold imageB sealB; rw [List.length_append, be_len]; omega
  rw [List.length_drop] at h3
  simp only [List.length_nil] at h3
  omega
theorem more_noimg {xs : List ByteArray} (hW : Wds xs) (x : Nat) : NoImg (imageB (graphOf (textsOf xs)) ++ [x]) := fun ys hs hg e => by
  have h2 := Wds.of_good hg
  have h3 := image_pre (ok9 hW) (ok9 h2) (x := [x]) (y := []) (by rw [e, List.append_nil])
  simp at h3

end Go.Proofs.Ytepmcfleijiloaa

end
section
set_option linter.unusedVariables false
set_option linter.unusedSimpArgs false
/- Turned: one byte is another one. -/
namespace Go.Proofs.Ytepmcfleijiloaa
open Go.RowKit

set_option maxHeartbeats 1000000 in
set_option maxRecDepth 100000 in
/-- inkhornref14.Turned -/
theorem c55 (w : World) (A : Option Addr) (c : Nat) (l : List Nat) (at_ x : Int) (h : Byts w 0 A c l) (hb : Okb l) (hl : l.length ≤ 900000) (h0 : 0 < l.length) (len : Nat) (hlen : len = l.length) :
    Calls Try.prog 55 #[.slice A len c, .int .i64 at_, .int .i64 x] w fun e w' => ∃ (k v : Nat) (A1 : Option Addr) (c1 : Nat), e = .returned (.slice A1 len c1) ∧ Hid (∃ hk : k < l.length, v < 256 ∧ v ≠ l[k]) ∧ Byts w' 0 A1 c1 (l.set k v) ∧ Below w.heap.size w w' := by
  have hl1 := h.2.1
  have hl2 := h.2.2
  have H := Lib.hid h
  have HLEN := Lib.hid hlen
  rw [← hlen] at hl hl1 h0
  clear h hlen
  go_enter Try.func55, Try.ntmps55
  go_wp2_with (first
    | (at_builtin
       refine wpList_append_rd infoB rfl (.const (.slice none 0 0)) (.tmp 9) rfl w.heap.size (.slice none 0 0) 0 [] rfl (World.ownsRow_nil _ _ _ _) 0 w.heap.size A len c (bytv l) rfl H.out.1 (by rw [bytv_len, HLEN.out]; omega) (bytv_one l) (by omega) (by simp) ?_
       intro v1 w1 hown1 hg1 hat1
       obtain ⟨A1, c1, rfl, _, _⟩ := own_slice hown1
       have X : Hid (w1.ownsRow w.heap.size 5 1 (.slice A1 (0 + len) c1) (0 + len) (bytv l) ∧ Below w.heap.size w w1) := ⟨by simpa using hown1, (Below.refl w.heap.size w).grown hg1 (by simp) (by simp [Value.ownBlock])⟩
       clear hown1 hg1 hat1))
  rw [Nat.zero_add] at X
  have HO := Lib.hid X.out.1
  have HB := Lib.hid X.out.2
  clear X
  have hu : ∀ z : Int, 0 ≤ IntKind.u64.wrap z := fun z => by simp [IntKind.wrap, IntKind.signed, IntKind.bits]; omega
  obtain ⟨k, hk⟩ : ∃ k : Nat, (IntKind.u64.wrap at_).tmod (len : Int) = k := by
    rw [Int.tmod_eq_emod_of_nonneg (hu _)]
    exact ⟨(IntKind.u64.wrap at_ % (len : Int)).toNat, (Int.toNat_of_nonneg (Int.emod_nonneg _ (by omega))).symm⟩
  have hkl : k < len := by
    have h1 := hk
    rw [Int.tmod_eq_emod_of_nonneg (hu _)] at h1
    have := Int.emod_lt_of_pos (IntKind.u64.wrap at_) (show (0 : Int) < len by omega)
    omega
  obtain ⟨d0, hd⟩ : ∃ d : Nat, (IntKind.u64.wrap x).tmod 255 = d := by
    rw [Int.tmod_eq_emod_of_nonneg (hu _)]
    exact ⟨(IntKind.u64.wrap x % 255).toNat, (Int.toNat_of_nonneg (by omega)).symm⟩
  have hd0 : d0 ≤ 254 := by
    have h1 := hd
    rw [Int.tmod_eq_emod_of_nonneg (hu _)] at h1
    omega
  obtain ⟨d, hd1⟩ : ∃ d : Nat, d = 1 + d0 := ⟨_, rfl⟩
  have hd2 : 1 + (d0 : Int) = (d : Int) := by omega
  have hd3 : (d : Int) % 256 = d := by omega
  have hwk : wrap64 (k : Int) = k := by unfold wrap64; omega
  have hdl : 1 ≤ d ∧ d ≤ 255 := by omega
  have hkL : k < l.length := by rw [← HLEN.out]; exact hkl
  have hlk : l[k] < 256 := hb _ (List.getElem_mem hkL)
  obtain ⟨g, cap, hv, hbg, hgl⟩ := HO.out.form (by omega)
  injection hv with hA _ hcc
  subst hA; subst hcc
  have hcell : w1.cell? ⟨g, k, none⟩ = some (.int .u8 (l[k] : Nat)) := by rw [HO.out.cellAt k (by omega)]; simp [bytv, hkL]
  have hfr := HO.out.frozenAt k
  obtain ⟨v, hv⟩ : ∃ v, v = l[k] ^^^ d := ⟨_, rfl⟩
  have hxx := u8_xor_nat l[k] d hlk (by omega)
  obtain ⟨o, ho⟩ : ∃ o, o = l[k] := ⟨_, rfl⟩
  rw [← ho] at hcell hxx hv hlk
  rw [← hv] at hxx
  have hw64 : IntKind.u64.wrap (1 + (d0 : Int)) = d := by simp [IntKind.wrap, IntKind.signed, IntKind.bits]; omega
  have hw65 : IntKind.u64.wrap (d : Int) = d := by simp [IntKind.wrap, IntKind.signed, IntKind.bits]; omega
  have hw8 : IntKind.u8.wrap (d : Int) = d := by simp [IntKind.wrap, IntKind.signed, IntKind.bits]; omega
  have hdl2 := hdl.1
  have hdl3 := hdl.2
  clear hd1 hdl hd3
  have hub : (d : Int) < 256 := by omega
  have HV := Lib.hid hv
  have HO0 := Lib.hid ho
  have HST := Lib.hid (HO.out.stored k (.int .u8 (v : Nat))).1
  have HBS := Lib.hid (HB.out.setCell (p := ⟨g, k, none⟩) hbg (.int .u8 (v : Nat)))
  have hvl : v < 256 := by rw [hv]; exact Nat.xor_lt_two_pow (n := 8) hlk (by omega)
  have HNE : Hid (v ≠ l[k]) := Lib.hid fun e => by
    rw [hv, ho] at e
    have h2 := congrArg (fun z => l[k] ^^^ z) e
    simp only [← Nat.xor_assoc, Nat.xor_self, Nat.zero_xor] at h2
    omega
  clear hv ho HB
  go_wp2_with fail
  go_ret
  refine ⟨k, v, _, _, rfl, ⟨hkL, hvl, HNE.out⟩, ?_, HBS.out⟩
  have h2 := HST.out
  have e : (bytv l).set k (.int .u8 (v : Nat)) = bytv (l.set k v) := by simp [bytv, List.map_set]
  rw [e] at h2
  have h3 := Rd.of_own h2
  refine ⟨h3.wide (Nat.zero_le _) (Nat.le_refl _), ?_, by omega⟩
  rw [List.length_set, ← HLEN.out]
  obtain ⟨_, _, e0, hc1, hc2⟩ := own_slice h2
  cases e0
  exact hc1
end Go.Proofs.Ytepmcfleijiloaa

end
section
set_option linter.unusedVariables false
set_option linter.unusedSimpArgs false
/- PackTurned. -/
namespace Go.Proofs.Ytepmcfleijiloaa
open Go.RowKit

theorem image_len {xs : List ByteArray} (hW : Wds xs) : 4 ≤ (imageB (graphOf (textsOf xs))).length ∧ (imageB (graphOf (textsOf xs))).length ≤ 300004 := by
  unfold imageB sealB
  rw [List.length_append, be_len, ← pre_all]
  have := preB_len (ok9 hW) (graphOf (textsOf xs)).length
  omega
theorem noimg_set {xs : List ByteArray} {k v : Nat} (h : ∃ hk : k < (imageB (graphOf (textsOf xs))).length, v < 256 ∧ v ≠ (imageB (graphOf (textsOf xs)))[k]) : sumOk ((imageB (graphOf (textsOf xs))).set k v) = false := by
  obtain ⟨hk, hv, hne⟩ := h
  exact turned_bad (bodyB_okb _) hk hv hne
theorem okb_take {l : List Nat} (h : Okb l) (k : Nat) : Okb (l.take k) := fun x hx => h x (List.mem_of_mem_take hx)
theorem okb_more {l : List Nat} (h : Okb l) {x : Nat} (hx : x < 256) : Okb (l ++ [x]) := okb_append h fun y hy => by
  obtain rfl : y = x := by simpa using hy
  exact hx
theorem set_okb {l : List Nat} (h : Okb l) {k v : Nat} (hv : v < 256) : Okb (l.set k v) := fun x hx => by
  rcases List.mem_or_eq_of_mem_set hx with h2 | h2
  · exact h x h2
  · rw [h2]; exact hv

set_option maxHeartbeats 4000000 in
set_option maxRecDepth 100000 in
/-- inkhornlaw9.PackTurned -/
theorem c11 (w : World) (A : Option Addr) (c : Nat) (xs : List ByteArray) (at_ x : Int) (hx : Strs w 0 A c xs) :
    Calls Try.prog 11 #[.slice A xs.length c, .int .i64 at_, .int .i64 x] w fun e w' => e = .returned (.bool true) ∧ Below w.heap.size w w' := by
  have HB : Hid (Below w.heap.size w w) := Lib.hid (Below.refl _ _)
  have Sa := Lib.hid hx
  have hl_a := hx.2.1
  have hm_a := hx.2.2
  clear hx
  obtain ⟨gr, hgr⟩ : ∃ g, g = greatB xs := ⟨_, rfl⟩
  have HGR := Lib.hid hgr
  clear hgr
  cases gr
  · have HSM := Lib.hid (great_small HGR.out.symm)
    obtain ⟨gd, hgd⟩ : ∃ g, g = goodE xs := ⟨_, rfl⟩
    have HGD := Lib.hid hgd
    clear hgd
    go_enter Try.func11, Try.ntmps11
    go_wp2_with fail
    (with_reducible refine (k22 Sa.out HGR.out).mono ?_); rintro e w1 ⟨rfl, hb⟩
    replace HB := Lib.hid (below_ext HB.out hb)
    replace Sa := Lib.hid (Sa.out.ext hb)
    clear hb
    have hs01 := HB.out.size
    go_wp2_with fail
    (with_reducible refine (c49 Sa.out HSM.out HGD.out).mono ?_); rintro e w2 ⟨A1, n1, c1, rfl, HP1, hb⟩
    replace HB := Lib.hid (below_ext HB.out hb)
    clear hb Sa
    by_cases h0 : gd = 0
    · subst h0
      obtain ⟨hw, hn1, ho1⟩ := HP1.out.2 rfl
      have HW := Lib.hid hw
      have HN1 := Lib.hid hn1
      have hil := image_len hw
      have BY := Lib.hid (owned_byts ho1)
      have hcap := BY.out.2.1
      have hcap2 := BY.out.2.2
      have HCUT := Lib.hid (cut_noimg hw)
      have HMORE := Lib.hid (more_noimg hw)
      have HSET : Hid (∀ k v : Nat, (∃ hk : k < (imageB (graphOf (textsOf xs))).length, v < 256 ∧ v ≠ (imageB (graphOf (textsOf xs)))[k]) → sumOk ((imageB (graphOf (textsOf xs))).set k v) = false) := Lib.hid fun k v h => noimg_set h
      obtain ⟨L, hL⟩ : ∃ L, L = imageB (graphOf (textsOf xs)) := ⟨_, rfl⟩
      have OK : Hid (Okb L) := Lib.hid (by rw [hL]; exact sealB_okb (bodyB_okb _))
      have OKF : Hid (∀ z ∈ L, z < 256) := Lib.hid OK.out
      rw [← hL] at HN1 hil hn1 hcap BY HCUT HMORE HSET
      rw [← hn1] at hil hcap
      obtain ⟨hil1, hil2⟩ := hil
      obtain ⟨m, hm⟩ : ∃ m, n1 = m + 1 := ⟨n1 - 1, by omega⟩
      have hms : (n1 : Int) - 1 = m := by omega
      have hmn : m ≤ n1 := by omega
      have HM := Lib.hid hm
      obtain ⟨xb, hxb⟩ : ∃ xb : Nat, IntKind.u8.wrap x = xb := ⟨(IntKind.u8.wrap x).toNat, by simp [IntKind.wrap, IntKind.signed, IntKind.bits]; omega⟩
      have hxl : xb < 256 := by
        have := hxb
        simp [IntKind.wrap, IntKind.signed, IntKind.bits] at this
        omega
      obtain ⟨v2, hv2⟩ : ∃ v : Int, v = if sumOk (L.take (L.length - 1)) then 8 else 9 := ⟨_, rfl⟩
      obtain ⟨v3, hv3⟩ : ∃ v : Int, v = if sumOk (L ++ [xb]) then 8 else 9 := ⟨_, rfl⟩
      have n2 : (v2 != 0) = true := by rw [hv2]; split <;> rfl
      have n3 : (v3 != 0) = true := by rw [hv3]; split <;> rfl
      have HV2 := Lib.hid hv2
      have HV3 := Lib.hid hv3
      clear hw hn1 ho1 HP1 hL hm hv2 hv3
      go_wp2_with fail
      (with_reducible refine (c55 w2 A1 c1 L at_ x BY.out OK.out (by rw [← HN1.out]; omega) (by rw [← HN1.out]; omega) n1 HN1.out).mono ?_); rintro e w3 ⟨k, v, A3, c3, rfl, HKV, hby3, hb⟩
      replace HB := Lib.hid (below_ext HB.out hb)
      replace BY := Lib.hid (BY.out.ext hb)
      have BY3 := Lib.hid hby3
      have hcap3 := hby3.2.1
      have hcap3' := hby3.2.2
      have HS3 := Lib.hid (HSET.out k v HKV.out)
      have HVL : Hid (v < 256) := Lib.hid (by obtain ⟨_, h, _⟩ := HKV.out; exact h)
      clear hb hby3 HSET
      rw [List.length_set, ← HN1.out] at hcap3
      go_wp2_with fail
      (with_reducible refine (c54a BY3.out (set_okb OK.out HVL.out) (by rw [List.length_set]; exact HN1.out) (by rw [List.length_set, ← HN1.out]; omega) (noimg_sum HS3.out) 9 (by rw [HS3.out]; simp)).mono ?_); rintro e w4 ⟨rfl, hb⟩
      replace HB := Lib.hid (below_ext HB.out hb)
      replace BY := Lib.hid (BY.out.ext hb)
      clear hb BY3
      have BY4 : Hid (Byts w4 0 A1 c1 (L.take (L.length - 1))) := Lib.hid (BY.out.take _)
      go_wp2_with fail
      (with_reducible refine (c54a BY4.out (okb_take OK.out _) (by rw [List.length_take, ← HN1.out, HM.out]; omega) (by rw [List.length_take, ← HN1.out]; omega) HCUT.out v2 HV2.out).mono ?_); rintro e w5 ⟨rfl, hb⟩
      replace HB := Lib.hid (below_ext HB.out hb)
      replace BY := Lib.hid (BY.out.ext hb)
      clear hb BY4
      go_wp2_with (first
        | (at_builtin
           refine wpList_append_rd infoB rfl (.const (.slice none 0 0)) (.tmp 47) rfl w5.heap.size (.slice none 0 0) 0 [] rfl (World.ownsRow_nil _ _ _ _) 0 w5.heap.size A1 n1 c1 (bytv L) rfl BY.out.1 (by rw [bytv_len, HN1.out]; omega) (bytv_one L) (by omega) (by simp) ?_
           intro v1 w6 hown1 hg1 hat1
           obtain ⟨A6, c6, rfl, _, _⟩ := own_slice hown1
           have X : Hid (w6.ownsRow w5.heap.size 5 1 (.slice A6 n1 c6) n1 (bytv L) ∧ Below w5.heap.size w5 w6) := ⟨by simpa using hown1, (Below.refl w5.heap.size w5).grown hg1 (by simp) (by simp [Value.ownBlock])⟩
           clear hown1 hg1 hat1)
        | (at_builtin
           refine wpList_append_rd infoB rfl (.tmp 48) (.tmp 51) rfl w5.heap.size (.slice A6 n1 c6) n1 (bytv L) rfl (X.out.1.alloc _) w6.heap.size (w6.heap.size + 1) _ 1 1 [.int .u8 (xb : Nat)] rfl (Rd.new w6 _ _) rfl (by simp [Value.oneCell']) (by omega) (by have := X.out.2.size; simp; omega) ?_
           intro v1 w7 hown1 hg1 hat1
           obtain ⟨A7, c7, rfl, _, _⟩ := own_slice hown1
           have Y : Hid (Byts w7 0 A7 c7 (L ++ [xb]) ∧ Below w5.heap.size w5 w7) := Lib.hid (by
             refine ⟨owned_byts (n := n1 + 1) (base := w5.heap.size) ?_, (X.out.2.alloc X.out.2.size _).grown hg1 (by have := X.out.2.size; simp; omega) (fun q hq => by have := X.out.1.lt q hq; omega)⟩
             rw [bytv_append]
             exact hown1)
           clear hown1 hg1 hat1))
      replace HB := Lib.hid (below_ext HB.out Y.out.2)
      have hc7 := Y.out.1.2.1
      (with_reducible refine (c54a Y.out.1 (okb_more OK.out hxl) (by rw [List.length_append, ← HN1.out]; simp) (by rw [List.length_append, ← HN1.out]; simp; omega) (HMORE.out xb) v3 HV3.out).mono ?_); rintro e w8 ⟨rfl, hb⟩
      replace HB := Lib.hid (below_ext HB.out hb)
      clear hb X Y
      go_wp2_with fail
      (with_reducible refine (c48 _).mono ?_); rintro e w10 ⟨rfl, hb⟩
      go_wp2_with fail
      go_ret
      exact ⟨rfl, below_ext HB.out hb⟩
    · obtain ⟨hA1, hn1, hc1⟩ := HP1.out.1 h0
      subst hA1 hn1 hc1
      have hg : (gd != 0) = true := by simpa using h0
      clear h0 HP1
      go_wp2_with fail
      (with_reducible refine (c48 _).mono ?_); rintro e w10 ⟨rfl, hb⟩
      go_wp2_with fail
      go_ret
      exact ⟨rfl, below_ext HB.out hb⟩
  · go_enter Try.func11, Try.ntmps11
    go_wp2_with fail
    (with_reducible refine (k22 Sa.out HGR.out).mono ?_); rintro e w1 ⟨rfl, hb⟩
    replace HB := Lib.hid (below_ext HB.out hb)
    clear hb
    go_wp2_with fail
    (with_reducible refine (c48 _).mono ?_); rintro e w2 ⟨rfl, hb⟩
    go_wp2_with fail
    go_ret
    exact ⟨rfl, below_ext HB.out hb⟩

end Go.Proofs.Ytepmcfleijiloaa

end
