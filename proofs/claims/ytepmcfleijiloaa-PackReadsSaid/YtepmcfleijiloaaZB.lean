/- Joined: M9 M10 M11 M12 M13 M14 M15 M16 M17 M18 -/
import Derived.Test.YtepmcfleijiloaaZA
import Derived.Test.YtepmcfleijiloaaK1
import Derived.Test.YtepmcfleijiloaaH6
import Derived.Test.YtepmcfleijiloaaP9
import Derived.Test.YtepmcfleijiloaaH8
import Derived.Laws.EntriesVeiled
import Derived.Test.YtepmcfleijiloaaH10
section
set_option linter.unusedVariables false
/- Of, PackLays' parts. -/
namespace Go.Proofs.Ytepmcfleijiloaa
open Go.RowKit

theorem groups_okR {T : Rs} {R : Rs} (h : okTs R) : ∀ g ∈ groups R, okR g.1 := fun g hg => group_okR h hg
/-- The graph of words fits an image. -/
theorem ok9 {xs : List ByteArray} (hW : Wds xs) : Ok9 (graphOf (textsOf xs)) := by
  refine ⟨by rw [graphOf_len]; exact nodesOf_size hW.wd, fun nd hnd => ?_, fun nd hnd e he => ?_⟩
  · obtain ⟨R, hR, rfl⟩ := List.mem_map.1 hnd
    have h1 := (nodesOf_nod hW.wd R hR).len
    have h2 := groups_len R
    simp [ndOf, edgesOf]
    omega
  · obtain ⟨R, hR, rfl⟩ := List.mem_map.1 hnd
    obtain ⟨g, hg, rfl⟩ := List.mem_map.1 he
    have h1 := group_okR (nodesOf_nod hW.wd R hR).ok hg
    have h2 := nodesOf_closed hW.wd R hR g hg
    have h3 := List.idxOf_lt_length_of_mem h2
    have h4 := nodesOf_size hW.wd
    exact ⟨by have := h1.1; show g.1 ≤ 1114111; omega, by show (nodesOf (textsOf xs)).idxOf g.2 < 721; omega⟩

set_option maxRecDepth 100000 in
/-- pack.Of -/
theorem c49 {w : World} {A : Option Addr} {c : Nat} {xs : List ByteArray} {g : Int} (hx : Strs w 0 A c xs) (hsm : Small xs) (hg : g = goodE xs) :
    Calls Try.prog 49 #[.slice A xs.length c] w fun e w' => ∃ A1 n1 c1, e = .returned (.tuple #[.slice A1 n1 c1, .int .i64 g]) ∧ Hid ((g ≠ 0 → A1 = none ∧ n1 = 0 ∧ c1 = 0) ∧ (g = 0 → Wds xs ∧ n1 = (imageB (graphOf (textsOf xs))).length ∧ w'.ownsRow w.heap.size 5 1 (.slice A1 n1 c1) n1 (bytv (imageB (graphOf (textsOf xs)))))) ∧ Below w.heap.size w w' := by
  have HX := Lib.hid hx
  have HS := Lib.hid hsm
  have HG := Lib.hid hg
  have hl1 := hx.2.1
  have hl2 := hx.2.2
  clear hx hsm hg
  go_enter Try.func49, Try.ntmps49
  go_wp2_with fail
  (with_reducible refine (k25 HX.out HS.out HG.out).mono ?_); rintro e w1 ⟨p, rfl, HP, hb⟩
  have HB := Lib.hid hb
  clear hb
  by_cases h0 : g = 0
  · subst h0
    obtain ⟨g1, rfl, hgv, hw⟩ := HP.out.2 rfl
    have GV := Lib.hid hgv
    have HW := Lib.hid hw
    clear hgv hw HP
    go_wp2_with fail
    (with_reducible refine (c52 w1 g1 _ GV.out (ok9 HW.out)).mono ?_); rintro e w2 ⟨A2, c2, rfl, ho, hb⟩
    have HO := Lib.hid (own_low ho HB.out.size)
    have HB2 := Lib.hid (below_ext HB.out hb)
    clear ho hb
    go_wp2_with fail
    go_ret2
    exact ⟨A2, _, c2, rfl, Lib.hid ⟨HW.out, rfl, HO.out⟩, HB2.out⟩
  · have hp := HP.out.1 h0
    subst hp
    have hg : (g != 0) = true := by simpa using h0
    have H0 := Lib.hid h0
    clear h0
    go_wp2_with fail
    go_ret2
    exact ⟨none, 0, 0, rfl, Lib.hid ⟨fun _ => ⟨rfl, rfl, rfl⟩, fun h => absurd h H0.out⟩, HB.out⟩

set_option maxRecDepth 100000 in
/-- inkhornref9.Of -/
theorem c50 {w : World} {A : Option Addr} {c : Nat} {xs : List ByteArray} {g : Int} (hx : Strs w 0 A c xs) (hsm : Small xs) (hg : g = goodE xs) :
    Calls Try.prog 50 #[.slice A xs.length c] w fun e w' => ∃ A1 n1 c1, e = .returned (.tuple #[.slice A1 n1 c1, .int .i64 g]) ∧ Hid ((g ≠ 0 → A1 = none ∧ n1 = 0 ∧ c1 = 0) ∧ (g = 0 → n1 = (imageB (graphOf (textsOf xs))).length ∧ w'.ownsRow w.heap.size 5 1 (.slice A1 n1 c1) n1 (bytv (imageB (graphOf (textsOf xs)))))) ∧ Below w.heap.size w w' := by
  have HX := Lib.hid hx
  have HS := Lib.hid hsm
  have HG := Lib.hid hg
  have hl1 := hx.2.1
  have hl2 := hx.2.2
  clear hx hsm hg
  go_enter Try.func50, Try.ntmps50
  go_wp2_with fail
  (with_reducible refine (k26 HX.out HS.out HG.out).mono ?_); rintro e w1 ⟨p, rfl, HP, hb⟩
  have HB := Lib.hid hb
  clear hb
  by_cases h0 : g = 0
  · subst h0
    have HW := Lib.hid (Wds.of_good HG.out.symm)
    have RG := Lib.hid (HP.out rfl)
    clear HP
    go_wp2_with fail
    (with_reducible refine (c82 w1 p _ RG.out HW.out.wd (ok9 HW.out)).mono ?_); rintro e w2 ⟨A2, c2, rfl, ho, hb⟩
    have HO := Lib.hid (own_low ho HB.out.size)
    have HB2 := Lib.hid (below_ext HB.out hb)
    clear ho hb
    go_wp2_with fail
    go_ret2
    exact ⟨A2, _, c2, rfl, Lib.hid ⟨rfl, HO.out⟩, HB2.out⟩
  · have hg : (g != 0) = true := by simpa using h0
    have H0 := Lib.hid h0
    clear h0
    go_wp2_with fail
    go_ret2
    exact ⟨none, 0, 0, rfl, Lib.hid ⟨fun _ => ⟨rfl, rfl, rfl⟩, fun h => absurd h H0.out⟩, HB.out⟩

end Go.Proofs.Ytepmcfleijiloaa

end
section
set_option linter.unusedVariables false
/- Graph.like. -/
namespace Go.Proofs.Ytepmcfleijiloaa
open Go.RowKit

/-- A graph's cells, in each later world. -/
theorem GraphV.cells {w : World} {v : Value} {ns : List Nd} (h : GraphV w 0 v ns) (hp : 0 < ns.length) (nl : Nat) (hnl : nl = ns.length) : ∃ g b o c, v = .pointer (some ⟨g, 0, none⟩) ∧ g < w.heap.size ∧ nl ≤ c ∧ c ≤ 9223372036854775807 ∧
    ∀ w', Below w.heap.size w w' → w'.cell? ⟨g, 0, none⟩ = some (.slice (some ⟨b, o, none⟩) nl c) ∧
      ∀ k (hk : k < ns.length), ∃ A2 c2, w'.cell? ⟨b, o + k * 2, none⟩ = some (.bool ns[k].1) ∧ w'.cell? ⟨b, o + k * 2 + 1, none⟩ = some (.slice A2 ns[k].2.length c2) ∧ Edgs w' 0 A2 c2 ns[k].2 := by
  subst hnl
  rcases h with ⟨_, rfl⟩ | h
  · simp at hp
  obtain ⟨g, A, c, cs, h1, _, h2, h3, h4, h5, h6, h7⟩ := h
  obtain ⟨b, o, rfl, _, hb, hc⟩ := h5 (by rw [flat_len]; omega)
  refine ⟨g, b, o, c, h1, (Array.getElem?_eq_some_iff.1 h2).1, h3, h4, fun w' hw => ⟨?_, fun k hk => ?_⟩⟩
  · rw [cell_of_row _ _ _ _ _ _ ((hw.block g (Array.getElem?_eq_some_iff.1 h2).1).trans h2)]; rfl
  · obtain ⟨A2, c2, e, he⟩ := h7 k hk (by omega)
    have hf := flat_at cs k (by omega)
    rw [e] at hf
    have k1 := hc _ _ hf.1
    have k2 := hc _ _ hf.2
    rw [← Nat.add_assoc] at k2
    rw [Nat.mul_comm] at k1 k2
    exact ⟨A2, c2, (World.cell?_of_block (a := ⟨b, o + k * 2, none⟩) (hw.block b hb)).trans k1, (World.cell?_of_block (a := ⟨b, o + k * 2 + 1, none⟩) (hw.block b hb)).trans k2, he.ext hw⟩

set_option maxHeartbeats 4000000 in
set_option maxRecDepth 100000 in
/-- Graph.like, of two that are alike -/
theorem c109 {w : World} {v u : Value} {ns : List Nd} (h : GraphV w 0 v ns) (h2 : GraphV w 0 u ns) (hp : 0 < ns.length) :
    Calls Try.prog 109 #[v, u] w fun e w' => e = .returned (.bool true) ∧ Below w.heap.size w w' := by
  obtain ⟨nl, hnl⟩ : ∃ n, n = ns.length := ⟨_, rfl⟩
  obtain ⟨g, b, o, c, rfl, hgl, hc1, hc2, hcells⟩ := h.cells hp nl hnl
  obtain ⟨g2, b2, o2, c2, rfl, hgl2, hd1, hd2, hcells2⟩ := h2.cells hp nl hnl
  have HC := Lib.hid hcells
  have HC2 := Lib.hid hcells2
  have HNL := Lib.hid hnl
  have k1 := (HC.out w (Below.refl _ _)).1
  have k2 := (HC2.out w (Below.refl _ _)).1
  have hbn : ((nl : Int) != (nl : Int)) = false := by simp
  have he49 := eq49
  clear h h2 hcells hcells2 hnl
  go_enter Try.func109, Try.ntmps109
  go_wp2_with fail
  go_quiet (fail)
  all_goals
    go_wp2_with fail
    go_loopw [26] (fun i wr => ∃ k : Nat, k ≤ nl ∧ i = .int .i64 k ∧ Hid (Below w.heap.size w wr)) (fun i _ => nl - (intOf i).toNat)
    case atStart => exact ⟨0, by omega, rfl, Lib.hid (below_drewN (Below.refl _ _) _)⟩
    case round =>
      obtain ⟨k, hk, rfl, HB⟩ := hrel
      obtain ⟨wo, rfl⟩ : ∃ wo : World, wo = wr := ⟨_, rfl⟩
      by_cases hlt : k < nl
      · have hkn : k < ns.length := by rw [← HNL.out]; exact hlt
        have kg2 := (HC2.out wo HB.out).1
        obtain ⟨A3, c3, e1, e2, e3⟩ := (HC.out wo HB.out).2 k hkn
        obtain ⟨A4, c4, f1, f2, f3⟩ := (HC2.out wo HB.out).2 k hkn
        obtain ⟨nd, hnd⟩ : ∃ nd, nd = ns[k] := ⟨_, rfl⟩
        rw [← hnd] at e1 e2 e3 f1 f2 f3
        obtain ⟨fb, hfb⟩ : ∃ f, f = nd.1 := ⟨_, rfl⟩
        obtain ⟨es, hes⟩ : ∃ f, f = nd.2 := ⟨_, rfl⟩
        rw [← hfb] at e1 f1
        rw [← hes] at e2 e3 f2 f3
        have hl3 := e3.2.1
        have hm3 := e3.2.2
        have hl4 := f3.2.1
        have hm4 := f3.2.2
        have HE3 := Lib.hid e3
        have HE4 := Lib.hid f3
        have hbb : (fb != fb) = false := by cases fb <;> rfl
        have hbe : ((es.length : Int) != (es.length : Int)) = false := by simp
        have hg2w : g2 < wo.heap.size := Nat.lt_of_lt_of_le hgl2 HB.out.size
        have hb2w : b2 < wo.heap.size := World.block_lt_of_cell? _ _ f1
        have hbw : b < wo.heap.size := World.block_lt_of_cell? _ _ e1
        clear hnd hfb hes e3 f3
        go_wp2_with fail
        go_loopw [55] (fun i wr => ∃ m : Nat, m ≤ es.length ∧ i = .int .i64 m ∧ Hid (Below wo.heap.size wo wr) ∧ Hid (wr.cell? ⟨wo.heap.size + 1, 1, none⟩ = some (.slice A4 es.length c4)) ∧ wo.heap.size + 1 < wr.heap.size) (fun i _ => es.length - (intOf i).toNat)
        case atStart => exact ⟨0, by omega, rfl, Lib.hid (((Below.refl _ _).alloc (Nat.le_refl _) _).alloc (by simp) _), Lib.hid (by rw [cell_of_row _ _ _ _ _ _ (heap_alloc2_new wo _ _)]; rfl), by simp⟩
        case round =>
          obtain ⟨m, hm, rfl, HBW, HCE, hsz⟩ := hrel
          by_cases hlm : m < es.length
          · obtain ⟨b7, o7, hA, _, hb7, hx1, hx2⟩ := (HE3.out.ext HBW.out).at_ hlm
            obtain ⟨b8, o8, hA2, _, hb8, hy1, hy2⟩ := (HE4.out.ext HBW.out).at_ hlm
            subst hA
            subst hA2
            obtain ⟨x, hx⟩ : ∃ x, x = es[m].1 := ⟨_, rfl⟩
            obtain ⟨y, hy⟩ : ∃ x, x = es[m].2 := ⟨_, rfl⟩
            rw [← hx] at hx1 hy1
            rw [← hy] at hx2 hy2
            have hb1 : ((x : Int) == (x : Int)) = true := by simp
            have hb2 : ((y : Int) == (y : Int)) = true := by simp
            have hce := HCE.out
            have HN1 : Hid ((wr.alloc (.cells #[.int .i32 x, .int .i64 y] 49)).cell? ⟨wo.heap.size + 1, 1, none⟩ = some (.slice (some ⟨b8, o8, none⟩) es.length c4)) := Lib.hid ((World.cell?_of_block (a := ⟨wo.heap.size + 1, 1, none⟩) (heap_alloc_old wr _ hsz)).trans HCE.out)
            clear hx hy
            go_wp2_with fail
            go_quiet (fail)
            all_goals
              go_wp2_with fail
              go_roundw
              case rel => exact ⟨m + 1, by omega, by go_num, Lib.hid (below_drewN (HBW.out.alloc HBW.out.size _) _), HN1, by simp; omega⟩
              case measure => simp [intOf]; omega
          · obtain rfl : m = es.length := by omega
            go_wp2_with fail
            go_roundw
            case rel => exact ⟨k + 1, by omega, by go_num, Lib.hid (below_ext HB.out HBW.out)⟩
            case measure => simp [intOf]; omega
      · go_wp2_with fail
        go_ret
        exact ⟨rfl, HB.out⟩

end Go.Proofs.Ytepmcfleijiloaa

end
section
set_option linter.unusedVariables false
set_option linter.unusedSimpArgs false
/- Graph.whole, of a graph of words. -/
namespace Go.Proofs.Ytepmcfleijiloaa
open Go.RowKit

/-- The longest text's runes. -/
def hgt (R : Rs) : Nat := R.foldr (fun t n => max t.length n) 0
theorem le_hgt : ∀ {R : Rs} {t : List Nat}, t ∈ R → t.length ≤ hgt R
  | u :: R, t, h => by
    show t.length ≤ max u.length (hgt R)
    rcases List.mem_cons.1 h with rfl | h
    · omega
    · have := le_hgt h; omega
theorem hgt_mem : ∀ {R : Rs}, R ≠ [] → ∃ t ∈ R, t.length = hgt R
  | [], h => absurd rfl h
  | [t], _ => ⟨t, by simp, by show t.length = max t.length 0; omega⟩
  | t :: u :: R, _ => by
    obtain ⟨v, hv, e⟩ := hgt_mem (R := u :: R) (by simp)
    by_cases h : t.length ≤ v.length
    · exact ⟨v, by simp [List.mem_cons.1 hv], by show v.length = max t.length (hgt (u :: R)); omega⟩
    · exact ⟨t, by simp, by show t.length = max t.length (hgt (u :: R)); omega⟩
theorem hgt_child {R : Rs} {g : Nat × Rs} (h : g ∈ groups R) : hgt g.2 < hgt R := by
  obtain ⟨h1, h2⟩ := mem_groups R g h
  obtain ⟨t, ht, e⟩ := hgt_mem h1
  have := le_hgt (h2 t ht)
  simp at this
  omega
theorem hgt_short {R : Rs} {d : Nat} (h : Short (d + 1) R) : hgt R ≤ d := by
  cases R with
  | nil => exact Nat.zero_le _
  | cons t R =>
    obtain ⟨u, hu, e⟩ := hgt_mem (R := t :: R) (by simp)
    have := h u hu
    omega
/-- A node that says nothing is none. -/
theorem fin_or {R : Rs} (h : R ≠ []) (hf : fin R = false) : groups R ≠ [] := by
  cases R with
  | nil => exact absurd rfl h
  | cons t R =>
    cases t with
    | nil => simp [fin] at hf
    | cons r x => rw [groups_cons]; simp

theorem GraphV.cells2 {w : World} {v : Value} {ns : List Nd} (h : GraphV w 0 v ns) (hp : 0 < ns.length) (nl : Nat) (hnl : nl = ns.length) : ∃ g b o c, v = .pointer (some ⟨g, 0, none⟩) ∧ g < w.heap.size ∧ nl ≤ c ∧ c ≤ 9223372036854775807 ∧
    (∀ w', Below w.heap.size w w' → w'.cell? ⟨g, 0, none⟩ = some (.slice (some ⟨b, o, none⟩) nl c)) ∧
      ∀ k (hk : k < ns.length), ∃ A2 c2, ∀ w', Below w.heap.size w w' → w'.cell? ⟨b, o + k * 2, none⟩ = some (.bool ns[k].1) ∧ w'.cell? ⟨b, o + k * 2 + 1, none⟩ = some (.slice A2 ns[k].2.length c2) ∧ Edgs w' 0 A2 c2 ns[k].2 := by
  subst hnl
  rcases h with ⟨_, rfl⟩ | h
  · simp at hp
  obtain ⟨g, A, c, cs, h1, _, h2, h3, h4, h5, h6, h7⟩ := h
  obtain ⟨b, o, rfl, _, hb, hc⟩ := h5 (by rw [flat_len]; omega)
  refine ⟨g, b, o, c, h1, (Array.getElem?_eq_some_iff.1 h2).1, h3, h4, fun w' hw => ?_, fun k hk => ?_⟩
  · rw [cell_of_row _ _ _ _ _ _ ((hw.block g (Array.getElem?_eq_some_iff.1 h2).1).trans h2)]; rfl
  · obtain ⟨A2, c2, e, he⟩ := h7 k hk (by omega)
    have hf := flat_at cs k (by omega)
    rw [e] at hf
    have k1 := hc _ _ hf.1
    have k2 := hc _ _ hf.2
    rw [← Nat.add_assoc] at k2
    rw [Nat.mul_comm] at k1 k2
    exact ⟨A2, c2, fun w' hw => ⟨(World.cell?_of_block (a := ⟨b, o + k * 2, none⟩) (hw.block b hb)).trans k1, (World.cell?_of_block (a := ⟨b, o + k * 2 + 1, none⟩) (hw.block b hb)).trans k2, he.ext hw⟩⟩

def cellsN (s : List Nat) : Array Value := (s.map fun n => Value.int .i64 (n : Nat)).toArray
/-- What whole's inner function leans on. -/
structure Wh (w0 w : World) (g gv sv fv sb nl : Nat) (s : List Nat) : Prop where
  bel : Below w0.heap.size w0 w
  gc : w.heap[gv]? = some (.cells #[.pointer (some ⟨g, 0, none⟩)] 26 (0, 0))
  sc : w.heap[sv]? = some (.cells #[.slice (some ⟨sb, 0, none⟩) nl nl] 151 (0, 0))
  fc : w.heap[fv]? = some (.cells #[.func (.func 124) #[] #[.pointer (some ⟨gv, 0, none⟩), .pointer (some ⟨sv, 0, none⟩), .pointer (some ⟨fv, 0, none⟩)]] 152 (0, 0))
  st : w.heap[sb]? = some (.cells (cellsN s) 3 (0, 0))
  len : s.length = nl
  low : w0.heap.size ≤ sb
  d1 : gv ≠ sb
  d2 : sv ≠ sb
  d3 : fv ≠ sb
section
variable {w0 w w' : World} {g gv sv fv sb nl : Nat} {s : List Nat}
theorem Wh.ext (h : Wh w0 w g gv sv fv sb nl s) (hb : Below w.heap.size w w') : Wh w0 w' g gv sv fv sb nl s := by
  have l1 := (Array.getElem?_eq_some_iff.1 h.gc).1
  have l2 := (Array.getElem?_eq_some_iff.1 h.sc).1
  have l3 := (Array.getElem?_eq_some_iff.1 h.fc).1
  have l4 := (Array.getElem?_eq_some_iff.1 h.st).1
  exact ⟨h.bel.trans (hb.mono h.bel.size), (hb.block _ l1).trans h.gc, (hb.block _ l2).trans h.sc, (hb.block _ l3).trans h.fc, (hb.block _ l4).trans h.st, h.len, h.low, h.d1, h.d2, h.d3⟩
theorem Wh.set (h : Wh w0 w g gv sv fv sb nl s) (n x : Nat) : Wh w0 (w.setCell ⟨sb, n, none⟩ (.int .i64 (x : Nat))) g gv sv fv sb nl (s.set n x) := by
  refine ⟨h.bel.setCell h.low _, ?_, ?_, ?_, ?_, by rw [List.length_set]; exact h.len, h.low, h.d1, h.d2, h.d3⟩
  · exact (Below.heap_setCell w ⟨sb, n, none⟩ _ gv h.d1).trans h.gc
  · exact (Below.heap_setCell w ⟨sb, n, none⟩ _ sv h.d2).trans h.sc
  · exact (Below.heap_setCell w ⟨sb, n, none⟩ _ fv h.d3).trans h.fc
  · rw [Go.Joins.block_setCell h.st]
    unfold cellsN
    simp [List.map_set]
theorem Wh.lt (h : Wh w0 w g gv sv fv sb nl s) : sb < w.heap.size := (Array.getElem?_eq_some_iff.1 h.st).1
theorem Wh.cells (h : Wh w0 w g gv sv fv sb nl s) : w.cell? ⟨gv, 0, none⟩ = some (.pointer (some ⟨g, 0, none⟩)) ∧ w.cell? ⟨sv, 0, none⟩ = some (.slice (some ⟨sb, 0, none⟩) nl nl) ∧
    w.cell? ⟨fv, 0, none⟩ = some (.func (.func 124) #[] #[.pointer (some ⟨gv, 0, none⟩), .pointer (some ⟨sv, 0, none⟩), .pointer (some ⟨fv, 0, none⟩)]) ∧
    (∀ k (hk : k < s.length), w.cell? ⟨sb, k, none⟩ = some (.int .i64 (s[k] : Nat))) ∧ ∀ k, w.frozen? ⟨sb, k, none⟩ = false := by
  refine ⟨?_, ?_, ?_, fun k hk => ?_, fun k => ?_⟩
  · rw [cell_of_row _ _ _ _ _ _ h.gc]; rfl
  · rw [cell_of_row _ _ _ _ _ _ h.sc]; rfl
  · rw [cell_of_row _ _ _ _ _ _ h.fc]; rfl
  · rw [cell_of_row _ _ _ _ _ _ h.st]; simp [cellsN, hk]
  · simp [World.frozen?, h.st]
end

/-- What whole's inner function is asked of a graph of words. -/
structure Gd (w0 : World) (g b o c nl : Nat) (T : Rs) : Prop where
  wd : Wd T
  nleq : nl = (nodesOf T).length
  cap : nl ≤ c
  cap2 : c ≤ 9223372036854775807
  top : ∀ w', Below w0.heap.size w0 w' → w'.cell? ⟨g, 0, none⟩ = some (.slice (some ⟨b, o, none⟩) nl c)
  node : ∀ k (hk : k < (nodesOf T).length), ∃ A2 c2, ∀ w', Below w0.heap.size w0 w' → w'.cell? ⟨b, o + k * 2, none⟩ = some (.bool (fin (nodesOf T)[k])) ∧ w'.cell? ⟨b, o + k * 2 + 1, none⟩ = some (.slice A2 (edgesOf (nodesOf T) (nodesOf T)[k]).length c2) ∧ Edgs w' 0 A2 c2 (edgesOf (nodesOf T) (nodesOf T)[k])
def WholeIH (w0 : World) (g b o c nl gv sv fv sb : Nat) (T : Rs) (f : Nat) : Prop := ∀ (n : Nat) (hn : n < (nodesOf T).length) (d : Nat) (w : World) (s : List Nat), hgt (nodesOf T)[n] < f → hgt (nodesOf T)[n] + d ≤ 12 → Wh w0 w g gv sv fv sb nl s →
  (∀ m (hm : m < (nodesOf T).length), s[m]? = some 1 → hgt (nodesOf T)[n] < hgt (nodesOf T)[m]) →
  Calls Try.prog 124 #[.int .i64 n, .int .i64 d, .pointer (some ⟨gv, 0, none⟩), .pointer (some ⟨sv, 0, none⟩), .pointer (some ⟨fv, 0, none⟩)] w fun e w' => e = .returned (.bool true) ∧ ∃ s' : List Nat, Wh w0 w' g gv sv fv sb nl s' ∧ w.grownBy w' (some sb) ∧ ∀ m : Nat, s'[m]? = some 1 ↔ s[m]? = some 1
theorem WholeIH.call {w0 : World} {g b o c nl gv sv fv sb : Nat} {T : Rs} {f : Nat} (h : WholeIH w0 g b o c nl gv sv fv sb T f) (n : Nat) (hn : n < (nodesOf T).length) (d : Nat) (w : World) (s : List Nat) (h1 : hgt (nodesOf T)[n] < f) (h2 : hgt (nodesOf T)[n] + d ≤ 12) (h3 : Wh w0 w g gv sv fv sb nl s)
    (h4 : ∀ m (hm : m < (nodesOf T).length), s[m]? = some 1 → hgt (nodesOf T)[n] < hgt (nodesOf T)[m]) (e : Int) (he : e = d) :
    Calls Try.prog 124 #[.int .i64 n, .int .i64 e, .pointer (some ⟨gv, 0, none⟩), .pointer (some ⟨sv, 0, none⟩), .pointer (some ⟨fv, 0, none⟩)] w fun e w' => e = .returned (.bool true) ∧ ∃ s' : List Nat, Wh w0 w' g gv sv fv sb nl s' ∧ w.grownBy w' (some sb) ∧ ∀ m : Nat, s'[m]? = some 1 ↔ s[m]? = some 1 := by rw [he]; exact h n hn d w s h1 h2 h3 h4

set_option maxHeartbeats 4000000 in
set_option maxRecDepth 100000 in
theorem whole1 {w0 : World} {g b o c nl gv sv fv sb : Nat} {T : Rs} (hg : Gd w0 g b o c nl T) (hT : T ≠ []) (f : Nat) (ih : WholeIH w0 g b o c nl gv sv fv sb T f) : WholeIH w0 g b o c nl gv sv fv sb T (f + 1) := by
  intro n hn d w s hf hd hW hpre
  have HG := Lib.hid hg
  have HW := Lib.hid hW
  have HP := Lib.hid hpre
  obtain ⟨A2, c2, hnode⟩ := hg.node n hn
  have hnl := hg.nleq
  have hnn : n < nl := by omega
  have hsl : n < s.length := by have := hW.len; omega
  obtain ⟨fi, hfi⟩ : ∃ x, x = fin (nodesOf T)[n] := ⟨_, rfl⟩
  obtain ⟨es, hes⟩ : ∃ x, x = edgesOf (nodesOf T) (nodesOf T)[n] := ⟨_, rfl⟩
  rw [← hfi, ← hes] at hnode
  have HNO := Lib.hid hnode
  have hR := nodesOf_nod hg.wd _ (List.getElem_mem hn)
  have HFE : Hid (fi = false → es.length ≠ 0) := Lib.hid fun e h0 => by
    rw [hfi] at e
    have := fin_or (hR.ne hT) e
    rw [hes] at h0
    simp [edgesOf] at h0
    exact this h0
  have HES := Lib.hid hes
  have hel : es.length ≤ 60 := by rw [hes]; have := groups_len (nodesOf T)[n]; have := hR.len; simp [edgesOf]; omega
  have k1 := hg.top w hW.bel
  obtain ⟨k2, k3, k4⟩ := hnode w hW.bel
  have hl1 := k4.2.1
  have hl2 := k4.2.2
  obtain ⟨c1, c3, c4, c5, c6⟩ := hW.cells
  have c5n := c5 n hsl
  obtain ⟨sn, hsn⟩ : ∃ x, x = s[n] := ⟨_, rfl⟩
  rw [← hsn] at c5n
  have hne1 : sn ≠ 1 := fun e => by
    have := hpre n hn (by rw [List.getElem?_eq_getElem hsl, ← hsn, e])
    omega
  have HSN := Lib.hid hsn
  have hcap := hg.cap
  have hcap2 := hg.cap2
  have hb0 : b < w.heap.size := World.block_lt_of_cell? _ _ k2
  have hg0 : g < w.heap.size := World.block_lt_of_cell? _ _ k1
  have hgv0 : gv < w.heap.size := World.block_lt_of_cell? _ _ c1
  have hsv0 : sv < w.heap.size := World.block_lt_of_cell? _ _ c3
  have hfv0 : fv < w.heap.size := World.block_lt_of_cell? _ _ c4
  have hsb0 : sb < w.heap.size := hW.lt
  have f6 := c6 n
  have D1 := hW.d1
  have D2 := hW.d2
  have D3 := hW.d3
  have hd12 : decide ((12 : Int) < d) = false := decide_eq_false (by omega)
  clear hg hW hpre hnode hfi hes hR k4 c5 c6 hsn hnl
  by_cases h2 : sn = 2
  · have b2 : ((sn : Int) == 2) = true := by rw [h2]; rfl
    have H2 := Lib.hid h2
    clear h2
    go_enter Try.func124, Try.ntmps124
    go_wp2_with fail
    go_ret
    have hx : Below w.heap.size w (w.alloc (.cells #[.bool fi, .slice A2 es.length c2] 93)) := (Below.refl _ _).alloc (Nat.le_refl _) _
    exact ⟨rfl, s, HW.out.ext hx, grown_below hx, fun m => Iff.rfl⟩
  · have b2 : ((sn : Int) == 2) = false := beq_eq_false_iff_ne.2 (by omega)
    have b1 : ((sn : Int) == 1) = false := beq_eq_false_iff_ne.2 (by omega)
    have n1 : ¬ ((sn : Int) = 1) := by omega
    cases fi
    · have hne0 := HFE.out rfl
      have be : ((es.length : Int) == 0) = false := beq_eq_false_iff_ne.2 (by omega)
      go_enter Try.func124, Try.ntmps124
      go_wp2_with fail
      have HWL : Hid (Wh w0 ((w.setCell ⟨sb, n, none⟩ (.int .i64 1)).alloc (.cells #[.bool false, .slice A2 es.length c2] 93)) g gv sv fv sb nl (s.set n 1)) := Lib.hid ((HW.out.set n 1).ext ((Below.refl _ _).alloc (Nat.le_refl _) _))
      have HGL : Hid (w.grownBy ((w.setCell ⟨sb, n, none⟩ (.int .i64 1)).alloc (.cells #[.bool false, .slice A2 es.length c2] 93)) (some sb)) := Lib.hid (grown_trans (grown_set w sb n _) (grown_below ((Below.refl _ _).alloc (Nat.le_refl _) _)))
      have HS1 : Hid (∀ j : Nat, (s.set n 1)[j]? = some 1 ↔ (j = n ∨ s[j]? = some 1)) := Lib.hid fun j => by
        by_cases hj : j = n
        · subst hj; simp [hsl]
        · rw [List.getElem?_set_ne (by omega)]; simp [hj]
      clear k1 k2 k3 c1 c3 c4 f6 c5n
      go_loopw [49] (fun i wr => ∃ (m : Nat) (s1 : List Nat), m ≤ es.length ∧ i = .int .i64 m ∧ Hid (Wh w0 wr g gv sv fv sb nl s1) ∧ Hid (w.grownBy wr (some sb)) ∧ Hid (∀ j : Nat, s1[j]? = some 1 ↔ (j = n ∨ s[j]? = some 1))) (fun i _ => es.length - (intOf i).toNat)
      case atStart => exact ⟨0, s.set n 1, by omega, rfl, HWL, HGL, HS1⟩
      case round =>
        clear HWL HGL HS1
        obtain ⟨m, s1, hm, rfl, HWr, HGr, HSr⟩ := hrel
        obtain ⟨c1, c3, c4, c5, c6⟩ := HWr.out.cells
        have f6 := c6 n
        have hsb1 : sb < wr.heap.size := HWr.out.lt
        have hs1l : n < s1.length := by have := HWr.out.len; omega
        by_cases hlt : m < es.length
        · obtain ⟨b9, o9, hA, _, hb9, hx1, hx2⟩ := ((HNO.out wr HWr.out.bel).2.2).at_ hlt
          subst hA
          have hmg : m < (groups (nodesOf T)[n]).length := by have := hlt; rw [HES.out] at this; simpa [edgesOf] using this
          have hgm := List.getElem_mem hmg
          have hin := nodesOf_closed HG.out.wd _ (List.getElem_mem hn) _ hgm
          have hch := hgt_child hgm
          obtain ⟨r, hr⟩ : ∃ r, r = es[m].1 := ⟨_, rfl⟩
          obtain ⟨tn, htn⟩ : ∃ t, t = es[m].2 := ⟨_, rfl⟩
          have htn2 : tn = (nodesOf T).idxOf (groups (nodesOf T)[n])[m].2 := by
            rw [htn]
            have := HES.out
            subst this
            simp [edgesOf]
          have htl : tn < (nodesOf T).length := by rw [htn2]; exact List.idxOf_lt_length_of_mem hin
          have hNt : (nodesOf T)[tn] = (groups (nodesOf T)[n])[m].2 := by
            subst htn2
            exact List.getElem_idxOf htl
          rw [← hNt] at hch
          rw [← hr] at hx1
          rw [← htn] at hx2
          have HXA : Hid (Below wr.heap.size wr (wr.alloc (.cells #[.int .i32 r, .int .i64 tn] 49))) := Lib.hid ((Below.refl _ _).alloc (Nat.le_refl _) _)
          have HCALL := Lib.hid (ih.call tn htl (d + 1) (wr.alloc (.cells #[.int .i32 r, .int .i64 tn] 49)) s1 (by omega) (by omega) (HWr.out.ext HXA.out) (fun j hj h1 => by
            rcases (HSr.out j).1 h1 with h2 | h2
            · subst h2; exact hch
            · exact Nat.lt_trans hch (HP.out j hj h2)) ((d : Int) + 1) (by omega))
          have hfv1 : fv < wr.heap.size := World.block_lt_of_cell? _ _ c4
          have hdb : d ≤ 12 := by omega
          clear hr htn htn2 htl hNt hch hin hgm hmg c5 c6
          go_wp2_with fail
          (with_reducible refine HCALL.out.mono ?_); rintro e w5 ⟨rfl, s2, hw5, hg5, hs5⟩
          have HW5 := Lib.hid hw5
          have HG5 := Lib.hid (grown_trans (grown_trans HGr.out (grown_below HXA.out)) hg5)
          have HS5 : Hid (∀ j : Nat, s2[j]? = some 1 ↔ (j = n ∨ s[j]? = some 1)) := Lib.hid fun j => (hs5 j).trans (HSr.out j)
          clear hw5 hg5 hs5
          go_wp2_with fail
          go_roundw
          case rel => exact ⟨m + 1, s2, by omega, by go_num, HW5, HG5, HS5⟩
          case measure => simp [intOf]; omega
        · obtain rfl : m = es.length := by omega
          have hc5 := c5 n hs1l
          clear c5 c6 hlt
          go_wp2_with fail
          go_ret
          refine ⟨rfl, s1.set n 2, HWr.out.set n 2, grown_trans HGr.out (grown_set wr sb n _), fun j => ?_⟩
          by_cases hj : j = n
          · subst hj
            rw [List.getElem?_set_self hs1l, List.getElem?_eq_getElem hsl, ← HSN.out]
            constructor
            · intro h; injection h with h; omega
            · intro h; injection h with h; exact absurd h hne1
          · rw [List.getElem?_set_ne (by omega), HSr.out j]
            constructor
            · rintro (h | h)
              · exact absurd h hj
              · exact h
            · exact fun h => Or.inr h
    · go_enter Try.func124, Try.ntmps124
      go_wp2_with fail
      have HWL : Hid (Wh w0 ((w.setCell ⟨sb, n, none⟩ (.int .i64 1)).alloc (.cells #[.bool true, .slice A2 es.length c2] 93)) g gv sv fv sb nl (s.set n 1)) := Lib.hid ((HW.out.set n 1).ext ((Below.refl _ _).alloc (Nat.le_refl _) _))
      have HGL : Hid (w.grownBy ((w.setCell ⟨sb, n, none⟩ (.int .i64 1)).alloc (.cells #[.bool true, .slice A2 es.length c2] 93)) (some sb)) := Lib.hid (grown_trans (grown_set w sb n _) (grown_below ((Below.refl _ _).alloc (Nat.le_refl _) _)))
      have HS1 : Hid (∀ j : Nat, (s.set n 1)[j]? = some 1 ↔ (j = n ∨ s[j]? = some 1)) := Lib.hid fun j => by
        by_cases hj : j = n
        · subst hj; simp [hsl]
        · rw [List.getElem?_set_ne (by omega)]; simp [hj]
      clear k1 k2 k3 c1 c3 c4 f6 c5n
      go_loopw [49] (fun i wr => ∃ (m : Nat) (s1 : List Nat), m ≤ es.length ∧ i = .int .i64 m ∧ Hid (Wh w0 wr g gv sv fv sb nl s1) ∧ Hid (w.grownBy wr (some sb)) ∧ Hid (∀ j : Nat, s1[j]? = some 1 ↔ (j = n ∨ s[j]? = some 1))) (fun i _ => es.length - (intOf i).toNat)
      case atStart => exact ⟨0, s.set n 1, by omega, rfl, HWL, HGL, HS1⟩
      case round =>
        clear HWL HGL HS1
        obtain ⟨m, s1, hm, rfl, HWr, HGr, HSr⟩ := hrel
        obtain ⟨c1, c3, c4, c5, c6⟩ := HWr.out.cells
        have f6 := c6 n
        have hsb1 : sb < wr.heap.size := HWr.out.lt
        have hs1l : n < s1.length := by have := HWr.out.len; omega
        by_cases hlt : m < es.length
        · obtain ⟨b9, o9, hA, _, hb9, hx1, hx2⟩ := ((HNO.out wr HWr.out.bel).2.2).at_ hlt
          subst hA
          have hmg : m < (groups (nodesOf T)[n]).length := by have := hlt; rw [HES.out] at this; simpa [edgesOf] using this
          have hgm := List.getElem_mem hmg
          have hin := nodesOf_closed HG.out.wd _ (List.getElem_mem hn) _ hgm
          have hch := hgt_child hgm
          obtain ⟨r, hr⟩ : ∃ r, r = es[m].1 := ⟨_, rfl⟩
          obtain ⟨tn, htn⟩ : ∃ t, t = es[m].2 := ⟨_, rfl⟩
          have htn2 : tn = (nodesOf T).idxOf (groups (nodesOf T)[n])[m].2 := by
            rw [htn]
            have := HES.out
            subst this
            simp [edgesOf]
          have htl : tn < (nodesOf T).length := by rw [htn2]; exact List.idxOf_lt_length_of_mem hin
          have hNt : (nodesOf T)[tn] = (groups (nodesOf T)[n])[m].2 := by
            subst htn2
            exact List.getElem_idxOf htl
          rw [← hNt] at hch
          rw [← hr] at hx1
          rw [← htn] at hx2
          have HXA : Hid (Below wr.heap.size wr (wr.alloc (.cells #[.int .i32 r, .int .i64 tn] 49))) := Lib.hid ((Below.refl _ _).alloc (Nat.le_refl _) _)
          have HCALL := Lib.hid (ih.call tn htl (d + 1) (wr.alloc (.cells #[.int .i32 r, .int .i64 tn] 49)) s1 (by omega) (by omega) (HWr.out.ext HXA.out) (fun j hj h1 => by
            rcases (HSr.out j).1 h1 with h2 | h2
            · subst h2; exact hch
            · exact Nat.lt_trans hch (HP.out j hj h2)) ((d : Int) + 1) (by omega))
          have hfv1 : fv < wr.heap.size := World.block_lt_of_cell? _ _ c4
          have hdb : d ≤ 12 := by omega
          clear hr htn htn2 htl hNt hch hin hgm hmg c5 c6
          go_wp2_with fail
          (with_reducible refine HCALL.out.mono ?_); rintro e w5 ⟨rfl, s2, hw5, hg5, hs5⟩
          have HW5 := Lib.hid hw5
          have HG5 := Lib.hid (grown_trans (grown_trans HGr.out (grown_below HXA.out)) hg5)
          have HS5 : Hid (∀ j : Nat, s2[j]? = some 1 ↔ (j = n ∨ s[j]? = some 1)) := Lib.hid fun j => (hs5 j).trans (HSr.out j)
          clear hw5 hg5 hs5
          go_wp2_with fail
          go_roundw
          case rel => exact ⟨m + 1, s2, by omega, by go_num, HW5, HG5, HS5⟩
          case measure => simp [intOf]; omega
        · obtain rfl : m = es.length := by omega
          have hc5 := c5 n hs1l
          clear c5 c6 hlt
          go_wp2_with fail
          go_ret
          refine ⟨rfl, s1.set n 2, HWr.out.set n 2, grown_trans HGr.out (grown_set wr sb n _), fun j => ?_⟩
          by_cases hj : j = n
          · subst hj
            rw [List.getElem?_set_self hs1l, List.getElem?_eq_getElem hsl, ← HSN.out]
            constructor
            · intro h; injection h with h; omega
            · intro h; injection h with h; exact absurd h hne1
          · rw [List.getElem?_set_ne (by omega), HSr.out j]
            constructor
            · rintro (h | h)
              · exact absurd h hj
              · exact h
            · exact fun h => Or.inr h

end Go.Proofs.Ytepmcfleijiloaa

end
section
set_option linter.unusedVariables false
set_option linter.unusedSimpArgs false
/- Graph.whole and Graph.some, of a graph of words. -/
namespace Go.Proofs.Ytepmcfleijiloaa
open Go.RowKit

theorem wholeAll {w0 : World} {g b o c nl gv sv fv sb : Nat} {T : Rs} (hg : Gd w0 g b o c nl T) (hT : T ≠ []) : ∀ f, WholeIH w0 g b o c nl gv sv fv sb T f
  | 0 => fun n hn d w s h => by omega
  | f + 1 => whole1 hg hT f (wholeAll hg hT f)
theorem Gd.of {w : World} {v : Value} {T : Rs} (h : GraphV w 0 v (graphOf T)) (hW : Wd T) : ∃ g b o c nl, v = .pointer (some ⟨g, 0, none⟩) ∧ g < w.heap.size ∧ Gd w g b o c nl T := by
  obtain ⟨M, hM⟩ := nodesOf_head T
  have hp : 0 < (graphOf T).length := by rw [graphOf_len, hM]; simp
  obtain ⟨g, b, o, c, h1, h2, h3, h4, h5, h6⟩ := h.cells2 hp (nodesOf T).length (graphOf_len T).symm
  refine ⟨g, b, o, c, _, h1, h2, hW, rfl, h3, h4, h5, fun k hk => ?_⟩
  obtain ⟨A2, c2, h7⟩ := h6 k (by rw [graphOf_len]; exact hk)
  have e : (graphOf T)[k]'(by rw [graphOf_len]; exact hk) = ndOf (nodesOf T) (nodesOf T)[k] := by simp [graphOf]
  rw [e] at h7
  exact ⟨A2, c2, h7⟩

theorem infoI : Info Try.prog 151 3 (.int .i64 0) 1 8 := ⟨Try.underlying151, by kernel_rfl, rfl, by omega, by omega⟩
theorem make_ints (n : Nat) (hn : n ≤ 721) (w : World) : (Instr.makeSlice 151 (.int .i64 (n : Nat)) (.int .i64 (n : Nat))).run Try.prog w = .ok (.slice (some ⟨w.heap.size, 0, none⟩) n n) (w.alloc (.cells (cellsN (List.replicate n 0)) 3)) := by
  obtain ⟨i, hi, hz, hs, hb⟩ := info_parts infoI.row
  rw [run_make w 151 3 i _ infoI.under hi hz .i64 .i64 n n (by omega) (Int.le_refl _) (by rw [hb]; omega) (by omega)]
  have e : madeCells (Value.int .i64 0).cells (((n : Nat) : Int).toNat * i.size) = cellsN (List.replicate n 0) := by
    rw [hs]
    simp [madeCells, cellsN, Value.cells]
    apply Array.ext
    · simp
    · intro j h1 h2
      simp [Nat.mod_one]
  rw [e]
  rfl

theorem alloc4 (w : World) (a b c d : Obj) : ((((w.alloc a).alloc b).alloc c).alloc d).heap[w.heap.size]? = some a ∧ ((((w.alloc a).alloc b).alloc c).alloc d).heap[w.heap.size + 1]? = some b ∧ ((((w.alloc a).alloc b).alloc c).alloc d).heap[w.heap.size + 1 + 1]? = some c ∧ ((((w.alloc a).alloc b).alloc c).alloc d).heap[w.heap.size + 1 + 1 + 1]? = some d := by
  have h1 := heap_alloc_new w a
  have h2 := heap_alloc_new (w.alloc a) b
  have h3 := heap_alloc_new ((w.alloc a).alloc b) c
  have h4 := heap_alloc_new (((w.alloc a).alloc b).alloc c) d
  have e1 : ∀ (w : World) (o : Obj), Below w.heap.size w (w.alloc o) := fun w o => (Below.refl _ _).alloc (Nat.le_refl _) _
  have b2 := e1 (w.alloc a) b
  have b3 := e1 ((w.alloc a).alloc b) c
  have b4 := e1 (((w.alloc a).alloc b).alloc c) d
  have s1 : (w.alloc a).heap.size = w.heap.size + 1 := by simp
  have s2 : ((w.alloc a).alloc b).heap.size = w.heap.size + 1 + 1 := by simp
  have s3 : (((w.alloc a).alloc b).alloc c).heap.size = w.heap.size + 1 + 1 + 1 := by simp
  rw [s1] at h2
  rw [s2] at h3
  rw [s3] at h4
  refine ⟨(b4.block _ (by omega)).trans ((b3.block _ (by omega)).trans ((b2.block _ (by omega)).trans h1)), (b4.block _ (by omega)).trans ((b3.block _ (by omega)).trans h2), (b4.block _ (by omega)).trans h3, h4⟩
set_option maxHeartbeats 4000000 in
set_option maxRecDepth 100000 in
/-- Graph.whole -/
theorem c107 {w : World} {v : Value} {T : Rs} (h : GraphV w 0 v (graphOf T)) (hW : Wd T) :
    Calls Try.prog 107 #[v] w fun e w' => e = .returned (.bool true) ∧ Below w.heap.size w w' := by
  obtain ⟨g, b, o, c, nl, rfl, hgl, hgd⟩ := Gd.of h hW
  have HG := Lib.hid hgd
  have hnl1 : 0 < nl := by rw [hgd.nleq]; obtain ⟨M, hM⟩ := nodesOf_head T; rw [hM]; simp
  have hnl2 : nl ≤ 721 := by rw [hgd.nleq]; exact nodesOf_size hW
  have hcap := hgd.cap
  have hcap2 := hgd.cap2
  have k1 := hgd.top w (Below.refl _ _)
  have hb0 : 0 < (nodesOf T).length := by rw [← hgd.nleq]; exact hnl1
  obtain ⟨A2, c2, hnode⟩ := hgd.node 0 hb0
  have HNO := Lib.hid hnode
  obtain ⟨k2, k3, k4⟩ := hnode w (Below.refl _ _)
  have hbb : b < w.heap.size := World.block_lt_of_cell? _ _ k2
  clear h hgd hnode k2 k3 k4
  have hmk := make_ints nl hnl2
  obtain ⟨WW, hWW⟩ : ∃ WW, WW = ((((w.alloc (.cells #[.pointer (some ⟨g, 0, none⟩)] 26)).alloc (.cells (cellsN (List.replicate nl 0)) 3)).alloc (.cells #[.slice (some ⟨w.heap.size + 1, 0, none⟩) nl nl] 151)).alloc (.cells #[.func (.func 124) #[] #[.pointer (some ⟨w.heap.size, 0, none⟩), .pointer (some ⟨w.heap.size + 1 + 1, 0, none⟩), .pointer (some ⟨w.heap.size + 1 + 1 + 1, 0, none⟩)]] 152)) := ⟨_, rfl⟩
  have HBW : Hid (Below w.heap.size w WW) := Lib.hid (by rw [hWW]; exact ((((Below.refl _ _).alloc (Nat.le_refl _) _).alloc (by simp) _).alloc (by simp; omega) _).alloc (by simp; omega) _)
  have HWH : Hid (Wh w WW g w.heap.size (w.heap.size + 1 + 1) (w.heap.size + 1 + 1 + 1) (w.heap.size + 1) nl (List.replicate nl 0)) := Lib.hid (by
    obtain ⟨h1, h2, h3, h4⟩ := alloc4 w (.cells #[.pointer (some ⟨g, 0, none⟩)] 26) (.cells (cellsN (List.replicate nl 0)) 3) (.cells #[.slice (some ⟨w.heap.size + 1, 0, none⟩) nl nl] 151) (.cells #[.func (.func 124) #[] #[.pointer (some ⟨w.heap.size, 0, none⟩), .pointer (some ⟨w.heap.size + 1 + 1, 0, none⟩), .pointer (some ⟨w.heap.size + 1 + 1 + 1, 0, none⟩)]] 152)
    rw [← hWW] at h1 h2 h3 h4
    exact ⟨HBW.out, h1, h3, h4, h2, by simp, by omega, by omega, by omega, by omega⟩)
  obtain ⟨kw2, kw3, kw4⟩ := HNO.out WW HBW.out
  have kw1 := HG.out.top WW HBW.out
  have e01 : o + 0 * 2 + 1 = o + 1 := by omega
  rw [e01] at kw3
  obtain ⟨es, hes⟩ : ∃ es, es = edgesOf (nodesOf T) (nodesOf T)[0] := ⟨_, rfl⟩
  rw [← hes] at kw3 kw4
  obtain ⟨M, hM⟩ := nodesOf_head T
  have hN0 : (nodesOf T)[0] = T := by simp [hM]
  have hl1 := kw4.2.1
  have hl2 := kw4.2.2
  rw [hWW] at kw1 kw3
  clear kw2 kw4 e01
  by_cases hT : T = []
  · have hnl : nl = 1 := by rw [HG.out.nleq, hT, nodesOf_nil]; rfl
    have hel : es.length = 0 := by rw [hes, hN0, hT]; simp [edgesOf, groups_nil]
    have b1 : ((nl : Int) == 1) = true := by rw [hnl]; rfl
    have b2 : ((es.length : Int) == 0) = true := by rw [hel]; rfl
    rw [hWW] at HBW
    clear hWW HWH hes hN0 hM hnl hel
    go_enter Try.func107, Try.ntmps107
    go_wp2_with fail
    go_ret
    exact ⟨rfl, HBW.out⟩
  · have hel : es.length ≠ 0 := by
      rw [hes, hN0]
      have hf : fin T = false := by
        cases T with
        | nil => exact absurd rfl hT
        | cons t T =>
          cases t with
          | nil => exact absurd (List.mem_cons_self ..) hW.nn
          | cons r x => simp [fin]
      have := fin_or hT hf
      simp [edgesOf]
      exact this
    have b2 : ((es.length : Int) == 0) = false := beq_eq_false_iff_ne.2 (by omega)
    have HCALL := Lib.hid (wholeAll HG.out hT 13 0 hb0 0 WW (List.replicate nl 0) (by have := hgt_short (hN0 ▸ hW.short : Short 13 (nodesOf T)[0]); omega) (by have := hgt_short (hN0 ▸ hW.short : Short 13 (nodesOf T)[0]); omega) HWH.out (fun m hm h1 => by
      rw [List.getElem?_replicate] at h1
      split at h1
      · cases h1
      · cases h1))
    rw [hWW] at HCALL HBW HWH
    clear hWW hes hN0 hM hel
    by_cases hn1 : nl = 1
    · have b1 : ((nl : Int) == 1) = true := by rw [hn1]; rfl
      clear hn1
      go_enter Try.func107, Try.ntmps107
      go_wp2_with fail
      (refine HCALL.out.mono ?_); rintro e w5 ⟨rfl, s5, hw5, hg5, hs5⟩
      have HB5 := Lib.hid hw5.bel
      clear hw5 hg5 hs5
      go_wp2_with fail
      go_ret
      exact ⟨rfl, HB5.out⟩
    · have b1 : ((nl : Int) == 1) = false := beq_eq_false_iff_ne.2 (by omega)
      clear hn1
      go_enter Try.func107, Try.ntmps107
      go_wp2_with fail
      (refine HCALL.out.mono ?_); rintro e w5 ⟨rfl, s5, hw5, hg5, hs5⟩
      have HB5 := Lib.hid hw5.bel
      clear hw5 hg5 hs5
      go_wp2_with fail
      go_ret
      exact ⟨rfl, HB5.out⟩

end Go.Proofs.Ytepmcfleijiloaa

end
section
set_option linter.unusedVariables false
set_option linter.unusedSimpArgs false
/- Graph.some, of a graph of words. -/
namespace Go.Proofs.Ytepmcfleijiloaa
open Go.RowKit

/-- What some's inner function leans on. -/
structure Sm (w0 w : World) (g gv wb okb fv : Nat) (acc : List ByteArray) : Prop where
  bel : Below w0.heap.size w0 w
  gc : w.heap[gv]? = some (.cells #[.pointer (some ⟨g, 0, none⟩)] 26 (0, 0))
  oc : w.heap[okb]? = some (.cells #[.bool true] 4 (0, 0))
  fc : w.heap[fv]? = some (.cells #[.func (.func 125) #[] #[.pointer (some ⟨okb, 0, none⟩), .pointer (some ⟨wb, 0, none⟩), .pointer (some ⟨gv, 0, none⟩), .pointer (some ⟨fv, 0, none⟩)]] 153 (0, 0))
  wc : ∃ Av cv, w.heap[wb]? = some (.cells #[.slice Av acc.length cv] 22 (0, 0)) ∧ w.ownsRow (fv + 1) 9 1 (.slice Av acc.length cv) acc.length (strv acc)
  l1 : w0.heap.size ≤ gv
  l2 : gv < wb
  l3 : wb < okb
  l4 : okb < fv
section
variable {w0 w w' : World} {g gv wb okb fv : Nat} {acc : List ByteArray}
theorem Sm.ext (h : Sm w0 w g gv wb okb fv acc) (hb : Below w.heap.size w w') : Sm w0 w' g gv wb okb fv acc := by
  have m1 := (Array.getElem?_eq_some_iff.1 h.gc).1
  have m2 := (Array.getElem?_eq_some_iff.1 h.oc).1
  have m3 := (Array.getElem?_eq_some_iff.1 h.fc).1
  obtain ⟨Av, cv, h1, h2⟩ := h.wc
  have m4 := (Array.getElem?_eq_some_iff.1 h1).1
  exact ⟨h.bel.trans (hb.mono h.bel.size), (hb.block _ m1).trans h.gc, (hb.block _ m2).trans h.oc, (hb.block _ m3).trans h.fc, ⟨Av, cv, (hb.block _ m4).trans h1, own_below h2 hb⟩, h.l1, h.l2, h.l3, h.l4⟩
/-- One text more. -/
theorem Sm.put {wz w1 : World} {Av A1 : Option Addr} {cv c1 : Nat} {x : ByteArray} (h : Sm w0 w g gv wb okb fv acc) (h1 : w.heap[wb]? = some (.cells #[.slice Av acc.length cv] 22 (0, 0))) (h2 : w.ownsRow (fv + 1) 9 1 (.slice Av acc.length cv) acc.length (strv acc))
    (hb : Below w.heap.size w wz) (ho : w1.ownsRow (fv + 1) 9 1 (.slice A1 (acc.length + 1) c1) (acc.length + 1) (strv acc ++ [.string x])) (hg : wz.grownBy w1 (Value.slice Av acc.length cv).ownBlock) :
    Sm w0 (w1.setCell ⟨wb, 0, none⟩ (.slice A1 (acc.length + 1) c1)) g gv wb okb fv (acc ++ [x]) ∧ w1.cell? ⟨wb, 0, none⟩ = some (.slice Av acc.length cv) ∧ w1.frozen? ⟨wb, 0, none⟩ = false := by
  have g1 : w.grownBy w1 (Value.slice Av acc.length cv).ownBlock := grown_trans (grown_below hb) hg
  have hlt : ∀ k, (Value.slice Av acc.length cv).ownBlock = some k → fv + 1 ≤ k := fun k hk => (h2.lt k hk).1
  have blk : ∀ i, i < w.heap.size → i ≤ fv → w1.heap[i]? = w.heap[i]? := fun i hi hf => g1.block i hi (fun e => by have := hlt i e.symm; omega)
  have m1 := (Array.getElem?_eq_some_iff.1 h.gc).1
  have m2 := (Array.getElem?_eq_some_iff.1 h.oc).1
  have m3 := (Array.getElem?_eq_some_iff.1 h.fc).1
  have m4 := (Array.getElem?_eq_some_iff.1 h1).1
  have e1 := h.l1
  have e2 := h.l2
  have e3 := h.l3
  have e4 := h.l4
  have kwb : w1.heap[wb]? = some (.cells #[.slice Av acc.length cv] 22 (0, 0)) := (blk wb m4 (by omega)).trans h1
  refine ⟨⟨?_, ?_, ?_, ?_, ?_, h.l1, h.l2, h.l3, h.l4⟩, by rw [cell_of_row _ _ _ _ _ _ kwb]; rfl, by simp [World.frozen?, kwb]⟩
  · refine Below.setCell ?_ (by show w0.heap.size ≤ wb; omega) _
    have hb2 : Below w0.heap.size w0 wz := h.bel.trans (hb.mono h.bel.size)
    exact hb2.grown hg (Nat.le_trans h.bel.size hb.size) (fun k hk => by have := hlt k hk; omega)
  · exact (Below.heap_setCell w1 ⟨wb, 0, none⟩ _ gv (by show gv ≠ wb; omega)).trans ((blk gv m1 (by omega)).trans h.gc)
  · exact (Below.heap_setCell w1 ⟨wb, 0, none⟩ _ okb (by show okb ≠ wb; omega)).trans ((blk okb m2 (by omega)).trans h.oc)
  · exact (Below.heap_setCell w1 ⟨wb, 0, none⟩ _ fv (by show fv ≠ wb; omega)).trans ((blk fv m3 (by omega)).trans h.fc)
  · refine ⟨A1, c1, ?_, ?_⟩
    · rw [Go.Joins.block_setCell kwb]
      simp
    · have := ho.kept (grown_set w1 wb 0 (.slice A1 (acc.length + 1) c1)) (Or.inr fun e => by have := ho.lt _ e; omega)
      rw [strv_append, List.length_append]
      exact this
theorem Sm.cells (h : Sm w0 w g gv wb okb fv acc) : w.cell? ⟨gv, 0, none⟩ = some (.pointer (some ⟨g, 0, none⟩)) ∧ w.cell? ⟨okb, 0, none⟩ = some (.bool true) ∧
    w.cell? ⟨fv, 0, none⟩ = some (.func (.func 125) #[] #[.pointer (some ⟨okb, 0, none⟩), .pointer (some ⟨wb, 0, none⟩), .pointer (some ⟨gv, 0, none⟩), .pointer (some ⟨fv, 0, none⟩)]) ∧
    ∃ Av cv, w.cell? ⟨wb, 0, none⟩ = some (.slice Av acc.length cv) ∧ w.heap[wb]? = some (.cells #[.slice Av acc.length cv] 22 (0, 0)) ∧ w.ownsRow (fv + 1) 9 1 (.slice Av acc.length cv) acc.length (strv acc) := by
  obtain ⟨Av, cv, h1, h2⟩ := h.wc
  refine ⟨?_, ?_, ?_, Av, cv, ?_, h1, h2⟩
  · rw [cell_of_row _ _ _ _ _ _ h.gc]; rfl
  · rw [cell_of_row _ _ _ _ _ _ h.oc]; rfl
  · rw [cell_of_row _ _ _ _ _ _ h.fc]; rfl
  · rw [cell_of_row _ _ _ _ _ _ h1]; rfl
end

def SomeIH (w0 : World) (g b o c nl gv wb okb fv : Nat) (T : Rs) (f : Nat) : Prop := ∀ (n : Nat) (hn : n < (nodesOf T).length) (p : List Nat) (d : Nat) (w : World) (acc : List ByteArray), hgt (nodesOf T)[n] < f → hgt (nodesOf T)[n] + d ≤ 12 → okT p → p.length ≤ d → acc.length + (nodesOf T)[n].length ≤ 60 → Sm w0 w g gv wb okb fv acc →
  Calls Try.prog 125 #[.int .i64 n, .string (txt p), .int .i64 d, .pointer (some ⟨okb, 0, none⟩), .pointer (some ⟨wb, 0, none⟩), .pointer (some ⟨gv, 0, none⟩), .pointer (some ⟨fv, 0, none⟩)] w fun e w' => e = .returned (.tuple #[]) ∧ Sm w0 w' g gv wb okb fv (acc ++ told p (nodesOf T)[n])
theorem SomeIH.call {w0 : World} {g b o c nl gv wb okb fv : Nat} {T : Rs} {f : Nat} (h : SomeIH w0 g b o c nl gv wb okb fv T f) (n : Nat) (hn : n < (nodesOf T).length) (p : List Nat) (d : Nat) (w : World) (acc : List ByteArray) (h1 : hgt (nodesOf T)[n] < f) (h2 : hgt (nodesOf T)[n] + d ≤ 12) (h3 : okT p) (h4 : p.length ≤ d) (h5 : acc.length + (nodesOf T)[n].length ≤ 60) (h6 : Sm w0 w g gv wb okb fv acc)
    (s : ByteArray) (hs : s = txt p) (e : Int) (he : e = d) (acc' : List ByteArray) (ha : acc' = acc ++ told p (nodesOf T)[n]) :
    Calls Try.prog 125 #[.int .i64 n, .string s, .int .i64 e, .pointer (some ⟨okb, 0, none⟩), .pointer (some ⟨wb, 0, none⟩), .pointer (some ⟨gv, 0, none⟩), .pointer (some ⟨fv, 0, none⟩)] w fun e w' => e = .returned (.tuple #[]) ∧ Sm w0 w' g gv wb okb fv acc' := by
  rw [hs, he, ha]; exact h n hn p d w acc h1 h2 h3 h4 h5 h6

set_option maxHeartbeats 4000000 in
set_option maxRecDepth 100000 in
theorem some1 {w0 : World} {g b o c nl gv wb okb fv : Nat} {T : Rs} (hg : Gd w0 g b o c nl T) (f : Nat) (ih : SomeIH w0 g b o c nl gv wb okb fv T f) : SomeIH w0 g b o c nl gv wb okb fv T (f + 1) := by
  intro n hn p d w acc hf hd hp hpl hal hS
  have HG := Lib.hid hg
  have HS := Lib.hid hS
  have HP := Lib.hid hp
  obtain ⟨A2, c2, hnode⟩ := hg.node n hn
  have hnl := hg.nleq
  have hnn : n < nl := by omega
  have hR := nodesOf_nod hg.wd _ (List.getElem_mem hn)
  obtain ⟨R, hRR⟩ : ∃ R, R = (nodesOf T)[n] := ⟨_, rfl⟩
  rw [← hRR] at hf hd hal hnode hR ⊢
  obtain ⟨fi, hfi⟩ : ∃ x, x = fin R := ⟨_, rfl⟩
  obtain ⟨es, hes⟩ : ∃ x, x = edgesOf (nodesOf T) R := ⟨_, rfl⟩
  rw [← hfi, ← hes] at hnode
  have HNO := Lib.hid hnode
  have HES := Lib.hid hes
  have HRR := Lib.hid hRR
  have HR := Lib.hid hR
  have HFI := Lib.hid hfi
  have hel : es.length ≤ 60 := by rw [hes]; have := groups_len R; have := hR.len; simp [edgesOf]; omega
  have k1 := hg.top w hS.bel
  obtain ⟨k2, k3, k4⟩ := hnode w hS.bel
  have hl1 := k4.2.1
  have hl2 := k4.2.2
  obtain ⟨c1, c3, c4, Av, cv, c5, c6, c7⟩ := hS.cells
  have HC6 := Lib.hid c6
  have HC7 := Lib.hid c7
  have hcap := hg.cap
  have hcap2 := hg.cap2
  have hb60 : decide ((60 : Int) < acc.length) = false := decide_eq_false (by omega)
  have hd12 : decide ((12 : Int) < d) = false := decide_eq_false (by omega)
  have hd12' : d ≤ 12 := by omega
  have hacc : acc.length ≤ 60 := by omega
  have hps : (txt p).size ≤ 48 := by rw [txt_size]; have := encL_len hp; omega
  have hgr : (groups R).length = es.length := by rw [hes]; simp [edgesOf]
  have HGR := Lib.hid hgr
  clear hg hS hnode hfi hes hRR hR k4 c6 c7 hnl hp hgr
  cases fi
  · have HS0 : Hid (Sm w0 w g gv wb okb fv (acc ++ toldK p R 0)) := Lib.hid (by rw [toldK_zero, ← HFI.out]; simpa using HS.out)
    go_enter Try.func125, Try.ntmps125
    go_wp2_with fail
    clear k1 k2 k3 c1 c3 c4 c5
    go_loopw [44] (fun i wr => ∃ m : Nat, m ≤ es.length ∧ i = .int .i64 m ∧ Hid (Sm w0 wr g gv wb okb fv (acc ++ toldK p R m))) (fun i _ => es.length - (intOf i).toNat)
    case atStart => exact ⟨0, by omega, rfl, HS0⟩
    case round =>
      clear HS0
      obtain ⟨m, hm, rfl, HSr⟩ := hrel
      by_cases hlt : m < es.length
      · obtain ⟨b9, o9, hA, _, hb9, hx1, hx2⟩ := ((HNO.out wr HSr.out.bel).2.2).at_ hlt
        subst hA
        have hmg : m < (groups R).length := by rw [HGR.out]; exact hlt
        have hgm := List.getElem_mem hmg
        have hin := nodesOf_closed HG.out.wd R (by rw [HRR.out]; exact List.getElem_mem hn) _ hgm
        have hch := hgt_child hgm
        obtain ⟨r, hr⟩ : ∃ r, r = es[m].1 := ⟨_, rfl⟩
        obtain ⟨tn, htn⟩ : ∃ t, t = es[m].2 := ⟨_, rfl⟩
        have htn2 : tn = (nodesOf T).idxOf (groups R)[m].2 := by
          rw [htn]
          have := HES.out
          subst this
          simp [edgesOf]
        have hr2 : r = (groups R)[m].1 := by
          rw [hr]
          have := HES.out
          subst this
          simp [edgesOf]
        have htl : tn < (nodesOf T).length := by rw [htn2]; exact List.idxOf_lt_length_of_mem hin
        have hNt : (nodesOf T)[tn] = (groups R)[m].2 := by
          subst htn2
          exact List.getElem_idxOf htl
        have hokr : okR r := by rw [hr2]; exact group_okR HR.out.ok hgm
        have hsum1 : (toldK p R m).length + (groups R)[m].2.length ≤ R.length := toldK_len p HR.out.asc m hmg
        have hT1 : acc ++ toldK p R (m + 1) = (acc ++ toldK p R m) ++ told (p ++ [r]) (nodesOf T)[tn] := by
          rw [toldK_succ p R m hmg, hNt, hr2, List.append_assoc]
        rw [← hNt] at hch hsum1
        rw [← hr] at hx1
        rw [← htn] at hx2
        have HXA : Hid (Below wr.heap.size wr (wr.alloc (.cells #[.int .i32 r, .int .i64 tn] 49))) := Lib.hid ((Below.refl _ _).alloc (Nat.le_refl _) _)
        have hpr : okT (p ++ [r]) := okT_append.2 ⟨HP.out, by simpa [okT] using hokr⟩
        have HCALL := Lib.hid (ih.call tn htl (p ++ [r]) (d + 1) (wr.alloc (.cells #[.int .i32 r, .int .i64 tn] 49)) (acc ++ toldK p R m) (by omega) (by omega) hpr (by simp; omega) (by rw [List.length_append]; omega) (HSr.out.ext HXA.out) (txt p ++ txt [r]) (txt_add p r) ((d : Int) + 1) (by omega) (acc ++ toldK p R (m + 1)) hT1)
        have hconv := conv_rune hokr
        have hsz4 : (txt [r]).size ≤ 4 := by rw [txt_size]; exact encL_len (t := [r]) (by simpa [okT] using hokr)
        have hsum : (txt p).size + (txt [r]).size ≤ 9223372036854775807 := by omega
        have c4 := HSr.out.cells.2.2.1
        have hfv1 : fv < wr.heap.size := World.block_lt_of_cell? _ _ c4
        clear hr htn htn2 hr2 htl hNt hch hin hgm hmg hsum1 hT1 hpr hokr
        go_wp2_with fail
        (with_reducible refine HCALL.out.mono ?_); rintro e w5 ⟨rfl, hs5⟩
        have HS5 := Lib.hid hs5
        clear hs5
        go_wp2_with fail
        go_roundw
        case rel => exact ⟨m + 1, by omega, by go_num, HS5⟩
        case measure => simp [intOf]; omega
      · obtain rfl : m = es.length := by omega
        have HFIN : Hid (toldK p R es.length = told p R) := Lib.hid (by rw [← HGR.out]; exact (toldK_all p HR.out.asc).symm)
        go_wp2_with fail
        go_end0
        rw [← HFIN.out]
        exact ⟨rfl, HSr.out⟩
  · go_enter Try.func125, Try.ntmps125
    go_wp2_with (first
      | (at_builtin
         refine wpList_append_rd infoS rfl (.tmp 31) (.tmp 33) rfl (fv + 1) (.slice Av acc.length cv) acc.length (strv acc) rfl (HC7.out.alloc _) w.heap.size (w.heap.size + 1) _ 1 1 [.string (txt p)] rfl (Rd.new w _ _) rfl (by simp [Value.oneCell']) (by omega) (by have := HS.out.fc; have := (Array.getElem?_eq_some_iff.1 this).1; simp; omega) ?_
         intro v1 w1 hown1 hg1 hat1
         obtain ⟨A1, c1', rfl, _, _⟩ := own_slice hown1
         obtain ⟨hs1, kc1, kf1⟩ := HS.out.put (x := txt p) HC6.out HC7.out ((Below.refl _ _).alloc (Nat.le_refl _) _) hown1 hg1
         have HS1 := Lib.hid hs1
         have kgv1 := hs1.cells.1
         have kg1 := HG.out.top _ hs1.bel
         have kb1 := (HNO.out _ hs1.bel).2.1
         clear hown1 hg1 hat1 hs1))
    have HS0 := Lib.hid (show Sm w0 _ g gv wb okb fv (acc ++ toldK p R 0) from (by rw [toldK_zero, ← HFI.out]; exact HS1.out))
    clear k1 k2 k3 c1 c3 c4 c5
    go_loopw [44] (fun i wr => ∃ m : Nat, m ≤ es.length ∧ i = .int .i64 m ∧ Hid (Sm w0 wr g gv wb okb fv (acc ++ toldK p R m))) (fun i _ => es.length - (intOf i).toNat)
    case atStart => exact ⟨0, by omega, rfl, HS0⟩
    case round =>
      clear HS0
      obtain ⟨m, hm, rfl, HSr⟩ := hrel
      by_cases hlt : m < es.length
      · obtain ⟨b9, o9, hA, _, hb9, hx1, hx2⟩ := ((HNO.out wr HSr.out.bel).2.2).at_ hlt
        subst hA
        have hmg : m < (groups R).length := by rw [HGR.out]; exact hlt
        have hgm := List.getElem_mem hmg
        have hin := nodesOf_closed HG.out.wd R (by rw [HRR.out]; exact List.getElem_mem hn) _ hgm
        have hch := hgt_child hgm
        obtain ⟨r, hr⟩ : ∃ r, r = es[m].1 := ⟨_, rfl⟩
        obtain ⟨tn, htn⟩ : ∃ t, t = es[m].2 := ⟨_, rfl⟩
        have htn2 : tn = (nodesOf T).idxOf (groups R)[m].2 := by
          rw [htn]
          have := HES.out
          subst this
          simp [edgesOf]
        have hr2 : r = (groups R)[m].1 := by
          rw [hr]
          have := HES.out
          subst this
          simp [edgesOf]
        have htl : tn < (nodesOf T).length := by rw [htn2]; exact List.idxOf_lt_length_of_mem hin
        have hNt : (nodesOf T)[tn] = (groups R)[m].2 := by
          subst htn2
          exact List.getElem_idxOf htl
        have hokr : okR r := by rw [hr2]; exact group_okR HR.out.ok hgm
        have hsum1 : (toldK p R m).length + (groups R)[m].2.length ≤ R.length := toldK_len p HR.out.asc m hmg
        have hT1 : acc ++ toldK p R (m + 1) = (acc ++ toldK p R m) ++ told (p ++ [r]) (nodesOf T)[tn] := by
          rw [toldK_succ p R m hmg, hNt, hr2, List.append_assoc]
        rw [← hNt] at hch hsum1
        rw [← hr] at hx1
        rw [← htn] at hx2
        have HXA : Hid (Below wr.heap.size wr (wr.alloc (.cells #[.int .i32 r, .int .i64 tn] 49))) := Lib.hid ((Below.refl _ _).alloc (Nat.le_refl _) _)
        have hpr : okT (p ++ [r]) := okT_append.2 ⟨HP.out, by simpa [okT] using hokr⟩
        have HCALL := Lib.hid (ih.call tn htl (p ++ [r]) (d + 1) (wr.alloc (.cells #[.int .i32 r, .int .i64 tn] 49)) (acc ++ toldK p R m) (by omega) (by omega) hpr (by simp; omega) (by rw [List.length_append]; omega) (HSr.out.ext HXA.out) (txt p ++ txt [r]) (txt_add p r) ((d : Int) + 1) (by omega) (acc ++ toldK p R (m + 1)) hT1)
        have hconv := conv_rune hokr
        have hsz4 : (txt [r]).size ≤ 4 := by rw [txt_size]; exact encL_len (t := [r]) (by simpa [okT] using hokr)
        have hsum : (txt p).size + (txt [r]).size ≤ 9223372036854775807 := by omega
        have c4 := HSr.out.cells.2.2.1
        have hfv1 : fv < wr.heap.size := World.block_lt_of_cell? _ _ c4
        clear hr htn htn2 hr2 htl hNt hch hin hgm hmg hsum1 hT1 hpr hokr
        go_wp2_with fail
        (with_reducible refine HCALL.out.mono ?_); rintro e w5 ⟨rfl, hs5⟩
        have HS5 := Lib.hid hs5
        clear hs5
        go_wp2_with fail
        go_roundw
        case rel => exact ⟨m + 1, by omega, by go_num, HS5⟩
        case measure => simp [intOf]; omega
      · obtain rfl : m = es.length := by omega
        have HFIN : Hid (toldK p R es.length = told p R) := Lib.hid (by rw [← HGR.out]; exact (toldK_all p HR.out.asc).symm)
        go_wp2_with fail
        go_end0
        rw [← HFIN.out]
        exact ⟨rfl, HSr.out⟩

theorem someAll {w0 : World} {g b o c nl gv wb okb fv : Nat} {T : Rs} (hg : Gd w0 g b o c nl T) : ∀ f, SomeIH w0 g b o c nl gv wb okb fv T f
  | 0 => fun n hn p d w acc h => by omega
  | f + 1 => some1 hg f (someAll hg f)

set_option maxHeartbeats 4000000 in
set_option maxRecDepth 100000 in
/-- Graph.some -/
theorem c108 {w : World} {v : Value} {xs : List ByteArray} (h : GraphV w 0 v (graphOf (textsOf xs))) (hW : Wds xs) :
    Calls Try.prog 108 #[v] w fun e w' => ∃ A c, e = .returned (.tuple #[.slice A xs.length c, .bool true]) ∧ Strs w' 0 A c xs ∧ Below w.heap.size w w' := by
  obtain ⟨g, b, o, c, nl, rfl, hgl, hgd⟩ := Gd.of h hW.wd
  have HG := Lib.hid hgd
  obtain ⟨M, hM⟩ := nodesOf_head (textsOf xs)
  have hb0 : 0 < (nodesOf (textsOf xs)).length := by rw [hM]; simp
  have hN0 : (nodesOf (textsOf xs))[0] = textsOf xs := by simp [hM]
  have hxl : xs.length ≤ 60 := hW.len
  obtain ⟨WW, hWW⟩ : ∃ WW, WW = ((((w.alloc (.cells #[.pointer (some ⟨g, 0, none⟩)] 26)).alloc (.cells #[.slice none 0 0] 22)).alloc (.cells #[.bool true] 4)).alloc (.cells #[.func (.func 125) #[] #[.pointer (some ⟨w.heap.size + 1 + 1, 0, none⟩), .pointer (some ⟨w.heap.size + 1, 0, none⟩), .pointer (some ⟨w.heap.size, 0, none⟩), .pointer (some ⟨w.heap.size + 1 + 1 + 1, 0, none⟩)]] 153)) := ⟨_, rfl⟩
  have HBW : Hid (Below w.heap.size w WW) := Lib.hid (by rw [hWW]; exact ((((Below.refl _ _).alloc (Nat.le_refl _) _).alloc (by simp) _).alloc (by simp; omega) _).alloc (by simp; omega) _)
  have HSM : Hid (Sm w WW g w.heap.size (w.heap.size + 1) (w.heap.size + 1 + 1) (w.heap.size + 1 + 1 + 1) []) := Lib.hid (by
    obtain ⟨h1, h2, h3, h4⟩ := alloc4 w (.cells #[.pointer (some ⟨g, 0, none⟩)] 26) (.cells #[.slice none 0 0] 22) (.cells #[.bool true] 4) (.cells #[.func (.func 125) #[] #[.pointer (some ⟨w.heap.size + 1 + 1, 0, none⟩), .pointer (some ⟨w.heap.size + 1, 0, none⟩), .pointer (some ⟨w.heap.size, 0, none⟩), .pointer (some ⟨w.heap.size + 1 + 1 + 1, 0, none⟩)]] 153)
    rw [← hWW] at h1 h2 h3 h4
    exact ⟨HBW.out, h1, h3, h4, ⟨none, 0, h2, World.ownsRow_nil _ _ _ _⟩, by omega, by omega, by omega, by omega⟩)
  have hh := hgt_short (hN0 ▸ hW.short : Short 13 (nodesOf (textsOf xs))[0])
  have hln : (nodesOf (textsOf xs))[0].length ≤ 60 := by rw [hN0]; simp [textsOf]; exact hxl
  have HCALL := Lib.hid ((someAll HG.out 13).call 0 hb0 [] 0 WW [] (by omega) (by omega) (by simp [okT]) (by simp) (by simp; omega) HSM.out ⟨#[]⟩ rfl 0 rfl xs (by rw [hN0]; have := hW.txt; simpa [told] using this.symm))
  rw [hWW] at HCALL HBW HSM
  clear hWW hN0 hM hh hln h hgd hb0
  go_enter Try.func108, Try.ntmps108
  go_wp2_with fail
  (refine HCALL.out.mono ?_); rintro e w5 ⟨rfl, hs5⟩
  obtain ⟨c1, c3, c4, Av, cv, c5, c6, c7⟩ := hs5.cells
  have HS5 := Lib.hid hs5
  have HO := Lib.hid c7
  clear hs5 c6 c7
  have d60 : decide ((xs.length : Int) ≤ 60) = true := decide_eq_true (by omega)
  go_wp2_with fail
  go_quiet (fail)
  all_goals
    go_wp2_with fail
    go_ret2
    obtain ⟨_, _, e, hs⟩ := IsStrs.of_own HO.out
    cases e
    exact ⟨Av, cv, rfl, (hs.low (Nat.zero_le _)).ext (below_drewN (Below.refl _ _) _), below_drewN HS5.out.bel _⟩

end Go.Proofs.Ytepmcfleijiloaa

end
section
set_option linter.unusedVariables false
set_option linter.unusedSimpArgs false
/- graph.Made, of the nodes of a graph of words. -/
namespace Go.Proofs.Ytepmcfleijiloaa
open Go.RowKit

/-- Nodes in memory. -/
def Nods (w : World) (A : Option Addr) (c : Nat) (cs : List (Value × Value)) (ns : List Nd) : Prop :=
  Rd w 0 w.heap.size A (flat cs) ∧ cs.length = ns.length ∧ ns.length ≤ c ∧ c ≤ 9223372036854775807 ∧ ∀ i (h : i < ns.length) (h2 : i < cs.length), NodeV w 0 cs[i] ns[i]
theorem Nods.ext {w w' : World} {A : Option Addr} {c : Nat} {cs : List (Value × Value)} {ns : List Nd} (h : Nods w A c cs ns) (hb : Below w.heap.size w w') : Nods w' A c cs ns :=
  ⟨h.1.ext hb, h.2.1, h.2.2.1, h.2.2.2.1, fun i h1 h2 => (h.2.2.2.2 i h1 h2).ext hb⟩
theorem nodes_hgt (T : Rs) : ∀ R ∈ nodesOf T, hgt R ≤ hgt T := fun R hR => by
  rcases addN_all (C := fun R => hgt R ≤ hgt T) (fun R h g hg => by have := hgt_child hg; omega) 13 [] T (Nat.le_refl _) R hR with h | h
  · simp at h
  · exact h
/-- Where the edges of words lead. -/
theorem edges_to {T R : Rs} (hW : Wd T) (hR : R ∈ nodesOf T) : ∀ e ∈ edgesOf (nodesOf T) R, 1 ≤ e.2 ∧ e.2 < (nodesOf T).length := fun e he => by
  obtain ⟨g, hg, rfl⟩ := List.mem_map.1 he
  have h1 := nodesOf_closed hW R hR g hg
  have h2 := List.idxOf_lt_length_of_mem h1
  refine ⟨?_, h2⟩
  show 1 ≤ (nodesOf T).idxOf g.2
  rcases Nat.eq_zero_or_pos ((nodesOf T).idxOf g.2) with h0 | h0
  · exfalso
    have h3 : (nodesOf T)[(nodesOf T).idxOf g.2] = g.2 := List.getElem_idxOf h2
    obtain ⟨M, hM⟩ := nodesOf_head T
    have h4 : g.2 = T := by
      have e1 := List.getElem?_eq_getElem h2
      rw [h3, h0, hM] at e1
      simpa using e1.symm
    have := hgt_child hg
    have h5 := nodes_hgt T R hR
    rw [h4] at this
    omega
  · exact h0

theorem k25b {w : World} {A : Option Addr} {c : Nat} {xs : List ByteArray} {g : Int} (hx : Strs w 0 A c xs) (hsm : Small xs) (hg : g = goodE xs) :
    Calls Try.prog 25 #[.slice A xs.length c] w fun e w' => ∃ p, e = .returned (.tuple #[p, .int .i64 g]) ∧ Hid ((g ≠ 0 → p = .pointer none) ∧ (g = 0 → ∃ q, p = .pointer (some ⟨q, 0, none⟩) ∧ GraphW w' w.heap.size p (graphOf (textsOf xs)) ∧ Wds xs)) ∧ Below w.heap.size w w' := by
  refine (c25 w A c xs hx hsm).mono ?_
  rintro e w' ⟨p, rfl, h1, h2, hb⟩
  rw [← hg] at h1 h2 ⊢
  refine ⟨p, rfl, ⟨h1, fun h0 => ?_⟩, hb⟩
  have h3 := h2 h0
  obtain ⟨q, _, _, h4, _⟩ := h3.lt
  exact ⟨q, h4, h3, Wds.of_good (hg.symm.trans h0)⟩

set_option maxHeartbeats 4000000 in
set_option maxRecDepth 100000 in
/-- graph.Made: what it makes lies in memory that is new. -/
theorem c88b {w : World} {A : Option Addr} {c : Nat} {cs : List (Value × Value)} {xs : List ByteArray} (h : Nods w A c cs (graphOf (textsOf xs))) (hW : Wds xs) (len : Nat) (hlen : len = (graphOf (textsOf xs)).length) (hsm : Small xs) (hgood : (0 : Int) = goodE xs) :
    Calls Try.prog 88 #[.slice A len c] w fun e w' => ∃ q, e = .returned (.pointer (some ⟨q, 0, none⟩)) ∧ GraphW w' w.heap.size (.pointer (some ⟨q, 0, none⟩)) (graphOf (textsOf xs)) ∧ Below w.heap.size w w' := by
  obtain ⟨nl, hnl⟩ : ∃ n, n = len := ⟨_, rfl⟩
  obtain ⟨ns, hns⟩ : ∃ n, n = graphOf (textsOf xs) := ⟨_, rfl⟩
  have hlen2 : nl = ns.length := by rw [hnl, hlen, hns]
  have hnl2 : nl ≤ 721 := by rw [hlen2, hns]; exact (ok9 hW).len
  have hnl1 : 0 < nl := by rw [hlen2, hns, graphOf_len]; obtain ⟨M, hM⟩ := nodesOf_head (textsOf xs); rw [hM]; simp
  rw [← hnl]
  have HTO : Hid (∀ k (hk : k < ns.length), ns[k].2.length ≤ 60 ∧ ∀ e ∈ ns[k].2, 1 ≤ e.2 ∧ e.2 < nl) := Lib.hid fun k hk => by
    subst hns
    have hk2 : k < (nodesOf (textsOf xs)).length := by rw [← graphOf_len]; exact hk
    refine ⟨(ok9 hW).few _ (List.getElem_mem hk), fun e he => ?_⟩
    have e1 : (graphOf (textsOf xs))[k].2 = edgesOf (nodesOf (textsOf xs)) (nodesOf (textsOf xs))[k] := by simp [graphOf, ndOf]
    rw [e1] at he
    have := edges_to hW.wd (List.getElem_mem hk2) e he
    rw [hlen2, graphOf_len]
    exact this
  rw [← hns] at h
  have hcap := h.2.2.1
  have hcap2 := h.2.2.2.1
  have HN := Lib.hid h
  have HLEN := Lib.hid hlen2
  have HNS := Lib.hid hns
  have HWX := Lib.hid hW
  have HSM := Lib.hid hsm
  have HGD := Lib.hid hgood
  rw [← hlen2] at hcap
  clear h hnl hlen hlen2 hns hW hsm hgood
  have hx0 := heap_alloc_new w (.cells #[.slice none 0 0] 88)
  have HX0 : Hid (Below w.heap.size w (w.alloc (.cells #[.slice none 0 0] 88))) := Lib.hid ((Below.refl _ _).alloc (Nat.le_refl _) _)
  have HX1 := Lib.hid hx0
  clear hx0
  go_enter Try.func88, Try.ntmps88
  go_wp2_with fail
  go_loopw [16] (fun i wr => ∃ (k cg : Nat) (Ag : Option Addr), k ≤ nl ∧ i = .int .i64 k ∧ Hid (wr.heap[w.heap.size]? = some (.cells #[.slice Ag k cg] 88 (0, 0))) ∧ Hid (wr.ownsRow (w.heap.size + 1) 93 2 (.slice Ag k cg) k (flat (cs.take k))) ∧ Hid (Below w.heap.size w wr) ∧ w.heap.size < wr.heap.size) (fun i _ => nl - (intOf i).toNat)
  case atStart => exact ⟨0, 0, none, by omega, rfl, HX1, Lib.hid (by simpa [flat] using World.ownsRow_nil _ _ _ _), HX0, by simp⟩
  case round =>
    clear HX0 HX1
    obtain ⟨k, cg, Ag, hk, rfl, HGC, HO, HB, hsz⟩ := hrel
    obtain ⟨wo, rfl⟩ : ∃ wo : World, wo = wr := ⟨_, rfl⟩
    by_cases hlt : k < nl
    · have hkn : k < ns.length := by rw [← HLEN.out]; exact hlt
      have hkc : k < cs.length := by rw [HN.out.2.1]; exact hkn
      obtain ⟨hfew, hto⟩ := HTO.out k hkn
      obtain ⟨A2, c2, e, he⟩ := (HN.out.ext HB.out).2.2.2.2 k hkn hkc
      have hf := flat_at cs k hkc
      obtain ⟨b, o, rfl, _, hbl, hc⟩ := (HN.out.ext HB.out).1 (by rw [flat_len]; omega)
      have HT1 : Hid (cs.take (k + 1) = cs.take k ++ [(.bool ns[k].1, .slice A2 ns[k].2.length c2)]) := Lib.hid (by rw [List.take_succ_eq_append_getElem hkc, e])
      rw [e] at hf
      have k1 := hc _ _ hf.1
      have k2 := hc _ _ hf.2
      rw [← Nat.add_assoc] at k2
      rw [Nat.mul_comm] at k1 k2
      obtain ⟨fb, hfb⟩ : ∃ f, f = ns[k].1 := ⟨_, rfl⟩
      obtain ⟨es, hes⟩ : ∃ f, f = ns[k].2 := ⟨_, rfl⟩
      rw [← hfb, ← hes] at HT1
      rw [← hfb] at k1
      rw [← hes] at k2 he hfew hto
      simp only at k1 k2
      have hl1 := he.2.1
      have hl2 := he.2.2
      have HE := Lib.hid he
      have HTO2 := Lib.hid hto
      have hn0 := cell_new wo #[.bool fb, .slice A2 es.length c2] 113 (0, 0) 0
      have hn1 := cell_new wo #[.bool fb, .slice A2 es.length c2] 113 (0, 0) 1
      have HN0 : Hid ((wo.alloc (.cells #[.bool fb, .slice A2 es.length c2] 113)).cell? ⟨wo.heap.size, 0, none⟩ = some (.bool fb)) := Lib.hid (by simp)
      have HN1 : Hid ((wo.alloc (.cells #[.bool fb, .slice A2 es.length c2] 113)).cell? ⟨wo.heap.size, 1, none⟩ = some (.slice A2 es.length c2)) := Lib.hid (by simp)
      clear hfb hes he hto hc hf e hn0 hn1
      go_wp2_with fail
      go_loopw [23] (fun i wr => ∃ m : Nat, m ≤ es.length ∧ i = .int .i64 m ∧ Hid (Below wo.heap.size wo wr) ∧ Hid (wr.cell? ⟨wo.heap.size, 0, none⟩ = some (.bool fb)) ∧ Hid (wr.cell? ⟨wo.heap.size, 1, none⟩ = some (.slice A2 es.length c2)) ∧ wo.heap.size < wr.heap.size) (fun i _ => es.length - (intOf i).toNat)
      case atStart => exact ⟨0, by omega, rfl, Lib.hid ((Below.refl _ _).alloc (Nat.le_refl _) _), HN0, HN1, by simp⟩
      case round =>
        clear HN0 HN1
        obtain ⟨m, hm, rfl, HBW, HC0, HC1, hszr⟩ := hrel
        by_cases hlm : m < es.length
        · obtain ⟨b7, o7, hA, _, hb7, hx1, hx2⟩ := (HE.out.ext HBW.out).at_ hlm
          subst hA
          obtain ⟨ht1, ht2⟩ := HTO2.out _ (List.getElem_mem hlm)
          obtain ⟨x, hx⟩ : ∃ x, x = es[m].1 := ⟨_, rfl⟩
          obtain ⟨y, hy⟩ : ∃ x, x = es[m].2 := ⟨_, rfl⟩
          rw [← hx] at hx1
          rw [← hy] at hx2 ht1 ht2
          have d1 : decide ((y : Int) < 1) = false := decide_eq_false (by omega)
          have d2 : decide ((nl : Int) ≤ y) = false := decide_eq_false (by omega)
          have HA0 : Hid ((wr.alloc (.cells #[.int .i32 x, .int .i64 y] 49)).cell? ⟨wo.heap.size, 0, none⟩ = some (.bool fb)) := Lib.hid (cell_ext9 HC0.out hszr ((Below.refl _ _).alloc (Nat.le_refl _) _))
          have HA1 := Lib.hid (cell_ext9 HC1.out hszr ((Below.refl _ _).alloc (Nat.le_refl _) (.cells #[.int .i32 x, .int .i64 y] 49)))
          clear hx hy
          go_wp2_with fail
          go_roundw
          case rel => exact ⟨m + 1, by omega, by go_num, Lib.hid (HBW.out.alloc HBW.out.size _), HA0, HA1, by simp; omega⟩
          case measure => simp [intOf]; omega
        · obtain rfl : m = es.length := by omega
          have kc0 := HC0.out
          have kc1 := HC1.out
          have HG2 : Hid (wr.heap[w.heap.size]? = some (.cells #[.slice Ag k cg] 88 (0, 0))) := Lib.hid ((HBW.out.block _ hsz).trans HGC.out)
          have HO2 := Lib.hid (own_below HO.out HBW.out)
          have HB2 := Lib.hid (below_ext HB.out HBW.out)
          have kg2 : wr.cell? ⟨w.heap.size, 0, none⟩ = some (.slice Ag k cg) := by rw [cell_of_row _ _ _ _ _ _ HG2.out]; rfl
          have hsz2 : w.heap.size + 1 ≤ wr.heap.size := by omega
          have hszr2 : w.heap.size < wr.heap.size := by omega
          have kg3 : (wr.alloc (.cells #[.bool fb, .slice A2 es.length c2] 93)).cell? ⟨w.heap.size, 0, none⟩ = some (.slice Ag k cg) := cell_ext9 kg2 hszr2 ((Below.refl _ _).alloc (Nat.le_refl _) _)
          have hkl : (flat (cs.take k)).length = k * 2 := HO2.out.1
          go_wp2_with fail
          go_region_law (first
            | (refine step_append_rd infoN (by rfl) (.tmp 42) (.tmp 48) (by rfl) (w.heap.size + 1) (.slice Ag k cg) k (flat (cs.take k)) (by rfl) (own_below HO2.out (by repeat (first | exact Below.refl _ _ | apply below_drewN | apply Below.drew | (refine Below.alloc ?_ (by simp) _)))) _ _ _ 1 1 [.bool fb, .slice A2 es.length c2] (by rfl) (by first | exact Rd.two _ _ _ _ | exact Rd.drewN (Rd.two _ _ _ _) _) (by rfl) (by simp [Value.oneCell']) (by omega) (by simp; omega) ?_; intro v6 w6 hown1 hg1 hat1; obtain ⟨A6, c6, rfl, _, _⟩ := own_slice hown1; have hlt6 := HO2.out.lt; have hg6 : wr.grownBy w6 (Value.slice Ag k cg).ownBlock := grown_trans (grown_below (by repeat (first | exact Below.refl _ _ | apply below_drewN | apply Below.drew | (refine Below.alloc ?_ (by simp) _)))) hg1; have HG6 : Hid (w6.heap[w.heap.size]? = some (.cells #[.slice Ag k cg] 88 (0, 0))) := Lib.hid ((hg6.block _ (by omega) (fun e => by have := hlt6 _ e.symm; omega)).trans HG2.out); have fg6 : w6.frozen? ⟨w.heap.size, 0, none⟩ = false := (by simp [World.frozen?, HG6.out]); have kg6 : w6.cell? ⟨w.heap.size, 0, none⟩ = some (.slice Ag k cg) := (by rw [cell_of_row _ _ _ _ _ _ HG6.out]; rfl); have HB6 : Hid (Below w.heap.size w w6) := Lib.hid (HB2.out.grown hg6 HB2.out.size (fun q hq => by have := hlt6 _ hq; omega)); have HO6 := Lib.hid hown1; have hsz6 : w.heap.size < w6.heap.size := Nat.lt_of_lt_of_le (by omega) hg6.size; clear hown1 hg1 hat1 hg6 hlt6))
          all_goals
            have hgx := Lib.hid (grown_set w6 w.heap.size 0 (.slice A6 (k + 1) c6))
            have HGf : Hid ((w6.setCell ⟨w.heap.size, 0, none⟩ (.slice A6 (k + 1) c6)).heap[w.heap.size]? = some (.cells #[.slice A6 (k + 1) c6] 88 (0, 0))) := Lib.hid (by rw [Go.Joins.block_setCell HG6.out]; rfl)
            have HOf := Lib.hid (HO6.out.kept hgx.out (Or.inr fun e => by have := HO6.out.lt _ e; omega))
            have HBf : Hid (Below w.heap.size w (w6.setCell ⟨w.heap.size, 0, none⟩ (.slice A6 (k + 1) c6))) := Lib.hid (HB6.out.setCell (Nat.le_refl _) _)
            have hszf : w.heap.size < (w6.setCell ⟨w.heap.size, 0, none⟩ (.slice A6 (k + 1) c6)).heap.size := Nat.lt_of_lt_of_le hsz6 hgx.out.size
            clear HG6 fg6 kg6 HO6 HB6 hgx hkl
            go_wp2_with fail
            go_roundw
            case rel => exact ⟨k + 1, c6, A6, by omega, by go_num, HGf, Lib.hid (by rw [HT1.out, flat_append]; exact HOf.out), HBf, hszf⟩
            case measure => simp [intOf]; omega
    · obtain rfl : k = nl := by omega
      obtain ⟨_, _, e0, hc1, hc2⟩ := own_slice HO.out
      cases e0
      have hkc : cs.take k = cs := List.take_of_length_le (by rw [HN.out.2.1, HLEN.out]; omega)
      have GV : Hid (GraphV wo 0 (.pointer (some ⟨w.heap.size, 0, none⟩)) (graphOf (textsOf xs))) := Lib.hid (by
        rw [← HNS.out]
        have hO := HO.out
        rw [hkc] at hO
        have hg := HGC.out
        have e := HLEN.out
        subst e
        exact .inr ⟨w.heap.size, Ag, cg, cs, rfl, Nat.zero_le _, hg, hc1, hc2, (Rd.of_own hO).wide (Nat.zero_le _) (Nat.le_refl _), HN.out.2.1, fun i h1 h2 => ((HN.out.2.2.2.2 i h1 h2).ext HB.out)⟩)
      have hx60 : xs.length ≤ 60 := HWX.out.len
      clear hkc HGC HO
      have d0 : ((k : Int) == 0) = false := beq_eq_false_iff_ne.2 (by omega)
      have d1 : decide ((721 : Int) < k) = false := decide_eq_false (by omega)
      go_wp2_with fail
      (with_reducible refine (c107 GV.out HWX.out.wd).mono ?_); rintro e w2 ⟨rfl, hb⟩
      replace HB := Lib.hid (below_ext HB.out hb)
      replace GV := Lib.hid (GV.out.ext hb)
      clear hb
      go_wp2_with fail
      (with_reducible refine (c108 GV.out HWX.out).mono ?_); rintro e w3 ⟨A3, c3, rfl, hs3, hb⟩
      replace HB := Lib.hid (below_ext HB.out hb)
      replace GV := Lib.hid (GV.out.ext hb)
      have S3 := Lib.hid hs3
      have hl3 := hs3.2.1
      have hm3 := hs3.2.2
      clear hb hs3
      go_wp2_with fail
      (with_reducible refine (k25b S3.out HSM.out HGD.out).mono ?_); rintro e w4 ⟨p, rfl, HP, hb⟩
      have hsB := HB.out.size
      replace HB := Lib.hid (below_ext HB.out hb)
      replace GV := Lib.hid (GV.out.ext hb)
      clear hb
      obtain ⟨g2, rfl, hgv, hw⟩ := HP.out.2 rfl
      have GW2 := Lib.hid (hgv.low hsB)
      have GV2 : Hid (GraphV w4 0 (.pointer (some ⟨g2, 0, none⟩)) (graphOf (textsOf xs))) := Lib.hid (.inr (hgv.low (Nat.zero_le _)))
      have hgl : 0 < (graphOf (textsOf xs)).length := by rw [graphOf_len]; obtain ⟨M, hM⟩ := nodesOf_head (textsOf xs); rw [hM]; simp
      have HGL := Lib.hid hgl
      clear hgv hw HP hgl
      go_wp2_with fail
      (with_reducible refine (c109 GV2.out GV.out HGL.out).mono ?_); rintro e w5 ⟨rfl, hb⟩
      replace HB := Lib.hid (below_ext HB.out hb)
      replace GW2 := Lib.hid (GW2.out.ext hb)
      clear hb
      go_wp2_with fail
      go_ret
      exact ⟨g2, rfl, GW2.out, HB.out⟩
theorem c88 {w : World} {A : Option Addr} {c : Nat} {cs : List (Value × Value)} {xs : List ByteArray} (h : Nods w A c cs (graphOf (textsOf xs))) (hW : Wds xs) (len : Nat) (hlen : len = (graphOf (textsOf xs)).length) (hsm : Small xs) (hgood : (0 : Int) = goodE xs) :
    Calls Try.prog 88 #[.slice A len c] w fun e w' => ∃ q, e = .returned (.pointer (some ⟨q, 0, none⟩)) ∧ GraphV w' 0 (.pointer (some ⟨q, 0, none⟩)) (graphOf (textsOf xs)) ∧ Below w.heap.size w w' :=
  (c88b h hW len hlen hsm hgood).mono fun e w' ⟨q, h1, h2, h3⟩ => ⟨q, h1, .inr (h2.low (Nat.zero_le _)), h3⟩

end Go.Proofs.Ytepmcfleijiloaa

end
section
set_option linter.unusedVariables false
set_option linter.unusedSimpArgs false
/- An image is parsed back: plain. -/
namespace Go.Proofs.Ytepmcfleijiloaa

theorem numB_at (a m z : List Nat) : numB (a ++ m ++ z) a.length m.length = m.foldl (fun n x => n * 256 + x) 0 := by
  unfold numB
  rw [List.append_assoc, List.drop_left, List.take_left]
theorem fold_be1 (n : Nat) (h : n < 256) : (be 1 n).foldl (fun n x => n * 256 + x) 0 = n := by
  simp [be, List.range_succ]
  omega
theorem fold_be2 (n : Nat) (h : n < 65536) : (be 2 n).foldl (fun n x => n * 256 + x) 0 = n := by
  simp [be, List.range_succ]
  omega
theorem fold_be4 (n : Nat) (h : n < 4294967296) : (be 4 n).foldl (fun n x => n * 256 + x) 0 = n := by
  simp [be, List.range_succ]
  omega
theorem rdN_at {l a m z : List Nat} (hl : l = a ++ m ++ z) (bad : Bool) (size n p : Nat) (hs : m.length = size) (hp : p = a.length) (hn : m.foldl (fun n x => n * 256 + x) 0 = n) : rdN l p bad size = (n, p + size, bad) := by
  subst hl
  subst hp
  unfold rdN
  rw [if_pos (by simp only [List.length_append]; omega), ← hs, numB_at, hn]
theorem rd1 {l a z : List Nat} {n p : Nat} (bad : Bool) (hl : l = a ++ be 1 n ++ z) (hp : p = a.length) (hn : n < 256) : rdN l p bad 1 = (n, p + 1, bad) := rdN_at hl bad 1 n p (be_len _ _) hp (fold_be1 n hn)
theorem rd2 {l a z : List Nat} {n p : Nat} (bad : Bool) (hl : l = a ++ be 2 n ++ z) (hp : p = a.length) (hn : n < 65536) : rdN l p bad 2 = (n, p + 2, bad) := rdN_at hl bad 2 n p (be_len _ _) hp (fold_be2 n hn)
theorem rd4 {l a z : List Nat} {n p : Nat} (bad : Bool) (hl : l = a ++ be 4 n ++ z) (hp : p = a.length) (hn : n < 4294967296) : rdN l p bad 4 = (n, p + 4, bad) := rdN_at hl bad 4 n p (be_len _ _) hp (fold_be4 n hn)

theorem itE_at {l a z : List Nat} {es : List (Nat × Nat)} (hl : l = a ++ edgesB es ++ z) (hes : ∀ e ∈ es, e.1 ≤ 1114111 ∧ e.2 < 721) : ∀ k, k ≤ es.length → itE l k ([], a.length, false) = (es.take k, a.length + 6 * k, false)
  | 0, _ => by simp [itE]
  | k + 1, hk => by
    have ih := itE_at hl hes k (by omega)
    have hlt : k < es.length := by omega
    obtain ⟨h1, h2⟩ := hes _ (List.getElem_mem hlt)
    have hlen : (a ++ edgesB (es.take k)).length = a.length + 6 * k := by
      rw [List.length_append, edgesB_len, List.length_take]
      omega
    have hsplit : edgesB es = edgesB (es.take k) ++ (be 4 es[k].1 ++ be 2 es[k].2) ++ edgesB (es.drop (k + 1)) := by
      conv => lhs; rw [← List.take_append_drop (k + 1) es]
      have e1 : edgesB (es.take (k + 1) ++ es.drop (k + 1)) = edgesB (es.take (k + 1)) ++ edgesB (es.drop (k + 1)) := by unfold edgesB; rw [List.flatMap_append]
      rw [e1, edgesB_take es k hlt]
      rfl
    have r1 : rdN l (a.length + 6 * k) false 4 = (es[k].1, a.length + 6 * k + 4, false) :=
      rd4 (a := a ++ edgesB (es.take k)) (z := be 2 es[k].2 ++ edgesB (es.drop (k + 1)) ++ z) false (by rw [hl, hsplit]; simp only [List.append_assoc]) hlen.symm (by omega)
    have r2 : rdN l (a.length + 6 * k + 4) false 2 = (es[k].2, a.length + 6 * k + 4 + 2, false) :=
      rd2 (a := a ++ edgesB (es.take k) ++ be 4 es[k].1) (z := edgesB (es.drop (k + 1)) ++ z) false (by rw [hl, hsplit]; simp only [List.append_assoc]) (by rw [List.length_append, hlen, be_len]) (by omega)
    rw [itE_succ, ih]
    unfold stE
    have hd : decide (1114111 < es[k].1) = false := decide_eq_false (by omega)
    simp only [r1, hd, Bool.or_false, r2]
    rw [List.take_succ_eq_append_getElem hlt]
    have e6 : a.length + 6 * k + 4 + 2 = a.length + 6 * (k + 1) := by omega
    rw [e6]
    rfl
theorem rdNode_at {l a z : List Nat} {nd : Nd} (hl : l = a ++ nodeB nd ++ z) (hf : nd.2.length ≤ 60) (hes : ∀ e ∈ nd.2, e.1 ≤ 1114111 ∧ e.2 < 721) : rdNode l a.length false = (nd, a.length + (nodeB nd).length, false) := by
  obtain ⟨f, es⟩ := nd
  have hfv : (if f then 1 else 0 : Nat) < 256 := by split <;> omega
  have hfv2 : (if f then 1 else 0 : Nat) ≤ 1 := by split <;> omega
  have r1 : rdN l a.length false 1 = ((if f then 1 else 0), a.length + 1, false) :=
    rd1 (z := be 2 es.length ++ edgesB es ++ z) false (by rw [hl]; simp only [nodeB, List.append_assoc]) rfl hfv
  have r2 : rdN l (a.length + 1) false 2 = (es.length, a.length + 1 + 2, false) :=
    rd2 (a := a ++ be 1 (if f then 1 else 0)) (z := edgesB es ++ z) false (by rw [hl]; simp only [nodeB, List.append_assoc]) (by rw [List.length_append, be_len]) (by simp only at hf; omega)
  have hl3 : (a ++ be 1 (if f then 1 else 0) ++ be 2 es.length).length = a.length + 1 + 2 := by rw [List.length_append, List.length_append, be_len, be_len]
  have r3 := itE_at (l := l) (a := a ++ be 1 (if f then 1 else 0) ++ be 2 es.length) (z := z) (es := es) (by rw [hl]; simp only [nodeB, List.append_assoc]) hes es.length (Nat.le_refl _)
  rw [hl3] at r3
  unfold rdNode
  have hd : decide (1 < (if f then 1 else 0 : Nat)) = false := decide_eq_false (by omega)
  simp only [r1, hd, Bool.or_false, r2, r3, List.take_length]
  have hff : decide ((if f then 1 else 0 : Nat) = 1) = f := by cases f <;> rfl
  rw [hff, nodeB_len]
  have e6 : a.length + 1 + 2 + 6 * es.length = a.length + (3 + 6 * (f, es).2.length) := by show _ = a.length + (3 + 6 * es.length); omega
  rw [e6]
/-- The nodes, one behind the other. -/
theorem rdNode_pre {ns : List Nd} (h : Ok9 ns) (k : Nat) (hk : k < ns.length) : rdNode (bodyB ns) (preB ns k).length false = (ns[k], (preB ns (k + 1)).length, false) := by
  have e1 : bodyB ns = preB ns k ++ nodeB ns[k] ++ nodesB (ns.drop (k + 1)) := by
    unfold bodyB preB
    have : nodesB ns = nodesB (ns.take k) ++ nodeB ns[k] ++ nodesB (ns.drop (k + 1)) := by
      conv => lhs; rw [← List.take_append_drop (k + 1) ns]
      have e1 : nodesB (ns.take (k + 1) ++ ns.drop (k + 1)) = nodesB (ns.take (k + 1)) ++ nodesB (ns.drop (k + 1)) := by unfold nodesB; rw [List.flatMap_append]
      rw [e1, nodesB_take ns k hk]
    rw [this]
    simp only [List.append_assoc]
  rw [rdNode_at e1 (h.few _ (List.getElem_mem hk)) (h.small _ (List.getElem_mem hk))]
  have : (preB ns (k + 1)).length = (preB ns k).length + (nodeB ns[k]).length := by
    unfold preB
    rw [nodesB_take ns k hk]
    simp only [List.length_append]
    omega
  rw [this]
/-- How many. -/
theorem rd_count {ns : List Nd} (h : Ok9 ns) : rdN (bodyB ns) 4 false 2 = (ns.length, 6, false) :=
  rd2 (a := [73, 78, 75, 49]) (z := nodesB ns) false rfl rfl (by have := h.len; omega)
theorem pre_zero (ns : List Nd) : (preB ns 0).length = 6 := by simp [preB, be_len, nodesB]
theorem pre_all (ns : List Nd) : preB ns ns.length = bodyB ns := by unfold preB bodyB; rw [List.take_length]

end Go.Proofs.Ytepmcfleijiloaa

end
section
set_option linter.unusedVariables false
set_option linter.unusedSimpArgs false
/- pack.Decode of an image. -/
namespace Go.Proofs.Ytepmcfleijiloaa
open Go.RowKit

theorem Byts.take {w : World} {A : Option Addr} {c : Nat} {l : List Nat} (h : Byts w 0 A c l) (k : Nat) : Byts w 0 A c (l.take k) :=
  ⟨by have := h.1.take k; simpa [bytv, List.map_take] using this, by have := h.2.1; simp; omega, h.2.2⟩
theorem k85 {w : World} {A : Option Addr} {c : Nat} {l : List Nat} (h : Byts w 0 A c l) (hb : ∀ x ∈ l, x < 256) (len p size : Nat) (m z : Int) (v : Nat) (hlen : len = l.length) (hl : l.length ≤ 900000) (hs1 : 1 ≤ size) (hs : size ≤ 4) (hp : p ≤ 900010) (hin : p + size ≤ l.length) (hv : v = numB l p size) (hm : m = p) (hz : z = size) :
    Calls Try.prog 85 #[.slice A len c, .int .i64 m, .int .i64 z] w fun e w' => e = .returned (.tuple #[.int .i64 v, .bool true]) ∧ w = w' := by
  have := c85 h hb len p size hlen hl hs1 hs hp
  rw [if_pos hin, decide_eq_true hin] at this
  rw [hv, hm, hz]
  exact this
theorem k84 {w : World} {A : Option Addr} {c n len : Nat} {l : List Nat} (h : Byts w 0 A c l) (hb : Okb l) (hl : l.length ≤ 1000000) (hn : n = crc l) (hlen : len = l.length) :
    Calls Try.prog 84 #[.slice A len c] w fun e w' => e = .returned (.int .u32 n) ∧ w = w' := by
  rw [hlen]; exact c84 h hb hl hn
/-- The head of an image as a text. -/
theorem head_conv {w : World} {b o c : Nat} {l : List Nat} (h : Byts w 0 (some ⟨b, o, none⟩) c l) (h4 : l.take 4 = [73, 78, 75, 49]) (cap : Nat) :
    (convert 62 9 (.slice (some ⟨b, o, none⟩) 4 cap)).run Try.prog w = .ok (.string ⟨#[73, 78, 75, 49]⟩) w := by
  have hl : 4 ≤ l.length := by have := congrArg List.length h4; simp at this; omega
  have := run_convert_bytes_back (P := Try.prog) w 62 9 5 ⟨b, o, none⟩ cap [73, 78, 75, 49] Try.underlying62 Try.underlying5 Try.underlying9 (fun j hj => by
    have hj4 : j < 4 := by simpa using hj
    obtain ⟨b', o', e, _, _, hc⟩ := h.at_ (k := j) (by omega)
    cases e
    rw [add_plain, hc]
    have e2 : l[j]'(by omega) = ([73, 78, 75, 49] : List Nat)[j]'(by simpa using hj4) := by
      have := List.getElem_of_eq h4 (by simp; omega : j < (l.take 4).length)
      rw [List.getElem_take] at this
      exact this
    rw [e2]
    obtain rfl | rfl | rfl | rfl : j = 0 ∨ j = 1 ∨ j = 2 ∨ j = 3 := by omega
    all_goals rfl)
  exact this

theorem infoM : Info Try.prog 110 113 (.agg #[.bool false, .slice none 0 0]) 2 32 := ⟨Try.underlying110, by kernel_rfl, rfl, by omega, by omega⟩
/-- A stretch of memory that is not what v grows in (as L2's Held). -/
structure Hold (lo hi : Nat) (wa w : World) (v : Value) : Prop where
  same : ∀ i, lo ≤ i → i < hi → w.heap[i]? = wa.heap[i]?
  off : ∀ b, v.ownBlock = some b → b < lo ∨ hi ≤ b
  size : hi ≤ w.heap.size
theorem Hold.refl {lo : Nat} {w : World} {v : Value} (h : ∀ b, v.ownBlock = some b → b < lo) : Hold lo w.heap.size w w v := ⟨fun _ _ _ => rfl, fun b hb => .inl (h b hb), Nat.le_refl _⟩
theorem Hold.ext {lo hi : Nat} {wa w w' : World} {v : Value} (h : Hold lo hi wa w v) (hb : Below w.heap.size w w') : Hold lo hi wa w' v :=
  ⟨fun i h1 h2 => (hb.block i (Nat.lt_of_lt_of_le h2 h.size)).trans (h.same i h1 h2), h.off, Nat.le_trans h.size hb.size⟩
theorem Hold.grown {lo hi : Nat} {wa w wz w1 : World} {v v1 : Value} (h : Hold lo hi wa w v) (hb : Below w.heap.size w wz) (hg : wz.grownBy w1 v.ownBlock) (hat : v1.ownBlock = v.ownBlock ∨ v1.ownBlock = some wz.heap.size) : Hold lo hi wa w1 v1 := by
  have h2 := h.ext hb
  refine ⟨fun i h3 h4 => ?_, fun b hb2 => ?_, Nat.le_trans h2.size hg.size⟩
  · refine (hg.block i (Nat.lt_of_lt_of_le h4 h2.size) fun e => ?_).trans (h2.same i h3 h4)
    have := h.off i e.symm
    omega
  · rcases hat with e | e
    · exact h.off b (e ▸ hb2)
    · rw [e] at hb2
      injection hb2 with hb2
      have := h2.size
      omega
theorem Hold.far {lo hi rb : Nat} {wa w w' : World} {v : Value} (h : Hold lo hi wa w v) (hg : w.grownBy w' (some rb)) (hr : rb < lo) : Hold lo hi wa w' v :=
  ⟨fun i h1 h2 => (hg.block i (Nat.lt_of_lt_of_le h2 h.size) (fun e => by injection e with e; omega)).trans (h.same i h1 h2), h.off, Nat.le_trans h.size hg.size⟩
/-- A node's cells whose edges stay. -/
def NSlot (w : World) (rb : Nat) (v : Value) (x : Value × Value) (nd : Nd) : Prop := ∃ A c lo wa, x = (.bool nd.1, .slice A nd.2.length c) ∧ rb < lo ∧ Hold lo wa.heap.size wa w v ∧ Edgs wa lo A c nd.2
theorem NSlot.ext {w w' : World} {rb : Nat} {v : Value} {x : Value × Value} {nd : Nd} (h : NSlot w rb v x nd) (hb : Below w.heap.size w w') : NSlot w' rb v x nd := by
  obtain ⟨A, c, lo, wa, h1, h2, h3, h4⟩ := h
  exact ⟨A, c, lo, wa, h1, h2, h3.ext hb, h4⟩
theorem NSlot.far {w w' : World} {rb : Nat} {v : Value} {x : Value × Value} {nd : Nd} (h : NSlot w rb v x nd) (hg : w.grownBy w' (some rb)) : NSlot w' rb v x nd := by
  obtain ⟨A, c, lo, wa, h1, h2, h3, h4⟩ := h
  exact ⟨A, c, lo, wa, h1, h2, h3.far hg h2, h4⟩
theorem NSlot.grown {w wz w1 : World} {rb : Nat} {v v1 : Value} {x : Value × Value} {nd : Nd} (h : NSlot w rb v x nd) (hb : Below w.heap.size w wz) (hg : wz.grownBy w1 v.ownBlock) (hat : v1.ownBlock = v.ownBlock ∨ v1.ownBlock = some wz.heap.size) : NSlot w1 rb v1 x nd := by
  obtain ⟨A, c, lo, wa, h1, h2, h3, h4⟩ := h
  exact ⟨A, c, lo, wa, h1, h2, h3.grown hb hg hat, h4⟩
theorem NSlot.node {w : World} {rb : Nat} {v : Value} {x : Value × Value} {nd : Nd} (h : NSlot w rb v x nd) : NodeV w 0 x nd := by
  obtain ⟨A, c, lo, wa, h1, h2, h3, h4⟩ := h
  exact ⟨A, c, h1, ⟨(h4.1.keep h3.same).wide (Nat.zero_le _) h3.size, h4.2.1, h4.2.2⟩⟩

set_option maxHeartbeats 4000000 in
set_option maxRecDepth 100000 in
/-- pack.Decode of an image -/
theorem c54b {w : World} {A : Option Addr} {c len : Nat} {xs : List ByteArray} (h : Byts w 0 A c (imageB (graphOf (textsOf xs)))) (hW : Wds xs) (hlen : len = (imageB (graphOf (textsOf xs))).length) (hsm : Small xs) (hgood : (0 : Int) = goodE xs) :
    Calls Try.prog 54 #[.slice A len c] w fun e w' => ∃ q, e = .returned (.tuple #[.pointer (some ⟨q, 0, none⟩), .int .i64 0]) ∧ GraphW w' w.heap.size (.pointer (some ⟨q, 0, none⟩)) (graphOf (textsOf xs)) ∧ Below w.heap.size w w' := by
  obtain ⟨ns, hns⟩ : ∃ n, n = graphOf (textsOf xs) := ⟨_, rfl⟩
  rw [← hns] at h hlen
  have OK : Hid (Ok9 ns) := Lib.hid (by rw [hns]; exact ok9 hW)
  obtain ⟨n, hn⟩ : ∃ n, n = (bodyB ns).length := ⟨_, rfl⟩
  have hbl : n ≤ 300000 := by rw [hn, ← pre_all]; exact preB_len OK.out _
  have hlen4 : len = n + 4 := by rw [hlen, hn]; unfold imageB sealB; rw [List.length_append, be_len]
  have hn6 : 6 ≤ n := by rw [hn]; unfold bodyB; rw [List.length_append, List.length_append, be_len]; simp
  obtain ⟨cr, hcr⟩ : ∃ x, x = crc (bodyB ns) := ⟨_, rfl⟩
  have hcrl : cr < 4294967296 := by rw [hcr]; exact crc_lt _
  have HNUM : Hid (cr = numB (imageB ns) n 4) := Lib.hid (by
    have := numB_at (bodyB ns) (be 4 cr) []
    rw [be_len, fold_be4 cr hcrl, List.append_nil, ← hn] at this
    rw [← this, hcr]
    rfl)
  have HOKB : Hid (∀ x ∈ imageB ns, x < 256) := Lib.hid (sealB_okb (bodyB_okb ns))
  have HOKC : Hid (∀ x ∈ bodyB ns, x < 256) := Lib.hid (bodyB_okb ns)
  have HOKD : Hid (Okb (bodyB ns)) := Lib.hid (bodyB_okb ns)
  have HBODY : Hid ((imageB ns).take n = bodyB ns) := Lib.hid (by rw [hn]; unfold imageB sealB; rw [List.take_left])
  have H4 : Hid ((imageB ns).take 4 = [73, 78, 75, 49]) := Lib.hid (by unfold imageB sealB bodyB; simp)
  have BY := Lib.hid h
  have HB := Lib.hid (h.take n)
  rw [HBODY.out] at HB
  have HLEN := Lib.hid hlen
  have hcap := h.2.1
  have hcap2 := h.2.2
  rw [← hlen, hlen4] at hcap
  have HN := Lib.hid hn
  have HCR := Lib.hid hcr
  have hcw : IntKind.u32.wrap (cr : Int) = cr := by simp [IntKind.wrap, IntKind.signed, IntKind.bits]; omega
  obtain ⟨b, o, rfl, _, hb0, hcx⟩ := h.at_ (k := 0) (by omega)
  clear hcx
  have hconv := head_conv h H4.out c
  have hcc : ((cr : Int) != (cr : Int)) = false := by simp
  have HNS := Lib.hid hns
  have HWX := Lib.hid hW
  have HSM := Lib.hid hsm
  have HGD := Lib.hid hgood
  have HL4 := Lib.hid hlen4
  have hls : (len : Int) - 4 = n := by omega
  have hle : n ≤ len := by omega
  have hl4' : 4 ≤ len := by omega
  clear h hns hn hcr hlen hW hsm hgood hlen4
  go_enter Try.func54, Try.ntmps54
  go_wp2_with fail
  (with_reducible refine (k85 BY.out HOKB.out len n 4 n 4 cr HLEN.out (by rw [← HLEN.out]; omega) (by omega) (by omega) (by omega) (by rw [← HLEN.out, HL4.out]; omega) HNUM.out rfl rfl).mono ?_); rintro e w1 ⟨rfl, rfl⟩
  go_wp2_with fail
  (with_reducible refine (k84 HB.out HOKD.out (by rw [← HN.out]; omega) HCR.out HN.out).mono ?_); rintro e w1 ⟨rfl, rfl⟩
  have HRD : Hid (Rdr (w.alloc (.cells #[.slice (some ⟨b, o, none⟩) n c, .int .i64 4, .bool false] 109)) w.heap.size w.heap.size (some ⟨b, o, none⟩) c (bodyB ns) 4 false) := Lib.hid (by
    have h1 := heap_alloc_new w (.cells #[.slice (some ⟨b, o, none⟩) n c, .int .i64 4, .bool false] 109)
    have h2 := HB.out.1.below (w' := w.alloc (.cells #[.slice (some ⟨b, o, none⟩) n c, .int .i64 4, .bool false] 109)) ((Below.refl _ _).alloc (Nat.le_refl _) _)
    refine ⟨?_, h2, Nat.le_refl _, HB.out.2.1, HB.out.2.2⟩
    rw [h1, HN.out]
    rfl)
  have HC := Lib.hid (rd_count OK.out)
  have hbl2 : (bodyB ns).length ≤ 900000 := by rw [← HN.out]; omega
  have h4b : 4 ≤ (bodyB ns).length := by rw [← HN.out]; omega
  go_wp2_with fail
  (with_reducible refine (k86 HRD.out HOKC.out hbl2 h4b 2 2 HC.out rfl (by omega) (by omega)).mono ?_); rintro e w2 ⟨rfl, hr2, hg2⟩
  have HR2 := Lib.hid (pre_zero ns ▸ hr2 : Rdr w2 w.heap.size w.heap.size (some ⟨b, o, none⟩) c (bodyB ns) (preB ns 0).length false)
  have HB2 : Hid (Below w.heap.size w w2) := Lib.hid (((Below.refl w.heap.size w).alloc (Nat.le_refl _) _).grown hg2 (by simp) (fun k hk => by injection hk with hk; omega))
  have hns721 := OK.out.len
  obtain ⟨nl, hnl⟩ : ∃ x, x = ns.length := ⟨_, rfl⟩
  rw [← hnl] at hns721 ⊢
  have HNL := Lib.hid hnl
  clear hr2 hg2 hnl hconv
  go_wp2_with fail
  go_loopw [8, 43] (fun vo i wr => ∃ (k cn : Nat) (An : Option Addr) (cs : List (Value × Value)), k ≤ nl ∧ i = .int .i64 k ∧ vo = .slice An k cn ∧ Hid (cs.length = k) ∧ Hid (wr.ownsRow (w.heap.size + 1) 113 2 (.slice An k cn) k (flat cs)) ∧ Hid (∀ j (h : j < ns.length) (h2 : j < cs.length), NSlot wr w.heap.size (.slice An k cn) cs[j] ns[j]) ∧ Hid (Rdr wr w.heap.size w.heap.size (some ⟨b, o, none⟩) c (bodyB ns) (preB ns k).length false) ∧ Hid (Below w.heap.size w wr)) (fun _ i _ => nl - (intOf i).toNat)
  case atStart => exact ⟨0, 0, none, [], by omega, rfl, rfl, Lib.hid rfl, Lib.hid (World.ownsRow_nil _ _ _ _), Lib.hid (fun j h h2 => by simp at h2), HR2, HB2⟩
  case round =>
    clear HR2 HB2 HRD HC
    obtain ⟨k, cn, An, cs, hk, rfl, rfl, HCL, HO, HNO, HR, HBW⟩ := hrel
    have k2 : wr.cell? ⟨w.heap.size, 2, none⟩ = some (.bool false) := by rw [cell_of_row _ _ _ _ _ _ HR.out.row]; rfl
    have k1 : wr.cell? ⟨w.heap.size, 1, none⟩ = some (.int .i64 ((preB ns k).length : Nat)) := by rw [cell_of_row _ _ _ _ _ _ HR.out.row]; rfl
    have hrb := HR.out.lt
    by_cases hlt : k < nl
    · have hkn : k < ns.length := by rw [← HNL.out]; exact hlt
      have hp : (preB ns k).length ≤ (bodyB ns).length := by
        have e1 : bodyB ns = preB ns k ++ nodesB (ns.drop k) := by
          unfold bodyB preB
          conv => lhs; rw [← List.take_append_drop k ns]
          have e1 : nodesB (ns.take k ++ ns.drop k) = nodesB (ns.take k) ++ nodesB (ns.drop k) := by unfold nodesB; rw [List.flatMap_append]
          rw [e1, List.take_append_drop]
          simp only [List.append_assoc]
        rw [e1, List.length_append]; omega
      have C := c87 wr w.heap.size w.heap.size (some ⟨b, o, none⟩) c (bodyB ns) (preB ns k).length false HR.out HOKC.out hbl2 hp
      rw [rdNode_pre OK.out k hkn] at C
      have HC := Lib.hid C
      clear C k1 hp
      go_wp2_with fail
      (with_reducible refine HC.out.mono ?_); rintro e w5 ⟨f, A5, n5, c5, vs, rfl, hr5, hg5, ho5, hv5⟩
      obtain ⟨hf5, hn5, hvs5⟩ := hv5 (by trivial)
      subst hvs5
      obtain ⟨_, _, e5, hE5⟩ := Edgs.of_own ho5
      have hN5 : NSlot w5 w.heap.size (.slice An k cn) (.bool f, .slice A5 n5 c5) ns[k] := by
        cases e5
        exact ⟨A5, c5, wr.heap.size, w5, by rw [hf5], hrb, Hold.refl (fun q hq => (HO.out.lt q hq).2), hE5⟩
      have HN5 := Lib.hid hN5
      have HOLD : Hid (∀ j (h : j < ns.length) (h2 : j < cs.length), NSlot w5 w.heap.size (.slice An k cn) cs[j] ns[j]) := Lib.hid fun j h h2 => (HNO.out j h h2).far hg5
      have HO5 := Lib.hid (HO.out.kept hg5 (Or.inr fun e => by have := HO.out.lt _ e; omega))
      have HR5 := Lib.hid hr5
      have HB5 : Hid (Below w.heap.size w w5) := Lib.hid (HBW.out.grown hg5 HBW.out.size (fun q hq => by injection hq with hq; omega))
      have hkl : (flat cs).length = k * 2 := HO5.out.1
      have hrb5 := hr5.lt
      clear hr5 hg5 ho5 hv5 hE5 e5 hN5 HC hf5 hn5 hkl
      go_wp2_with (first
        | (at_builtin
           refine wpList_append_rd infoM rfl (.tmp 49) (.tmp 52) rfl (w.heap.size + 1) (.slice An k cn) k (flat cs) rfl (HO5.out.alloc _) w5.heap.size (w5.heap.size + 1) _ 1 1 [.bool f, .slice A5 n5 c5] rfl (Rd.two w5 _ _ _) rfl (by simp [Value.oneCell']) (by omega) (by simp; omega) ?_
           intro v6 w6 hown1 hg1 hat1
           obtain ⟨A6, c6, rfl, _, _⟩ := own_slice hown1
           have hlt6 := HO5.out.lt
           have HR6 := Lib.hid (HR5.out.own (grown_trans (grown_below ((Below.refl _ _).alloc (Nat.le_refl _) _)) hg1) (fun q hq => by have := hlt6 _ hq; omega))
           have HB6 : Hid (Below w.heap.size w w6) := Lib.hid ((HB5.out.alloc HB5.out.size _).grown hg1 (by simp; omega) (fun q hq => by have := hlt6 _ hq; omega))
           have HOLD6 : Hid (∀ j (h : j < ns.length) (h2 : j < cs.length), NSlot w6 w.heap.size (.slice A6 (k + 1) c6) cs[j] ns[j]) := Lib.hid fun j h h2 => (HOLD.out j h h2).grown ((Below.refl _ _).alloc (Nat.le_refl _) _) hg1 hat1
           have HN6 := Lib.hid (HN5.out.grown ((Below.refl _ _).alloc (Nat.le_refl _) _) hg1 hat1)
           have HO6 := Lib.hid hown1
           clear hown1 hg1 hat1 hlt6))
      go_roundw
      case rel =>
        refine ⟨k + 1, c6, A6, cs ++ [(.bool f, .slice A5 n5 c5)], by omega, by go_num, rfl, Lib.hid (by rw [List.length_append, HCL.out]; rfl), Lib.hid (by rw [flat_append]; exact HO6.out), Lib.hid fun j h h2 => ?_, HR6, HB6⟩
        have hcl := HCL.out
        rcases Nat.lt_or_ge j cs.length with h3 | h3
        · rw [List.getElem_append_left h3]; exact HOLD6.out j h h3
        · obtain rfl : j = k := by simp at h2; omega
          have e : (cs ++ [(Value.bool f, Value.slice A5 n5 c5)])[j]'h2 = (.bool f, .slice A5 n5 c5) := by
            rw [List.getElem_append_right h3]; simp
          rw [e]
          exact HN6.out
      case measure => simp [intOf]; omega
    · obtain rfl : k = nl := by omega
      have hkn : (preB ns k).length = n := by rw [HNL.out, pre_all]; exact HN.out.symm
      rw [hkn] at k1
      have hnn : ((n : Int) != (n : Int)) = false := by simp
      obtain ⟨_, _, e0, hc1, hc2⟩ := own_slice HO.out
      cases e0
      have HND : Hid (Nods wr An cn cs (graphOf (textsOf xs))) := Lib.hid (by
        rw [← HNS.out]
        exact ⟨(Rd.of_own HO.out).wide (Nat.zero_le _) (Nat.le_refl _), by rw [HCL.out, HNL.out], by rw [← HNL.out]; exact hc1, hc2, fun j h1 h2 => (HNO.out j h1 h2).node⟩)
      have HKL : Hid (k = (graphOf (textsOf xs)).length) := Lib.hid (by rw [← HNS.out]; exact HNL.out)
      clear hkn HNO HO hlt
      go_wp2_with fail
      (with_reducible refine (c88b HND.out HWX.out k HKL.out HSM.out HGD.out).mono ?_); rintro e w5 ⟨q, rfl, hgv, hb⟩
      have GV := Lib.hid (hgv.low HBW.out.size)
      have HB5 := Lib.hid (below_ext HBW.out hb)
      clear hgv hb
      go_wp2_with fail
      go_ret2
      exact ⟨q, rfl, GV.out, HB5.out⟩

theorem c54 {w : World} {A : Option Addr} {c len : Nat} {xs : List ByteArray} (h : Byts w 0 A c (imageB (graphOf (textsOf xs)))) (hW : Wds xs) (hlen : len = (imageB (graphOf (textsOf xs))).length) (hsm : Small xs) (hgood : (0 : Int) = goodE xs) :
    Calls Try.prog 54 #[.slice A len c] w fun e w' => ∃ q, e = .returned (.tuple #[.pointer (some ⟨q, 0, none⟩), .int .i64 0]) ∧ GraphV w' 0 (.pointer (some ⟨q, 0, none⟩)) (graphOf (textsOf xs)) ∧ Below w.heap.size w w' :=
  (c54b h hW hlen hsm hgood).mono fun e w' ⟨q, h1, h2, h3⟩ => ⟨q, h1, .inr (h2.low (Nat.zero_le _)), h3⟩

end Go.Proofs.Ytepmcfleijiloaa

end
section
set_option linter.unusedVariables false
set_option linter.unusedSimpArgs false
/- awake of chapter 9; PackLays. -/
namespace Go.Proofs.Ytepmcfleijiloaa
open Go.RowKit

theorem graph_nil : graphOf (textsOf []) = [(false, [])] := by
  have h : nodesOf ([] : Rs) = [[]] := nodesOf_nil
  show (nodesOf []).map (ndOf (nodesOf [])) = _
  rw [h]
  simp [ndOf, edgesOf, groups_nil, fin]
theorem image_nil : imageB (graphOf (textsOf [])) = [73, 78, 75, 49, 0, 1, 0, 0, 0] ++ be 4 (crc [73, 78, 75, 49, 0, 1, 0, 0, 0]) := by
  rw [graph_nil]
  rfl
theorem good_nil : (0 : Int) = goodE [] := by rfl
theorem small_nil : Small [] := fun x hx => by cases hx
theorem wds_nil : Wds [] := Wds.of_good good_nil.symm

set_option maxHeartbeats 1000000 in
set_option maxRecDepth 100000 in
/-- inkhornlaw9.awake -/
theorem c48 (w : World) : Calls Try.prog 48 #[] w fun e w' => e = .returned (.bool true) ∧ Below w.heap.size w w' := by
  have C := Lib.hid (c49 (w := w) (A := none) (c := 0) (xs := []) (g := 0) (Strs.nil_ w 0 none 0 (by omega)) small_nil good_nil)
  go_enter Try.func48, Try.ntmps48
  go_wp2_with fail
  (refine C.out.mono ?_); rintro e w1 ⟨A1, n1, c1, rfl, HP, hb⟩
  obtain ⟨hw, hn1, ho⟩ := HP.out.2 (by trivial)
  have HB := Lib.hid hb
  have BY : Hid (Byts w1 0 A1 c1 (imageB (graphOf (textsOf [])))) := Lib.hid (by obtain ⟨_, _, e, h⟩ := Byts.of_own ho; cases e; exact h.low (Nat.zero_le _))
  have hl13 : (imageB (graphOf (textsOf []))).length = 13 := by rw [image_nil, List.length_append, be_len]; rfl
  have e13 : n1 = 13 := by rw [hn1, hl13]
  subst e13
  obtain ⟨b, o, rfl, _, _, k0⟩ := BY.out.at_ (k := 0) (by omega)
  obtain ⟨b', o', e, _, _, k5⟩ := BY.out.at_ (k := 5) (by omega)
  cases e
  have v0 : (imageB (graphOf (textsOf [])))[0]'(by omega) = 73 := by simp [image_nil]
  have v5 : (imageB (graphOf (textsOf [])))[5]'(by omega) = 1 := by simp [image_nil]
  rw [v0, Nat.add_zero] at k0
  rw [v5] at k5
  have hcap := BY.out.2.1
  have hcap2 := BY.out.2.2
  have HL := Lib.hid hl13
  rw [hl13] at hcap
  clear hw hn1 ho hb HP v0 v5 hl13
  go_wp2_with fail
  (with_reducible refine (c54 BY.out wds_nil HL.out.symm small_nil good_nil).mono ?_); rintro e w2 ⟨q, rfl, hgv, hb⟩
  have GV := Lib.hid hgv
  replace HB := Lib.hid (below_ext HB.out hb)
  have HN1 : Hid (1 = (graphOf (textsOf [])).length) := Lib.hid (by rw [graph_nil]; rfl)
  clear hgv hb
  go_wp2_with fail
  (with_reducible refine (q29m GV.out HN1.out).mono ?_); rintro e w3 ⟨rfl, rfl⟩
  go_wp2_with fail
  go_ret
  exact ⟨rfl, HB.out⟩

end Go.Proofs.Ytepmcfleijiloaa

end
section
set_option linter.unusedVariables false
set_option linter.unusedSimpArgs false
/- PackLays. -/
namespace Go.Proofs.Ytepmcfleijiloaa
open Go.RowKit

set_option maxRecDepth 100000 in
/-- pack.Encode of none -/
theorem c52n (w : World) : Calls Try.prog 52 #[.pointer none] w fun e w' => e = .returned (.tuple #[.slice none 0 0, .int .i64 2]) ∧ w = w' := by
  go_enter Try.func52, Try.ntmps52
  go_wp2_with fail
  go_ret2
  exact ⟨rfl, rfl⟩
theorem owned_byts {w : World} {base n : Nat} {A : Option Addr} {c : Nat} {l : List Nat} (h : w.ownsRow base 5 1 (.slice A n c) n (bytv l)) : Byts w 0 A c l := by
  obtain ⟨_, _, e, h⟩ := Byts.of_own h
  cases e
  exact h.low (Nat.zero_le _)
set_option maxHeartbeats 1000000 in
set_option maxRecDepth 100000 in
/-- inkhornlaw0.OverBytes: what is owned may be written over. -/
theorem c53g (w : World) (base n : Nat) (v : Value) (xs : List Value) (hown : w.ownsRow base 5 1 v n xs) (hn : n ≤ 900000) (B : Nat) (hB1 : B ≤ base) (hB2 : base ≤ w.heap.size) :
    Calls Try.prog 53 #[v] w fun e w' => e = .returned (.tuple #[]) ∧ Below B w w' ∧ w.grownBy w' v.ownBlock := by
  obtain ⟨A, c, rfl, hc1, hc2⟩ := own_slice hown
  have HO := Lib.hid hown
  clear hown
  go_enter Try.func53, Try.ntmps53
  go_wp2
  go_loopw [2] (fun i wr => ∃ (k : Nat) (zs : List Value), k ≤ n ∧ i = .int .i64 k ∧ wr.ownsRow base 5 1 (.slice A n c) n zs ∧ Below B w wr ∧ base ≤ wr.heap.size ∧ Hid (w.grownBy wr (Value.slice A n c).ownBlock)) (fun i _ => n - (intOf i).toNat)
  case atStart => exact ⟨0, xs, by omega, rfl, HO.out, Below.refl _ _, hB2, Lib.hid (grown_below (Below.refl _ _))⟩
  case round =>
    clear HO
    obtain ⟨k, zs, hk, rfl, hown, hB, hs, HG⟩ := hrel
    by_cases hlt : k < n
    · obtain ⟨g, cap, hv, hbg, hgl⟩ := hown.form (by omega)
      injection hv with hA _ hcc
      subst hA; subst hcc
      have hlz : zs.length = n * 1 := hown.1
      have hcell : ∃ u, wr.cell? ⟨g, k, none⟩ = some u := by rw [hown.cellAt k (by omega)]; exact ⟨_, List.getElem?_eq_getElem (by omega)⟩
      obtain ⟨u1, hu1⟩ := hcell
      have hfr := hown.frozenAt k
      have HO := Lib.hid ((hown.stored k (.int .u8 238)).1)
      have HB := Lib.hid (hB.setCell (p := ⟨g, k, none⟩) (by show B ≤ g; omega) (.int .u8 238))
      have HG2 := Lib.hid (grown_trans HG.out (grown_set wr g k (.int .u8 238)))
      clear hown hB
      go_wp2
      go_roundw
      case rel => exact ⟨k + 1, _, by omega, by go_num, HO.out, HB.out, by simpa using hs, HG2⟩
      case measure => simp [intOf]; omega
    · have HO := Lib.hid hown
      have HB := Lib.hid hB
      clear hown hB
      go_wp2_with (first
        | (at_builtin
           refine wpList_append_rd infoB rfl (.tmp 12) (.tmp 13) rfl base (.slice A n c) n zs rfl (HO.out.alloc _) wr.heap.size (wr.heap.size + 1) _ 1 1 [.int .u8 238] rfl (Rd.new wr _ _) rfl (by simp [Value.oneCell']) (by omega) (by simp; omega) ?_
           intro v1 w1 hown1 hg1 hat1))
      go_end0
      refine ⟨rfl, ?_, grown_trans HG.out (grown_trans (grown_below ((Below.refl _ _).alloc (Nat.le_refl _) _)) hg1)⟩
      refine (HB.out.alloc (Nat.le_trans hB1 hs) _).grown hg1 (by simp; omega) (fun q hq => ?_)
      have := HO.out.lt q hq
      omega

/-- What Of answers, in one form. -/
def offB (g : Int) (xs : List ByteArray) : List Nat := if g = 0 then imageB (graphOf (textsOf xs)) else []

set_option maxHeartbeats 4000000 in
set_option maxRecDepth 100000 in
/-- inkhornlaw9.PackLays -/
theorem c10 (w : World) (A : Option Addr) (c : Nat) (xs : List ByteArray) (hx : Strs w 0 A c xs) :
    Calls Try.prog 10 #[.slice A xs.length c] w fun e w' => e = .returned (.bool true) ∧ Below w.heap.size w w' := by
  have HB : Hid (Below w.heap.size w w) := Lib.hid (Below.refl _ _)
  have Sa := Lib.hid hx
  have hl_a := hx.2.1
  have hm_a := hx.2.2
  clear hx
  obtain ⟨gr, hgr⟩ : ∃ g, g = greatB xs := ⟨_, rfl⟩
  have HGR := Lib.hid hgr
  clear hgr
  cases gr
  · have HSM := Lib.hid (great_small HGR.out.symm)
    obtain ⟨gd, hgd⟩ : ∃ g, g = goodE xs := ⟨_, rfl⟩
    have HGD := Lib.hid hgd
    clear hgd
    have hgg : (gd == gd) = true := by simp
    have hgn : (gd != gd) = false := by simp
    go_enter Try.func10, Try.ntmps10
    go_wp2_with fail
    (with_reducible refine (k22 Sa.out HGR.out).mono ?_); rintro e w1 ⟨rfl, hb⟩
    replace HB := Lib.hid (below_ext HB.out hb)
    replace Sa := Lib.hid (Sa.out.ext hb)
    clear hb
    have hs01 := HB.out.size
    go_wp2_with fail
    (with_reducible refine (c49 Sa.out HSM.out HGD.out).mono ?_); rintro e w2 ⟨A1, n1, c1, rfl, HP1, hb⟩
    replace HB := Lib.hid (below_ext HB.out hb)
    have Sb := Lib.hid (Sa.out.ext hb)
    have HB1 := Lib.hid hb
    clear hb
    go_wp2_with fail
    (with_reducible refine (c50 Sb.out HSM.out HGD.out).mono ?_); rintro e w3 ⟨A2, n2, c2, rfl, HP2, hb⟩
    replace HB := Lib.hid (below_ext HB.out hb)
    replace Sb := Lib.hid (Sb.out.ext hb)
    have HB2 := Lib.hid hb
    clear hb
    by_cases h0 : gd = 0
    · subst h0
      obtain ⟨hw, hn1, ho1⟩ := HP1.out.2 rfl
      obtain ⟨hn2, ho2⟩ := HP2.out.2 rfl
      have HW := Lib.hid hw
      have HN1 := Lib.hid hn1
      have HN2 := Lib.hid hn2
      have HO1 := Lib.hid (own_below ho1 HB2.out)
      have HO2 := Lib.hid ho2
      have HLT := Lib.hid fun q hq => (ho1.lt q hq).2
      have h12 := HB1.out.size
      have h23 := HB2.out.size
      have hnb : n1 ≤ 900000 := by
        rw [hn1]; unfold imageB sealB; rw [List.length_append, be_len, ← pre_all]
        have := preB_len (ok9 hw) (graphOf (textsOf xs)).length
        omega
      clear hw hn1 hn2 ho1 ho2 HP1 HP2
      go_wp2_with fail
      (with_reducible refine (c51 (owned_byts HO1.out) (owned_byts HO2.out) HN1.out HN2.out (b := true) (by simp)).mono ?_); rintro e w4 ⟨rfl, hb⟩
      have h34 := hb.size
      replace HB := Lib.hid (below_ext HB.out hb)
      replace Sb := Lib.hid (Sb.out.ext hb)
      replace HO1 := Lib.hid (own_below HO1.out hb)
      replace HO2 := Lib.hid (own_below HO2.out hb)
      clear hb
      go_wp2_with fail
      (with_reducible refine (k27 _ 0).mono ?_); rintro e w5 ⟨rfl, rfl⟩
      go_wp2_with fail
      (with_reducible refine (k25 Sb.out HSM.out HGD.out).mono ?_); rintro e w6 ⟨p, rfl, HPA, hb⟩
      have h46 := hb.size
      replace HB := Lib.hid (below_ext HB.out hb)
      replace HO1 := Lib.hid (own_below HO1.out hb)
      replace HO2 := Lib.hid (own_below HO2.out hb)
      clear hb
      obtain ⟨g1, rfl, hgv, hw⟩ := HPA.out.2 (by trivial)
      have GV := Lib.hid hgv
      clear hgv hw HPA
      go_wp2_with fail
      (with_reducible refine (c52 w6 g1 _ GV.out (ok9 HW.out)).mono ?_); rintro e w7 ⟨A7, c7, rfl, ho, hb⟩
      have hs67 := hb.size
      replace HB := Lib.hid (below_ext HB.out hb)
      replace HO1 := Lib.hid (own_below HO1.out hb)
      replace HO2 := Lib.hid (own_below HO2.out hb)
      have HO7 := Lib.hid ho
      clear ho hb
      go_wp2_with fail
      (with_reducible refine (c53g w7 w1.heap.size n1 (.slice A1 n1 c1) _ HO1.out hnb w.heap.size hs01 (by omega)).mono ?_); rintro e w8 ⟨rfl, hb8, hg8⟩
      replace HB := Lib.hid (HB.out.trans hb8)
      have HO2' := Lib.hid (HO2.out.kept hg8 (by
        cases hq : (Value.slice A2 n2 c2).ownBlock with
        | none => exact .inl rfl
        | some q => exact .inr fun e => by have h1 := (HO2.out.lt q hq).1; have h2 := HLT.out q (e ▸ rfl); omega))
      have HO7' := Lib.hid (HO7.out.kept hg8 (by
        cases hq : (Value.slice A7 (imageB (graphOf (textsOf xs))).length c7).ownBlock with
        | none => exact .inl rfl
        | some q => exact .inr fun e => by have h1 := (HO7.out.lt q hq).1; have h2 := HLT.out q (e ▸ rfl); omega))
      clear hb8 hg8 HO1
      go_wp2_with fail
      (with_reducible refine (c52n _).mono ?_); rintro e w9 ⟨rfl, rfl⟩
      go_wp2_with fail
      (with_reducible refine (c51 (owned_byts HO7'.out) (owned_byts HO2'.out) rfl HN2.out (b := true) (by simp)).mono ?_); rintro e w9 ⟨rfl, hb⟩
      replace HB := Lib.hid (below_ext HB.out hb)
      clear hb
      go_wp2_with fail
      (with_reducible refine (c48 _).mono ?_); rintro e w10 ⟨rfl, hb⟩
      go_wp2_with fail
      go_ret
      exact ⟨rfl, below_ext HB.out hb⟩
    · obtain ⟨hA1, hn1, hc1⟩ := HP1.out.1 h0
      obtain ⟨hA2, hn2, hc2⟩ := HP2.out.1 h0
      subst hA1 hn1 hc1 hA2 hn2 hc2
      have hg : (gd != 0) = true := by simpa using h0
      clear h0 HP1 HP2
      go_wp2_with fail
      (with_reducible refine (c51 (n := 0) (m := 0) (xs := []) (ys := []) (Byts.nil_ _ 0 none 0 (by omega)) (Byts.nil_ _ 0 none 0 (by omega)) rfl rfl (b := true) (by simp)).mono ?_); rintro e w4 ⟨rfl, hb⟩
      replace HB := Lib.hid (below_ext HB.out hb)
      clear hb
      go_wp2_with fail
      (with_reducible refine (k27 _ gd).mono ?_); rintro e w5 ⟨rfl, rfl⟩
      go_wp2_with fail
      (with_reducible refine (c48 _).mono ?_); rintro e w10 ⟨rfl, hb⟩
      go_wp2_with fail
      go_ret
      exact ⟨rfl, below_ext HB.out hb⟩
  · go_enter Try.func10, Try.ntmps10
    go_wp2_with fail
    (with_reducible refine (k22 Sa.out HGR.out).mono ?_); rintro e w1 ⟨rfl, hb⟩
    replace HB := Lib.hid (below_ext HB.out hb)
    clear hb
    go_wp2_with fail
    (with_reducible refine (c48 _).mono ?_); rintro e w2 ⟨rfl, hb⟩
    go_wp2_with fail
    go_ret
    exact ⟨rfl, below_ext HB.out hb⟩

end Go.Proofs.Ytepmcfleijiloaa

end
