/- Contracts of the reference of chapter 8: Next, From. -/
import Derived.Test.YtepmcfleijiloaaK1
import Derived.Test.YtepmcfleijiloaaH9
set_option linter.unusedVariables false
namespace Go.Proofs.Ytepmcfleijiloaa
open Go.RowKit

set_option maxHeartbeats 1000000 in
set_option maxRecDepth 100000 in
/-- The reference's Next -/
theorem c46 (w : World) (p : Value) (T : Rs) (n r : Int) (h : RefG w p (nodesOf T)) (hW : Wd T) (tn : Nat) (is : Bool) (hn : nextW (graphOf T) n r = (tn, is)) :
    Calls Try.prog 46 #[p, .int .i64 n, .int .i32 r] w fun e w' => e = .returned (.tuple #[.int .i64 tn, .bool is]) ∧ Below w.heap.size w w' := by
  obtain ⟨es, hes⟩ : ∃ es, es = (nodeOf (graphOf T) n).2 := ⟨_, rfl⟩
  have hel : es.length ≤ 1000000 := by rw [hes]; exact (nsOK hW).of n
  have HT : Hid ((tn, is) = match es.find? (fun e => decide ((e.1 : Int) = r)) with | some e => (e.2, true) | none => (0, false)) := Lib.hid (by rw [← hn, hes]; rfl)
  have HE := Lib.hid hes
  have HR := Lib.hid h
  clear hes h hn
  go_enter Try.func46, Try.ntmps46
  go_wp2_with fail
  (with_reducible refine (k34 HR.out HE.out hel).mono ?_); rintro e w1 ⟨v1, rfl, ho, hb⟩
  obtain ⟨A, c, rfl, he⟩ := Edgs.of_own ho
  have hl := he.2.1
  have hm := he.2.2
  have HED := Lib.hid he
  have HB := Lib.hid hb
  clear ho he hb
  go_wp2_with fail
  go_loop [9] (fun i => ∃ k : Nat, k ≤ es.length ∧ i = .int .i64 k ∧ Hid (∀ j, (h : j < es.length) → j < k → (es[j].1 : Int) ≠ r)) (fun i => es.length - (intOf i).toNat)
  case atStart => exact ⟨0, by omega, rfl, Lib.hid fun j h h2 => by omega⟩
  case round =>
    obtain ⟨k, hk, rfl, HK⟩ := hrel
    by_cases hlt : k < es.length
    · obtain ⟨b, o, rfl, _, hb, hc1, hc2⟩ := HED.out.at_ hlt
      obtain ⟨x, hx⟩ : ∃ x, x = es[k].1 := ⟨_, rfl⟩
      obtain ⟨y, hy⟩ : ∃ y, y = es[k].2 := ⟨_, rfl⟩
      rw [← hx] at hc1
      rw [← hy] at hc2
      have HX := Lib.hid hx
      have HY := Lib.hid hy
      clear hx hy
      by_cases hxr : (x : Int) = r
      · have g : ((x : Int) == r) = true := by simp [hxr]
        have HXR := Lib.hid hxr
        clear hxr
        go_wp2_with fail
        go_ret2
        have h1 : es.find? (fun e => decide ((e.1 : Int) = r)) = some es[k] := by
          rw [List.find?_eq_some_iff_getElem]
          exact ⟨by rw [← HX.out]; exact decide_eq_true HXR.out, k, hlt, rfl, fun j hj => by simpa using HK.out j (by omega) hj⟩
        have h2 := HT.out
        rw [h1] at h2
        simp only [Prod.mk.injEq] at h2
        rw [h2.1, h2.2, ← HY.out]
        exact ⟨rfl, HB.out⟩
      · have g : ((x : Int) == r) = false := by simp [hxr]
        have HXR := Lib.hid hxr
        clear hxr
        go_wp2_with fail
        go_round
        case rel =>
          refine ⟨k + 1, by omega, by go_num, Lib.hid fun j h h2 => ?_⟩
          rcases Nat.lt_or_ge j k with h3 | h3
          · exact HK.out j h h3
          · obtain rfl : j = k := by omega
            rw [← HX.out]; exact HXR.out
        case measure => simp [intOf]; omega
    · go_wp2_with fail
      go_ret2
      have h1 : es.find? (fun e => decide ((e.1 : Int) = r)) = none := by
        rw [List.find?_eq_none]
        intro e he
        obtain ⟨j, hj, rfl⟩ := List.getElem_of_mem he
        simpa using HK.out j hj (by omega)
      have h2 := HT.out
      rw [h1] at h2
      simp only [Prod.mk.injEq] at h2
      rw [h2.1, h2.2]
      exact ⟨rfl, HB.out⟩

theorem from_end {l : List ByteArray} {q : ByteArray} {most : Int} {k : Nat} {out : List ByteArray} (ho : out = (l.take k).filter fun x => decide (0 ≤ cmpB x q)) (hm : out.length ≤ most.toNat) (hk : l.length ≤ k ∨ most ≤ out.length) : fromL l q most = out := by
  unfold fromL
  rcases hk with hk | hk
  · rw [List.take_of_length_le hk] at ho
    rw [← ho, List.take_of_length_le hm]
  · have e : out.length = most.toNat := by omega
    have e2 : (l.filter fun x => decide (0 ≤ cmpB x q)) = out ++ (l.drop k).filter fun x => decide (0 ≤ cmpB x q) := by
      rw [ho, ← List.filter_append, List.take_append_drop]
    rw [e2, ← e, List.take_left']
    rfl
theorem RefG.rests {w : World} {p : Value} {xs : List ByteArray} (h : RefG w p (nodesOf (textsOf xs))) (hW : Wds xs) : ∃ g b o c A1 c1, p = .pointer (some ⟨g, 0, none⟩) ∧ (nodesOf (textsOf xs)).length ≤ c ∧ c ≤ 9223372036854775807 ∧ Strs w 0 A1 c1 xs ∧
    ∀ w', Below w.heap.size w w' → w'.cell? ⟨g, 0, none⟩ = some (.slice (some ⟨b, o, none⟩) (nodesOf (textsOf xs)).length c) ∧ w'.cell? ⟨b, o, none⟩ = some (.slice A1 xs.length c1) := by
  obtain ⟨g, A, c, cs, h1, h2, h3, h4, h5, h6, h7⟩ := h
  obtain ⟨M, hM⟩ := nodesOf_head (textsOf xs)
  have hpos : 0 < (nodesOf (textsOf xs)).length := by rw [hM]; simp
  obtain ⟨A1, c1, A2, c2, e, s1, s2⟩ := h7 0 (by omega) hpos
  obtain ⟨b, o, rfl, _, hb, hc⟩ := h5 (by rw [flat_len]; omega)
  have hh : (nodesOf (textsOf xs))[0] = textsOf xs := by simp only [hM]; rfl
  rw [hh] at s1 e
  rw [hW.txt] at s1
  have hl : (textsOf xs).length = xs.length := by simp [textsOf]
  rw [hl] at e
  have k0 := hc _ _ (flat_at cs 0 (by omega)).1
  rw [e] at k0
  refine ⟨g, b, o, c, A1, c1, h1, h3, h4, s1, fun w' hb' => ⟨?_, ?_⟩⟩
  · rw [cell_of_row _ _ _ _ _ _ ((hb'.block g (Array.getElem?_eq_some_iff.1 h2).1).trans h2)]; rfl
  · exact (World.cell?_of_block (a := ⟨b, o, none⟩) (hb'.block b hb)).trans (by simpa using k0)

set_option maxHeartbeats 2000000 in
set_option maxRecDepth 100000 in
/-- The reference's From -/
theorem c47 (w : World) (p : Value) (xs : List ByteArray) (q : ByteArray) (most : Int) (h : RefG w p (nodesOf (textsOf xs))) (hW : Wds xs) (hsm : Small xs) (hq : q.size ≤ 1000000) (l : List ByteArray) (hl : l = fromL xs q most) :
    Calls Try.prog 47 #[p, .string q, .int .i64 most] w fun e w' => ∃ A c, e = .returned (.slice A l.length c) ∧ w'.ownsRow w.heap.size 9 1 (.slice A l.length c) l.length (strv l) ∧ Below w.heap.size w w' := by
  obtain ⟨g, b, o, c, A1, c1, rfl, hN1, hN2, hs, hread⟩ := h.rests hW
  obtain ⟨nl, hnl⟩ : ∃ n, n = (nodesOf (textsOf xs)).length := ⟨_, rfl⟩
  have hpos : 0 < nl := by rw [hnl]; obtain ⟨M, hM⟩ := nodesOf_head (textsOf xs); rw [hM]; simp
  rw [← hnl] at hread hN1
  have HREAD := Lib.hid hread
  have HS := Lib.hid hs
  have HL := Lib.hid hl
  have hlen := hW.len
  have hs1 := hs.2.1
  have hs2 := hs.2.2
  clear hread hs hl h hnl
  go_enter Try.func47, Try.ntmps47
  go_wp2_with fail
  go_loopw [7, 8] (fun v i wr => ∃ (k : Nat) (out : List ByteArray), k ≤ xs.length ∧ i = .int .i64 k ∧ Hid (out = (xs.take k).filter fun x => decide (0 ≤ cmpB x q)) ∧ out.length ≤ most.toNat ∧ out.length ≤ k ∧ wr.ownsRow w.heap.size 9 1 v out.length (strv out) ∧ Hid (Below w.heap.size w wr)) (fun _ i _ => xs.length - (intOf i).toNat)
  case atStart => exact ⟨0, [], by omega, rfl, Lib.hid (by simp), by simp, by simp, World.ownsRow_nil _ _ _ _, Lib.hid (Below.refl _ _)⟩
  case round =>
    obtain ⟨k, out, hk, rfl, HOUT, hom, hok, hown, HB⟩ := hrel
    obtain ⟨Av, cv, rfl, hv1, hv2⟩ := own_slice hown
    have HO := Lib.hid hown
    obtain ⟨hc1, hc2⟩ := HREAD.out wr HB.out
    clear hown
    by_cases hlt : k < xs.length
    · by_cases hmo : (out.length : Int) < most
      · obtain ⟨b2, o2, hA, _, _, hcx⟩ := (HS.out.ext HB.out).at_ hlt
        subst hA
        obtain ⟨x, hx⟩ : ∃ x, x = xs[k] := ⟨_, rfl⟩
        rw [← hx] at hcx
        have hsx : x.size ≤ 1000000 := by rw [hx]; exact hsm _ (List.getElem_mem _)
        have HX := Lib.hid hx
        clear hx
        by_cases hcm : 0 ≤ cmpB x q
        · have bc : decide (0 ≤ Lib.compareBytes x.data.toList q.data.toList) = true := decide_eq_true hcm
          have HC := Lib.hid hcm
          clear hcm
          go_wp2_with fail
          (with_reducible refine (c81 x q wr hsx hq).mono ?_); rintro e w2 ⟨rfl, n2, rfl⟩
          go_wp2_with (first
            | (at_builtin
               refine wpList_append_rd infoS rfl (.tmp 40) (.tmp 51) rfl w.heap.size (.slice Av out.length cv) out.length (strv out) rfl (own_below HO.out (by repeat (first | exact Below.refl _ _ | apply below_drewN | apply Below.drew | (refine Below.alloc ?_ (by simp) _)))) _ _ _ 1 1 [.string x] rfl (by first | exact Rd.new _ _ _ | exact Rd.drewN (Rd.new _ _ _) _) rfl (by simp [Value.oneCell']) (by omega) (by have := HB.out.size; simp; omega) ?_
               intro v1 w6 hown1 hg1 hat1
               have X := own_step (x := x) HO.out HB.out (by repeat (first | exact Below.refl _ _ | apply below_drewN | apply Below.drew | (refine Below.alloc ?_ (by simp) _))) hown1 hg1
               clear hown1 hg1 hat1))
          go_roundw
          case rel => exact ⟨k + 1, out ++ [x], by omega, by go_num, Lib.hid (by rw [List.take_succ_eq_append_getElem hlt, List.filter_append, ← HOUT.out, ← HX.out, List.filter_cons_of_pos (by simpa using HC.out)]; rfl), by simp; omega, by simp; omega, by simpa using X.out.1, Lib.hid X.out.2⟩
          case measure => simp [intOf]; omega
        · have bc : decide (0 ≤ Lib.compareBytes x.data.toList q.data.toList) = false := decide_eq_false hcm
          have HC := Lib.hid hcm
          clear hcm
          go_wp2_with fail
          (with_reducible refine (c81 x q wr hsx hq).mono ?_); rintro e w2 ⟨rfl, n2, rfl⟩
          go_wp2_with fail
          go_roundw
          case rel => exact ⟨k + 1, out, by omega, by go_num, Lib.hid (by rw [List.take_succ_eq_append_getElem hlt, List.filter_append, ← HOUT.out, ← HX.out, List.filter_cons_of_neg (by simpa using HC.out)]; simp), hom, by omega, own_below HO.out (below_drewN (Below.refl _ _) _), Lib.hid (below_drewN HB.out _)⟩
          case measure => simp [intOf]; omega
      · have e := from_end HOUT.out hom (.inr (by omega))
        have HE : Hid (l = out) := Lib.hid (HL.out.trans e)
        clear e
        go_wp2_with fail
        go_ret
        rw [HE.out]
        exact ⟨Av, cv, rfl, HO.out, HB.out⟩
    · have e := from_end HOUT.out hom (.inl (by omega))
      have HE : Hid (l = out) := Lib.hid (HL.out.trans e)
      clear e
      go_wp2_with fail
      go_ret
      rw [HE.out]
      exact ⟨Av, cv, rfl, HO.out, HB.out⟩

end Go.Proofs.Ytepmcfleijiloaa
