/- inkhornlaw8.from: the texts from a node on, no deeper than a depth. -/
import Derived.Test.YtepmcfleijiloaaL1
import Derived.Test.YtepmcfleijiloaaK7
set_option linter.unusedVariables false
namespace Go.Proofs.Ytepmcfleijiloaa
open Go.RowKit

theorem own_more {w wr wz w1 : World} {v v1 : Value} {n : Nat} {acc : List ByteArray} {x : ByteArray} {B : Nat} (ho : wr.ownsRow B 9 1 v n (strv acc)) (hb : Below B w wr) (hB : B ≤ wr.heap.size) (hz : Below wr.heap.size wr wz)
    (h1 : w1.ownsRow B 9 1 v1 (n + 1) (strv acc ++ [.string x])) (hg : wz.grownBy w1 v.ownBlock) : Hid (w1.ownsRow B 9 1 v1 (n + 1) (strv (acc ++ [x])) ∧ Below B w w1) :=
  ⟨by rw [strv_append]; exact h1, below_grown (hb.trans (hz.mono hB)) (own_below ho hz) hg (Nat.le_refl _) (Nat.le_trans hB hz.size)⟩

/-- A stretch of memory that is not what v grows in. -/
structure Held (lo hi : Nat) (wa w : World) (v : Value) : Prop where
  same : ∀ i, lo ≤ i → i < hi → w.heap[i]? = wa.heap[i]?
  off : ∀ b, v.ownBlock = some b → b < lo ∨ hi ≤ b
  size : hi ≤ w.heap.size
theorem Held.refl {lo : Nat} {w : World} {v : Value} (h : ∀ b, v.ownBlock = some b → b < lo) : Held lo w.heap.size w w v := ⟨fun _ _ _ => rfl, fun b hb => .inl (h b hb), Nat.le_refl _⟩
theorem Held.ext {lo hi : Nat} {wa w w' : World} {v : Value} (h : Held lo hi wa w v) (hb : Below w.heap.size w w') : Held lo hi wa w' v :=
  ⟨fun i h1 h2 => (hb.block i (Nat.lt_of_lt_of_le h2 h.size)).trans (h.same i h1 h2), h.off, Nat.le_trans h.size hb.size⟩
theorem Held.grown {lo hi : Nat} {wa w wz w1 : World} {v v1 : Value} (h : Held lo hi wa w v) (hb : Below w.heap.size w wz) (hg : wz.grownBy w1 v.ownBlock) (hat : v1.ownBlock = v.ownBlock ∨ v1.ownBlock = some wz.heap.size) : Held lo hi wa w1 v1 := by
  have h2 := h.ext hb
  refine ⟨fun i h3 h4 => ?_, fun b hb2 => ?_, Nat.le_trans h2.size hg.size⟩
  · refine (hg.block i (Nat.lt_of_lt_of_le h4 h2.size) fun e => ?_).trans (h2.same i h3 h4)
    have := h.off i e.symm
    omega
  · rcases hat with e | e
    · exact h.off b (e ▸ hb2)
    · rw [e] at hb2
      injection hb2 with hb2
      have := h2.size
      omega
theorem Held.edgs {lo : Nat} {wa w : World} {v : Value} {A : Option Addr} {c : Nat} {es : List (Nat × Nat)} (h : Held lo wa.heap.size wa w v) (he : Edgs wa lo A c es) : Edgs w 0 A c es :=
  ⟨(he.1.keep h.same).wide (Nat.zero_le _) h.size, he.2.1, he.2.2⟩
theorem Held.strs {lo : Nat} {wa w : World} {v : Value} {A : Option Addr} {c : Nat} {l : List ByteArray} (h : Held lo wa.heap.size wa w v) (he : Strs wa lo A c l) : Strs w 0 A c l :=
  ⟨(he.1.keep h.same).wide (Nat.zero_le _) h.size, he.2.1, he.2.2⟩

/-- What from answers. -/
def DeepIH (v : Value) (ns : List Nd) (d : Nat) : Prop := ∀ (w : World) (n : Int) (R : Rs), GraphV w 0 v ns → EachOK d ns n R → okTs R → R.Pairwise (· < ·) → Short 1000 R → R.length ≤ 1000 →
  Calls Try.prog 38 #[v, .int .i64 n, .int .i64 d] w (NewT w (told [] R))
theorem DeepIH.call {v : Value} {ns : List Nd} {d : Nat} (h : DeepIH v ns d) (w : World) (n : Int) (G : Rs) (h1 : GraphV w 0 v ns) (h2 : EachOK d ns n G) (h3 : okTs G) (h4 : G.Pairwise (· < ·)) (h5 : Short 1000 G) (h6 : G.length ≤ 1000) (l : List ByteArray) (hl : l = told [] G) (e : Int) (he : e = d) :
    Calls Try.prog 38 #[v, .int .i64 n, .int .i64 e] w (NewT w l) := by rw [hl, he]; exact h w n G h1 h2 h3 h4 h5 h6

set_option maxHeartbeats 4000000 in
set_option maxRecDepth 100000 in
theorem deep (v : Value) (ns : List Nd) (hns : NsOK ns) (d : Nat) (hd : d < 1000) (ih : DeepIH v ns d) : DeepIH v ns (d + 1) := by
  intro w n R hg hE hR hasc hsh hlen
  have HR := Lib.hid hR
  have HA := Lib.hid hasc
  have HS := Lib.hid hsh
  have HV := Lib.hid hg
  obtain ⟨nd, hnd⟩ : ∃ nd, nd = nodeOf ns n := ⟨_, rfl⟩
  have hE2 : nd.2.length = (groups R).length := by rw [hnd]; exact hE.2.1
  have HE3 : Hid (∀ k (h : k < (groups R).length) (h2 : k < nd.2.length), nd.2[k].1 = (groups R)[k].1 ∧ EachOK d ns (nd.2[k].2 : Nat) (groups R)[k].2) := Lib.hid (by
    intro k h h2
    simp only [hnd] at h2 ⊢
    exact hE.2.2 k h h2)
  obtain ⟨f, hf⟩ : ∃ f, f = fin R := ⟨_, rfl⟩
  have HF1 : Hid (f = (nodeOf ns n).1) := Lib.hid (by rw [hf]; exact hE.1.symm)
  obtain ⟨es, hes⟩ : ∃ es, es = nd.2 := ⟨_, rfl⟩
  have HES : Hid (es = (nodeOf ns n).2) := Lib.hid (by rw [hes, hnd])
  rw [← hes] at hE2
  replace HE3 : Hid (∀ k (h : k < (groups R).length) (h2 : k < es.length), es[k].1 = (groups R)[k].1 ∧ EachOK d ns (es[k].2 : Nat) (groups R)[k].2) := Lib.hid (by subst hes; exact HE3.out)
  have hgl := groups_len R
  have hel : es.length ≤ 1000 := by omega
  have HF := Lib.hid hf
  have HE2 := Lib.hid hE2
  have hdb : ((d + 1 : Nat) : Int) ≤ 1000 := by omega
  have hdp : decide ((0 : Int) < ((d + 1 : Nat) : Int)) = true := decide_eq_true (by omega)
  obtain ⟨D, hD⟩ : ∃ D : Int, D = ((d + 1 : Nat) : Int) := ⟨_, rfl⟩
  rw [← hD] at hdp hdb ⊢
  have hD1 : D - 1 = (d : Int) := by omega
  have HV0 := HV
  clear hE hR hasc hsh hg hnd hE2 hf hes hD
  have hfe := field_edges
  go_enter Try.func38, Try.ntmps38
  go_wp2_with fail
  (with_reducible refine (k31' HV.out HF1.out).mono ?_); rintro e w1 ⟨rfl, hb⟩
  have HB := Lib.hid hb
  replace HV := Lib.hid (HV.out.ext hb)
  clear hb
  cases f
  · have HT0 : Hid (w1.ownsRow w.heap.size 9 1 (.slice none 0 0) (toldK [] R 0).length (strv (toldK [] R 0))) := Lib.hid (by rw [toldK_zero, ← HF.out]; exact World.ownsRow_nil _ _ _ _)
    go_wp2_with fail
    (with_reducible refine (c30 w1 0 v ns n es HV.out HES.out (by omega)).mono ?_); rintro e w2 ⟨A0, rfl, ho, hb⟩
    obtain ⟨A, c, rfl, he⟩ := Edgs.of_own ho
    have hl1 := he.2.1
    have hl2 := he.2.2
    have HE := Lib.hid he
    have HH0 : Hid (Held w1.heap.size w2.heap.size w2 w2 (.slice none 0 0)) := Lib.hid (Held.refl fun b hb => by simp [Value.ownBlock] at hb)
    replace HB := Lib.hid (below_ext HB.out hb)
    replace HV := Lib.hid (HV.out.ext hb)
    replace HT0 := Lib.hid (own_below HT0.out hb)
    clear hb he ho
    go_wp2_with fail
    go_loopw [7, 9] (fun vo i wr => ∃ k : Nat, k ≤ es.length ∧ i = .int .i64 k ∧ Hid (wr.ownsRow w.heap.size 9 1 vo (toldK [] R k).length (strv (toldK [] R k))) ∧ Hid (Below w.heap.size w wr) ∧ Hid (Held w1.heap.size w2.heap.size w2 wr vo)) (fun _ i _ => es.length - (intOf i).toNat)
    case atStart => exact ⟨0, by omega, rfl, HT0, HB, HH0⟩
    case round =>
      obtain ⟨k, hk, rfl, HO, HBK, HB2⟩ := hrel
      obtain ⟨wo, rfl⟩ : ∃ wo : World, wo = wr := ⟨_, rfl⟩
      by_cases hlt : k < es.length
      · have hkg : k < (groups R).length := by rw [← HE2.out]; exact hlt
        obtain ⟨b0, o, rfl, _, hbl, hc1, hc2⟩ := (HB2.out.edgs HE.out).at_ hlt
        obtain ⟨q1, q2⟩ := HE3.out k hkg hlt
        obtain ⟨r, hr⟩ : ∃ r, r = es[k].1 := ⟨_, rfl⟩
        obtain ⟨tn, htn⟩ : ∃ t, t = es[k].2 := ⟨_, rfl⟩
        obtain ⟨G, hG⟩ : ∃ G, G = (groups R)[k].2 := ⟨_, rfl⟩
        rw [← hr] at hc1 q1
        rw [← htn] at hc2 q2
        rw [← hG] at q2
        have hmem : (r, G) ∈ groups R := by rw [q1, hG]; exact List.getElem_mem hkg
        have hokr := group_okR HR.out hmem
        have hGok : okTs G := fun y hy => (okT_cons.1 (HR.out _ ((mem_groups R _ hmem).2 y hy))).2
        have hGasc : G.Pairwise (· < ·) := asc_map (r := r) (HA.out.sublist (groups_sub R _ hmem))
        have hGs : Short 1000 G := short_closed 1000 R HS.out _ hmem
        have hGl : G.length ≤ R.length := groups_each_len _ hmem
        have HTN : Hid (toldK [] R (k + 1) = toldK [] R k ++ told [r] G) := Lib.hid (by rw [toldK_succ [] R k hkg, ← q1, ← hG]; rfl)
        have htl : (toldK [] R k).length + G.length ≤ 1000 := by
          have l2 := toldK_len [] HA.out k hkg
          rw [← hG] at l2
          omega
        obtain ⟨l, hl⟩ : ∃ l, l = told [] G := ⟨_, rfl⟩
        have hll : l.length = G.length := by rw [hl, told_len]
        have HL := Lib.hid hl
        have HIH := Lib.hid fun (w' : World) (h : GraphV w' 0 v ns) => ih.call w' tn G h q2 hGok hGasc hGs (by omega) l HL.out d rfl
        have HOKR := Lib.hid hokr
        obtain ⟨acc, hacc⟩ : ∃ a, a = toldK [] R k := ⟨_, rfl⟩
        rw [← hacc] at htl
        replace HO : Hid (wo.ownsRow w.heap.size 9 1 u7 acc.length (strv acc)) := Lib.hid (by rw [hacc]; exact HO.out)
        replace HTN : Hid (toldK [] R (k + 1) = acc ++ told [r] G) := Lib.hid (by rw [hacc]; exact HTN.out)
        replace HV := Lib.hid (HV0.out.ext HBK.out)
        have hsz : (txt [r]).size ≤ 4 := by rw [txt_size]; exact encL_len (t := [r]) (by simpa [okT] using hokr)
        have hmsz : Hid (∀ t ∈ G, (txt t).size ≤ 4000) := Lib.hid fun t ht => by
          rw [txt_size]
          have h1 := encL_len (hGok t ht)
          have h2 := hGs t ht
          omega
        clear q1 q2 hr htn hG hmem hokr hGok hGasc hGs hl hacc
        have HXA : Hid (Below wo.heap.size wo (wo.alloc (.cells #[.int .i32 r] 21))) := Lib.hid ((Below.refl _ _).alloc (Nat.le_refl _) _)
        go_wp2_with fail
        (with_reducible refine (c76 _ _ _ r HOKR.out (by rw [cell_of_row _ _ _ _ _ _ (heap_alloc_new wo _)]; simp)).mono ?_); rintro e w3 ⟨rfl, hb⟩
        have HB3 := Lib.hid (below_ext HXA.out hb)
        have hc3 := cell_ext hc2 hbl HB3.out
        replace HV := Lib.hid (HV.out.ext HB3.out)
        replace HO := Lib.hid (own_below HO.out HB3.out)
        replace HBK := Lib.hid (below_ext HBK.out HB3.out)
        replace HB2 := Lib.hid (HB2.out.ext HB3.out)
        clear hb HB3 HXA hc1 hc2
        go_wp2_with fail
        (with_reducible refine (HIH.out _ HV.out).mono ?_); rintro e w4 ⟨A4, c4, rfl, _, ho4, hb⟩
        have S4 : Hid (Strs w4 w3.heap.size A4 c4 l) := Lib.hid (by obtain ⟨_, _, e, h⟩ := IsStrs.of_own ho4; cases e; exact h)
        have hl4 := S4.out.2.1
        have hm4 := S4.out.2.2
        have HI4 : Hid (Held w3.heap.size w4.heap.size w4 w4 u7) := Lib.hid (Held.refl fun b hb => (HO.out.lt b hb).2)
        replace HO := Lib.hid (own_below HO.out hb)
        replace HBK := Lib.hid (below_ext HBK.out hb)
        replace HB2 := Lib.hid (HB2.out.ext hb)
        clear ho4 hb HIH hc3
        go_wp2_with fail
        go_loopw [7, 13] (fun vo j wi => ∃ m : Nat, m ≤ l.length ∧ j = .int .i64 m ∧ Hid (wi.ownsRow w.heap.size 9 1 vo (acc ++ (told [r] G).take m).length (strv (acc ++ (told [r] G).take m))) ∧ Hid (Below w.heap.size w wi) ∧ Hid (Held w1.heap.size w2.heap.size w2 wi vo) ∧ Hid (Held w3.heap.size w4.heap.size w4 wi vo)) (fun _ j _ => l.length - (intOf j).toNat)
        case atStart => exact ⟨0, by omega, rfl, Lib.hid (by simpa using HO.out), HBK, HB2, HI4⟩
        case round =>
          obtain ⟨m, hm, rfl, HOi, HBKi, HB2i, HB4i⟩ := hrel
          by_cases hlm : m < l.length
          · obtain ⟨b5, o5, rfl, _, hb5, hc5⟩ := (HB4i.out.strs S4.out).at_ hlm
            obtain ⟨x, hx⟩ : ∃ x, x = l[m] := ⟨_, rfl⟩
            rw [← hx] at hc5
            have hmG : m < G.length := by omega
            have hx2 : x = txt G[m] := by
              rw [hx]
              have := HL.out
              subst this
              simp [told]
            have hxs : x.size ≤ 4000 := by rw [hx2]; exact hmsz.out _ (List.getElem_mem _)
            have HT2 : Hid (acc ++ (told [r] G).take (m + 1) = (acc ++ (told [r] G).take m) ++ [txt [r] ++ x]) := Lib.hid (by
              rw [List.take_succ_eq_append_getElem (by rw [told_len]; exact hmG), List.append_assoc]
              congr 2
              rw [hx2, txt_put]
              simp [told])
            have hal : (acc ++ (told [r] G).take m).length ≤ 1000 := by simp [told_len]; omega
            obtain ⟨ac2, hac2⟩ : ∃ a, a = acc ++ (told [r] G).take m := ⟨_, rfl⟩
            rw [← hac2] at hal
            replace HOi : Hid (wr.ownsRow w.heap.size 9 1 u7 ac2.length (strv ac2)) := Lib.hid (by rw [hac2]; exact HOi.out)
            replace HT2 : Hid (acc ++ (told [r] G).take (m + 1) = ac2 ++ [txt [r] ++ x]) := Lib.hid (by rw [hac2]; exact HT2.out)
            clear hx hx2 hac2
            have hsum : (txt [r]).size + x.size ≤ 9223372036854775807 := by omega
            go_wp2_with (first
              | (at_builtin
                 with_reducible refine wpList_append_rd infoS rfl (.tmp 58) (.tmp 65) rfl w.heap.size _ ac2.length (strv ac2) rfl (HOi.out.alloc _) wr.heap.size (wr.heap.size + 1) _ 1 1 [.string (txt [r] ++ x)] rfl (Rd.new wr _ _) rfl (by simp [Value.oneCell']) (by omega) (by have := HBKi.out.size; simp; omega) ?_
                 intro v1 w1 hown1 hg1 hat1
                 have X := own_step (x := txt [r] ++ x) HOi.out HBKi.out ((Below.refl _ _).alloc (Nat.le_refl _) _) hown1 hg1
                 have Y1 := Lib.hid (HB2i.out.grown ((Below.refl _ _).alloc (Nat.le_refl _) _) hg1 hat1)
                 have Y2 := Lib.hid (HB4i.out.grown ((Below.refl _ _).alloc (Nat.le_refl _) _) hg1 hat1)
                 clear hown1 hg1 hat1))
            go_roundw
            case rel =>
              refine ⟨m + 1, by omega, by go_num, ?_, Lib.hid X.out.2, Y1, Y2⟩
              · rw [HT2.out]
                exact Lib.hid (by simpa using X.out.1)
            case measure => simp [intOf]; omega
          · obtain rfl : m = l.length := by omega
            have HFI : Hid (acc ++ (told [r] G).take l.length = toldK [] R (k + 1)) := Lib.hid (by rw [HTN.out, List.take_of_length_le (by rw [told_len]; omega)])
            rw [HFI.out] at HOi
            go_wp2_with fail
            go_roundw
            case rel =>
              exact ⟨k + 1, by omega, by go_num, HOi, HBKi, HB2i⟩
            case measure => simp [intOf]; omega
      · obtain rfl : k = es.length := by omega
        obtain ⟨Ao, co, rfl, hx1, hx2⟩ := own_slice HO.out
        have HFIN : Hid (toldK [] R es.length = told [] R) := Lib.hid (by rw [HE2.out]; exact (toldK_all [] HA.out).symm)
        go_wp2_with fail
        go_ret
        rw [HFIN.out] at HO hx1
        rw [HFIN.out]
        exact ⟨Ao, co, rfl, ⟨(Rd.of_own HO.out).wide (Nat.zero_le _) (Nat.le_refl _), hx1, hx2⟩, HO.out, HBK.out⟩
  · go_wp2_with (first
      | (at_builtin
         with_reducible refine wpList_append_rd infoS rfl (.tmp 17) (.tmp 18) rfl w.heap.size (.slice none 0 0) 0 [] rfl (World.ownsRow_nil _ _ _ _) w1.heap.size (w1.heap.size + 1) _ 1 1 [.string ⟨#[]⟩] rfl (Rd.new w1 _ _) rfl (by simp [Value.oneCell']) (by omega) (by have := HB.out.size; simp; omega) ?_
         intro v1 wa hown1 hg1 hat1
         have X := own_step (x := ⟨#[]⟩) (acc := []) (World.ownsRow_nil w1 _ _ _) HB.out ((Below.refl _ _).alloc (Nat.le_refl _) _) hown1 hg1
         clear hown1 hg1 hat1))
    have HT0 : Hid (wa.ownsRow w.heap.size 9 1 v1 (toldK [] R 0).length (strv (toldK [] R 0))) := Lib.hid (by rw [toldK_zero, ← HF.out]; exact X.out.1)
    replace HB := Lib.hid X.out.2
    replace HV := Lib.hid (HV0.out.ext HB.out)
    clear X
    go_wp2_with fail
    (with_reducible refine (c30 wa 0 v ns n es HV.out HES.out (by omega)).mono ?_); rintro e w2 ⟨A0, rfl, ho, hb⟩
    obtain ⟨A, c, rfl, he⟩ := Edgs.of_own ho
    have hl1 := he.2.1
    have hl2 := he.2.2
    have HE := Lib.hid he
    have HH0 : Hid (Held wa.heap.size w2.heap.size w2 w2 v1) := Lib.hid (Held.refl fun b hb => (HT0.out.lt b hb).2)
    replace HB := Lib.hid (below_ext HB.out hb)
    replace HV := Lib.hid (HV.out.ext hb)
    replace HT0 := Lib.hid (own_below HT0.out hb)
    clear hb he ho
    go_wp2_with fail
    go_loopw [7, 9] (fun vo i wr => ∃ k : Nat, k ≤ es.length ∧ i = .int .i64 k ∧ Hid (wr.ownsRow w.heap.size 9 1 vo (toldK [] R k).length (strv (toldK [] R k))) ∧ Hid (Below w.heap.size w wr) ∧ Hid (Held wa.heap.size w2.heap.size w2 wr vo)) (fun _ i _ => es.length - (intOf i).toNat)
    case atStart => exact ⟨0, by omega, rfl, HT0, HB, HH0⟩
    case round =>
      obtain ⟨k, hk, rfl, HO, HBK, HB2⟩ := hrel
      obtain ⟨wo, rfl⟩ : ∃ wo : World, wo = wr := ⟨_, rfl⟩
      by_cases hlt : k < es.length
      · have hkg : k < (groups R).length := by rw [← HE2.out]; exact hlt
        obtain ⟨b0, o, rfl, _, hbl, hc1, hc2⟩ := (HB2.out.edgs HE.out).at_ hlt
        obtain ⟨q1, q2⟩ := HE3.out k hkg hlt
        obtain ⟨r, hr⟩ : ∃ r, r = es[k].1 := ⟨_, rfl⟩
        obtain ⟨tn, htn⟩ : ∃ t, t = es[k].2 := ⟨_, rfl⟩
        obtain ⟨G, hG⟩ : ∃ G, G = (groups R)[k].2 := ⟨_, rfl⟩
        rw [← hr] at hc1 q1
        rw [← htn] at hc2 q2
        rw [← hG] at q2
        have hmem : (r, G) ∈ groups R := by rw [q1, hG]; exact List.getElem_mem hkg
        have hokr := group_okR HR.out hmem
        have hGok : okTs G := fun y hy => (okT_cons.1 (HR.out _ ((mem_groups R _ hmem).2 y hy))).2
        have hGasc : G.Pairwise (· < ·) := asc_map (r := r) (HA.out.sublist (groups_sub R _ hmem))
        have hGs : Short 1000 G := short_closed 1000 R HS.out _ hmem
        have hGl : G.length ≤ R.length := groups_each_len _ hmem
        have HTN : Hid (toldK [] R (k + 1) = toldK [] R k ++ told [r] G) := Lib.hid (by rw [toldK_succ [] R k hkg, ← q1, ← hG]; rfl)
        have htl : (toldK [] R k).length + G.length ≤ 1000 := by
          have l2 := toldK_len [] HA.out k hkg
          rw [← hG] at l2
          omega
        obtain ⟨l, hl⟩ : ∃ l, l = told [] G := ⟨_, rfl⟩
        have hll : l.length = G.length := by rw [hl, told_len]
        have HL := Lib.hid hl
        have HIH := Lib.hid fun (w' : World) (h : GraphV w' 0 v ns) => ih.call w' tn G h q2 hGok hGasc hGs (by omega) l HL.out d rfl
        have HOKR := Lib.hid hokr
        obtain ⟨acc, hacc⟩ : ∃ a, a = toldK [] R k := ⟨_, rfl⟩
        rw [← hacc] at htl
        replace HO : Hid (wo.ownsRow w.heap.size 9 1 u7 acc.length (strv acc)) := Lib.hid (by rw [hacc]; exact HO.out)
        replace HTN : Hid (toldK [] R (k + 1) = acc ++ told [r] G) := Lib.hid (by rw [hacc]; exact HTN.out)
        replace HV := Lib.hid (HV0.out.ext HBK.out)
        have hsz : (txt [r]).size ≤ 4 := by rw [txt_size]; exact encL_len (t := [r]) (by simpa [okT] using hokr)
        have hmsz : Hid (∀ t ∈ G, (txt t).size ≤ 4000) := Lib.hid fun t ht => by
          rw [txt_size]
          have h1 := encL_len (hGok t ht)
          have h2 := hGs t ht
          omega
        clear q1 q2 hr htn hG hmem hokr hGok hGasc hGs hl hacc
        have HXA : Hid (Below wo.heap.size wo (wo.alloc (.cells #[.int .i32 r] 21))) := Lib.hid ((Below.refl _ _).alloc (Nat.le_refl _) _)
        go_wp2_with fail
        (with_reducible refine (c76 _ _ _ r HOKR.out (by rw [cell_of_row _ _ _ _ _ _ (heap_alloc_new wo _)]; simp)).mono ?_); rintro e w3 ⟨rfl, hb⟩
        have HB3 := Lib.hid (below_ext HXA.out hb)
        have hc3 := cell_ext hc2 hbl HB3.out
        replace HV := Lib.hid (HV.out.ext HB3.out)
        replace HO := Lib.hid (own_below HO.out HB3.out)
        replace HBK := Lib.hid (below_ext HBK.out HB3.out)
        replace HB2 := Lib.hid (HB2.out.ext HB3.out)
        clear hb HB3 HXA hc1 hc2
        go_wp2_with fail
        (with_reducible refine (HIH.out _ HV.out).mono ?_); rintro e w4 ⟨A4, c4, rfl, _, ho4, hb⟩
        have S4 : Hid (Strs w4 w3.heap.size A4 c4 l) := Lib.hid (by obtain ⟨_, _, e, h⟩ := IsStrs.of_own ho4; cases e; exact h)
        have hl4 := S4.out.2.1
        have hm4 := S4.out.2.2
        have HI4 : Hid (Held w3.heap.size w4.heap.size w4 w4 u7) := Lib.hid (Held.refl fun b hb => (HO.out.lt b hb).2)
        replace HO := Lib.hid (own_below HO.out hb)
        replace HBK := Lib.hid (below_ext HBK.out hb)
        replace HB2 := Lib.hid (HB2.out.ext hb)
        clear ho4 hb HIH hc3
        go_wp2_with fail
        go_loopw [7, 13] (fun vo j wi => ∃ m : Nat, m ≤ l.length ∧ j = .int .i64 m ∧ Hid (wi.ownsRow w.heap.size 9 1 vo (acc ++ (told [r] G).take m).length (strv (acc ++ (told [r] G).take m))) ∧ Hid (Below w.heap.size w wi) ∧ Hid (Held wa.heap.size w2.heap.size w2 wi vo) ∧ Hid (Held w3.heap.size w4.heap.size w4 wi vo)) (fun _ j _ => l.length - (intOf j).toNat)
        case atStart => exact ⟨0, by omega, rfl, Lib.hid (by simpa using HO.out), HBK, HB2, HI4⟩
        case round =>
          obtain ⟨m, hm, rfl, HOi, HBKi, HB2i, HB4i⟩ := hrel
          by_cases hlm : m < l.length
          · obtain ⟨b5, o5, rfl, _, hb5, hc5⟩ := (HB4i.out.strs S4.out).at_ hlm
            obtain ⟨x, hx⟩ : ∃ x, x = l[m] := ⟨_, rfl⟩
            rw [← hx] at hc5
            have hmG : m < G.length := by omega
            have hx2 : x = txt G[m] := by
              rw [hx]
              have := HL.out
              subst this
              simp [told]
            have hxs : x.size ≤ 4000 := by rw [hx2]; exact hmsz.out _ (List.getElem_mem _)
            have HT2 : Hid (acc ++ (told [r] G).take (m + 1) = (acc ++ (told [r] G).take m) ++ [txt [r] ++ x]) := Lib.hid (by
              rw [List.take_succ_eq_append_getElem (by rw [told_len]; exact hmG), List.append_assoc]
              congr 2
              rw [hx2, txt_put]
              simp [told])
            have hal : (acc ++ (told [r] G).take m).length ≤ 1000 := by simp [told_len]; omega
            obtain ⟨ac2, hac2⟩ : ∃ a, a = acc ++ (told [r] G).take m := ⟨_, rfl⟩
            rw [← hac2] at hal
            replace HOi : Hid (wr.ownsRow w.heap.size 9 1 u7 ac2.length (strv ac2)) := Lib.hid (by rw [hac2]; exact HOi.out)
            replace HT2 : Hid (acc ++ (told [r] G).take (m + 1) = ac2 ++ [txt [r] ++ x]) := Lib.hid (by rw [hac2]; exact HT2.out)
            clear hx hx2 hac2
            have hsum : (txt [r]).size + x.size ≤ 9223372036854775807 := by omega
            go_wp2_with (first
              | (at_builtin
                 with_reducible refine wpList_append_rd infoS rfl (.tmp 58) (.tmp 65) rfl w.heap.size _ ac2.length (strv ac2) rfl (HOi.out.alloc _) wr.heap.size (wr.heap.size + 1) _ 1 1 [.string (txt [r] ++ x)] rfl (Rd.new wr _ _) rfl (by simp [Value.oneCell']) (by omega) (by have := HBKi.out.size; simp; omega) ?_
                 intro v1 w1 hown1 hg1 hat1
                 have X := own_step (x := txt [r] ++ x) HOi.out HBKi.out ((Below.refl _ _).alloc (Nat.le_refl _) _) hown1 hg1
                 have Y1 := Lib.hid (HB2i.out.grown ((Below.refl _ _).alloc (Nat.le_refl _) _) hg1 hat1)
                 have Y2 := Lib.hid (HB4i.out.grown ((Below.refl _ _).alloc (Nat.le_refl _) _) hg1 hat1)
                 clear hown1 hg1 hat1))
            go_roundw
            case rel =>
              refine ⟨m + 1, by omega, by go_num, ?_, Lib.hid X.out.2, Y1, Y2⟩
              · rw [HT2.out]
                exact Lib.hid (by simpa using X.out.1)
            case measure => simp [intOf]; omega
          · obtain rfl : m = l.length := by omega
            have HFI : Hid (acc ++ (told [r] G).take l.length = toldK [] R (k + 1)) := Lib.hid (by rw [HTN.out, List.take_of_length_le (by rw [told_len]; omega)])
            rw [HFI.out] at HOi
            go_wp2_with fail
            go_roundw
            case rel =>
              exact ⟨k + 1, by omega, by go_num, HOi, HBKi, HB2i⟩
            case measure => simp [intOf]; omega
      · obtain rfl : k = es.length := by omega
        obtain ⟨Ao, co, rfl, hx1, hx2⟩ := own_slice HO.out
        have HFIN : Hid (toldK [] R es.length = told [] R) := Lib.hid (by rw [HE2.out]; exact (toldK_all [] HA.out).symm)
        go_wp2_with fail
        go_ret
        rw [HFIN.out] at HO hx1
        rw [HFIN.out]
        exact ⟨Ao, co, rfl, ⟨(Rd.of_own HO.out).wide (Nat.zero_le _) (Nat.le_refl _), hx1, hx2⟩, HO.out, HBK.out⟩

end Go.Proofs.Ytepmcfleijiloaa
