/- Contracts of package graph: each with the function of Words; Words. -/
import Derived.Test.YtepmcfleijiloaaH9
import Derived.Laws.Runes
set_option linter.unusedVariables false
namespace Go.Proofs.Ytepmcfleijiloaa
open Go.RowKit

set_option maxHeartbeats 400000 in
set_option maxRecDepth 100000 in
/-- Graph.get, of a graph that lay there before. -/
theorem c75w (w0 w : World) (lo : Nat) (v : Value) (ns : List Nd) (n : Int) (nd : Nd) (h : GraphV w0 lo v ns) (hb0 : Below w0.heap.size w0 w) (hn : nd = nodeOf ns n) :
    Calls Try.prog 75 #[v, .int .i64 n] w fun e w' => ∃ A c, e = .returned (.agg #[.bool nd.1, .slice A nd.2.length c]) ∧ Edgs w0 lo A c nd.2 ∧ Below w.heap.size w w' := by
  by_cases hin : 0 ≤ n ∧ n < ns.length
  · have h1 : 0 ≤ n := hin.1
    have h2 : n < ns.length := hin.2
    have h3 : decide (n < 0) = false := by simp; omega
    have h4 : decide ((ns.length : Int) ≤ n) = false := by simp; omega
    obtain ⟨m, rfl⟩ : ∃ m : Nat, n = m := ⟨n.toNat, by omega⟩
    rw [nodeOf_in (by omega)] at hn
    rcases h with ⟨rfl, rfl⟩ | h
    · simp at h2; omega
    have HB0 := Lib.hid hb0
    have hsz := hb0.size
    obtain ⟨g, A, c, cs, rfl, g2, g3, g4, g5, g6, g7, g8⟩ := h
    have hm : m < ns.length := by omega
    obtain ⟨A', c', hx, he⟩ := g8 m hm (by omega)
    have hf := flat_at cs m (by omega)
    rw [hx] at hf
    obtain ⟨b, o, rfl, _, hb, hc⟩ := g6 (by rw [flat_len]; omega)
    have k1 := hc _ _ hf.1
    have k2 := hc _ _ hf.2
    rw [← Nat.add_assoc] at k2
    rw [Nat.mul_comm] at k1 k2
    rw [← hn] at k1 k2 he
    have hg0 : g < w0.heap.size := (Array.getElem?_eq_some_iff.1 g3).1
    have kg : w.cell? ⟨g, 0, none⟩ = some (.slice (some ⟨b, o, none⟩) ns.length c) := by rw [cell_of_row _ _ _ _ _ _ ((hb0.block g hg0).trans g3)]; rfl
    replace k1 := (World.cell?_of_block (a := ⟨b, o + m * 2, none⟩) (hb0.block b hb)).trans k1
    replace k2 := (World.cell?_of_block (a := ⟨b, o + m * 2 + 1, none⟩) (hb0.block b hb)).trans k2
    have hg : g < w.heap.size := Nat.lt_of_lt_of_le hg0 hsz
    replace hb : b < w.heap.size := Nat.lt_of_lt_of_le hb hsz
    have HE := Lib.hid he
    clear hc hf hx he g8 g6 g3 hn hin hb0
    go_enter Try.func75, Try.ntmps75
    go_wp2
    refine bodyPost_ret (v := .agg #[.bool nd.1, .slice A' nd.2.length c']) (by simp [results, Try.results75, go_sem]) rfl ⟨A', c', rfl, ?_⟩
    have hb : Below w.heap.size w (w.alloc (.cells #[.bool nd.1, .slice A' nd.2.length c'] 93)) := (Below.refl w.heap.size w).alloc (Nat.le_refl _) _
    exact ⟨HE.out, hb⟩
  · rw [nodeOf_out hin] at hn
    subst hn
    by_cases h1 : n < 0
    · clear hin
      go_enter Try.func75, Try.ntmps75
      go_wp2
      refine bodyPost_ret (v := .agg #[.bool false, .slice none 0 0]) (by simp [results, Try.results75, go_sem]) rfl ⟨none, 0, rfl, Edgs.nil_ _ _ _ _ (by omega), (Below.refl w.heap.size w).alloc (Nat.le_refl _) _⟩
    · have h3 : decide (n < 0) = false := by simp; omega
      have h1' : 0 ≤ n := by omega
      have h2 : (ns.length : Int) ≤ n := by omega
      clear hin h1
      rcases h with ⟨rfl, rfl⟩ | h
      · simp at h2
        clear h2
        go_enter Try.func75, Try.ntmps75
        go_wp2
        refine bodyPost_ret (v := .agg #[.bool false, .slice none 0 0]) (by simp [results, Try.results75, go_sem]) rfl ⟨none, 0, rfl, Edgs.nil_ _ _ _ _ (by omega), (Below.refl w.heap.size w).alloc (Nat.le_refl _) _⟩
      · have hg0 := h
        obtain ⟨g, A, c, rfl, hc, g1, g2⟩ := h.lt
        have hg0' : g < w0.heap.size := World.block_lt_of_cell? w0 ⟨g, 0, none⟩ hc
        replace hc := (World.cell?_of_block (a := ⟨g, 0, none⟩) (hb0.block g hg0')).trans hc
        have hg : g < w.heap.size := Nat.lt_of_lt_of_le hg0' hb0.size
        have HB0 := Lib.hid hb0
        clear hb0
        have HG := Lib.hid hg0
        clear hg0 h
        go_enter Try.func75, Try.ntmps75
        go_wp2
        refine bodyPost_ret (v := .agg #[.bool false, .slice none 0 0]) (by simp [results, Try.results75, go_sem]) rfl ⟨none, 0, rfl, Edgs.nil_ _ _ _ _ (by omega), (Below.refl w.heap.size w).alloc (Nat.le_refl _) _⟩

set_option maxHeartbeats 1000000 in
set_option maxRecDepth 100000 in
/-- Words$1 -/
theorem c80 (w : World) (lb : Nat) (acc : List ByteArray) (s : ByteArray) (h : Gath lb acc w) (hn : acc.length ≤ 1000000) :
    Calls Try.prog 80 #[.string s, .pointer (some ⟨lb, 0, none⟩)] w fun e w' => e = .returned (.bool true) ∧ Gath lb (acc ++ [s]) w' ∧ Fr lb w w' := by
  obtain ⟨vl, h1, h2⟩ := h
  obtain ⟨Av, cv, rfl, hv1, hv2⟩ := own_slice h2
  have hl : lb < w.heap.size := (Array.getElem?_eq_some_iff.1 h1).1
  have hc : w.cell? ⟨lb, 0, none⟩ = some (.slice Av acc.length cv) := by rw [cell_of_row _ _ _ _ _ _ h1]; rfl
  have H1 := Lib.hid h1
  have H2 := Lib.hid h2
  clear h1 h2
  go_enter Try.func80, Try.ntmps80
  go_wp2_with (first
    | (at_builtin
       refine wpList_append_rd infoS rfl (.tmp 4) (.tmp 6) rfl (lb + 1) (.slice Av acc.length cv) acc.length (strv acc) rfl (H2.out.alloc _) w.heap.size (w.heap.size + 1) _ 1 1 [.string s] rfl (Rd.new w _ _) rfl (by simp [Value.oneCell']) (by omega) (by simp; omega) ?_
       intro v1 w1 hown1 hg1 hat1
       obtain ⟨A1, c1, rfl, hx1, hx2⟩ := own_slice hown1
       obtain ⟨X1, X2, hc3, hf3⟩ := Gath.put H1.out H2.out ((Below.refl w.heap.size w).alloc (Nat.le_refl _) _) hown1 hg1
       have X := Lib.hid (And.intro X1 X2)
       clear X1 X2 hown1 hg1 hat1))
  go_ret
  exact ⟨rfl, X.out.1, X.out.2⟩

theorem k80 {w : World} {lb : Nat} {acc a1 : List ByteArray} {s : ByteArray} {b1 : Bool} (h : Gath lb acc w) (hn : acc.length ≤ 1000000) (hr : yW acc s = (a1, b1)) :
    Calls Try.prog 80 #[.string s, .pointer (some ⟨lb, 0, none⟩)] w fun e w' => e = .returned (.bool b1) ∧ Gath lb a1 w' ∧ Fr lb w w' := by
  unfold yW at hr
  cases hr
  exact c80 w lb acc s h hn
theorem txt_add (t : List Nat) (r : Nat) : txt t ++ txt [r] = txt (t ++ [r]) := by
  apply txt_ext
  rw [txt_data, encL_append, ByteArray.data_append, Array.toList_append, txt_data, txt_data]
theorem encode_txt {r : Nat} (h : okR r) : Utf8.encode (r : Int) = txt [r] := by
  apply txt_ext
  rw [txt_data, encL_cons, encL_nil, List.append_nil, encR_N h]
  obtain ⟨h1, h2⟩ := h
  have v : Utf8.valid (r : Int) = true := by simp [Utf8.valid]; omega
  unfold encN
  by_cases c1 : r < 128
  · simp [Utf8.encode, v, c1]
  · by_cases c2 : r < 2048
    · simp [Utf8.encode, v, c1, c2]
    · by_cases c3 : r < 65536
      · simp [Utf8.encode, v, c1, c2, c3]
      · simp [Utf8.encode, v, c1, c2, c3]
theorem conv_rune {r : Nat} (h : okR r) (w : World) : (convert 21 9 (.int .i32 r)).run Try.prog w = .ok (.string (txt [r])) w := by
  rw [run_convert_int_string w 21 9 .i32 (r : Int) (by rw [Try.underlying21]; rfl) Try.underlying9, encode_txt h]

/-- each, from a node on. -/
def WordsIH (lb : Nat) (w1 : World) (v : Value) (ns : List Nd) (d : Nat) : Prop := ∀ (w : World) (n : Int) (p : List Nat) (R : Rs) (acc acc' : List ByteArray) (b : Bool), EachOK d ns n R → okT p → okTs R → R.Pairwise (· < ·) → p.length + d ≤ 1000 → acc.length + R.length ≤ 100000 →
  runY yW acc (told p R) = (acc', b) → Gath lb acc w → Below lb w1 w → Calls Try.prog 78 #[v, .int .i64 n, .string (txt p), .func (.func 80) #[] #[.pointer (some ⟨lb, 0, none⟩)]] w fun e w' => e = .returned (.bool b) ∧ Gath lb acc' w' ∧ Fr lb w w'
theorem WordsIH.call {lb : Nat} {w1 : World} {v : Value} {ns : List Nd} {d : Nat} (h : WordsIH lb w1 v ns d) (w : World) (n : Int) (p : List Nat) (R : Rs) (acc acc' : List ByteArray) (b : Bool) (h1 : EachOK d ns n R) (h2 : okT p) (h3 : okTs R) (h4 : R.Pairwise (· < ·)) (h5 : p.length + d ≤ 1000) (h6 : acc.length + R.length ≤ 100000)
    (h7 : runY yW acc (told p R) = (acc', b)) (h8 : Gath lb acc w) (h9 : Below lb w1 w) (s : ByteArray) (hs : s = txt p) : Calls Try.prog 78 #[v, .int .i64 n, .string s, .func (.func 80) #[] #[.pointer (some ⟨lb, 0, none⟩)]] w fun e w' => e = .returned (.bool b) ∧ Gath lb acc' w' ∧ Fr lb w w' := by
  rw [hs]; exact h w n p R acc acc' b h1 h2 h3 h4 h5 h6 h7 h8 h9
theorem wkeep (acc : List ByteArray) (s : ByteArray) : (yW acc s).1.length ≤ acc.length + 1 := by simp [yW]
/-- What has been told of a node's groups. -/
def toldK (p : List Nat) (R : Rs) (k : Nat) : List ByteArray := (if fin R then [txt p] else []) ++ ((groups R).take k).flatMap (fun g => told (p ++ [g.1]) g.2)
theorem toldK_zero (p : List Nat) (R : Rs) : toldK p R 0 = if fin R then [txt p] else [] := by simp [toldK]
theorem toldK_succ (p : List Nat) (R : Rs) (k : Nat) (hk : k < (groups R).length) : toldK p R (k + 1) = toldK p R k ++ told (p ++ [(groups R)[k].1]) (groups R)[k].2 := by
  unfold toldK
  rw [List.take_succ_eq_append_getElem hk, List.flatMap_append, List.append_assoc]
  simp
theorem toldK_all (p : List Nat) {R : Rs} (h : R.Pairwise (· < ·)) : told p R = toldK p R (groups R).length := by
  unfold toldK
  rw [List.take_length, told_groups p h]
theorem toldK_split (p : List Nat) {R : Rs} (h : R.Pairwise (· < ·)) (k : Nat) : told p R = toldK p R k ++ ((groups R).drop k).flatMap (fun g => told (p ++ [g.1]) g.2) := by
  unfold toldK
  rw [told_groups p h, List.append_assoc, ← List.flatMap_append, List.take_append_drop]
theorem toldK_len (p : List Nat) {R : Rs} (h : R.Pairwise (· < ·)) (k : Nat) (hk : k < (groups R).length) : (toldK p R k).length + (groups R)[k].2.length ≤ R.length := by
  have e := congrArg List.length (toldK_split p h (k + 1))
  rw [toldK_succ p R k hk, told_len] at e
  simp only [List.length_append, told_len] at e
  omega

theorem group_okR {R : Rs} (h : okTs R) {g : Nat × Rs} (hg : g ∈ groups R) : okR g.1 := by
  have hm := mem_groups R g hg
  cases e : g.2 with
  | nil => exact absurd e hm.1
  | cons y ys => exact (okT_cons.1 (h _ (hm.2 y (by rw [e]; simp)))).1
theorem told_head (p : List Nat) {R : Rs} (h : R.Pairwise (· < ·)) (hf : fin R = true) : told p R = txt p :: ((groups R).flatMap fun g => told (p ++ [g.1]) g.2) := by
  rw [told_groups p h, if_pos hf]
  rfl

set_option maxHeartbeats 4000000 in
set_option maxRecDepth 100000 in
theorem eachWords (lb : Nat) (w1 : World) (v : Value) (ns : List Nd) (hlb : w1.heap.size ≤ lb) (hns : NsOK ns) (hg : GraphV w1 0 v ns) (d : Nat) (ih : WordsIH lb w1 v ns d) : WordsIH lb w1 v ns (d + 1) := by
  intro w n p R acc acc' b hE hp hR hasc hpd hal hrun hga hB
  have HR := Lib.hid hR
  have HA := Lib.hid hasc
  have HRUN := Lib.hid hrun
  have HG := Lib.hid hga
  have HB := Lib.hid hB
  have HV := Lib.hid (hg.ext (hB.mono hlb))
  have HV1 := Lib.hid hg
  have HNS := Lib.hid hns
  have HP := Lib.hid hp
  obtain ⟨nd, hnd⟩ : ∃ nd, nd = nodeOf ns n := ⟨_, rfl⟩
  have hE1 : nd.1 = fin R := by rw [hnd]; exact hE.1
  have hE2 : nd.2.length = (groups R).length := by rw [hnd]; exact hE.2.1
  have HE3 : Hid (∀ k (h : k < (groups R).length) (h2 : k < nd.2.length), nd.2[k].1 = (groups R)[k].1 ∧ EachOK d ns (nd.2[k].2 : Nat) (groups R)[k].2) := Lib.hid (by
    intro k h h2
    simp only [hnd] at h2 ⊢
    exact hE.2.2 k h h2)
  have hgl := groups_len R
  have HND := Lib.hid hnd
  obtain ⟨f, hf⟩ : ∃ f, f = fin R := ⟨_, rfl⟩
  rw [← hf] at hE1
  have HF := Lib.hid hf
  have HE1 := Lib.hid hE1
  have HE2 := Lib.hid hE2
  have hlbw : lb < w.heap.size := by obtain ⟨vl, h, _⟩ := hga; exact (Array.getElem?_eq_some_iff.1 h).1
  have hpl : p.length ≤ 1000 := by omega
  have hps : (txt p).size ≤ 4000 := by rw [txt_size]; have := encL_len hp; omega
  clear hE hR hasc hrun hga hB hg hns hp hnd hE1 hE2 hf
  go_enter Try.func78, Try.ntmps78
  go_wp2_with fail
  (with_reducible refine (c75w w1 w 0 v ns n nd HV1.out (HB.out.mono hlb) HND.out).mono ?_); rintro e w2 ⟨A, c, rfl, he, hb⟩
  have hl1 := he.2.1
  have hl2 := he.2.2
  have HEG := Lib.hid he
  have HG2 := Lib.hid (HG.out.below hb)
  have HB2 := Lib.hid (HB.out.trans (hb.mono (Nat.le_of_lt hlbw)))
  have HW2 := Lib.hid (Fr.of hb (Nat.le_of_lt hlbw))
  have hlb2 : lb < w2.heap.size := Nat.lt_of_lt_of_le hlbw hb.size
  clear he hb
  rw [HE1.out]
  cases f
  · have HR0 : Hid (runY yW acc (toldK p R 0) = (acc, true)) := Lib.hid (by rw [toldK_zero, ← HF.out]; rfl)
    have HX3 : Hid (Below w2.heap.size w2 (w2.alloc (.cells #[.bool false, .slice A nd.2.length c] 93))) := Lib.hid ((Below.refl _ _).alloc (Nat.le_refl _) _)
    have HG3 := Lib.hid (HG2.out.below HX3.out)
    have HW3 := Lib.hid (HW2.out.trans (Fr.of HX3.out (Nat.le_of_lt hlb2)))
    go_wp2_with fail
    go_loopw [26] (fun i wr => ∃ (k : Nat) (acck : List ByteArray), k ≤ nd.2.length ∧ i = .int .i64 k ∧ Hid (runY yW acc (toldK p R k) = (acck, true)) ∧ Hid (Gath lb acck wr) ∧ Hid (Fr lb w wr)) (fun i _ => nd.2.length - (intOf i).toNat)
    case atStart => exact ⟨0, acc, by omega, rfl, HR0, HG3, HW3⟩
    case round =>
      clear HG3 HW3 HR0
      obtain ⟨k, acck, hk, rfl, HRK, HGK, HFK⟩ := hrel
      obtain ⟨wo, rfl⟩ : ∃ wo : World, wo = wr := ⟨_, rfl⟩
      have hlbo : lb < wo.heap.size := by obtain ⟨vl, h, _⟩ := HGK.out; exact (Array.getElem?_eq_some_iff.1 h).1
      by_cases hlt : k < nd.2.length
      · have hkg : k < (groups R).length := by rw [← HE2.out]; exact hlt
        have HBK := Lib.hid (HB.out.trans HFK.out.below)
        obtain ⟨b0, o, hA, _, _, hc1, hc2⟩ := (HEG.out.ext (HBK.out.mono hlb)).at_ hlt
        cases hA
        obtain ⟨q1, q2⟩ := HE3.out k hkg hlt
        obtain ⟨r, hr⟩ : ∃ r, r = nd.2[k].1 := ⟨_, rfl⟩
        obtain ⟨tn, htn⟩ : ∃ t, t = nd.2[k].2 := ⟨_, rfl⟩
        obtain ⟨G, hG⟩ : ∃ G, G = (groups R)[k].2 := ⟨_, rfl⟩
        rw [← hr] at hc1 q1
        rw [← htn] at hc2 q2
        rw [← hG] at q2
        have hmem : (r, G) ∈ groups R := by rw [q1, hG]; exact List.getElem_mem hkg
        have hokr := group_okR HR.out hmem
        have hGok : okTs G := fun y hy => (okT_cons.1 (HR.out _ ((mem_groups R _ hmem).2 y hy))).2
        have hGasc : G.Pairwise (· < ·) := asc_map (r := r) (HA.out.sublist (groups_sub R _ hmem))
        obtain ⟨⟨acc2, b2⟩, h2⟩ : ∃ z, runY yW acck (told (p ++ [r]) G) = z := ⟨_, rfl⟩
        have HR2 : Hid (runY yW acc (toldK p R (k + 1)) = (acc2, b2)) := Lib.hid (by
          rw [toldK_succ p R k hkg, runY_on HRK.out, ← q1, ← hG]
          exact h2)
        have hlen : acck.length + G.length ≤ 100000 := by
          have l1 := runY_len wkeep (toldK p R k) acc
          rw [HRK.out] at l1
          have l2 := toldK_len p HA.out k hkg
          rw [← hG] at l2
          simp only at l1
          omega
        have hpr : okT (p ++ [r]) := okT_append.2 ⟨HP.out, by simpa [okT] using hokr⟩
        have hconv := conv_rune hokr
        have hsum : (txt p).size + (txt [r]).size ≤ 9223372036854775807 := by
          have l1 := encL_len (t := [r]) (by simpa [okT] using hokr)
          rw [txt_size [r]]
          simp only [List.length_cons, List.length_nil] at l1
          omega
        have HXA : Hid (Below wo.heap.size wo (wo.alloc (.cells #[.int .i32 r, .int .i64 tn] 49))) := Lib.hid ((Below.refl _ _).alloc (Nat.le_refl _) _)
        have HCALL := Lib.hid (ih.call (wo.alloc (.cells #[.int .i32 r, .int .i64 tn] 49)) tn (p ++ [r]) G acck acc2 b2 q2 hpr hGok hGasc (by simp; omega) hlen h2 (HGK.out.below HXA.out) (HBK.out.trans (HXA.out.mono (Nat.le_of_lt hlbo))) (txt p ++ txt [r]) (txt_add p r))
        have HFA := Lib.hid (HFK.out.trans (Fr.of HXA.out (Nat.le_of_lt hlbo)))
        clear q1 q2 hr htn hG hmem hokr hGok hGasc h2 hlen hpr HE3 HBK
        go_wp2_with fail
        (with_reducible refine HCALL.out.mono ?_); rintro e w5 ⟨rfl, hga5, hfr5⟩
        have HG5 := Lib.hid hga5
        have HF5 := Lib.hid (HFA.out.trans hfr5)
        clear hga5 hfr5
        cases b2
        · have hrun2 : Hid ((acc2, false) = (acc', b)) := Lib.hid (by
            rw [← HRUN.out, toldK_split p HA.out (k + 1)]
            exact (runY_off HR2.out).symm)
          obtain ⟨rfl, rfl⟩ := Prod.mk.inj hrun2.out
          go_wp2_with fail
          go_ret
          exact ⟨rfl, HG5.out, HF5.out⟩
        · go_wp2_with fail
          go_roundw
          case rel => exact ⟨k + 1, acc2, by omega, by go_num, HR2, HG5, HF5⟩
          case measure => simp [intOf]; omega
      · obtain rfl : k = nd.2.length := by omega
        have hfin := HRK.out
        rw [HE2.out, ← toldK_all p HA.out, HRUN.out] at hfin
        injection hfin with e1 e2
        subst e1
        subst e2
        go_wp2_with fail
        go_ret
        exact ⟨rfl, HGK.out, HFK.out⟩
  · obtain ⟨⟨a1, b1⟩, h1⟩ : ∃ r, yW acc (txt p) = r := ⟨_, rfl⟩
    have HX3 : Hid (Below w2.heap.size w2 (w2.alloc (.cells #[.bool true, .slice A nd.2.length c] 93))) := Lib.hid ((Below.refl _ _).alloc (Nat.le_refl _) _)
    have HG3 := Lib.hid (HG2.out.below HX3.out)
    have HW3 := Lib.hid (HW2.out.trans (Fr.of HX3.out (Nat.le_of_lt hlb2)))
    have H1 := Lib.hid h1
    clear h1
    go_wp2_with fail
    (with_reducible refine (k80 HG3.out (by omega) H1.out).mono ?_); rintro e w4 ⟨rfl, hga4, hfr4⟩
    have hx4 := hfr4.node w2.heap.size _ (heap_alloc_new w2 _)
    have hcx : w4.cell? ⟨w2.heap.size, 1, none⟩ = some (.slice A nd.2.length c) := by rw [cell_of_row _ _ _ _ _ _ hx4]; rfl
    replace HG3 := Lib.hid hga4
    replace HW3 := Lib.hid (HW3.out.trans hfr4)
    clear hga4 hfr4 hx4
    cases b1
    · have hrun2 : Hid ((a1, false) = (acc', b)) := Lib.hid (by
        have h1 := told_head p HA.out HF.out.symm
        rw [← HRUN.out, h1, runY, H1.out]
        rfl)
      obtain ⟨rfl, rfl⟩ := Prod.mk.inj hrun2.out
      go_wp2_with fail
      go_ret
      exact ⟨rfl, HG3.out, HW3.out⟩
    · have HR0 : Hid (runY yW acc (toldK p R 0) = (a1, true)) := Lib.hid (by
        rw [toldK_zero, ← HF.out]
        show runY yW acc [txt p] = _
        rw [runY, H1.out]
        rfl)
      go_wp2_with fail
      go_loopw [26] (fun i wr => ∃ (k : Nat) (acck : List ByteArray), k ≤ nd.2.length ∧ i = .int .i64 k ∧ Hid (runY yW acc (toldK p R k) = (acck, true)) ∧ Hid (Gath lb acck wr) ∧ Hid (Fr lb w wr)) (fun i _ => nd.2.length - (intOf i).toNat)
      case atStart => exact ⟨0, a1, by omega, rfl, HR0, HG3, HW3⟩
      case round =>
        clear HG3 HW3 HR0
        obtain ⟨k, acck, hk, rfl, HRK, HGK, HFK⟩ := hrel
        obtain ⟨wo, rfl⟩ : ∃ wo : World, wo = wr := ⟨_, rfl⟩
        have hlbo : lb < wo.heap.size := by obtain ⟨vl, h, _⟩ := HGK.out; exact (Array.getElem?_eq_some_iff.1 h).1
        by_cases hlt : k < nd.2.length
        · have hkg : k < (groups R).length := by rw [← HE2.out]; exact hlt
          have HBK := Lib.hid (HB.out.trans HFK.out.below)
          obtain ⟨b0, o, hA, _, _, hc1, hc2⟩ := (HEG.out.ext (HBK.out.mono hlb)).at_ hlt
          cases hA
          obtain ⟨q1, q2⟩ := HE3.out k hkg hlt
          obtain ⟨r, hr⟩ : ∃ r, r = nd.2[k].1 := ⟨_, rfl⟩
          obtain ⟨tn, htn⟩ : ∃ t, t = nd.2[k].2 := ⟨_, rfl⟩
          obtain ⟨G, hG⟩ : ∃ G, G = (groups R)[k].2 := ⟨_, rfl⟩
          rw [← hr] at hc1 q1
          rw [← htn] at hc2 q2
          rw [← hG] at q2
          have hmem : (r, G) ∈ groups R := by rw [q1, hG]; exact List.getElem_mem hkg
          have hokr := group_okR HR.out hmem
          have hGok : okTs G := fun y hy => (okT_cons.1 (HR.out _ ((mem_groups R _ hmem).2 y hy))).2
          have hGasc : G.Pairwise (· < ·) := asc_map (r := r) (HA.out.sublist (groups_sub R _ hmem))
          obtain ⟨⟨acc2, b2⟩, h2⟩ : ∃ z, runY yW acck (told (p ++ [r]) G) = z := ⟨_, rfl⟩
          have HR2 : Hid (runY yW acc (toldK p R (k + 1)) = (acc2, b2)) := Lib.hid (by
            rw [toldK_succ p R k hkg, runY_on HRK.out, ← q1, ← hG]
            exact h2)
          have hlen : acck.length + G.length ≤ 100000 := by
            have l1 := runY_len wkeep (toldK p R k) acc
            rw [HRK.out] at l1
            have l2 := toldK_len p HA.out k hkg
            rw [← hG] at l2
            simp only at l1
            omega
          have hpr : okT (p ++ [r]) := okT_append.2 ⟨HP.out, by simpa [okT] using hokr⟩
          have hconv := conv_rune hokr
          have hsum : (txt p).size + (txt [r]).size ≤ 9223372036854775807 := by
            have l1 := encL_len (t := [r]) (by simpa [okT] using hokr)
            rw [txt_size [r]]
            simp only [List.length_cons, List.length_nil] at l1
            omega
          have HXA : Hid (Below wo.heap.size wo (wo.alloc (.cells #[.int .i32 r, .int .i64 tn] 49))) := Lib.hid ((Below.refl _ _).alloc (Nat.le_refl _) _)
          have HCALL := Lib.hid (ih.call (wo.alloc (.cells #[.int .i32 r, .int .i64 tn] 49)) tn (p ++ [r]) G acck acc2 b2 q2 hpr hGok hGasc (by simp; omega) hlen h2 (HGK.out.below HXA.out) (HBK.out.trans (HXA.out.mono (Nat.le_of_lt hlbo))) (txt p ++ txt [r]) (txt_add p r))
          have HFA := Lib.hid (HFK.out.trans (Fr.of HXA.out (Nat.le_of_lt hlbo)))
          clear q1 q2 hr htn hG hmem hokr hGok hGasc h2 hlen hpr HE3 HBK
          go_wp2_with fail
          (with_reducible refine HCALL.out.mono ?_); rintro e w5 ⟨rfl, hga5, hfr5⟩
          have HG5 := Lib.hid hga5
          have HF5 := Lib.hid (HFA.out.trans hfr5)
          clear hga5 hfr5
          cases b2
          · have hrun2 : Hid ((acc2, false) = (acc', b)) := Lib.hid (by
              rw [← HRUN.out, toldK_split p HA.out (k + 1)]
              exact (runY_off HR2.out).symm)
            obtain ⟨rfl, rfl⟩ := Prod.mk.inj hrun2.out
            go_wp2_with fail
            go_ret
            exact ⟨rfl, HG5.out, HF5.out⟩
          · go_wp2_with fail
            go_roundw
            case rel => exact ⟨k + 1, acc2, by omega, by go_num, HR2, HG5, HF5⟩
            case measure => simp [intOf]; omega
        · obtain rfl : k = nd.2.length := by omega
          have hfin := HRK.out
          rw [HE2.out, ← toldK_all p HA.out, HRUN.out] at hfin
          injection hfin with e1 e2
          subst e1
          subst e2
          go_wp2_with fail
          go_ret
          exact ⟨rfl, HGK.out, HFK.out⟩

theorem allWords (lb : Nat) (w1 : World) (v : Value) (ns : List Nd) (hlb : w1.heap.size ≤ lb) (hns : NsOK ns) (hg : GraphV w1 0 v ns) : ∀ d, WordsIH lb w1 v ns d
  | 0 => fun _ _ _ _ _ _ _ h => h.elim
  | d + 1 => eachWords lb w1 v ns hlb hns hg d (allWords lb w1 v ns hlb hns hg d)
theorem told_nil (R : Rs) : told [] R = R.map txt := by simp [told]

set_option maxHeartbeats 1000000 in
set_option maxRecDepth 100000 in
/-- Graph.Words -/
theorem c45 (w : World) (v : Value) (ns : List Nd) (d : Nat) (R : Rs) (hg : GraphV w 0 v ns) (hns : NsOK ns) (hE : EachOK d ns 0 R) (hok : okTs R) (hasc : R.Pairwise (· < ·)) (hd : d ≤ 1000) (hn : R.length ≤ 100000) (l : List ByteArray) (hl : l = R.map txt) :
    Calls Try.prog 45 #[v] w fun e w' => ∃ A c, e = .returned (.slice A l.length c) ∧ w'.ownsRow w.heap.size 9 1 (.slice A l.length c) l.length (strv l) ∧ Below w.heap.size w w' := by
  have hcall := (allWords w.heap.size w v ns (Nat.le_refl _) hns hg d).call (w.alloc (.cells #[.slice none 0 0] 22)) 0 [] R [] (told [] R) true hE (by simp [okT]) hok hasc (by simpa using hd) (by simpa using hn) (by rw [runW]; rfl) (Gath.start w) ((Below.refl _ _).alloc (Nat.le_refl _) _) ⟨#[]⟩ rfl
  rw [told_nil, ← hl] at hcall
  have HC := Lib.hid hcall
  clear hcall hl
  have hmf : ∀ (fn : Fn) (first cap : Array Value) (w : World), (Instr.makeFunc fn first cap).run Try.prog w = .ok (.func fn first cap) w := fun _ _ _ _ => rfl
  go_enter Try.func45, Try.ntmps45
  go_wp2_with fail
  (with_reducible refine HC.out.mono ?_); rintro e w2 ⟨rfl, ⟨vl, g1, g2⟩, hfr⟩
  obtain ⟨A, c, rfl, hc1, hc2⟩ := own_slice g2
  have hc : w2.cell? ⟨w.heap.size, 0, none⟩ = some (.slice A l.length c) := by rw [cell_of_row _ _ _ _ _ _ g1]; rfl
  have HO := Lib.hid g2
  have HF := Lib.hid hfr
  clear g1 g2 hfr
  go_wp2_with fail
  go_ret
  exact ⟨A, c, rfl, own_low HO.out (by omega), ((Below.refl _ _).alloc (Nat.le_refl _) _).trans HF.out.below⟩

end Go.Proofs.Ytepmcfleijiloaa
