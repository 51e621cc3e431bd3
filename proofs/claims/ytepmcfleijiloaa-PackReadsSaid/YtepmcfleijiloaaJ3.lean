/- Contract of the reference's add. -/
import Derived.Test.YtepmcfleijiloaaJ2
import Derived.Deep.RegionHeld3
import Derived.Deep.RegionLaw
import Derived.Outline
set_option linter.unusedVariables false
set_option linter.unusedSimpArgs false
namespace Go.Proofs.Ytepmcfleijiloaa
open Go.RowKit

theorem c100' {w : World} {A C : Option Addr} {c e n m : Nat} {S T : Rs} (hx : Strs w 0 A c (S.map txt)) (hy : Strs w 0 C e (T.map txt)) (hn : n = S.length) (hm : m = T.length) (hS : okTs S) (hT : okTs T) (b : Bool) (hb : decide (S = T) = b) :
    Calls Try.prog 100 #[.slice A n c, .slice C m e] w fun r w' => r = .returned (.bool b) ∧ Drawn w w' := by
  have h := c100 w 0 0 A C c e (S.map txt) (T.map txt) hx hy
  rw [List.length_map, List.length_map, ← hn, ← hm] at h
  refine h.mono ?_
  rintro r w' ⟨h1, h2⟩
  refine ⟨?_, h2⟩
  rw [h1, ← hb]
  congr 2
  rw [decide_eq_decide]
  exact ⟨map_txt hS hT, fun h => by rw [h]⟩
theorem idx_first1 {T : Rs} : ∀ (N : List Rs) (k : Nat) (h : k < N.length), N[k] = T → (∀ j (h : j < N.length), j < k → N[j] ≠ T) → N.idxOf T = k
  | [], k, h, _, _ => by simp at h
  | x :: N, 0, _, he, _ => by
    have he' : x = T := he
    rw [he', List.idxOf_cons_self]
  | x :: N, k + 1, h, he, hf => by
    have h0 : x ≠ T := hf 0 (by simp) (by omega)
    have := idx_first1 N k (by simpa using h) (by simpa using he) (fun j hj hjk => by have := hf (j + 1) (by simpa using hj) (by omega); simpa using this)
    rw [List.idxOf_cons, this]
    have hb : (x == T) = false := by simpa using h0
    rw [hb]
    rfl
theorem idx_first {N : List Rs} {T : Rs} {k : Nat} (h : k < N.length) (he : N[k] = T) (hf : ∀ j (h : j < N.length), j < k → N[j] ≠ T) : N.idxOf T = k ∧ T ∈ N :=
  ⟨idx_first1 N k h he hf, by rw [← he]; exact List.getElem_mem _⟩
theorem Strs.dr {w : World} {lo c : Nat} {A : Option Addr} {ss : List ByteArray} (h : Strs w lo A c ss) (n : Nat) : Strs (w.drewN n) lo A c ss := h.ext (below_drewN (Below.refl _ _) n)
theorem StrS.strs {w : World} {B c : Nat} {A : Option Addr} {ss : List ByteArray} (h : StrS w B A c ss) : Strs w 0 A c ss := h.1
theorem Rst.start {w w3 wa : World} {B gb : Nat} {N : List Rs} {T : Rs} {cs : List (Value × Value)} {v v1 : Value} {A : Option Addr} {c n : Nat} (hgb : B ≤ gb) (kg : w.heap[gb]? = some (.cells #[v] 38 (0, 0))) (kl : cs.length = N.length) (kn : w.ownsRow B 97 2 v N.length (flat cs))
    (kr : ∀ i (_ : i < cs.length) (_ : i < N.length), ∃ A c, cs[i].1 = .slice A N[i].length c ∧ StrS w B A c (N[i].map txt)) (hn : n = T.length) (hs : StrS w B A c (T.map txt)) (hb : Below w.heap.size w wa)
    (ho : w3.ownsRow B 97 2 v1 (N.length + 1) (flat cs ++ [.slice A n c, .slice none 0 0])) (hg : wa.grownBy w3 v.ownBlock) :
    Rst (w3.setCell ⟨gb, 0, none⟩ v1) B (.pointer (some ⟨gb, 0, none⟩)) (N ++ [T]) (cs ++ [(.slice A n c, .slice none 0 0)]) ∧ Keep B w (w3.setCell ⟨gb, 0, none⟩ v1) ∧ w3.cell? ⟨gb, 0, none⟩ = some v ∧ w3.frozen? ⟨gb, 0, none⟩ = false := by
  have ka := own_below kn hb
  have hga : wa.heap[gb]? = some (.cells #[v] 38 (0, 0)) := (hb.block gb (Array.getElem?_eq_some_iff.1 kg).1).trans kg
  have hg3 : w3.heap[gb]? = some (.cells #[v] 38 (0, 0)) := by
    refine (hg.block gb (Array.getElem?_eq_some_iff.1 hga).1 (fun e => ?_)).trans hga
    obtain ⟨_, cur, h⟩ := own_block97 ka gb e.symm
    rw [hga] at h
    cases h
  have hk3 : Keep B w w3 := (Keep.of_below hb B).grown hg fun r hr => .inr (by
    obtain ⟨h1, cur, h2⟩ := own_block97 ka r hr
    exact ⟨h1, _, h2, rfl⟩)
  have hk : Keep B w (w3.setCell ⟨gb, 0, none⟩ v1) := hk3.setCell (.inr ⟨hgb, _, hg3, rfl⟩) v1
  refine ⟨⟨gb, v1, rfl, hgb, ?_, by simp [kl], ?_, fun i h1 h2 => ?_⟩, hk, by rw [cell_of_row _ _ _ _ _ _ hg3]; rfl, by simp [World.frozen?, hg3]⟩
  · simp [World.setCell, Array.getElem?_modify, hg3]
  · rw [flat_append]
    refine own_of_block (by simpa [flat] using ho) fun g hg' => Below.heap_setCell _ _ _ _ (fun e => ?_)
    have e : g = gb := e
    obtain ⟨_, cur, h1⟩ := own_block97 ho g hg'
    rw [e, hg3] at h1; cases h1
  · rcases Nat.lt_or_ge i cs.length with h3 | h3
    · obtain ⟨A', c', e, h⟩ := kr i h3 (by omega)
      refine ⟨A', c', ?_, ?_⟩
      · simp only [List.getElem_append_left h3, List.getElem_append_left (show i < N.length by omega)]
        exact e
      · simp only [List.getElem_append_left (show i < N.length by omega)]
        exact h.keep hk
    · have : i = cs.length := by simp at h1; omega
      subst this
      refine ⟨A, c, ?_, ?_⟩
      · simp [kl, hn]
      · simp only [kl, List.getElem_concat_length]
        exact hs.keep hk

theorem head_eq {r : Nat} {u : List Nat} (hr : okR r) (hu : okT u) {s h : ByteArray} (hs : s = txt (u.take 1)) (hh : h = txt [r]) : (s.toList == h.toList) = isHd r u := by
  rw [Bool.eq_iff_iff, beq_iff_eq, ← data_ext, hs, hh, txt_inj (fun q hq => hu q (List.mem_of_mem_take hq)) (fun q hq => by simp at hq; subst hq; exact hr)]
  rw [isHd_iff]
  cases u with
  | nil => simp
  | cons a y => simp

theorem flat_set2 (cs : List (Value × Value)) (x : Value × Value) (y : Value) (more : List (Value × Value)) :
    (flat (cs ++ [x] ++ more)).set (cs.length * 2 + 1) y = flat (cs ++ [(x.1, y)] ++ more) := by
  rw [flat_append, flat_append, flat_append, flat_append, List.append_assoc, List.append_assoc]
  rw [List.set_append_right _ _ (by rw [flat_len]; omega), flat_len]
  simp [flat]
/-- The node is laid. -/
theorem rnode_end {B d : Nat} {w wo : World} {gb g cap c7 : Nat} {N : List Rs} {T : Rs} {cs more : List (Value × Value)} {done : List (Nat × Rs)} {A7 : Option Addr} {x1 : Value}
    (hm : T ∉ N) (hT : OkQ (d + 1) T) (he : groups T = done) (hgb : B ≤ gb) (hcs : cs.length = N.length) (hml : N.length + 1 + more.length = (addG d (N ++ [T]) done).length)
    (kg : wo.heap[gb]? = some (.cells #[.slice (some ⟨g, 0, none⟩) (addG d (N ++ [T]) done).length cap] 38 (0, 0)))
    (kn : wo.ownsRow B 97 2 (.slice (some ⟨g, 0, none⟩) (addG d (N ++ [T]) done).length cap) (addG d (N ++ [T]) done).length (flat (cs ++ [(x1, Value.slice none 0 0)] ++ more)))
    (kr : ∀ i (_ : i < (cs ++ [(x1, Value.slice none 0 0)] ++ more).length) (_ : i < (addG d (N ++ [T]) done).length), ∃ A c, (cs ++ [(x1, Value.slice none 0 0)] ++ more)[i].1 = .slice A (addG d (N ++ [T]) done)[i].length c ∧ StrS wo B A c ((addG d (N ++ [T]) done)[i].map txt))
    (ho : wo.ownsRow w.heap.size 49 2 (.slice A7 done.length c7) done.length (edgv (edgD (addG d (N ++ [T]) done) done)))
    (hnd : ∀ i (_ : i < more.length) (h2 : N.length + 1 + i < (addG d (N ++ [T]) done).length), NodeS wo w.heap.size (Value.slice A7 done.length c7).ownBlock (.bool (fin (addG d (N ++ [T]) done)[N.length + 1 + i]), more[i].2) (ndOf (addG d (N ++ [T]) done) (addG d (N ++ [T]) done)[N.length + 1 + i]))
    (hk : Keep B w wo) :
    RefPost B w (.pointer (some ⟨gb, 0, none⟩)) (d + 1) N T cs (.returned (.int .i64 (N.length : Nat))) (wo.setCell ⟨g, N.length * 2 + 1, none⟩ (.slice A7 done.length c7)) := by
  have hC : addN (d + 1) N T = addG d (N ++ [T]) done := by rw [addN_new d N T hm, he]
  obtain ⟨hgB, cur, hg1⟩ := own_block97 kn g rfl
  have k2 := kn.stored (N.length * 2 + 1) (.slice A7 done.length c7)
  have hk2 : Keep B w (wo.setCell ⟨g, N.length * 2 + 1, none⟩ (.slice A7 done.length c7)) := hk.setCell (.inr ⟨hgB, _, hg1, rfl⟩) _
  have hko : Keep B wo (wo.setCell ⟨g, N.length * 2 + 1, none⟩ (.slice A7 done.length c7)) := (Keep.refl B wo).setCell (.inr ⟨hgB, _, hg1, rfl⟩) _
  have hsame : ∀ k, k ≠ g → (wo.setCell ⟨g, N.length * 2 + 1, none⟩ (.slice A7 done.length c7)).heap[k]? = wo.heap[k]? := fun k hkg => Below.heap_setCell _ _ _ _ hkg
  have hne : ∀ k t o, wo.heap[k]? = some (.cells o t (0, 0)) → t ≠ 97 → k ≠ g := by
    intro k t o hk ht e
    rw [e, hg1] at hk
    injection hk with hk
    injection hk with _ hk
    exact ht hk.symm
  have hnode : ∀ ex x nd, NodeS wo w.heap.size ex x nd → NodeS (wo.setCell ⟨g, N.length * 2 + 1, none⟩ (.slice A7 done.length c7)) w.heap.size none x nd := fun ex x nd h =>
    (h.low (Nat.le_refl _) (fun k _ _ => by simp)).same fun k cur2 _ _ hk2 => (hsame k (hne k _ _ hk2 (by decide))).trans hk2
  refine ⟨(x1, .slice A7 done.length c7) :: more, ?_, ?_, ?_, hk2⟩
  · rw [hC, idx_new d N T done hm]
  · rw [hC]
    refine ⟨gb, _, rfl, hgb, (hsame gb (hne gb _ _ kg (by decide))).trans kg, by simp [hcs]; omega, ?_, fun i h1 h2 => ?_⟩
    · have e := flat_set2 cs (x1, .slice none 0 0) (.slice A7 done.length c7) more
      rw [hcs] at e
      have h := k2.1
      simp only at e
      rw [e] at h
      simpa using h
    · obtain ⟨A, c, e, h⟩ := kr i (by simpa using h1) h2
      refine ⟨A, c, ?_, h.keep hko⟩
      rw [← e]
      rcases Nat.lt_trichotomy i cs.length with h3 | h3 | h3
      · simp [h3]
      · subst h3; simp [List.getElem_append]
      · simp [List.getElem_append, List.getElem_cons, show ¬ i < cs.length by omega, show ¬ i - cs.length = 0 by omega, show ¬ i < cs.length + 1 by omega]
  · simp only [hC]
    intro i hi h2
    rcases i with _ | i
    · simp only [List.getElem_cons_zero, Nat.add_zero]
      have e : (addG d (N ++ [T]) done)[N.length] = T := by
        obtain ⟨M, hM⟩ := addG_ext d done (N ++ [T])
        simp only [hM]
        rw [List.getElem_append_left (by simp), List.getElem_append_right (by simp)]
        simp
      rw [e]
      refine hnode none _ _ ⟨A7, c7, ?_, ?_, ?_, ?_⟩
      · unfold ndOf
        simp only [← edgD_all, he, edgD_len]
      · have := RdT.of_own ho
        unfold ndOf
        simp only [← edgD_all, he]
        exact this
      · unfold ndOf
        simp only [← edgD_all, he, edgD_len]
        obtain ⟨A, c, e1, e2, e3⟩ := own_slice ho
        cases e1
        exact e2
      · obtain ⟨A, c, e1, e2, e3⟩ := own_slice ho
        cases e1
        exact e3
    · simp only [List.getElem_cons_succ]
      have h3 := hnode _ _ _ (hnd i (by simpa using hi) (by omega))
      have e : N.length + (i + 1) = N.length + 1 + i := by omega
      simp only [e]
      exact h3

set_option maxHeartbeats 8000000 in
set_option maxRecDepth 100000 in
/-- The reference's add, of rests or none. -/
theorem ref_any (B d : Nat) (ih : RefIH B d) (w : World) (p : Value) (N : List Rs) (cs : List (Value × Value)) (A : Option Addr) (c n : Nat) (T : Rs) (hn : n = T.length) (hT : OkQ (d + 1) T) (hB : B ≤ w.heap.size) (hst : Rst w B p N cs) (hN : ∀ x ∈ N, okTs x) (hd : N.Nodup)
    (hsize : N.length + 1 + total T ≤ 1000000) (hs : StrS w B A c (T.map txt)) : Calls Try.prog 73 #[p, .slice A n c] w (RefPost B w p (d + 1) N T cs) := by
  have HST := Lib.hid hst
  obtain ⟨gb, v, rfl, hgb, kg, kl, kn, kr⟩ := hst
  obtain ⟨Ar, cr, rfl, hc1, hc2⟩ := own_slice kn
  have KG := Lib.hid kg
  have KL := Lib.hid kl
  have KN := Lib.hid kn
  have KR := Lib.hid kr
  have HT := Lib.hid hT
  have HNN := Lib.hid hN
  have HD := Lib.hid hd
  have HS := Lib.hid hs
  have HNL := Lib.hid hn
  have hgl : gb < w.heap.size := (Array.getElem?_eq_some_iff.1 kg).1
  have hcg : w.cell? ⟨gb, 0, none⟩ = some (.slice Ar N.length cr) := by rw [cell_of_row _ _ _ _ _ _ kg]; rfl
  have hNl : N.length ≤ 1000000 := by omega
  have hTl : n ≤ 1000 := by have := hT.len; omega
  have hcA : n ≤ c := by have := hs.1.2.1; rw [List.length_map] at this; omega
  have hcB : c ≤ 9223372036854775807 := hs.1.2.2
  clear kg kl kn kr hT hN hd hs hn
  go_enter Try.func73, Try.ntmps73
  go_wp2_with fail
  go_loopw [5] (fun i wr => ∃ k : Nat, k ≤ N.length ∧ i = .int .i64 k ∧ Hid (∀ j (h : j < N.length), j < k → N[j] ≠ T) ∧ Drawn w wr) (fun i _ => N.length - (intOf i).toNat)
  case atStart => exact ⟨0, by omega, rfl, Lib.hid fun j h h2 => by omega, Drawn.refl _⟩
  case round =>
    obtain ⟨k, hk, rfl, HF, ⟨nd, rfl⟩⟩ := hrel
    by_cases hlt : k < N.length
    · obtain ⟨g, cap, hv, hg1, hg2⟩ := KN.out.form (by omega)
      cases hv
      obtain ⟨A', c', e1, hs1⟩ := KR.out k (by have := KL.out; omega) hlt
      have hcell : w.cell? ⟨g, k * 2, none⟩ = some (.slice A' N[k].length c') := by
        rw [KN.out.cellAt (k * 2) (by omega), Nat.mul_comm, (flat_at cs k (by have := KL.out; omega)).1, e1]
      have HS1 := Lib.hid hs1
      clear hs1 e1
      obtain ⟨R, hR⟩ : ∃ R, R = N[k] := ⟨_, rfl⟩
      rw [← hR] at hcell HS1
      have HR := Lib.hid hR
      clear hR
      by_cases he : R = T
      · have HE := Lib.hid he
        clear he
        go_wp2_with fail
        (with_reducible refine (c100' (S := R) (T := T) (HS1.out.strs.dr nd) (HS.out.strs.dr nd) rfl HNL.out (by rw [HR.out]; exact HNN.out _ (List.getElem_mem _)) HT.out.ok true (decide_eq_true HE.out)).mono ?_); rintro e w1 ⟨rfl, n1, rfl⟩
        go_wp2_with fail
        go_ret
        obtain ⟨h1, h2⟩ := idx_first hlt (HR.out.symm.trans HE.out) HF.out
        refine ⟨[], ?_, ?_, by simp, ?_⟩
        · rw [addN_old d N T h2, h1]; rfl
        · rw [addN_old d N T h2, List.append_nil]
          exact HST.out.below (below_drewN (Below.refl _ _) _)
        · exact (Keep.refl B w).drewN _
      · have HE := Lib.hid he
        clear he
        go_wp2_with fail
        (with_reducible refine (c100' (S := R) (T := T) (HS1.out.strs.dr nd) (HS.out.strs.dr nd) rfl HNL.out (by rw [HR.out]; exact HNN.out _ (List.getElem_mem _)) HT.out.ok false (decide_eq_false HE.out)).mono ?_); rintro e w1 ⟨rfl, n1, rfl⟩
        go_wp2_with fail
        go_roundw
        case rel =>
          refine ⟨k + 1, by omega, by go_num, Lib.hid fun j h h2 => ?_, ⟨_, rfl⟩⟩
          rcases Nat.lt_or_ge j k with h3 | h3
          · exact HF.out j h h3
          · obtain rfl : j = k := by omega
            rw [← HR.out]; exact HE.out
        case measure => simp [intOf]; omega
    · have HM : Hid (T ∉ N) := Lib.hid (fun hm => by
        obtain ⟨j, hj, e⟩ := List.getElem_of_mem hm
        exact HF.out j hj (by omega) e)
      clear HF
      go_wp2_with (first
        | (at_builtin
           refine wpList_append_rd infoR8 rfl (.tmp 42) (.tmp 45) rfl B (.slice Ar N.length cr) N.length (flat cs) rfl (own_below KN.out (by repeat (first | exact Below.refl _ _ | apply below_drewN | apply Below.drew | (refine Below.alloc ?_ (by simp) _)))) _ _ _ 1 1 [.slice A n c, .slice none 0 0] rfl (by first | exact Rd.two _ _ _ _ | exact Rd.drewN (Rd.two _ _ _ _) _) rfl (by simp [Value.oneCell']) (by omega) (by simp; omega) ?_
           intro v1 w3 hown1 hg1 hat1
           obtain ⟨A1, c1, rfl, hx1, hx2⟩ := own_slice hown1
           obtain ⟨X1, X2, hc3, hf3⟩ := Rst.start hgb KG.out KL.out KN.out KR.out HNL.out HS.out (by repeat (first | exact Below.refl _ _ | apply below_drewN | apply Below.drew | (refine Below.alloc ?_ (by simp) _))) hown1 hg1
           have XX := Lib.hid (And.intro X1 X2)
           clear X1 X2 hown1 hg1 hat1))
      go_loopw [7, 8] (fun v7 v8 wr => RRel B w (.pointer (some ⟨gb, 0, none⟩)) d N T (.slice A n c) cs v7 v8 wr) (fun _ v8 _ => T.length - (intOf v8).toNat)
      case atStart => exact ⟨0, T, [], [], rfl, by omega, rfl, rfl, World.ownsRow_nil _ _ _ _, by simpa [addG_nil] using XX.out.1, by simp, XX.out.2⟩
      case round =>
        clear XX hc3 hf3
        obtain ⟨k, T1, done, more, rfl, hk, hTd, hE, hown, hst2, hnodes, hKeep⟩ := hrel
        obtain ⟨wo, rfl⟩ : ∃ wo : World, wo = wr := ⟨_, rfl⟩
        subst hTd
        have HE := Lib.hid hE
        have HO := Lib.hid hown
        have HST2 := Lib.hid hst2
        have HND := Lib.hid hnodes
        have HK := Lib.hid hKeep
        have HSo := Lib.hid (HS.out.keep hKeep)
        clear hE hown hst2 hnodes hKeep
        by_cases hkl : k < n
        · have hkT : k < T.length := by have := HNL.out; omega
          obtain ⟨u, hu⟩ : ∃ u, u = T[k] := ⟨_, rfl⟩
          obtain ⟨T2, hT2⟩ : ∃ T2, T2 = T.drop (k + 1) := ⟨_, rfl⟩
          have hdr : T.drop k = u :: T2 := by rw [List.drop_eq_getElem_cons hkT, hu, hT2]
          obtain ⟨b, o, rfl, hb0, hb1, hcs⟩ := HSo.out.strs.all (by simp; omega)
          have hcu : wo.cell? ⟨b, o + k, none⟩ = some (.string (txt u)) := by
            have := hcs k (by simpa using hkT)
            rw [List.getElem_map, ← hu] at this
            exact this
          have HTd := Lib.hid hdr
          have HT2 := Lib.hid hT2
          have huo : okT u := by rw [hu]; exact HT.out.ok _ (List.getElem_mem _)
          have hul : u.length ≤ 100000 := by rw [hu]; exact Nat.le_trans (total_mem (List.getElem_mem _)) HT.out.tot
          clear hcs hdr hT2 hu
          rcases u with _ | ⟨r, x⟩
          · have hem : (txt []).toList = [] := by rw [txt_empty]
            have hem2 : (txt []).toList.isEmpty = true := by rw [hem]; rfl
            go_wp2_with fail
            go_roundw
            case rel => exact ⟨k + 1, _, done, more, by go_num, by omega, rfl, by rw [HE.out, HTd.out, groups_emp, HT2.out], HO.out, HST2.out, HND.out, HK.out⟩
            case measure => simp [intOf]; omega
          · have hem : ¬ (txt (r :: x)).toList = [] := by rw [txt_empty]; simp
            have hem2 : (txt (r :: x)).toList.isEmpty = false := by simpa using hem
            have hsz : (txt (r :: x)).size ≤ 1000000 := by
              rw [txt_size]
              have := encL_len huo
              omega
            obtain ⟨g1, g2⟩ := gotRunes_txt huo
            have h101 := c101 (txt (r :: x)) wo hsz
            rw [g1, g2] at h101
            have H101 := Lib.hid h101
            clear h101 g1 g2
            obtain ⟨hd1, hhd⟩ : ∃ h : ByteArray, h = txt [r] := ⟨_, rfl⟩
            have HHD := Lib.hid hhd
            clear hhd
            go_wp2_with fail
            (with_reducible refine H101.out.mono ?_); rintro e w2 ⟨v9, rfl, ho9, hb9⟩
            obtain ⟨A9, c9, rfl, hc91, hc92⟩ := own_slice ho9
            have hcu2 := (World.cell?_of_block (a := ⟨b, o + k, none⟩) (hb9.block b hb1)).trans hcu
            have HO9 := Lib.hid ho9
            have HB9 := Lib.hid hb9
            clear ho9 hb9
            go_wp2_with fail
            (with_reducible refine (c102 w2 (r :: x) huo hul hd1 (HHD.out.trans (congrArg txt (by simp : [r] = List.take 1 (r :: x))))).mono ?_); rintro e w3 ⟨rfl, hb3⟩
            have HBP : Hid (Below w2.heap.size w2 w3) := Lib.hid hb3
            have HBX := Lib.hid (below_ext HB9.out hb3)
            have HKX := Lib.hid (HK.out.then_below HBX.out)
            clear hb3
            go_wp2_with fail
            go_loopw [8, 12] (fun i v wi => ∃ q : Nat, k + q ≤ n ∧ i = .int .i64 ((k + q : Nat) : Int) ∧ wi.ownsRow w3.heap.size 9 1 v q (strv ((((r :: x) :: T2).take q).map fun t => txt t.tail)) ∧ Below w3.heap.size w3 wi ∧ ∀ t ∈ ((r :: x) :: T2).take q, isHd r t = true) (fun i _ _ => n - (intOf i).toNat)
            case atStart => exact ⟨0, by omega, rfl, World.ownsRow_nil _ _ _ _, Below.refl _ _, by simp⟩
            case round =>
              obtain ⟨q, hq, rfl, hown4, hbi, hall⟩ := hrel
              obtain ⟨wi, rfl⟩ : ∃ wi : World, wi = wr := ⟨_, rfl⟩
              obtain ⟨Av, cv, rfl, hv1, hv2⟩ := own_slice hown4
              have HO4 := Lib.hid hown4
              have HBI := Lib.hid hbi
              have HALL := Lib.hid hall
              clear hown4 hbi hall
              have HSI := Lib.hid ((HS.out.keep (HKX.out.then_below HBI.out)))
              obtain ⟨b', o', hbo, _, hbl, hci⟩ := HSI.out.strs.all (by simp; omega)
              cases hbo
              have hT2l : T2.length + 1 + k = T.length := by have := congrArg List.length HTd.out; simp at this; omega
              by_cases hlt : k + q < n
              · have hqT : k + q < T.length := by have := HNL.out; omega
                obtain ⟨u, hu⟩ : ∃ u, u = T[k + q] := ⟨_, rfl⟩
                have hcu : wi.cell? ⟨b, o + (k + q), none⟩ = some (.string (txt u)) := by
                  have := hci (k + q) (by simpa using hqT)
                  rw [List.getElem_map, ← hu] at this
                  exact this
                have huo2 : okT u := by rw [hu]; exact HT.out.ok _ (List.getElem_mem _)
                have hul2 : u.length ≤ 100000 := by rw [hu]; exact Nat.le_trans (total_mem (List.getElem_mem _)) HT.out.tot
                have HU : Hid (u = ((r :: x) :: T2)[q]'(by simp; omega)) := by
                  have : ((r :: x) :: T2)[q]? = some u := by rw [← HTd.out, List.getElem?_drop, hu]; exact List.getElem?_eq_getElem _
                  exact Lib.hid (List.getElem_eq_iff _ |>.2 this).symm
                obtain ⟨s1, hs1⟩ : ∃ h : ByteArray, h = txt (u.take 1) := ⟨_, rfl⟩
                have hcmp := head_eq (okT_cons.1 huo).1 huo2 hs1 HHD.out
                have HS1 := Lib.hid hs1
                clear hs1 hci hu
                by_cases hh : isHd r u = true
                · obtain ⟨y, rfl⟩ := isHd_iff.1 hh
                  rw [hh] at hcmp
                  have HCM := Lib.hid hcmp
                  have hxs : hd1.size ≤ (txt (r :: y)).size := by
                    rw [HHD.out, txt_size, encL_cons, encL_nil, List.append_nil]; exact (txt_pos r y).1
                  have hxe : (txt (r :: y)).extract hd1.size (txt (r :: y)).size = txt y := by
                    rw [HHD.out, txt_size [r], encL_cons, encL_nil, List.append_nil]; exact txt_tail r y
                  have HT4 := Lib.hid (take_snoc4 (r := r) (y := y) ((r :: x) :: T2) q (by simp; omega) HU.out.symm HALL.out)
                  have hq2 : q ≤ 1000 := by omega
                  clear hh hcmp
                  go_wp2_with fail
                  (with_reducible refine (c102 wi (r :: y) huo2 hul2 s1 HS1.out).mono ?_); rintro e w4 ⟨rfl, hb4⟩
                  have hcm := HCM.out
                  have hcu4 := (World.cell?_of_block (a := ⟨b, o + (k + q), none⟩) (hb4.block b hbl)).trans hcu
                  have HB4 := Lib.hid hb4
                  clear hb4
                  go_wp2_with (first
                    | (at_builtin
                       refine wpList_append_rd infoS rfl (.tmp 86) (.tmp 94) rfl w3.heap.size (.slice Av q cv) q (strv ((((r :: x) :: T2).take q).map fun t => txt t.tail)) rfl (own_below (own_below HO4.out HB4.out) ((by repeat (first | exact Below.refl _ _ | apply below_drewN | apply Below.drew | (refine Below.alloc ?_ (by simp) _))))) _ _ _ 1 1 [.string (txt y)] rfl (by first | exact Rd.new _ _ _ | exact Rd.drewN (Rd.new _ _ _) _) rfl (by simp [Value.oneCell']) (by omega) (by have := HBI.out.size; have := HB4.out.size; simp; omega) ?_
                       intro v1 w6 hown1 hg1 hat1
                       have X := own_step (x := txt y) (own_below HO4.out HB4.out) (below_ext HBI.out HB4.out) (by repeat (first | exact Below.refl _ _ | apply below_drewN | apply Below.drew | (refine Below.alloc ?_ (by simp) _))) hown1 hg1
                       clear hown1 hg1 hat1))
                  go_roundw
                  case rel => exact ⟨q + 1, by omega, by go_num, by rw [HT4.out.1]; exact X.out.1, X.out.2, HT4.out.2⟩
                  case measure => simp [intOf]; omega
                · have hh' : isHd r u = false := by simpa using hh
                  rw [hh'] at hcmp
                  have HCM := Lib.hid hcmp
                  have HEX : Hid (∀ h : q < ((r :: x) :: T2).length, isHd r (((r :: x) :: T2)[q]) = false) := Lib.hid (fun h => by rw [← HU.out]; exact hh')
                  clear hh hh' hcmp
                  go_wp2_with fail
                  (with_reducible refine (c102 wi u huo2 hul2 s1 HS1.out).mono ?_); rintro e w4 ⟨rfl, hb4⟩
                  have hcm := HCM.out
                  have HB4 := Lib.hid hb4
                  clear hb4
                  replace HO4 := Lib.hid (own_below HO4.out HB4.out)
                  replace HBI := Lib.hid (below_ext HBI.out HB4.out)
                  clear hcu
                  go_wp2_with fail
                  obtain ⟨e1, e2⟩ := take_exit ((r :: x) :: T2) q HALL.out HEX.out
                  have hk1 : 1 ≤ q := by
                    rcases Nat.eq_zero_or_pos q with h | h
                    · subst h
                      have := HEX.out (by simp)
                      simp [isHd_cons] at this
                    · exact h
                  have hG : Hid (((((r :: x) :: T2).take q).map fun t => txt t.tail) = (x :: grp r T2).map txt) := by
                    rw [e1, ← grp_yes]
                    unfold grp
                    rw [List.map_map]
                    exact Lib.hid rfl
                  rw [remv_yes] at e2
                  have hkG : Hid (q = (x :: grp r T2).length) := by
                    have h1 := HO4.out.1
                    rw [hG.out, strv_len, List.length_map] at h1
                    exact Lib.hid (by omega)
                  have hE2 : Hid (groups T = done ++ (r, x :: grp r T2) :: groups (remv r T2)) := Lib.hid (by rw [HE.out, HTd.out, groups_cons])
                  have hD3 : Hid (T.drop (k + q) = remv r T2) := Lib.hid (by rw [← List.drop_drop, HTd.out]; exact e2)
                  have hOKG := Lib.hid (HT.out.group (g := (r, x :: grp r T2)) (by rw [hE2.out]; simp)).1
                  have hSZ : (addG d (N ++ [T]) done).length + 1 + total (x :: grp r T2) ≤ N.length + 1 + total T := st_size (g := (r, x :: grp r T2)) hE2.out
                  clear e1 e2
                  have hSG : Hid (StrS w4 B Av cv ((x :: grp r T2).map txt)) := by
                    have h1 := HO4.out
                    rw [hG.out] at h1
                    have h2 := hkG.out
                    refine Lib.hid (StrS.of_own (k := q) (by rw [List.length_map, ← h2]; exact h1))
                  have hbw : Hid (Below wo.heap.size wo w4) := Lib.hid (below_ext HBX.out HBI.out)
                  have hl0 : Hid (w4.ownsRow wo.heap.size 21 1 (.slice A9 (x.length + 1) c9) (x.length + 1) (i32v (r :: x))) := Lib.hid (own_below HO9.out (below_ext HBP.out HBI.out))
                  obtain ⟨lb, lcap, hlv, _, hlt9⟩ := hl0.out.form (by omega)
                  cases hlv
                  have hcl : w4.cell? ⟨lb, 0, none⟩ = some (.int .i32 r) := by rw [hl0.out.cellAt 0 (by omega)]; rfl
                  have hdl : done.length ≤ 1000 := by
                    have h1 := congrArg List.length HE.out
                    have h2 := groups_len T
                    have h3 := HT.out.len
                    simp only [List.length_append] at h1
                    omega
                  go_region_law (first
                    | (refine step_append_rd infoE (by rfl) (.tmp 98) (.tmp 106) (by rfl) w.heap.size u7 done.length (edgv (edgD (addG d (N ++ [T]) done) done)) (by rfl) (own_below HO5.out (by repeat (first | exact Below.refl _ _ | apply below_drewN | apply Below.drew | (refine Below.alloc ?_ (by simp) _)))) _ _ _ 1 1 [.int .i32 r, .int .i64 (((addN d (addG d (N ++ [T]) done) (x :: grp r T2)).idxOf (x :: grp r T2) : Nat))] (by rfl) (by first | exact Rd.two _ _ _ _ | exact Rd.drewN (Rd.two _ _ _ _) _) (by rfl) (by simp [Value.oneCell']) (by omega) (by simp; omega) ?_; intro v6 w6 hown1 hg1 hat1; have X : Hid (RRel B w (.pointer (some ⟨gb, 0, none⟩)) d N T (.slice (some ⟨b, o, none⟩) n c) cs v6 (.int .i64 ((k + q : Nat) : Int)) w6) := Lib.hid (r_step HD.out HM.out HT.out hE2.out (by omega) hD3.out hB HO5.out HST5.out (by have := HST2.out.len; simp [KL.out] at this; omega) (fun i hi h2 => ((HND.out i hi h2).below hsz5.out).keep HKK.out) (fun i hi h2 => (HND5.out i hi h2).low (Nat.le_trans HK.out.size hsz5.out.size) (fun k hk _ e => by have := HO.out.lt k e.symm; have := hsz5.out.size; omega)) HK5.out (by repeat (first | exact Below.refl _ _ | apply below_drewN | apply Below.drew | (refine Below.alloc ?_ (by simp) _))) hown1 hg1 hat1); clear hown1 hg1 hat1)
                    | (go_simp; go_at_call 73; (with_reducible refine (ih.call w4.drew (.pointer (some ⟨gb, 0, none⟩)) (addG d (N ++ [T]) done) (cs ++ [(.slice (some ⟨b, o, none⟩) n c, .slice none 0 0)] ++ more) Av cv q (x :: grp r T2) hkG.out hOKG.out (Nat.le_trans hB (Nat.le_trans HK.out.size (Below.drew hbw.out).size)) (HST2.out.below (Below.drew hbw.out)) (sq_ok HNN.out HT.out HE.out) (st_nodup HD.out HM.out) (by omega) (hSG.out.below (Below.drew (Below.refl _ _)))).mono ?_); rintro e w5 ⟨more2, rfl, hst5, hnd5, hk5⟩; have HST5 := Lib.hid hst5; have HND5 := Lib.hid hnd5; have HK5 := Lib.hid ((HK.out.then_below (Below.drew hbw.out)).trans hk5); have HO5 := Lib.hid (own_keep (own_below HO.out (Below.drew hbw.out)) rfl hk5); have hws : w.heap.size ≤ w5.heap.size := HK5.out.size; have hsz5 : Hid (Below wo.heap.size wo w4.drew) := Lib.hid (Below.drew hbw.out); have HKK := Lib.hid hk5; have hcl5 : w5.cell? ⟨lb, 0, none⟩ = some (.int .i32 r) := (by have h9 := own_keep (own_below hl0.out (Below.drew (Below.refl _ _))) rfl hk5; rw [h9.cellAt 0 (by omega)]; rfl); clear hst5 hnd5 hk5))
                  all_goals
                    go_wp2_with fail
                    go_roundw
                    case rel => exact X.out
                    case measure => simp [intOf]; omega
              · have HEX : Hid (∀ h : q < ((r :: x) :: T2).length, isHd r (((r :: x) :: T2)[q]) = false) := Lib.hid (fun h => by simp at h; have := HNL.out; omega)
                clear hci
                have hqT : k + q ≤ T.length := by have := HNL.out; omega
                go_wp2_with fail
                obtain ⟨e1, e2⟩ := take_exit ((r :: x) :: T2) q HALL.out HEX.out
                have hk1 : 1 ≤ q := by
                  rcases Nat.eq_zero_or_pos q with h | h
                  · subst h
                    have := HEX.out (by simp)
                    simp [isHd_cons] at this
                  · exact h
                have hG : Hid (((((r :: x) :: T2).take q).map fun t => txt t.tail) = (x :: grp r T2).map txt) := by
                  rw [e1, ← grp_yes]
                  unfold grp
                  rw [List.map_map]
                  exact Lib.hid rfl
                rw [remv_yes] at e2
                have hkG : Hid (q = (x :: grp r T2).length) := by
                  have h1 := HO4.out.1
                  rw [hG.out, strv_len, List.length_map] at h1
                  exact Lib.hid (by omega)
                have hE2 : Hid (groups T = done ++ (r, x :: grp r T2) :: groups (remv r T2)) := Lib.hid (by rw [HE.out, HTd.out, groups_cons])
                have hD3 : Hid (T.drop (k + q) = remv r T2) := Lib.hid (by rw [← List.drop_drop, HTd.out]; exact e2)
                have hOKG := Lib.hid (HT.out.group (g := (r, x :: grp r T2)) (by rw [hE2.out]; simp)).1
                have hSZ : (addG d (N ++ [T]) done).length + 1 + total (x :: grp r T2) ≤ N.length + 1 + total T := st_size (g := (r, x :: grp r T2)) hE2.out
                clear e1 e2
                have hSG : Hid (StrS wi B Av cv ((x :: grp r T2).map txt)) := by
                  have h1 := HO4.out
                  rw [hG.out] at h1
                  have h2 := hkG.out
                  refine Lib.hid (StrS.of_own (k := q) (by rw [List.length_map, ← h2]; exact h1))
                have hbw : Hid (Below wo.heap.size wo wi) := Lib.hid (below_ext HBX.out HBI.out)
                have hl0 : Hid (wi.ownsRow wo.heap.size 21 1 (.slice A9 (x.length + 1) c9) (x.length + 1) (i32v (r :: x))) := Lib.hid (own_below HO9.out (below_ext HBP.out HBI.out))
                obtain ⟨lb, lcap, hlv, _, hlt9⟩ := hl0.out.form (by omega)
                cases hlv
                have hcl : wi.cell? ⟨lb, 0, none⟩ = some (.int .i32 r) := by rw [hl0.out.cellAt 0 (by omega)]; rfl
                have hdl : done.length ≤ 1000 := by
                  have h1 := congrArg List.length HE.out
                  have h2 := groups_len T
                  have h3 := HT.out.len
                  simp only [List.length_append] at h1
                  omega
                go_region_law (first
                  | (refine step_append_rd infoE (by rfl) (.tmp 98) (.tmp 106) (by rfl) w.heap.size u7 done.length (edgv (edgD (addG d (N ++ [T]) done) done)) (by rfl) (own_below HO5.out (by repeat (first | exact Below.refl _ _ | apply below_drewN | apply Below.drew | (refine Below.alloc ?_ (by simp) _)))) _ _ _ 1 1 [.int .i32 r, .int .i64 (((addN d (addG d (N ++ [T]) done) (x :: grp r T2)).idxOf (x :: grp r T2) : Nat))] (by rfl) (by first | exact Rd.two _ _ _ _ | exact Rd.drewN (Rd.two _ _ _ _) _) (by rfl) (by simp [Value.oneCell']) (by omega) (by simp; omega) ?_; intro v6 w6 hown1 hg1 hat1; have X : Hid (RRel B w (.pointer (some ⟨gb, 0, none⟩)) d N T (.slice (some ⟨b, o, none⟩) n c) cs v6 (.int .i64 ((k + q : Nat) : Int)) w6) := Lib.hid (r_step HD.out HM.out HT.out hE2.out (by omega) hD3.out hB HO5.out HST5.out (by have := HST2.out.len; simp [KL.out] at this; omega) (fun i hi h2 => ((HND.out i hi h2).below hsz5.out).keep HKK.out) (fun i hi h2 => (HND5.out i hi h2).low (Nat.le_trans HK.out.size hsz5.out.size) (fun k hk _ e => by have := HO.out.lt k e.symm; have := hsz5.out.size; omega)) HK5.out (by repeat (first | exact Below.refl _ _ | apply below_drewN | apply Below.drew | (refine Below.alloc ?_ (by simp) _))) hown1 hg1 hat1); clear hown1 hg1 hat1)
                  | (go_simp; go_at_call 73; (with_reducible refine (ih.call wi.drew (.pointer (some ⟨gb, 0, none⟩)) (addG d (N ++ [T]) done) (cs ++ [(.slice (some ⟨b, o, none⟩) n c, .slice none 0 0)] ++ more) Av cv q (x :: grp r T2) hkG.out hOKG.out (Nat.le_trans hB (Nat.le_trans HK.out.size (Below.drew hbw.out).size)) (HST2.out.below (Below.drew hbw.out)) (sq_ok HNN.out HT.out HE.out) (st_nodup HD.out HM.out) (by omega) (hSG.out.below (Below.drew (Below.refl _ _)))).mono ?_); rintro e w5 ⟨more2, rfl, hst5, hnd5, hk5⟩; have HST5 := Lib.hid hst5; have HND5 := Lib.hid hnd5; have HK5 := Lib.hid ((HK.out.then_below (Below.drew hbw.out)).trans hk5); have HO5 := Lib.hid (own_keep (own_below HO.out (Below.drew hbw.out)) rfl hk5); have hws : w.heap.size ≤ w5.heap.size := HK5.out.size; have hsz5 : Hid (Below wo.heap.size wo wi.drew) := Lib.hid (Below.drew hbw.out); have HKK := Lib.hid hk5; have hcl5 : w5.cell? ⟨lb, 0, none⟩ = some (.int .i32 r) := (by have h9 := own_keep (own_below hl0.out (Below.drew (Below.refl _ _))) rfl hk5; rw [h9.cellAt 0 (by omega)]; rfl); clear hst5 hnd5 hk5))
                all_goals
                  go_wp2_with fail
                  go_roundw
                  case rel => exact X.out
                  case measure => simp [intOf]; omega
        · have hEd : Hid (groups T = done) := Lib.hid (by
            have h := HE.out
            rw [List.drop_of_length_le (by have := HNL.out; omega), groups_nil, List.append_nil] at h
            exact h)
          obtain ⟨gb', v', hp', q2, kg', kl', kn', kr'⟩ := HST2.out
          cases hp'
          have hmlen : N.length + 1 + more.length = (addG d (N ++ [T]) done).length := by have := kl'; simp [KL.out] at this; omega
          obtain ⟨g, cap, rfl, hg1, hg2⟩ := kn'.form (by omega)
          have hnl : N.length < (addG d (N ++ [T]) done).length := by omega
          obtain ⟨hy0, hy1⟩ := kn'.three (N.length * 2 + 1) (by omega)
          have cg0 : wo.cell? ⟨gb, 0, none⟩ = some (.slice (some ⟨g, 0, none⟩) (addG d (N ++ [T]) done).length cap) := by rw [cell_of_row _ _ _ _ _ _ kg']; rfl
          obtain ⟨A7, c7, rfl, hv1, hv2⟩ := own_slice HO.out
          have KG2 := Lib.hid kg'
          have KN2 := Lib.hid kn'
          have KR2 := Lib.hid kr'
          clear kg' kl' kn' kr'
          obtain ⟨z1, hz1⟩ := hy0
          go_wp2_with fail
          go_ret
          exact rnode_end HM.out HT.out hEd.out hgb KL.out hmlen KG2.out KN2.out KR2.out HO.out HND.out HK.out

/-- The reference's add -/
theorem c73 (B : Nat) : ∀ d, RefIH B d
  | 0 => fun w p N cs A c n T hn hT => absurd (hT.short.pos hT.ne) (by omega)
  | d + 1 => fun w p N cs A c n T hn hT hB hst hN hd hs hs1 => ref_any B d (c73 B d) w p N cs A c n T hn hT.okQ hB hst hN hd hs hs1

end Go.Proofs.Ytepmcfleijiloaa
