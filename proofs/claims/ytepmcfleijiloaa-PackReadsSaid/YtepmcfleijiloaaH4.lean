/- Contract of graph's builder: node. -/
import Derived.Test.YtepmcfleijiloaaH3
set_option linter.unusedVariables false
namespace Go.Proofs.Ytepmcfleijiloaa
open Go.RowKit

theorem Bst.len {w : World} {B : Nat} {p : Value} {N : List Rs} {cs : List (Value × Value)} (h : Bst w B p N cs) : cs.length = N.length := by
  obtain ⟨_, _, _, _, _, _, _, _, _, _, _, h8, _⟩ := h
  exact h8
theorem NodeIH.call {B d : Nat} (h : NodeIH B d) (w : World) (p : Value) (N : List Rs) (cs : List (Value × Value)) (A : Option Addr) (c n : Nat) (T : Rs) (h1 : n = T.length) (h2 : OkR d T) (h3 : B ≤ w.heap.size) (h4 : Bst w B p N cs) (h5 : ∀ x ∈ N, OkN x) (h6 : N.Nodup) (h7 : N.length + 1 + total T ≤ 1000000)
    (h8 : Strs w 0 A c (T.map txt)) (h9 : SafeA B w A) : Calls Try.prog 72 #[p, .slice A n c] w (NodePost B w p d N T cs) := h w p N cs A c n T h1 h2 h3 h4 h5 h6 h7 h8 h9
theorem _root_.Go.World.ownsRow.three {w : World} {base : Nat} {e : TypeId} {size g n cap : Nat} {xs : List Value} (h : w.ownsRow base e size (.slice (some ⟨g, 0, none⟩) n cap) n xs) (j : Nat) (hj : j < n * size) : (∃ u, w.cell? ⟨g, j, none⟩ = some u) ∧ w.frozen? ⟨g, j, none⟩ = false := by
  refine ⟨?_, h.frozenAt j⟩
  rw [h.cellAt j hj]
  exact ⟨_, List.getElem?_eq_getElem (by rw [h.1]; exact hj)⟩
theorem groups_len : ∀ T : Rs, (groups T).length ≤ T.length := by
  intro T
  induction T using groups_ind with
  | h0 => rw [groups_nil]; simp
  | h1 T ih => rw [groups_emp]; simp; omega
  | h2 r x T ih =>
    rw [groups_cons]
    have := remv_len r T
    simp; omega

set_option maxHeartbeats 4000000 in
set_option maxRecDepth 100000 in
/-- New rests. -/
theorem node_new (B d : Nat) (ih : NodeIH B d) (w : World) (p : Value) (N : List Rs) (cs : List (Value × Value)) (A : Option Addr) (c : Nat) (T : Rs) (hT : OkR (d + 1) T) (hB : B ≤ w.heap.size) (hst : Bst w B p N cs) (hN : ∀ x ∈ N, OkN x) (hd : N.Nodup)
    (hs : Strs w 0 A c (T.map txt)) (hsa : SafeA B w A) (hm : T ∉ N) (hsize : N.length + 1 + total T ≤ 1000000) : Calls Try.prog 72 #[p, .slice A T.length c] w (NodePost B w p (d + 1) N T cs) := by
  obtain ⟨pb, gb, mb, v, rfl, hpb, hgb, hmb, kp, kg, km, kl, kn⟩ := hst
  have HS := Lib.hid hs
  have HT := Lib.hid hT
  have HM := Lib.hid hm
  have HK := Lib.hid km
  have HP := Lib.hid kp
  have HG := Lib.hid kg
  have HKL := Lib.hid kl
  have HKN := Lib.hid kn
  have HNN := Lib.hid hN
  have HD := Lib.hid hd
  have HSA := Lib.hid hsa
  have HCS := Lib.hid kl
  clear kp kg km kl kn hs hT hm hN hd hsa
  obtain ⟨Ar, cr, rfl, hc1, hc2⟩ := own_slice HKN.out
  go_enter Try.func72, Try.ntmps72
  go_wp2_with fail
  (with_reducible refine (c97 _ T HT.out w A c HS.out).mono ?_); rintro e w1 ⟨rfl, hb⟩
  have cp0 : w1.cell? ⟨pb, 0, none⟩ = some (.pointer (some ⟨gb, 0, none⟩)) := by
    rw [World.cell?_of_block (a := ⟨pb, 0, none⟩) (hb.block pb (Array.getElem?_eq_some_iff.1 HP.out).1), cell_of_row _ _ _ _ _ _ HP.out]; rfl
  have cp1 : w1.cell? ⟨pb, 1, none⟩ = some (.map (some mb)) := by
    rw [World.cell?_of_block (a := ⟨pb, 1, none⟩) (hb.block pb (Array.getElem?_eq_some_iff.1 HP.out).1), cell_of_row _ _ _ _ _ _ HP.out]; rfl
  have cg : w1.cell? ⟨gb, 0, none⟩ = some (.slice Ar N.length cr) := by
    rw [World.cell?_of_block (a := ⟨gb, 0, none⟩) (hb.block gb (Array.getElem?_eq_some_iff.1 HG.out).1), cell_of_row _ _ _ _ _ _ HG.out]; rfl
  have hK1 := HK.out.kept (row := none) ⟨hb.os, hb.tape, hb.output, hb.size, fun i hi _ => hb.block i hi⟩ (by simp)
  obtain ⟨c0, hlk⟩ := look_new hK1 HNN.out HD.out ⟨HT.out.ne, HT.out.ok⟩ HM.out HT.out.key
  obtain ⟨w2, hup, hK2, hg2⟩ := upd_new hK1 (T := T) HT.out.key (by omega)
  have HK2 := Lib.hid hK2
  have HG2 := Lib.hid hg2
  have HBB := Lib.hid hb
  clear hb hK1 hK2 hg2
  have B1 : Hid (Blk w1 pb gb mb (.slice Ar N.length cr)) := Lib.hid (Blk.below ⟨HP.out, HG.out⟩ HBB.out)
  have B2 : Hid (Blk w2 pb gb mb (.slice Ar N.length cr)) := Lib.hid
    ⟨(HG2.out.block pb (Array.getElem?_eq_some_iff.1 B1.out.p).1 (fun e => by injection e with e; exact map_ne (HK.out.kept (below_grownBy HBB.out) (by simp)) B1.out.p e)).trans B1.out.p,
     (HG2.out.block gb (Array.getElem?_eq_some_iff.1 B1.out.g).1 (fun e => by injection e with e; exact map_ne (HK.out.kept (below_grownBy HBB.out) (by simp)) B1.out.g e)).trans B1.out.g⟩
  have K2 : Hid (w2.ownsRow B 93 2 (.slice Ar N.length cr) N.length (flat cs)) := Lib.hid (own_of_block (own_below HKN.out HBB.out) fun g hg => by
    obtain ⟨_, o, h1, _, cur, rfl⟩ := own_block93 (own_below HKN.out HBB.out) g hg
    exact HG2.out.block g (Array.getElem?_eq_some_iff.1 h1).1 (fun e => by injection e with e; exact map_ne (HK.out.kept (below_grownBy HBB.out) (by simp)) h1 e))
  have K02 : Hid (Keep B w w2) := Lib.hid ((Keep.of_below HBB.out B).grown HG2.out fun r hr => .inr (by
    injection hr with hr
    subst hr
    obtain ⟨es, cl, h1, _⟩ := HK.out.kept (below_grownBy HBB.out) (by simp)
    exact ⟨hmb, _, h1, rfl⟩))
  have hs2 : B ≤ w2.heap.size := Nat.le_trans hB (Nat.le_trans HBB.out.size HG2.out.size)
  obtain ⟨dp0, dg0, dgf⟩ := B2.out.cel
  have hpl : pb < w2.heap.size := (Array.getElem?_eq_some_iff.1 B2.out.p).1
  have hgl : gb < w2.heap.size := (Array.getElem?_eq_some_iff.1 B2.out.g).1
  go_wp2_with fail
  go_cut [] (fun wx => Bst wx B (.pointer (some ⟨pb, 0, none⟩)) (N ++ [T]) (cs ++ [(.bool false, .slice none 0 0)]) ∧ Keep B w2 wx)
  case first =>
    go_region_law ((refine step_append_rd infoN (by rfl) (.tmp 52) (.tmp 54) (by rfl) B (.slice Ar N.length cr) N.length (flat cs) (by rfl) (own_below K2.out (by repeat (first | exact Below.refl _ _ | apply below_drewN | apply Below.drew | (refine Below.alloc ?_ (by simp) _)))) _ _ _ 1 1 [.bool false, .slice none 0 0] (by rfl) (by first | exact Rd.two _ _ _ _ | exact Rd.drewN (Rd.two _ _ _ _) _) (by rfl) (by simp [Value.oneCell']) (by omega) (by first | exact hs2 | (simp; omega)) ?_; intro v1 w3 hown1 hg1 hat1; obtain ⟨A1, c1, rfl, hx1, hx2⟩ := own_slice hown1; have X := Lib.hid (mid_done hpb hgb hmb B2.out K2.out HK2.out HKL.out (by repeat (first | exact Below.refl _ _ | apply below_drewN | apply Below.drew | (refine Below.alloc ?_ (by simp) _))) hown1 hg1); have Y := after_app B2.out K2.out (by repeat (first | exact Below.refl _ _ | apply below_drewN | apply Below.drew | (refine Below.alloc ?_ (by simp) _))) hg1; obtain ⟨ep0, eg0, egf⟩ := Y.cel; clear Y hown1 hg1 hat1))
    all_goals
      go_wp2_with fail
      go_meet
      case rel => exact X.out
  case rest =>
    obtain ⟨hb3, hk3⟩ := hcut
    have KW : Hid (Keep B w wc) := Lib.hid (K02.out.trans hk3)
    have BST := Lib.hid hb3
    have S1 := Lib.hid (HS.out.safe HSA.out KW.out)
    have SA1 := Lib.hid (HSA.out.keep KW.out)
    clear hb3 hk3 HK HP HG HKL HKN HBB B1 HK2 HG2 B2 K2 dp0 dg0 dgf hpl hgl cp0 cp1 cg hlk hup K02
    have hLT := HT.out.len
    have hcap1 := S1.out.2.1
    have hcap2 := S1.out.2.2
    rw [List.length_map] at hcap1
    rcases T with _ | ⟨t, T'⟩
    · exact absurd rfl HT.out.ne
    obtain ⟨b, o, rfl, hb0, hb1, hc0⟩ := S1.out.1.at_ (k := 0) (by simp [strv])
    have hc0' : wc.cell? ⟨b, o, none⟩ = some (.string (txt t)) := by simpa [strv] using hc0
    clear hc0
    simp only [List.length_cons] at hcap1 hLT
    obtain ⟨f, hf⟩ : ∃ f : Bool, (txt t).toList.isEmpty = f := ⟨_, rfl⟩
    go_upto_if 67 with fail
    have HF := Lib.hid hf
    clear hf
    go_cut [1] (fun v1 wx => GStart B w (t :: T') wc v1 wx)
    case first =>
      rcases t with _ | ⟨r, x⟩
      · obtain rfl : f = true := by
          rw [← HF.out, List.isEmpty_iff, txt_empty]
        have hmt := HS.out.1
        simp only [List.map_cons, strv] at hmt
        have HMT := Lib.hid (hmt.tail (d := c) (by simpa using hcap1))
        clear hmt
        have HSA2 := Lib.hid HSA.out
        clear S1 SA1 HS HSA
        by_cases hc1 : c = 1
        · subst hc1
          rw [if_pos rfl] at HMT
          go_wp2_with fail
          go_meet
          case rel => 
            obtain rfl : T' = [] := List.length_eq_zero_iff.1 (by omega)
            exact ⟨rfl, some ⟨b, o, none⟩, 0, 0, [], rfl, rfl, ⟨HMT.out, by simp, by omega⟩, HSA2.out, OkL.of_nil HT.out, groups_emp []⟩
        · rw [if_neg hc1] at HMT
          go_wp2_with fail
          go_meet
          case rel => 
            refine ⟨rfl, some ⟨b, o + 1, none⟩, c - 1, T'.length, T', rfl, rfl, ⟨HMT.out, by simp; omega, by omega⟩, ?_, OkL.of_nil HT.out, groups_emp T'⟩
            intro a ha
            cases ha
            exact HSA2.out ⟨b, o, none⟩ rfl
      · obtain rfl : f = false := by
          rw [← HF.out, Bool.eq_false_iff]
          intro h
          rw [List.isEmpty_iff, txt_empty] at h
          cases h
        go_wp2_with fail
        go_meet
        case rel => 
          exact ⟨rfl, _, _, _, _, rfl, rfl, HS.out, HSA.out, OkL.of_cons HT.out, rfl⟩
    case rest =>
      obtain ⟨rfl, Ax, cx, n, T1, rfl, rfl, hS, hSA, hOK, hE⟩ := hcut
      have HFI : Hid (fin (t :: T') = f) := Lib.hid ((fin_empty t T').trans HF.out)
      clear HF S1 SA1 HS HSA hc0' hcap1 hcap2 hb1 hb0
      have HS1 := Lib.hid hS
      have HSA1 := Lib.hid hSA
      have HOK1 := Lib.hid hOK
      have HE1 := Lib.hid hE
      have hl1 := hS.2.1
      have hl2 := hS.2.2
      clear hS hSA hOK hE
      go_wp2_with fail
      go_loopw [1, 10] (fun v1 v10 wr => GRel B w (.pointer (some ⟨pb, 0, none⟩)) d N (t :: T') cs v1 v10 wr) (fun v1 _ _ => lenV v1)
      case atStart =>
        exact ⟨Ax, cx, _, T1, [], [], rfl, rfl, HS1.out, HSA1.out, HOK1.out, by simpa using HE1.out, World.ownsRow_nil _ _ _ _, by simpa [addG_nil, x00] using BST.out, by simp, KW.out⟩
      case round =>
        clear hl1 hl2 HS1 HSA1 HOK1 HE1 KW BST
        obtain ⟨Ax, cx, n, T1, done, more, rfl, rfl, hS, hSA, hOK, hE, hown, hst, hnodes, hKeep⟩ := hrel
        obtain ⟨wo, rfl⟩ : ∃ wo : World, wo = wr := ⟨_, rfl⟩
        have HS := Lib.hid hS
        have HSA := Lib.hid hSA
        have HOK := Lib.hid hOK
        have HE := Lib.hid hE
        have HO := Lib.hid hown
        have HST := Lib.hid hst
        have HND := Lib.hid hnodes
        have HK := Lib.hid hKeep
        have hl1 := hS.2.1
        have hl2 := hS.2.2
        have hl3 := hOK.len
        rw [List.length_map] at hl1
        clear hS hSA hOK hE hown hst hnodes hKeep
        rcases T1 with _ | ⟨t1, T2⟩
        · have hEd : Hid (groups (t :: T') = done) := Lib.hid (by have := HE.out; rw [groups_nil, List.append_nil] at this; exact this)
          obtain ⟨pb', gb', mb', v', hp', q2, q3, q4, kp', kg', km', kl', kn'⟩ := HST.out
          cases hp'
          have hmlen : N.length + 1 + more.length = (addG d (N ++ [t :: T']) done).length := by have := kl'; simp [HCS.out] at this; omega
          obtain ⟨g, cap, rfl, hg1, hg2⟩ := kn'.form (by omega)
          have hnl : N.length < (addG d (N ++ [t :: T']) done).length := by omega
          obtain ⟨hx0, hx1⟩ := kn'.three (N.length * 2) (by omega)
          obtain ⟨hy0, hy1⟩ := kn'.three (N.length * 2 + 1) (by omega)
          have cp0 : wo.cell? ⟨pb, 0, none⟩ = some (.pointer (some ⟨gb', 0, none⟩)) := by rw [cell_of_row _ _ _ _ _ _ kp']; rfl
          have cg0 : wo.cell? ⟨gb', 0, none⟩ = some (.slice (some ⟨g, 0, none⟩) (addG d (N ++ [t :: T']) done).length cap) := by rw [cell_of_row _ _ _ _ _ _ kg']; rfl
          obtain ⟨A10, c10, rfl, hv1, hv2⟩ := own_slice HO.out
          have KP := Lib.hid kp'
          have KG := Lib.hid kg'
          have KM := Lib.hid km'
          have KN := Lib.hid kn'
          clear kp' kg' km' kl' kn'
          obtain ⟨z0, hz0⟩ := hx0
          obtain ⟨z1, hz1⟩ := hy0
          go_wp2_with fail
          go_ret
          exact node_end HM.out HT.out hEd.out hpb q3 q4 HCS.out hmlen KP.out KG.out KM.out KN.out HO.out HND.out HK.out HFI.out
        · obtain ⟨r, x, rfl⟩ : ∃ r x, t1 = r :: x := by
            cases t1 with
            | nil => exact absurd (List.mem_cons_self ..) HOK.out.nn
            | cons r x => exact ⟨r, x, rfl⟩
          have hS4 := HS.out.safe HSA.out HK.out
          obtain ⟨b, o, rfl, hb0, hb1, hc0⟩ := hS4.1.at_ (k := 0) (by simp [strv])
          have hc0' : wo.cell? ⟨b, o, none⟩ = some (.string (txt (r :: x))) := by simpa [strv] using hc0
          have hokx : okT (r :: x) := HOK.out.ok _ (by simp)
          have htp := txt_pos r x
          have hts := HOK.out.size (t := r :: x) (by simp)
          have hq1 := htp.1
          have hq2 := htp.2
          simp only [List.length_cons] at hl1 hl3
          clear hc0 hS4 htp
          go_wp2_with fail
          (with_reducible refine (c98 (txt (r :: x)) wo hq2 r (encR r).length (txt_first hokx) hq1).mono ?_); rintro e w4 ⟨rfl, hb4⟩
          have HB4 := Lib.hid hb4
          have HK4 := Lib.hid (HK.out.then_below hb4)
          clear hb4
          go_wp2_with fail
          go_loopw [13, 14] (fun k v wi => ∃ kn : Nat, kn ≤ T2.length + 1 ∧ k = .int .i64 kn ∧ wi.ownsRow w4.heap.size 9 1 v kn (strv ((((r :: x) :: T2).take kn).map fun t => txt t.tail)) ∧ Below w4.heap.size w4 wi ∧ ∀ t ∈ ((r :: x) :: T2).take kn, isHd r t = true) (fun k _ _ => T2.length + 1 - (intOf k).toNat)
          case atStart => exact ⟨0, by omega, rfl, World.ownsRow_nil _ _ _ _, Below.refl _ _, by simp⟩
          case round =>
            obtain ⟨kn, hkn, rfl, hown4, hbi, hall⟩ := hrel
            obtain ⟨wi, rfl⟩ : ∃ wi : World, wi = wr := ⟨_, rfl⟩
            obtain ⟨Av, cv, rfl, hv1, hv2⟩ := own_slice hown4
            have HO4 := Lib.hid hown4
            have HBI := Lib.hid hbi
            have HALL := Lib.hid hall
            clear hown4 hbi hall
            have HKI := Lib.hid (HK4.out.then_below HBI.out)
            have hSI := HS.out.safe HSA.out HKI.out
            obtain ⟨b', o', hbo, _, _, hci⟩ := hSI.all (by simp)
            cases hbo
            have hc00 : wi.cell? ⟨b, o, none⟩ = some (.string (txt (r :: x))) := by simpa using hci 0 (by simp)
            by_cases hlt : kn < T2.length + 1
            · have hltZ : decide ((kn : Int) < (T2.length : Int) + 1) = true := by simp; omega
              obtain ⟨u, hu⟩ : ∃ u, u = ((r :: x) :: T2)[kn]'(by simpa using hlt) := ⟨_, rfl⟩
              have hcu : wi.cell? ⟨b, o + kn, none⟩ = some (.string (txt u)) := by
                rw [hu]
                have := hci kn (by simpa using hlt)
                rwa [List.getElem_map] at this
              have hum : u ∈ (r :: x) :: T2 := by rw [hu]; exact List.getElem_mem _
              have hus := HOK.out.size hum
              have huo := HOK.out.ok _ hum
              have HU := Lib.hid hu
              clear hu hci hSI
              have hxh := txt_head r x
              have hp := has_head (okT_cons.1 hokx).1 huo
              by_cases hh : isHd r u = true
              · obtain ⟨y, rfl⟩ := isHd_iff.1 hh
                rw [hh] at hp
                have HP := Lib.hid hp
                have htl := txt_tail r y
                have hqu := (txt_pos r y).1
                have HH := Lib.hid hh
                clear hp hh
                go_wp2_with fail
                go_quiet ((go_at_call 99; first | exact quiet_drawn (c99 _ _ true HP.out.symm _) | exact quiet_add_drawn (c99 _ _ true HP.out.symm _)))
                have HT4 := Lib.hid (take_snoc4 (r := r) (y := y) ((r :: x) :: T2) kn (by simpa using hlt) HU.out.symm HALL.out)
                have hkn2 : kn ≤ 1000 := by omega
                go_wp2_with (first
                  | (at_builtin
                     refine wpList_append_rd infoS rfl (.tmp 96) (.tmp 103) rfl w4.heap.size (.slice Av kn cv) kn (strv ((((r :: x) :: T2).take kn).map fun t => txt t.tail)) rfl (own_below HO4.out (by repeat (first | exact Below.refl _ _ | apply below_drewN | apply Below.drew | (refine Below.alloc ?_ (by simp) _)))) _ _ _ 1 1 [.string (txt y)] rfl (by first | exact Rd.new _ _ _ | exact Rd.drewN (Rd.new _ _ _) _) rfl (by simp [Value.oneCell']) (by omega) (by have := HBI.out.size; simp; omega) ?_
                     intro v1 w6 hown1 hg1 hat1
                     have X := own_step (x := txt y) HO4.out HBI.out (by repeat (first | exact Below.refl _ _ | apply below_drewN | apply Below.drew | (refine Below.alloc ?_ (by simp) _))) hown1 hg1
                     clear hown1 hg1 hat1))
                go_roundw
                case rel => exact ⟨kn + 1, by omega, by go_num, by rw [HT4.out.1]; exact X.out.1, X.out.2, HT4.out.2⟩
                case measure => simp [intOf]; omega
              · have hh' : isHd r u = false := by simpa using hh
                rw [hh'] at hp
                have HP := Lib.hid hp
                have HEX : Hid (∀ h : kn < ((r :: x) :: T2).length, isHd r (((r :: x) :: T2)[kn]) = false) := Lib.hid (fun h => by rw [← HU.out]; exact hh')
                clear hp hh hh'
                go_wp2_with fail
                go_quiet ((go_at_call 99; first | exact quiet_drawn (c99 _ _ false HP.out.symm _) | exact quiet_add_drawn (c99 _ _ false HP.out.symm _)))
                have hk1 : 1 ≤ kn := by
                  rcases Nat.eq_zero_or_pos kn with h | h
                  · subst h
                    have := HEX.out (by simp)
                    simp [isHd_cons] at this
                  · exact h
                obtain ⟨e1, e2⟩ := take_exit ((r :: x) :: T2) kn HALL.out HEX.out
                have hG : Hid (((((r :: x) :: T2).take kn).map fun t => txt t.tail) = (x :: grp r T2).map txt) := by
                  rw [e1, ← grp_yes]
                  unfold grp
                  rw [List.map_map]
                  exact Lib.hid rfl
                rw [remv_yes] at e2
                have hkG : Hid (kn = (x :: grp r T2).length) := by
                  have h1 := HO4.out.1
                  rw [hG.out, strv_len, List.length_map] at h1
                  exact Lib.hid (by omega)
                have hT3 : Hid (T2.length + 1 - kn = (remv r T2).length) := by
                  rw [← e2]
                  exact Lib.hid (by simp)
                have hE2 : Hid (groups (t :: T') = done ++ (r, x :: grp r T2) :: groups (remv r T2)) := Lib.hid (by rw [HE.out, groups_cons])
                have hOKG := Lib.hid (HT.out.group (g := (r, x :: grp r T2)) (by rw [hE2.out]; simp)).1
                have hSZ := st_size (d := d) (N := N) (g := (r, x :: grp r T2)) (by exact hE2.out)
                have hOK3 : Hid (OkL (remv r T2)) := Lib.hid (by have := HOK.out.rem r; rwa [remv_yes] at this)
                have hE3 := Lib.hid e2
                clear e1 e2
                have hSG : Hid (Strs (wi.drewN nq) 0 Av cv ((x :: grp r T2).map txt)) := by
                  have h1 := own_below HO4.out (below_drewN (Below.refl wi.heap.size wi) nq)
                  rw [hG.out] at h1
                  exact Lib.hid ⟨(Rd.of_own h1).wide (Nat.zero_le _) (Nat.le_refl _), by rw [List.length_map, ← hkG.out]; exact hv1, hv2⟩
                have hSS : Hid (SafeA B (wi.drewN nq) Av) := Lib.hid (own_safe (own_below HO4.out (below_drewN (Below.refl wi.heap.size wi) nq)) rfl)
                have hbw : Hid (Below wo.heap.size wo wi) := Lib.hid (below_ext HB4.out HBI.out)
                have hck : ¬ cx = kn := by omega
                obtain ⟨q1, q2⟩ := rest_cut HS.out HSA.out hE3.out (Ax := some ⟨b, o + kn, none⟩) (by rw [if_neg hck]) (by omega) (by simp; omega)
                have Q1 := Lib.hid q1
                have Q2 := Lib.hid q2
                clear q1 q2
                go_wp2_with fail
                (with_reducible refine (ih.call (wi.drewN nq) (.pointer (some ⟨pb, 0, none⟩)) (addG d (N ++ [t :: T']) done) (cs ++ [x00] ++ more) Av cv kn (x :: grp r T2) hkG.out hOKG.out (Nat.le_trans hB (Nat.le_trans HK.out.size (Nat.le_trans hbw.out.size (Nat.le_refl _)))) (HST.out.below (below_drewN hbw.out _)) (st_okN HNN.out HT.out HE.out) (st_nodup HD.out HM.out) (by omega) hSG.out hSS.out).mono ?_)
                rintro e w5 ⟨more2, rfl, hst5, hnd5, hk5⟩
                have HST5 := Lib.hid hst5
                have HND5 := Lib.hid hnd5
                have HK5 := Lib.hid ((HK.out.then_below (below_drewN hbw.out _)).trans hk5)
                have HO5 := Lib.hid (own_keep (own_below HO.out (below_drewN hbw.out _)) rfl hk5)
                have hws : w.heap.size ≤ w5.heap.size := HK5.out.size
                have hsz5 : Hid (Below wo.heap.size wo ((wi.drewN nq))) := Lib.hid (below_drewN hbw.out _)
                have HKK := Lib.hid hk5
                clear hst5 hnd5 hk5
                have hdl : done.length ≤ 1000 := by
                  have h1 := congrArg List.length HE.out
                  have h2 := groups_len (t :: T')
                  have h3 := HT.out.len
                  simp only [List.length_append] at h1
                  omega
                go_wp2_with (first
                  | (at_builtin
                     refine wpList_append_rd infoE rfl (.tmp 110) (.tmp 116) rfl w.heap.size u10 done.length (edgv (edgD (addG d (N ++ [t :: T']) done) done)) rfl (own_below HO5.out (by repeat (first | exact Below.refl _ _ | apply below_drewN | apply Below.drew | (refine Below.alloc ?_ (by simp) _)))) _ _ _ 1 1 [.int .i32 r, .int .i64 (((addN d (addG d (N ++ [t :: T']) done) (x :: grp r T2)).idxOf (x :: grp r T2) : Nat))] rfl (by first | exact Rd.two _ _ _ _ | exact Rd.drewN (Rd.two _ _ _ _) _) rfl (by simp [Value.oneCell']) (by omega) (by simp; omega) ?_
                     intro v6 w6 hown1 hg1 hat1
                     have X : Hid (GRel B w (.pointer (some ⟨pb, 0, none⟩)) d N (t :: T') cs (.slice (some ⟨b, o + kn, none⟩) (T2.length + 1 - kn) (cx - kn)) v6 w6) := Lib.hid (g_step HD.out HM.out HT.out hE2.out HCS.out Q1.out Q2.out hT3.out hOK3.out hB HO5.out HST5.out (by have := HST.out.len; simp [HCS.out] at this; omega) (fun i hi h2 => ((HND.out i hi h2).below hsz5.out).keep HKK.out) (fun i hi h2 => (HND5.out i hi h2).low (Nat.le_trans HK.out.size hsz5.out.size) (fun k hk _ e => by have := HO.out.lt k e.symm; have := hsz5.out.size; omega)) HK5.out (by repeat (first | exact Below.refl _ _ | apply below_drewN | apply Below.drew | (refine Below.alloc ?_ (by simp) _))) hown1 hg1 hat1)
                     clear hown1 hg1 hat1))
                go_roundw
                case rel => exact X.out
                case measure => simp [lenV]; omega
            · have hge : T2.length + 1 ≤ kn := by omega
              have hltZ : decide ((kn : Int) < (T2.length : Int) + 1) = false := by simp; omega
              have HEX : Hid (∀ h : kn < ((r :: x) :: T2).length, isHd r (((r :: x) :: T2)[kn]) = false) := Lib.hid (fun h => by simp at h; omega)
              clear hci hSI
              go_wp2_with fail
              go_quiet (fail)
              have hk1 : 1 ≤ kn := by
                rcases Nat.eq_zero_or_pos kn with h | h
                · subst h
                  have := HEX.out (by simp)
                  simp [isHd_cons] at this
                · exact h
              obtain ⟨e1, e2⟩ := take_exit ((r :: x) :: T2) kn HALL.out HEX.out
              have hG : Hid (((((r :: x) :: T2).take kn).map fun t => txt t.tail) = (x :: grp r T2).map txt) := by
                rw [e1, ← grp_yes]
                unfold grp
                rw [List.map_map]
                exact Lib.hid rfl
              rw [remv_yes] at e2
              have hkG : Hid (kn = (x :: grp r T2).length) := by
                have h1 := HO4.out.1
                rw [hG.out, strv_len, List.length_map] at h1
                exact Lib.hid (by omega)
              have hT3 : Hid (T2.length + 1 - kn = (remv r T2).length) := by
                rw [← e2]
                exact Lib.hid (by simp)
              have hE2 : Hid (groups (t :: T') = done ++ (r, x :: grp r T2) :: groups (remv r T2)) := Lib.hid (by rw [HE.out, groups_cons])
              have hOKG := Lib.hid (HT.out.group (g := (r, x :: grp r T2)) (by rw [hE2.out]; simp)).1
              have hSZ := st_size (d := d) (N := N) (g := (r, x :: grp r T2)) (by exact hE2.out)
              have hOK3 : Hid (OkL (remv r T2)) := Lib.hid (by have := HOK.out.rem r; rwa [remv_yes] at this)
              have hE3 := Lib.hid e2
              clear e1 e2
              have hSG : Hid (Strs (wi.drewN nq) 0 Av cv ((x :: grp r T2).map txt)) := by
                have h1 := own_below HO4.out (below_drewN (Below.refl wi.heap.size wi) nq)
                rw [hG.out] at h1
                exact Lib.hid ⟨(Rd.of_own h1).wide (Nat.zero_le _) (Nat.le_refl _), by rw [List.length_map, ← hkG.out]; exact hv1, hv2⟩
              have hSS : Hid (SafeA B (wi.drewN nq) Av) := Lib.hid (own_safe (own_below HO4.out (below_drewN (Below.refl wi.heap.size wi) nq)) rfl)
              have hbw : Hid (Below wo.heap.size wo wi) := Lib.hid (below_ext HB4.out HBI.out)
              by_cases hck : cx = kn
              · obtain ⟨q1, q2⟩ := rest_cut HS.out HSA.out hE3.out (Ax := some ⟨b, o, none⟩) (by rw [if_pos hck]) (by omega) (by simp; omega)
                have Q1 := Lib.hid q1
                have Q2 := Lib.hid q2
                clear q1 q2
                go_wp2_with fail
                (with_reducible refine (ih.call (wi.drewN nq) (.pointer (some ⟨pb, 0, none⟩)) (addG d (N ++ [t :: T']) done) (cs ++ [x00] ++ more) Av cv kn (x :: grp r T2) hkG.out hOKG.out (Nat.le_trans hB (Nat.le_trans HK.out.size (Nat.le_trans hbw.out.size (Nat.le_refl _)))) (HST.out.below (below_drewN hbw.out _)) (st_okN HNN.out HT.out HE.out) (st_nodup HD.out HM.out) (by omega) hSG.out hSS.out).mono ?_)
                rintro e w5 ⟨more2, rfl, hst5, hnd5, hk5⟩
                have HST5 := Lib.hid hst5
                have HND5 := Lib.hid hnd5
                have HK5 := Lib.hid ((HK.out.then_below (below_drewN hbw.out _)).trans hk5)
                have HO5 := Lib.hid (own_keep (own_below HO.out (below_drewN hbw.out _)) rfl hk5)
                have hws : w.heap.size ≤ w5.heap.size := HK5.out.size
                have hsz5 : Hid (Below wo.heap.size wo ((wi.drewN nq))) := Lib.hid (below_drewN hbw.out _)
                have HKK := Lib.hid hk5
                clear hst5 hnd5 hk5
                have hdl : done.length ≤ 1000 := by
                  have h1 := congrArg List.length HE.out
                  have h2 := groups_len (t :: T')
                  have h3 := HT.out.len
                  simp only [List.length_append] at h1
                  omega
                go_wp2_with (first
                  | (at_builtin
                     refine wpList_append_rd infoE rfl (.tmp 110) (.tmp 116) rfl w.heap.size u10 done.length (edgv (edgD (addG d (N ++ [t :: T']) done) done)) rfl (own_below HO5.out (by repeat (first | exact Below.refl _ _ | apply below_drewN | apply Below.drew | (refine Below.alloc ?_ (by simp) _)))) _ _ _ 1 1 [.int .i32 r, .int .i64 (((addN d (addG d (N ++ [t :: T']) done) (x :: grp r T2)).idxOf (x :: grp r T2) : Nat))] rfl (by first | exact Rd.two _ _ _ _ | exact Rd.drewN (Rd.two _ _ _ _) _) rfl (by simp [Value.oneCell']) (by omega) (by simp; omega) ?_
                     intro v6 w6 hown1 hg1 hat1
                     have X : Hid (GRel B w (.pointer (some ⟨pb, 0, none⟩)) d N (t :: T') cs (.slice (some ⟨b, o, none⟩) (T2.length + 1 - kn) (cx - kn)) v6 w6) := Lib.hid (g_step HD.out HM.out HT.out hE2.out HCS.out Q1.out Q2.out hT3.out hOK3.out hB HO5.out HST5.out (by have := HST.out.len; simp [HCS.out] at this; omega) (fun i hi h2 => ((HND.out i hi h2).below hsz5.out).keep HKK.out) (fun i hi h2 => (HND5.out i hi h2).low (Nat.le_trans HK.out.size hsz5.out.size) (fun k hk _ e => by have := HO.out.lt k e.symm; have := hsz5.out.size; omega)) HK5.out (by repeat (first | exact Below.refl _ _ | apply below_drewN | apply Below.drew | (refine Below.alloc ?_ (by simp) _))) hown1 hg1 hat1)
                     clear hown1 hg1 hat1))
                go_roundw
                case rel => have h := X.out; rw [show T2.length + 1 - kn = 0 by omega, show cx - kn = 0 by omega] at h; exact h
                case measure => simp [lenV]
              · obtain ⟨q1, q2⟩ := rest_cut HS.out HSA.out hE3.out (Ax := some ⟨b, o + kn, none⟩) (by rw [if_neg hck]) (by omega) (by simp; omega)
                have Q1 := Lib.hid q1
                have Q2 := Lib.hid q2
                clear q1 q2
                go_wp2_with fail
                (with_reducible refine (ih.call (wi.drewN nq) (.pointer (some ⟨pb, 0, none⟩)) (addG d (N ++ [t :: T']) done) (cs ++ [x00] ++ more) Av cv kn (x :: grp r T2) hkG.out hOKG.out (Nat.le_trans hB (Nat.le_trans HK.out.size (Nat.le_trans hbw.out.size (Nat.le_refl _)))) (HST.out.below (below_drewN hbw.out _)) (st_okN HNN.out HT.out HE.out) (st_nodup HD.out HM.out) (by omega) hSG.out hSS.out).mono ?_)
                rintro e w5 ⟨more2, rfl, hst5, hnd5, hk5⟩
                have HST5 := Lib.hid hst5
                have HND5 := Lib.hid hnd5
                have HK5 := Lib.hid ((HK.out.then_below (below_drewN hbw.out _)).trans hk5)
                have HO5 := Lib.hid (own_keep (own_below HO.out (below_drewN hbw.out _)) rfl hk5)
                have hws : w.heap.size ≤ w5.heap.size := HK5.out.size
                have hsz5 : Hid (Below wo.heap.size wo ((wi.drewN nq))) := Lib.hid (below_drewN hbw.out _)
                have HKK := Lib.hid hk5
                clear hst5 hnd5 hk5
                have hdl : done.length ≤ 1000 := by
                  have h1 := congrArg List.length HE.out
                  have h2 := groups_len (t :: T')
                  have h3 := HT.out.len
                  simp only [List.length_append] at h1
                  omega
                go_wp2_with (first
                  | (at_builtin
                     refine wpList_append_rd infoE rfl (.tmp 110) (.tmp 116) rfl w.heap.size u10 done.length (edgv (edgD (addG d (N ++ [t :: T']) done) done)) rfl (own_below HO5.out (by repeat (first | exact Below.refl _ _ | apply below_drewN | apply Below.drew | (refine Below.alloc ?_ (by simp) _)))) _ _ _ 1 1 [.int .i32 r, .int .i64 (((addN d (addG d (N ++ [t :: T']) done) (x :: grp r T2)).idxOf (x :: grp r T2) : Nat))] rfl (by first | exact Rd.two _ _ _ _ | exact Rd.drewN (Rd.two _ _ _ _) _) rfl (by simp [Value.oneCell']) (by omega) (by simp; omega) ?_
                     intro v6 w6 hown1 hg1 hat1
                     have X : Hid (GRel B w (.pointer (some ⟨pb, 0, none⟩)) d N (t :: T') cs (.slice (some ⟨b, o + kn, none⟩) (T2.length + 1 - kn) (cx - kn)) v6 w6) := Lib.hid (g_step HD.out HM.out HT.out hE2.out HCS.out Q1.out Q2.out hT3.out hOK3.out hB HO5.out HST5.out (by have := HST.out.len; simp [HCS.out] at this; omega) (fun i hi h2 => ((HND.out i hi h2).below hsz5.out).keep HKK.out) (fun i hi h2 => (HND5.out i hi h2).low (Nat.le_trans HK.out.size hsz5.out.size) (fun k hk _ e => by have := HO.out.lt k e.symm; have := hsz5.out.size; omega)) HK5.out (by repeat (first | exact Below.refl _ _ | apply below_drewN | apply Below.drew | (refine Below.alloc ?_ (by simp) _))) hown1 hg1 hat1)
                     clear hown1 hg1 hat1))
                go_roundw
                case rel => have h := X.out; rw [show T2.length + 1 - kn = 0 by omega] at h; exact h
                case measure => simp [lenV]


/-- graph's node -/
theorem c72 (B : Nat) : ∀ d, NodeIH B d
  | 0 => fun w p N cs A c n T hn hT => absurd (hT.short.pos hT.ne) (by omega)
  | d + 1 => fun w p N cs A c n T hn hT hB hst hN hd hs hs1 hs2 => by
    subst hn
    by_cases hm : T ∈ N
    · exact node_old B d w p N cs A c T hT hB hst hN hd hs1 hm
    · exact node_new B d (c72 B d) w p N cs A c T hT hB hst hN hd hs1 hs2 hm hs

end Go.Proofs.Ytepmcfleijiloaa
