/- Joined: R1 M30 M31 M32 M33 M34 M35 M36 -/
import Derived.Test.YtepmcfleijiloaaR0
import Derived.Test.YtepmcfleijiloaaZA
import Derived.ChangeSlices
import Derived.Test.YtepmcfleijiloaaB1
import Derived.Test.YtepmcfleijiloaaZB
import Derived.Test.YtepmcfleijiloaaZC
import Derived.Test.YtepmcfleijiloaaH10
section

/- A slice of bytes among the arguments, opened. -/
namespace Go.Proofs.Ytepmcfleijiloaa
open Go.RowKit Go.ChangeShapes

theorem bytes_open {H : Type} {enc : TypeId × Value → H} {W : World} {fuel : Nat} {a0 : Option Addr} {len cap : Nat} {x : DataW H × List MemPlace}
    (h : DataW.trod enc Try.prog W 0 (fun _ => true) true fuel 62 (Value.slice a0 len cap).cells.toList = some x) :
    ∃ xs : List Nat, len = xs.length ∧ Byts W 0 a0 cap xs ∧ Okb xs := by
  rcases open_ints Try.underlying62 Try.underlying5 (by kernel_rfl) h with ⟨hcs, _⟩ | ⟨a, l, c, ss, hcs, _, hl, hm, hz, _, hcell, hws⟩
  · simp [Value.cells] at hcs
    obtain ⟨rfl, rfl, rfl⟩ := hcs
    exact ⟨[], rfl, Byts.nil_ _ _ _ _ (by omega), fun x hx => by cases hx⟩
  · simp [Value.cells] at hcs
    obtain ⟨rfl, rfl, rfl⟩ := hcs
    simp at hz
    have hm' : cap ≤ 9223372036854775807 := by simpa [maxLen] using hm
    have hw : ∀ n ∈ ss, 0 ≤ n ∧ n < 256 := fun n hn => by
      have := hws n hn
      simp [Lit.wf, IntKind.min, IntKind.max, IntKind.signed, IntKind.bits] at this
      omega
    refine ⟨(ss.take len).map Int.toNat, by simp; omega, ⟨?_, by simp; omega, hm'⟩, fun x hx => ?_⟩
    · intro hn
      have hn2 : 0 < len ∧ 0 < ss.length := by simp [bytv] at hn; omega
      obtain ⟨b, off, spot⟩ := a
      have hc := hcell 0 (by omega)
      have hspot : spot = none := by simpa [Addr.add] using World.cell?_spot hc
      subst hspot
      refine ⟨b, off, rfl, Nat.zero_le _, ?_, fun j u hu => ?_⟩
      · have hc' : W.cell? ⟨b, off + 0, none⟩ = some (.int .u8 (ss.getD 0 0)) := by simpa [Addr.add] using hc
        unfold World.cell? at hc'
        cases e : W.heap[b]? with
        | none => simp [e] at hc'
        | some o => exact (Array.getElem?_eq_some_iff.1 e).1
      · have hj : j < len ∧ j < ss.length := by
          have h := (List.getElem?_eq_some_iff.1 hu).1
          simp [bytv] at h; omega
        have := hcell j hj.2
        have e : (⟨b, off, none⟩ : Addr).add j = ⟨b, off + j, none⟩ := by
          rcases Nat.eq_zero_or_pos j with rfl | hj0
          · rfl
          · simp [Addr.add]
            omega
        rw [e] at this
        rw [this, ← hu]
        have h0 := (hw ss[j] (List.getElem_mem hj.2)).1
        simp [bytv, hj.1, hj.2, List.getD]
        omega
    · obtain ⟨n, hn, rfl⟩ := List.mem_map.1 hx
      have := hw n (List.mem_of_mem_take hn)
      omega

end Go.Proofs.Ytepmcfleijiloaa

end
section
set_option linter.unusedVariables false
set_option linter.unusedSimpArgs false
/- Bytes that are lent; are they kept? -/
namespace Go.Proofs.Ytepmcfleijiloaa
open Go.RowKit

set_option maxHeartbeats 1000000 in
set_option maxRecDepth 100000 in
/-- LendBytes -/
theorem c56 (w : World) (A : Option Addr) (c : Nat) (l : List Nat) (hx : Byts w 0 A c l) (hn : l.length ≤ 900000) (len : Nat) (hlen : len = l.length) :
    Calls Try.prog 56 #[.slice A len c] w fun e w' => ∃ g, e = .returned (.slice (some ⟨g, 0, none⟩) len (len + 3)) ∧ w.heap.size ≤ g ∧ Below w.heap.size w w' ∧
      w'.ownsRow w.heap.size 5 1 (.slice (some ⟨g, 0, none⟩) (len + 3) (len + 3)) (len + 3) (bytv (l ++ [119, 119, 119])) := by
  have hl1 := hx.2.1
  have hm1 := hx.2.2
  have H := Lib.hid hx
  have HLEN := Lib.hid hlen
  rw [← hlen] at hl1 hn
  clear hx hlen
  go_enter Try.func56, Try.ntmps56
  go_wp2_with (first
    | (with_reducible refine wpList_make_rd infoB rfl _ _ rfl w.heap.size (len + 3) rfl rfl (by omega) (by omega) (Nat.le_refl _) ?_
       intro w1 hown1 hg1)
    | (with_reducible refine wpList_append_fit infoB rfl (.tmp 10) (.tmp 11) rfl w.heap.size w.heap.size 0 (len + 3) [] rfl hown1 0 w.heap.size A len c (bytv l) rfl ?_ (by rw [bytv_len, HLEN.out]; omega) (bytv_one l) (by omega) ?_
       exact H.out.1.below ⟨hg1.os, hg1.tape, hg1.output, hg1.size, fun i hi => hg1.block i hi (by simp)⟩
       intro w2 hown2 hg2))
  have hB : Below w.heap.size w w2 := ((Below.refl _ _).grown hg1 (Nat.le_refl _) (by simp)).grown hg2 hg1.size (by simp)
  simp only [Nat.zero_add, List.nil_append] at hown2
  have HO := Lib.hid hown2
  have HB := Lib.hid hB
  clear hown2 hB hg1 hg2 hown1
  go_loopw [5] (fun i wr => ∃ k : Nat, k ≤ 3 ∧ i = .int .i64 k ∧ wr.ownsRow w.heap.size 5 1 (.slice (some ⟨w.heap.size, 0, none⟩) (len + k) (len + 3)) (len + k) (bytv l ++ bytv (List.replicate k 119)) ∧ Below w.heap.size w wr) (fun i _ => 3 - (intOf i).toNat)
  case atStart => exact ⟨0, by omega, rfl, by simpa [bytv] using HO.out, HB.out⟩
  case round =>
    clear HO HB
    obtain ⟨k, hk, rfl, hown, hB⟩ := hrel
    by_cases hlt : k < 3
    · obtain ⟨⟨u, hcell⟩, hfr⟩ := own_room_cell hown (j := len + k) (by omega)
      have HO := Lib.hid (own_room hown (by omega) (.int .u8 119))
      have HB := Lib.hid (hB.setCell (p := ⟨w.heap.size, len + k, none⟩) (Nat.le_refl _) (.int .u8 119))
      clear hown hB
      go_wp2
      go_roundw
      case rel =>
        refine ⟨k + 1, by omega, by go_num, ?_, HB.out⟩
        have := HO.out
        rw [List.replicate_succ', bytv_append, ← List.append_assoc]
        exact this
      case measure => simp [intOf]; omega
    · obtain rfl : k = 3 := by omega
      have HO := Lib.hid hown
      have HB := Lib.hid hB
      clear hown hB
      go_wp2
      go_ret
      refine ⟨_, rfl, Nat.le_refl _, HB.out, ?_⟩
      rw [bytv_append]
      exact HO.out

set_option maxHeartbeats 1000000 in
set_option maxRecDepth 100000 in
/-- KeptBytes: what was lent has its room as it was marked. -/
theorem c58 (w : World) (g : Nat) (B : Option Addr) (d : Nat) (zs : List Nat) (hz : Rd w 0 w.heap.size (some ⟨g, 0, none⟩) (bytv (zs ++ [119, 119, 119]))) (hn : zs.length ≤ 900000) (hy : Byts w 0 B d zs) (len : Nat) (hlen : len = zs.length) :
    Calls Try.prog 58 #[.slice (some ⟨g, 0, none⟩) len (len + 3), .slice B len d] w fun e w' => e = .returned (.bool true) ∧ Below w.heap.size w w' := by
  have hzs : Byts w 0 (some ⟨g, 0, none⟩) (len + 3) zs := by
    refine ⟨?_, by omega, by omega⟩
    have := hz.take zs.length
    rwa [bytv_append, List.take_left' (bytv_len zs)] at this
  obtain ⟨b, o, e, _, _, hc⟩ := hz (by simp [bytv])
  injection e with e
  injection e with e1 e2
  subst e1; subst e2
  have hl := bytv_len zs
  have c0 : w.cell? ⟨g, len, none⟩ = some (.int .u8 119) := by rw [hlen]; simpa using hc zs.length (.int .u8 119) (by simp [bytv])
  have c1 : w.cell? ⟨g, len + 1, none⟩ = some (.int .u8 119) := by rw [hlen]; simpa using hc (zs.length + 1) (.int .u8 119) (by simp [bytv])
  have c2 : w.cell? ⟨g, len + 2, none⟩ = some (.int .u8 119) := by rw [hlen]; simpa using hc (zs.length + 2) (.int .u8 119) (by simp [bytv])
  have H1 := Lib.hid hzs
  have H2 := Lib.hid hy
  have hd1 := hy.2.1
  have hd2 := hy.2.2
  rw [← hlen] at hn hd1
  have HLEN := Lib.hid hlen
  clear hc hz hzs hy hl hlen
  go_enter Try.func58, Try.ntmps58
  go_wp2
  go_loop [6] (fun i => ∃ k : Nat, k ≤ 3 ∧ i = .int .i64 k) (fun i => 3 - (intOf i).toNat)
  case atStart => exact ⟨0, by omega, rfl⟩
  case round =>
    obtain ⟨k, hk, rfl⟩ := hrel
    by_cases hlt : k < 3
    · have ck : w.cell? ⟨g, len + k, none⟩ = some (.int .u8 119) := by
        match k, hlt with
        | 0, _ => exact c0
        | 1, _ => exact c1
        | 2, _ => exact c2
      clear c0 c1 c2
      go_wp2
      go_round
      case rel => exact ⟨k + 1, by omega, by go_num⟩
      case measure => simp [intOf]; omega
    · clear c0 c1 c2
      go_wp2_with (go_at_call 51; refine (c51 H1.out H2.out HLEN.out HLEN.out (b := true) (by simp)).mono ?_; rintro e w' ⟨rfl, hb⟩)
      go_ret
      exact ⟨rfl, hb⟩

end Go.Proofs.Ytepmcfleijiloaa

end
section
set_option linter.unusedVariables false
set_option linter.unusedSimpArgs false
/- The reader of chapter 9's own answer: is it sealed; numbers. -/
namespace Go.Proofs.Ytepmcfleijiloaa
open Go.RowKit

theorem k110 {w : World} {A : Option Addr} {c : Nat} {l : List Nat} (h : Byts w 0 A c l) (hb : ∀ x ∈ l, x < 256) (len p size : Nat) (m z : Int) (v : Nat) (hlen : len = l.length) (hl : l.length ≤ 900000) (hs1 : 1 ≤ size) (hs : size ≤ 4) (hp : p ≤ 900010) (hin : p + size ≤ l.length) (hv : v = numB l p size) (hm : m = p) (hz : z = size) :
    Calls Try.prog 110 #[.slice A len c, .int .i64 m, .int .i64 z] w fun e w' => e = .returned (.tuple #[.int .i64 v, .bool true]) ∧ w = w' := by
  have := c110 h hb len p size hlen hl hs1 hs hp
  rw [if_pos hin, decide_eq_true hin] at this
  rw [hv, hm, hz]
  exact this

set_option maxHeartbeats 1000000 in
set_option maxRecDepth 100000 in
/-- inkhornref9.Opened -/
theorem c89 {w : World} {A : Option Addr} {c : Nat} {L : List Nat} (h : Byts w 0 A c L) (hb : Okb L) (hl : L.length ≤ 300100) (len : Nat) (hlen : len = L.length) (s : Bool) (hs : s = sumOk L) :
    Calls Try.prog 89 #[.slice A len c] w fun e w' => e = .returned (.bool s) ∧ w = w' := by
  have HL := Lib.hid hlen
  have HV := Lib.hid hs
  have BY := Lib.hid h
  have HOKB : Hid (∀ x ∈ L, x < 256) := Lib.hid hb
  by_cases h4 : len < 4
  · have d1 : decide ((len : Int) < 4) = true := decide_eq_true (by omega)
    obtain rfl : s = false := by rw [hs]; unfold sumOk; rw [decide_eq_false (by omega)]; rfl
    clear h hb hlen hl hs
    go_enter Try.func89, Try.ntmps89
    go_wp2_with fail
    go_ret
    exact ⟨rfl, rfl⟩
  · obtain ⟨n, hn⟩ : ∃ n, len = n + 4 := ⟨len - 4, by omega⟩
    have d1 : decide ((len : Int) < 4) = false := decide_eq_false (by omega)
    have hls : (len : Int) - 4 = n := by omega
    have hnl : n ≤ 300096 := by omega
    have hle : n ≤ len := by omega
    have hl4' : 4 ≤ len := by omega
    have HL4 := Lib.hid hn
    obtain ⟨BB, hBB⟩ : ∃ B, B = L.take n := ⟨_, rfl⟩
    have hBl : n = BB.length := by rw [hBB]; simp; omega
    have HB := Lib.hid (h.take n)
    rw [← hBB] at HB
    have hcap := h.2.1
    have hcap2 := h.2.2
    have hcapn : n ≤ c := by omega
    have HN := Lib.hid hBl
    obtain ⟨cr, hcr⟩ : ∃ x, x = crc BB := ⟨_, rfl⟩
    have hcrl : cr < 4294967296 := by rw [hcr]; exact crc_lt _
    have HCR := Lib.hid hcr
    obtain ⟨cn, hcn⟩ : ∃ x, x = numB L n 4 := ⟨_, rfl⟩
    have HCN := Lib.hid hcn
    have HOKD : Hid (Okb BB) := Lib.hid (by rw [hBB]; exact fun x hx => hb x (List.mem_of_mem_take hx))
    have HS : Hid (s = decide (cn = cr)) := Lib.hid (by
      rw [hs]
      unfold sumOk
      rw [decide_eq_true (by omega : 4 ≤ L.length), Bool.true_and, ← hlen, show len - 4 = n by omega, hcn, hcr, hBB])
    have h1 := k110 BY.out HOKB.out len n 4 n 4 cn HL.out (by omega) (by omega) (by omega) (by omega) (by omega) HCN.out rfl rfl
    have H110 := Lib.hid h1
    have hse : ((cn : Int) == (cr : Int)) = s := by
      rw [HS.out]
      by_cases h7 : cn = cr
      · simp [h7]
      · simp [h7]; omega
    have hwk : IntKind.i64.wrap (cr : Int) = cr := by simp [IntKind.wrap, IntKind.signed, IntKind.bits]; omega
    clear h hb hlen hl h4 hn hBB hBl hcr hcn h1 hs
    go_enter Try.func89, Try.ntmps89
    go_wp2_with fail
    (with_reducible refine H110.out.mono ?_); rintro e w1 ⟨rfl, rfl⟩
    go_wp2_with fail
    (with_reducible refine (k111 HB.out HOKD.out (by rw [← HN.out]; omega) HCR.out HN.out).mono ?_); rintro e w1 ⟨rfl, rfl⟩
    go_wp2_with fail
    go_ret
    exact ⟨rfl, rfl⟩

/-- The reader in memory. -/
structure Rdq (w : World) (B rb : Nat) (A : Option Addr) (c : Nat) (l : List Nat) (p : Nat) (bad : Bool) : Prop where
  row : w.heap[rb]? = some (.cells #[.slice A l.length c, .int .i64 p, .bool bad] 118 (0, 0))
  by_ : Rd w 0 B A (bytv l)
  low : B ≤ rb
  cap : l.length ≤ c
  cap2 : c ≤ 9223372036854775807
theorem Rdq.lt {w : World} {B rb : Nat} {A : Option Addr} {c : Nat} {l : List Nat} {p : Nat} {bad : Bool} (h : Rdq w B rb A c l p bad) : rb < w.heap.size := (Array.getElem?_eq_some_iff.1 h.row).1
theorem Rdq.byts {w : World} {B rb : Nat} {A : Option Addr} {c : Nat} {l : List Nat} {p : Nat} {bad : Bool} (h : Rdq w B rb A c l p bad) : Byts w 0 A c l :=
  ⟨h.by_.wide (Nat.le_refl _) (Nat.le_trans h.low (Nat.le_of_lt h.lt)), h.cap, h.cap2⟩
theorem Rdq.grow {w w' : World} {B rb : Nat} {A : Option Addr} {c : Nat} {l : List Nat} {p q : Nat} {bad bad' : Bool} (h : Rdq w B rb A c l p bad) (hg : w.grownBy w' (some rb)) (hr : w'.heap[rb]? = some (.cells #[.slice A l.length c, .int .i64 q, .bool bad'] 118 (0, 0))) : Rdq w' B rb A c l q bad' :=
  ⟨hr, h.by_.keep fun k _ hk => hg.block k (Nat.lt_trans (Nat.lt_of_lt_of_le hk h.low) h.lt) (fun e => by injection e with e; have := h.low; omega), h.low, h.cap, h.cap2⟩
theorem Rdq.other {w w' : World} {B rb : Nat} {A : Option Addr} {c : Nat} {l : List Nat} {p : Nat} {bad : Bool} (h : Rdq w B rb A c l p bad) (hb : Below w.heap.size w w') : Rdq w' B rb A c l p bad :=
  ⟨(hb.block rb h.lt).trans h.row, h.by_.keep fun k _ hk => hb.block k (Nat.lt_trans (Nat.lt_of_lt_of_le hk h.low) h.lt), h.low, h.cap, h.cap2⟩
theorem Rdq.own {w w' : World} {B rb : Nat} {A : Option Addr} {c : Nat} {l : List Nat} {p : Nat} {bad : Bool} {r : Option Nat} (h : Rdq w B rb A c l p bad) (hg : w.grownBy w' r) (hk : ∀ k, r = some k → rb < k) : Rdq w' B rb A c l p bad :=
  ⟨(hg.block rb h.lt (fun e => by have := hk rb e.symm; omega)).trans h.row, h.by_.keep fun i _ hi => hg.block i (Nat.lt_trans (Nat.lt_of_lt_of_le hi h.low) h.lt) (fun e => by have := hk i e.symm; have := h.low; omega), h.low, h.cap, h.cap2⟩
theorem Rdq.at_ {w : World} {B rb : Nat} {A : Option Addr} {c : Nat} {l : List Nat} {p q : Nat} {bad : Bool} (h : Rdq w B rb A c l p bad) : Rdq (w.setCell ⟨rb, 1, none⟩ (.int .i64 q)) B rb A c l q bad :=
  h.grow (grown_set w rb 1 _) (by rw [Go.Joins.block_setCell h.row]; rfl)
theorem Rdq.mark {w : World} {B rb : Nat} {A : Option Addr} {c : Nat} {l : List Nat} {p : Nat} {bad bad' : Bool} (h : Rdq w B rb A c l p bad) : Rdq (w.setCell ⟨rb, 2, none⟩ (.bool bad')) B rb A c l p bad' :=
  h.grow (grown_set w rb 2 _) (by rw [Go.Joins.block_setCell h.row]; rfl)

set_option maxHeartbeats 1000000 in
set_option maxRecDepth 100000 in
/-- reader.num -/
theorem c90 (w : World) (B rb : Nat) (A : Option Addr) (c : Nat) (l : List Nat) (p : Nat) (bad : Bool) (size : Nat) (h : Rdq w B rb A c l p bad) (hb : ∀ x ∈ l, x < 256) (hl : l.length ≤ 900000) (hp : p ≤ l.length) (hs1 : 1 ≤ size) (hs : size ≤ 4) :
    Calls Try.prog 90 #[.pointer (some ⟨rb, 0, none⟩), .int .i64 size] w fun e w' => e = .returned (.int .i64 (rdN l p bad size).1) ∧ Rdq w' B rb A c l (rdN l p bad size).2.1 (rdN l p bad size).2.2 ∧ w.grownBy w' (some rb) := by
  have H := Lib.hid h
  have k0 : w.cell? ⟨rb, 0, none⟩ = some (.slice A l.length c) := by rw [cell_of_row _ _ _ _ _ _ h.row]; rfl
  have k1 : w.cell? ⟨rb, 1, none⟩ = some (.int .i64 p) := by rw [cell_of_row _ _ _ _ _ _ h.row]; rfl
  have k2 : w.cell? ⟨rb, 2, none⟩ = some (.bool bad) := by rw [cell_of_row _ _ _ _ _ _ h.row]; rfl
  have f1 : w.frozen? ⟨rb, 1, none⟩ = false := by simp [World.frozen?, h.row]
  have f2 : w.frozen? ⟨rb, 2, none⟩ = false := by simp [World.frozen?, h.row]
  have C := Lib.hid fun (w' : World) (hd : Below w.heap.size w w') => c110 (w := w') (h.byts.ext hd) hb l.length p size rfl hl hs1 hs (by omega)
  by_cases hin : p + size ≤ l.length
  · have C2 := Lib.hid fun w' hd => (by have := C.out w' hd; rw [if_pos hin, decide_eq_true hin] at this; exact this)
    have HE : Hid (rdN l p bad size = (numB l p size, p + size, bad)) := Lib.hid (by unfold rdN; rw [if_pos hin])
    clear h C hin
    rw [HE.out]
    go_enter Try.func90, Try.ntmps90
    go_wp2_with fail
    go_quiet ((go_at_call 110; first | exact quiet_left (C2.out _ (by repeat (first | exact Below.refl _ _ | apply below_drewN | apply Below.drew))) | exact quiet_add_left (C2.out _ (by repeat (first | exact Below.refl _ _ | apply below_drewN | apply Below.drew)))))
    all_goals
      go_wp2_with fail
      go_ret
      have e : ((p : Int) + (size : Int)) = ((p + size : Nat) : Int) := by omega
      rw [e]
      exact ⟨rfl, Rdq.at_ (w := w.drewN nq) (H.out.other (below_drewN (Below.refl _ _) nq)), grown_drewN w nq (grown_set _ _ _ _)⟩
  · have C2 := Lib.hid fun w' hd => (by have := C.out w' hd; rw [if_neg hin, decide_eq_false hin] at this; exact this)
    have HE : Hid (rdN l p bad size = (0, p, true)) := Lib.hid (by unfold rdN; rw [if_neg hin])
    clear h C hin
    rw [HE.out]
    go_enter Try.func90, Try.ntmps90
    go_wp2_with fail
    go_quiet ((go_at_call 110; first | exact quiet_left (C2.out _ (by repeat (first | exact Below.refl _ _ | apply below_drewN | apply Below.drew))) | exact quiet_add_left (C2.out _ (by repeat (first | exact Below.refl _ _ | apply below_drewN | apply Below.drew)))))
    all_goals
      go_wp2_with fail
      go_ret
      exact ⟨rfl, Rdq.mark (w := w.drewN nq) (H.out.other (below_drewN (Below.refl _ _) nq)), grown_drewN w nq (grown_set _ _ _ _)⟩

theorem k90 {w : World} {B rb : Nat} {A : Option Addr} {c : Nat} {l : List Nat} {p : Nat} {bad : Bool} (h : Rdq w B rb A c l p bad) (hb : ∀ x ∈ l, x < 256) (hl : l.length ≤ 900000) (hp : p ≤ l.length) (size : Nat) (z : Int) {n q : Nat} {b2 : Bool} (hr : rdN l p bad size = (n, q, b2)) (hz : z = size) (hs1 : 1 ≤ size) (hs : size ≤ 4) :
    Calls Try.prog 90 #[.pointer (some ⟨rb, 0, none⟩), .int .i64 z] w fun e w' => e = .returned (.int .i64 n) ∧ Rdq w' B rb A c l q b2 ∧ w.grownBy w' (some rb) := by
  have := c90 w B rb A c l p bad size h hb hl hp hs1 hs
  rw [hr] at this
  rw [hz]
  exact this

end Go.Proofs.Ytepmcfleijiloaa

end
section
set_option linter.unusedVariables false
set_option linter.unusedSimpArgs false
/- Parts in memory; the words that they tell. -/
namespace Go.Proofs.Ytepmcfleijiloaa
open Go.RowKit

/-! Plain: what words answers. -/
def loopQ (rec : Nat → Nat → List ByteArray → List ByteArray × Bool) : List (Nat × Nat) → List ByteArray → List ByteArray × Bool
  | [], out => (out, true)
  | e :: es, out => if 1114111 < e.1 then (out, false) else if (rec e.1 e.2 out).2 = false ∨ (rec e.1 e.2 out).1.length = out.length then ((rec e.1 e.2 out).1, false) else loopQ rec es (rec e.1 e.2 out).1
def wordsQ (ns : List Nd) : Nat → Nat → Nat → ByteArray → List ByteArray → List ByteArray × Bool
  | 0, _, _, _, out => (out, false)
  | f + 1, n, d, p, out => if h : n < ns.length ∧ d ≤ 12 ∧ out.length ≤ 60 then
      loopQ (fun r t o => wordsQ ns f t (d + 1) (p ++ Utf8.encode (r : Int)) o) (ns[n]'h.1).2 (if (ns[n]'h.1).1 then out ++ [p] else out)
    else (out, false)
theorem loopQ_all {C : List ByteArray → Prop} {rec : Nat → Nat → List ByteArray → List ByteArray × Bool} (hr : ∀ r t o, C o → C (rec r t o).1) : ∀ (es : List (Nat × Nat)) (o : List ByteArray), C o → C (loopQ rec es o).1
  | [], o, h => h
  | e :: es, o, h => by
    unfold loopQ
    split
    · exact h
    · split
      · exact hr _ _ _ h
      · exact loopQ_all hr es _ (hr _ _ _ h)
theorem wordsQ_len (ns : List Nd) : ∀ (f n d : Nat) (p : ByteArray) (o : List ByteArray), o.length ≤ 61 → (wordsQ ns f n d p o).1.length ≤ 61
  | 0, _, _, _, _, h => h
  | f + 1, n, d, p, o, h => by
    unfold wordsQ
    split
    · rename_i h2
      refine loopQ_all (C := fun o => o.length ≤ 61) (fun r t o h => wordsQ_len ns f _ _ _ o h) _ _ ?_
      split
      · simp; omega
      · exact h
    · exact h
theorem wordsQ_small (ns : List Nd) : ∀ (f n d : Nat) (p : ByteArray) (o : List ByteArray), p.size ≤ 4 * d → (∀ x ∈ o, x.size ≤ 100) → ∀ x ∈ (wordsQ ns f n d p o).1, x.size ≤ 100
  | 0, _, _, _, _, _, h => h
  | f + 1, n, d, p, o, hp, h => by
    unfold wordsQ
    split
    · rename_i h2
      refine loopQ_all (C := fun o => ∀ x ∈ o, x.size ≤ 100) (fun r t o h => wordsQ_small ns f _ _ _ o ?_ h) _ _ ?_
      · rw [ByteArray.size_append]
        have := encode_size (r : Int)
        omega
      · split
        · intro x hx
          rcases List.mem_append.1 hx with h3 | h3
          · exact h x h3
          · obtain rfl : x = p := by simpa using h3
            omega
        · exact h
    · exact h

/-! Parts in memory. -/
def edgq (es : List (Nat × Nat)) : List Value := es.flatMap fun e => [.int .i64 e.1, .int .i64 e.2]
theorem edgq_nil : edgq [] = [] := rfl
theorem edgq_cons (e : Nat × Nat) (es : List (Nat × Nat)) : edgq (e :: es) = [.int .i64 e.1, .int .i64 e.2] ++ edgq es := rfl
theorem edgq_append (a b : List (Nat × Nat)) : edgq (a ++ b) = edgq a ++ edgq b := by simp [edgq]
theorem edgq_len (es : List (Nat × Nat)) : (edgq es).length = es.length * 2 := by
  induction es with
  | nil => rfl
  | cons e es ih => rw [edgq_cons, List.length_append, ih]; simp; omega
theorem edgq_at (es : List (Nat × Nat)) (k : Nat) (h : k < es.length) : (edgq es)[2 * k]? = some (.int .i64 (es[k]'h).1) ∧ (edgq es)[2 * k + 1]? = some (.int .i64 (es[k]'h).2) := by
  induction es generalizing k with
  | nil => simp at h
  | cons e es ih =>
    cases k with
    | zero => simp [edgq_cons]
    | succ k =>
      have := ih k (by simpa using h)
      rw [edgq_cons, show 2 * (k + 1) = 2 * k + 2 by omega, show 2 * k + 2 + 1 = (2 * k + 1) + 2 by omega]
      simpa using this
def Edgq (w : World) (lo : Nat) (A : Option Addr) (c : Nat) (es : List (Nat × Nat)) : Prop :=
  Rd w lo w.heap.size A (edgq es) ∧ es.length ≤ c ∧ c ≤ 9223372036854775807
section
variable {w w' : World} {lo : Nat} {A : Option Addr} {c : Nat} {es : List (Nat × Nat)}
theorem Edgq.at_ (h : Edgq w lo A c es) {k : Nat} (hk : k < es.length) :
    ∃ b o, A = some ⟨b, o, none⟩ ∧ lo ≤ b ∧ b < w.heap.size ∧ w.cell? ⟨b, o + k * 2, none⟩ = some (.int .i64 (es[k]'hk).1) ∧ w.cell? ⟨b, o + k * 2 + 1, none⟩ = some (.int .i64 (es[k]'hk).2) := by
  obtain ⟨b, o, e, h1, h2, hc⟩ := h.1 (by rw [edgq_len]; omega)
  have := edgq_at es k hk
  refine ⟨b, o, e, h1, h2, ?_, ?_⟩
  · rw [Nat.mul_comm]; exact hc _ _ this.1
  · rw [Nat.mul_comm, Nat.add_assoc]; exact hc _ _ this.2
theorem Edgq.ext (h : Edgq w lo A c es) (hb : Below w.heap.size w w') : Edgq w' lo A c es := ⟨h.1.ext hb, h.2.1, h.2.2⟩
theorem Edgq.of_own {base n : Nat} {v : Value} (h : w.ownsRow base 123 2 v n (edgq es)) : ∃ A c, v = .slice A es.length c ∧ Edgq w base A c es := by
  obtain ⟨A, c, rfl, h1, h2⟩ := own_slice h
  have hn : es.length = n := by have := h.1; rw [edgq_len] at this; omega
  subst hn
  exact ⟨A, c, rfl, Rd.of_own h, h1, h2⟩
end
/-- What words leans on. -/
structure PtA (w0 : World) (Ap : Option Addr) (b o c nl : Nat) (ns : List Nd) : Prop where
  nleq : nl = ns.length
  cap : nl ≤ c
  cap2 : c ≤ 9223372036854775807
  many : nl ≤ 65535
  adr : 0 < nl → Ap = some ⟨b, o, none⟩
  node : ∀ k (hk : k < ns.length), ∃ A2 c2, ∀ w', Below w0.heap.size w0 w' → w'.cell? ⟨b, o + k * 2, none⟩ = some (.bool ns[k].1) ∧ w'.cell? ⟨b, o + k * 2 + 1, none⟩ = some (.slice A2 ns[k].2.length c2) ∧ Edgq w' 0 A2 c2 ns[k].2
  few : ∀ k (hk : k < ns.length), ns[k].2.length ≤ 65535
  to_ : ∀ k (hk : k < ns.length), ∀ e ∈ ns[k].2, e.2 ≤ 65535
def WordsA (w0 : World) (Ap : Option Addr) (c nl : Nat) (ns : List Nd) (f : Nat) : Prop := ∀ (n : Nat) (p : ByteArray) (d : Nat) (w : World) (Ao : Option Addr) (co : Nat) (l l' : List ByteArray) (ok : Bool), n ≤ 65535 → d ≤ 13 → 14 ≤ f + d → p.size ≤ 4 * d → l.length ≤ 61 →
  Below w0.heap.size w0 w → w.ownsRow w0.heap.size 9 1 (.slice Ao l.length co) l.length (strv l) → wordsQ ns f n d p l = (l', ok) →
  Calls Try.prog 91 #[.slice Ap nl c, .int .i64 n, .int .i64 d, .string p, .slice Ao l.length co] w fun e w' => ∃ A2 c2, e = .returned (.tuple #[.slice A2 l'.length c2, .bool ok]) ∧ Hid (w'.ownsRow w0.heap.size 9 1 (.slice A2 l'.length c2) l'.length (strv l')) ∧ Hid (Below w0.heap.size w0 w')
theorem WordsA.call {w0 : World} {Ap : Option Addr} {c nl : Nat} {ns : List Nd} {f : Nat} (h : WordsA w0 Ap c nl ns f) (n : Nat) (p : ByteArray) (d : Nat) (w : World) (Ao : Option Addr) (co : Nat) (l l' : List ByteArray) (ok : Bool) (h1 : n ≤ 65535) (h2 : d ≤ 13) (h3 : 14 ≤ f + d) (h4 : p.size ≤ 4 * d) (h5 : l.length ≤ 61)
    (h6 : Below w0.heap.size w0 w) (h7 : w.ownsRow w0.heap.size 9 1 (.slice Ao l.length co) l.length (strv l)) (h8 : wordsQ ns f n d p l = (l', ok)) (e : Int) (he : e = d) (len : Nat) (hlen : len = l.length) :
  Calls Try.prog 91 #[.slice Ap nl c, .int .i64 n, .int .i64 e, .string p, .slice Ao len co] w fun e w' => ∃ A2 c2, e = .returned (.tuple #[.slice A2 l'.length c2, .bool ok]) ∧ Hid (w'.ownsRow w0.heap.size 9 1 (.slice A2 l'.length c2) l'.length (strv l')) ∧ Hid (Below w0.heap.size w0 w') := by
  rw [he, hlen]; exact h n p d w Ao co l l' ok h1 h2 h3 h4 h5 h6 h7 h8

end Go.Proofs.Ytepmcfleijiloaa

end
section
set_option linter.unusedVariables false
set_option linter.unusedSimpArgs false
/- words, of any parts. -/
namespace Go.Proofs.Ytepmcfleijiloaa
open Go.RowKit

set_option maxHeartbeats 8000000 in
set_option maxRecDepth 100000 in
theorem wordsA1 {w0 : World} {Ap : Option Addr} {b o c nl : Nat} {ns : List Nd} (hg : PtA w0 Ap b o c nl ns) (f : Nat) (ih : WordsA w0 Ap c nl ns f) : WordsA w0 Ap c nl ns (f + 1) := by
  intro n p d w Ao co l l' ok hn65 hd hfd hps hl61 hB hO hQ
  have HB := Lib.hid hB
  obtain ⟨kl, hkl⟩ : ∃ x, x = l.length := ⟨_, rfl⟩
  have HKL := Lib.hid hkl
  obtain ⟨_, _, e0, hlc1, hlc2⟩ := own_slice hO
  cases e0
  rw [← hkl] at hl61 hlc1 hO ⊢
  have HO : Hid (w.ownsRow w0.heap.size 9 1 (.slice Ao kl co) kl (strv l)) := Lib.hid hO
  have HO' : Hid (w.ownsRow w0.heap.size 9 1 (.slice Ao l.length co) l.length (strv l)) := Lib.hid (by rw [← hkl]; exact hO)
  have hnl65 := hg.many
  have hcap := hg.cap
  have hcap2 := hg.cap2
  have hsB := hB.size
  by_cases hin : n < nl ∧ d ≤ 12 ∧ kl ≤ 60
  · obtain ⟨hnn, hd12, hk60⟩ := hin
    have hn : n < ns.length := by have := hg.nleq; omega
    obtain rfl := hg.adr (by omega)
    obtain ⟨A2, c2, hnode⟩ := hg.node n hn
    have HQ0 : Hid (loopQ (fun r t o => wordsQ ns f t (d + 1) (p ++ Utf8.encode (r : Int)) o) ns[n].2 (if ns[n].1 then l ++ [p] else l) = (l', ok)) := Lib.hid (by
      unfold wordsQ at hQ
      rw [dif_pos ⟨hn, hd12, by omega⟩] at hQ
      exact hQ)
    obtain ⟨fi, hfi⟩ : ∃ x, x = ns[n].1 := ⟨_, rfl⟩
    obtain ⟨es, hes⟩ : ∃ x, x = ns[n].2 := ⟨_, rfl⟩
    have hel := hg.few n hn
    have HTO := Lib.hid (hg.to_ n hn)
    rw [← hfi, ← hes] at hnode HQ0
    rw [← hes] at hel HTO
    have HNO := Lib.hid hnode
    obtain ⟨k2, k3, k4⟩ := hnode w hB
    have hl1 := k4.2.1
    have hl2 := k4.2.2
    have hb0 : b < w.heap.size := World.block_lt_of_cell? _ _ k2
    have dn : decide ((nl : Int) ≤ n) = false := decide_eq_false (by omega)
    have dn2 : decide (nl ≤ n) = false := decide_eq_false (by omega)
    have dn3 : decide ((n : Int) < 0) = false := decide_eq_false (by omega)
    have dd : decide ((12 : Int) < d) = false := decide_eq_false (by omega)
    have dk : decide ((60 : Int) < kl) = false := decide_eq_false (by omega)
    clear hg hB hO hQ hnode hfi hes k4 hkl
    cases fi
    · have HWQ : Hid (loopQ (fun r t o => wordsQ ns f t (d + 1) (p ++ Utf8.encode (r : Int)) o) es l = (l', ok)) := Lib.hid (by simpa using HQ0.out)
      go_enter Try.func91, Try.ntmps91
      go_wp2_with fail
      clear k2 k3
      go_loopw [4, 12] (fun vo i wr => ∃ (m : Nat) (lo : List ByteArray) (Al : Option Addr) (cl : Nat), m ≤ es.length ∧ lo.length ≤ 61 ∧ i = .int .i64 m ∧ vo = .slice Al lo.length cl ∧ Hid (wr.ownsRow w0.heap.size 9 1 (.slice Al lo.length cl) lo.length (strv lo)) ∧ Hid (Below w0.heap.size w0 wr) ∧ Hid (loopQ (fun r t o => wordsQ ns f t (d + 1) (p ++ Utf8.encode (r : Int)) o) (es.drop m) lo = (l', ok))) (fun _ i _ => es.length - (intOf i).toNat)
      case atStart => exact ⟨0, l, Ao, co, by omega, by rw [← HKL.out]; omega, rfl, by rw [HKL.out], HO', HB, Lib.hid (by rw [List.drop_zero]; exact HWQ.out)⟩
      case round =>
        clear HO HB HWQ HO' HKL
        obtain ⟨m, lo, Al, cl, hm, hlo, rfl, rfl, HO, HB, HLQ⟩ := hrel
        obtain ⟨ko, hko⟩ : ∃ x, x = lo.length := ⟨_, rfl⟩
        have HKO := Lib.hid hko
        have kb1 := (HNO.out wr HB.out).2.1
        have hbw : b < wr.heap.size := World.block_lt_of_cell? _ _ kb1
        obtain ⟨_, _, e0, hlc1, hlc2⟩ := own_slice HO.out
        cases e0
        rw [← hko] at hlo hlc1 ⊢
        clear hko
        by_cases hlt : m < es.length
        · obtain ⟨b9, o9, hA, _, hb9, hx1, hx2⟩ := ((HNO.out wr HB.out).2.2).at_ hlt
          subst hA
          obtain ⟨r, hr⟩ : ∃ r, r = es[m].1 := ⟨_, rfl⟩
          obtain ⟨tn, htn⟩ : ∃ t, t = es[m].2 := ⟨_, rfl⟩
          have htl : tn ≤ 65535 := by rw [htn]; exact HTO.out _ (List.getElem_mem hlt)
          rw [← hr] at hx1
          rw [← htn] at hx2
          have HDR : Hid (es.drop m = (r, tn) :: es.drop (m + 1)) := Lib.hid (by rw [List.drop_eq_getElem_cons hlt, hr, htn])
          have HL2 := Lib.hid (HDR.out ▸ HLQ.out)
          clear hr htn
          by_cases hr1 : 1114111 < r
          · have dr : decide ((1114111 : Int) < r) = true := decide_eq_true (by omega)
            have HEQ : Hid (lo = l' ∧ ok = false) := Lib.hid (by
              have h := HL2.out
              unfold loopQ at h
              rw [if_pos hr1] at h
              simp only [Prod.mk.injEq] at h
              exact ⟨h.1, h.2.symm⟩)
            go_wp2_with fail
            go_ret2
            obtain ⟨rfl, rfl⟩ := HEQ.out
            exact ⟨Al, cl, by rw [← HKO.out]; rfl, HO, HB⟩
          · have dr : decide ((1114111 : Int) < r) = false := decide_eq_false (by omega)
            obtain ⟨er, her⟩ : ∃ er, er = Utf8.encode (r : Int) := ⟨_, rfl⟩
            have hsz4 : er.size ≤ 4 := by rw [her]; exact encode_size _
            obtain ⟨lm, okm, hmq⟩ : ∃ a b, wordsQ ns f tn (d + 1) (p ++ er) lo = (a, b) := ⟨_, _, rfl⟩
            have hlm : lm.length ≤ 61 := by
              have := wordsQ_len ns f tn (d + 1) (p ++ er) lo (by rw [← HKO.out]; exact hlo)
              rw [hmq] at this
              exact this
            have HNXT : Hid ((if okm = false ∨ lm.length = lo.length then (lm, false) else loopQ (fun r t o => wordsQ ns f t (d + 1) (p ++ Utf8.encode (r : Int)) o) (es.drop (m + 1)) lm) = (l', ok)) := Lib.hid (by
              have h := HL2.out
              unfold loopQ at h
              rw [if_neg hr1] at h
              simp only [← her, hmq] at h
              exact h)
            have HCALL := Lib.hid (ih.call tn (p ++ er) (d + 1) wr Al cl lo lm okm htl (by omega) (by omega) (by rw [ByteArray.size_append]; omega) (by rw [← HKO.out]; exact hlo) HB.out HO.out hmq ((d : Int) + 1) (by omega) ko HKO.out)
            have hconv := conv_runeA r
            rw [← her] at hconv
            have hsum : p.size + er.size ≤ 9223372036854775807 := by omega
            have hwr : IntKind.i32.wrap (r : Int) = r := by simp [IntKind.wrap, IntKind.signed, IntKind.bits]; omega
            obtain ⟨km, hkm⟩ : ∃ x, x = lm.length := ⟨_, rfl⟩
            have HKM := Lib.hid hkm
            rw [← hkm] at hlm HCALL
            clear her hmq hkm
            cases okm
            · have HEQ : Hid (lm = l' ∧ ok = false) := Lib.hid (by
                have h := HNXT.out
                rw [if_pos (Or.inl rfl)] at h
                simp only [Prod.mk.injEq] at h
                exact ⟨h.1, h.2.symm⟩)
              go_wp2_with fail
              (with_reducible refine HCALL.out.mono ?_); rintro e w5 ⟨A5, c5, rfl, HO5, HB5⟩
              go_wp2_with fail
              go_ret2
              obtain ⟨rfl, rfl⟩ := HEQ.out
              rw [HKM.out] at HO5 ⊢
              exact ⟨A5, c5, rfl, HO5, HB5⟩
            · by_cases hke : km = ko
              · have HEQ : Hid (lm = l' ∧ ok = false) := Lib.hid (by
                  have h := HNXT.out
                  rw [if_pos (Or.inr (by rw [← HKM.out, ← HKO.out]; exact hke))] at h
                  simp only [Prod.mk.injEq] at h
                  exact ⟨h.1, h.2.symm⟩)
                have dk : ((km : Int) == (ko : Int)) = true := by simp [hke]
                clear hke
                go_wp2_with fail
                (with_reducible refine HCALL.out.mono ?_); rintro e w5 ⟨A5, c5, rfl, HO5, HB5⟩
                obtain ⟨_, _, e0, hld1, hld2⟩ := own_slice HO5.out
                cases e0
                go_wp2_with fail
                go_ret2
                obtain ⟨rfl, rfl⟩ := HEQ.out
                rw [HKM.out] at HO5 ⊢
                exact ⟨A5, c5, rfl, HO5, HB5⟩
              · have HEQ : Hid (loopQ (fun r t o => wordsQ ns f t (d + 1) (p ++ Utf8.encode (r : Int)) o) (es.drop (m + 1)) lm = (l', ok)) := Lib.hid (by
                  have h := HNXT.out
                  rw [if_neg (by
                    rintro (h7 | h7)
                    · cases h7
                    · rw [← HKM.out, ← HKO.out] at h7; exact hke h7)] at h
                  exact h)
                have dk : ((km : Int) == (ko : Int)) = false := beq_eq_false_iff_ne.2 (by omega)
                clear hke
                go_wp2_with fail
                (with_reducible refine HCALL.out.mono ?_); rintro e w5 ⟨A5, c5, rfl, HO5, HB5⟩
                obtain ⟨_, _, e0, hld1, hld2⟩ := own_slice HO5.out
                cases e0
                go_wp2_with fail
                go_roundw
                case rel => exact ⟨m + 1, lm, A5, c5, by omega, by rw [← HKM.out]; exact hlm, by go_num, by rw [HKM.out], by rw [← HKM.out]; exact HO5, HB5, HEQ⟩
                case measure => simp [intOf]; omega
        · obtain rfl : m = es.length := by omega
          have HEQ : Hid (lo = l' ∧ ok = true) := Lib.hid (by
            have h := HLQ.out
            rw [List.drop_length] at h
            unfold loopQ at h
            simp only [Prod.mk.injEq] at h
            exact ⟨h.1, h.2.symm⟩)
          go_wp2_with fail
          go_ret2
          obtain ⟨rfl, rfl⟩ := HEQ.out
          exact ⟨Al, cl, by rw [← HKO.out]; rfl, HO, HB⟩
    · have HWQ : Hid (loopQ (fun r t o => wordsQ ns f t (d + 1) (p ++ Utf8.encode (r : Int)) o) es (l ++ [p]) = (l', ok)) := Lib.hid (by simpa using HQ0.out)
      go_enter Try.func91, Try.ntmps91
      go_wp2_with (first
        | (at_builtin
           refine wpList_append_rd infoS rfl (.tmp 40) (.tmp 42) rfl w0.heap.size (.slice Ao kl co) kl (strv l) rfl (HO.out.alloc _) w.heap.size (w.heap.size + 1) _ 1 1 [.string p] rfl (Rd.new w _ _) rfl (by simp [Value.oneCell']) (by omega) (by simp; omega) ?_
           intro v1 w1 hown1 hg1 hat1
           obtain ⟨A1, c1', rfl, _, _⟩ := own_slice hown1
           have HB1 : Hid (Below w0.heap.size w0 w1) := Lib.hid ((HB.out.alloc hsB _).grown hg1 (by simp; omega) (fun q hq => by have := HO.out.lt q hq; omega))
           have HO1 : Hid (w1.ownsRow w0.heap.size 9 1 (.slice A1 (l ++ [p]).length c1') (l ++ [p]).length (strv (l ++ [p]))) := Lib.hid (by rw [List.length_append, strv_append, ← HKL.out]; exact hown1)
           have HLL : Hid (kl + 1 = (l ++ [p]).length) := Lib.hid (by rw [List.length_append, HKL.out]; rfl)
           have kb1' := (HNO.out w1 HB1.out).2.1
           clear hown1 hg1 hat1))
      clear k2 k3
      go_loopw [4, 12] (fun vo i wr => ∃ (m : Nat) (lo : List ByteArray) (Al : Option Addr) (cl : Nat), m ≤ es.length ∧ lo.length ≤ 61 ∧ i = .int .i64 m ∧ vo = .slice Al lo.length cl ∧ Hid (wr.ownsRow w0.heap.size 9 1 (.slice Al lo.length cl) lo.length (strv lo)) ∧ Hid (Below w0.heap.size w0 wr) ∧ Hid (loopQ (fun r t o => wordsQ ns f t (d + 1) (p ++ Utf8.encode (r : Int)) o) (es.drop m) lo = (l', ok))) (fun _ i _ => es.length - (intOf i).toNat)
      case atStart => exact ⟨0, l ++ [p], A1, c1', by omega, by rw [← HLL.out]; omega, rfl, by rw [HLL.out], HO1, HB1, Lib.hid (by rw [List.drop_zero]; exact HWQ.out)⟩
      case round =>
        clear HO HB HWQ HO' HKL HO1 HB1 HLL
        obtain ⟨m, lo, Al, cl, hm, hlo, rfl, rfl, HO, HB, HLQ⟩ := hrel
        obtain ⟨ko, hko⟩ : ∃ x, x = lo.length := ⟨_, rfl⟩
        have HKO := Lib.hid hko
        have kb1 := (HNO.out wr HB.out).2.1
        have hbw : b < wr.heap.size := World.block_lt_of_cell? _ _ kb1
        obtain ⟨_, _, e0, hlc1, hlc2⟩ := own_slice HO.out
        cases e0
        rw [← hko] at hlo hlc1 ⊢
        clear hko
        by_cases hlt : m < es.length
        · obtain ⟨b9, o9, hA, _, hb9, hx1, hx2⟩ := ((HNO.out wr HB.out).2.2).at_ hlt
          subst hA
          obtain ⟨r, hr⟩ : ∃ r, r = es[m].1 := ⟨_, rfl⟩
          obtain ⟨tn, htn⟩ : ∃ t, t = es[m].2 := ⟨_, rfl⟩
          have htl : tn ≤ 65535 := by rw [htn]; exact HTO.out _ (List.getElem_mem hlt)
          rw [← hr] at hx1
          rw [← htn] at hx2
          have HDR : Hid (es.drop m = (r, tn) :: es.drop (m + 1)) := Lib.hid (by rw [List.drop_eq_getElem_cons hlt, hr, htn])
          have HL2 := Lib.hid (HDR.out ▸ HLQ.out)
          clear hr htn
          by_cases hr1 : 1114111 < r
          · have dr : decide ((1114111 : Int) < r) = true := decide_eq_true (by omega)
            have HEQ : Hid (lo = l' ∧ ok = false) := Lib.hid (by
              have h := HL2.out
              unfold loopQ at h
              rw [if_pos hr1] at h
              simp only [Prod.mk.injEq] at h
              exact ⟨h.1, h.2.symm⟩)
            go_wp2_with fail
            go_ret2
            obtain ⟨rfl, rfl⟩ := HEQ.out
            exact ⟨Al, cl, by rw [← HKO.out]; rfl, HO, HB⟩
          · have dr : decide ((1114111 : Int) < r) = false := decide_eq_false (by omega)
            obtain ⟨er, her⟩ : ∃ er, er = Utf8.encode (r : Int) := ⟨_, rfl⟩
            have hsz4 : er.size ≤ 4 := by rw [her]; exact encode_size _
            obtain ⟨lm, okm, hmq⟩ : ∃ a b, wordsQ ns f tn (d + 1) (p ++ er) lo = (a, b) := ⟨_, _, rfl⟩
            have hlm : lm.length ≤ 61 := by
              have := wordsQ_len ns f tn (d + 1) (p ++ er) lo (by rw [← HKO.out]; exact hlo)
              rw [hmq] at this
              exact this
            have HNXT : Hid ((if okm = false ∨ lm.length = lo.length then (lm, false) else loopQ (fun r t o => wordsQ ns f t (d + 1) (p ++ Utf8.encode (r : Int)) o) (es.drop (m + 1)) lm) = (l', ok)) := Lib.hid (by
              have h := HL2.out
              unfold loopQ at h
              rw [if_neg hr1] at h
              simp only [← her, hmq] at h
              exact h)
            have HCALL := Lib.hid (ih.call tn (p ++ er) (d + 1) wr Al cl lo lm okm htl (by omega) (by omega) (by rw [ByteArray.size_append]; omega) (by rw [← HKO.out]; exact hlo) HB.out HO.out hmq ((d : Int) + 1) (by omega) ko HKO.out)
            have hconv := conv_runeA r
            rw [← her] at hconv
            have hsum : p.size + er.size ≤ 9223372036854775807 := by omega
            have hwr : IntKind.i32.wrap (r : Int) = r := by simp [IntKind.wrap, IntKind.signed, IntKind.bits]; omega
            obtain ⟨km, hkm⟩ : ∃ x, x = lm.length := ⟨_, rfl⟩
            have HKM := Lib.hid hkm
            rw [← hkm] at hlm HCALL
            clear her hmq hkm
            cases okm
            · have HEQ : Hid (lm = l' ∧ ok = false) := Lib.hid (by
                have h := HNXT.out
                rw [if_pos (Or.inl rfl)] at h
                simp only [Prod.mk.injEq] at h
                exact ⟨h.1, h.2.symm⟩)
              go_wp2_with fail
              (with_reducible refine HCALL.out.mono ?_); rintro e w5 ⟨A5, c5, rfl, HO5, HB5⟩
              go_wp2_with fail
              go_ret2
              obtain ⟨rfl, rfl⟩ := HEQ.out
              rw [HKM.out] at HO5 ⊢
              exact ⟨A5, c5, rfl, HO5, HB5⟩
            · by_cases hke : km = ko
              · have HEQ : Hid (lm = l' ∧ ok = false) := Lib.hid (by
                  have h := HNXT.out
                  rw [if_pos (Or.inr (by rw [← HKM.out, ← HKO.out]; exact hke))] at h
                  simp only [Prod.mk.injEq] at h
                  exact ⟨h.1, h.2.symm⟩)
                have dk : ((km : Int) == (ko : Int)) = true := by simp [hke]
                clear hke
                go_wp2_with fail
                (with_reducible refine HCALL.out.mono ?_); rintro e w5 ⟨A5, c5, rfl, HO5, HB5⟩
                obtain ⟨_, _, e0, hld1, hld2⟩ := own_slice HO5.out
                cases e0
                go_wp2_with fail
                go_ret2
                obtain ⟨rfl, rfl⟩ := HEQ.out
                rw [HKM.out] at HO5 ⊢
                exact ⟨A5, c5, rfl, HO5, HB5⟩
              · have HEQ : Hid (loopQ (fun r t o => wordsQ ns f t (d + 1) (p ++ Utf8.encode (r : Int)) o) (es.drop (m + 1)) lm = (l', ok)) := Lib.hid (by
                  have h := HNXT.out
                  rw [if_neg (by
                    rintro (h7 | h7)
                    · cases h7
                    · rw [← HKM.out, ← HKO.out] at h7; exact hke h7)] at h
                  exact h)
                have dk : ((km : Int) == (ko : Int)) = false := beq_eq_false_iff_ne.2 (by omega)
                clear hke
                go_wp2_with fail
                (with_reducible refine HCALL.out.mono ?_); rintro e w5 ⟨A5, c5, rfl, HO5, HB5⟩
                obtain ⟨_, _, e0, hld1, hld2⟩ := own_slice HO5.out
                cases e0
                go_wp2_with fail
                go_roundw
                case rel => exact ⟨m + 1, lm, A5, c5, by omega, by rw [← HKM.out]; exact hlm, by go_num, by rw [HKM.out], by rw [← HKM.out]; exact HO5, HB5, HEQ⟩
                case measure => simp [intOf]; omega
        · obtain rfl : m = es.length := by omega
          have HEQ : Hid (lo = l' ∧ ok = true) := Lib.hid (by
            have h := HLQ.out
            rw [List.drop_length] at h
            unfold loopQ at h
            simp only [Prod.mk.injEq] at h
            exact ⟨h.1, h.2.symm⟩)
          go_wp2_with fail
          go_ret2
          obtain ⟨rfl, rfl⟩ := HEQ.out
          exact ⟨Al, cl, by rw [← HKO.out]; rfl, HO, HB⟩
  · have HNO1 : Hid (l = l' ∧ ok = false) := Lib.hid (by
      unfold wordsQ at hQ
      rw [dif_neg (by rw [← hg.nleq, ← hkl]; exact hin)] at hQ
      simp only [Prod.mk.injEq] at hQ
      exact ⟨hQ.1, hQ.2.symm⟩)
    replace HO := HO'
    by_cases h1 : n < nl
    · have dn : decide ((nl : Int) ≤ n) = false := decide_eq_false (by omega)
      by_cases h2 : d ≤ 12
      · have dd : decide ((12 : Int) < d) = false := decide_eq_false (by omega)
        have dk : decide ((60 : Int) < kl) = true := decide_eq_true (by omega)
        have h3 : 60 < kl := by omega
        clear hg hB hO hQ hkl hin
        go_enter Try.func91, Try.ntmps91
        go_wp2_with fail
        go_ret2
        obtain ⟨rfl, rfl⟩ := HNO1.out
        exact ⟨Ao, co, by rw [← HKL.out]; rfl, HO, HB⟩
      · have dd : decide ((12 : Int) < d) = true := decide_eq_true (by omega)
        have h3 : 12 < d := by omega
        clear hg hB hO hQ hkl hin
        go_enter Try.func91, Try.ntmps91
        go_wp2_with fail
        go_ret2
        obtain ⟨rfl, rfl⟩ := HNO1.out
        exact ⟨Ao, co, by rw [← HKL.out]; rfl, HO, HB⟩
    · have dn : decide ((nl : Int) ≤ n) = true := decide_eq_true (by omega)
      have h3 : nl ≤ n := by omega
      clear hg hB hO hQ hkl hin
      go_enter Try.func91, Try.ntmps91
      go_wp2_with fail
      go_ret2
      obtain ⟨rfl, rfl⟩ := HNO1.out
      exact ⟨Ao, co, by rw [← HKL.out]; rfl, HO, HB⟩

theorem wordsAllA {w0 : World} {Ap : Option Addr} {b o c nl : Nat} {ns : List Nd} (hg : PtA w0 Ap b o c nl ns) : ∀ f, WordsA w0 Ap c nl ns f
  | 0 => fun n p d w Ao co l l' ok h0 h1 h2 => by omega
  | f + 1 => wordsA1 hg f (wordsAllA hg f)

end Go.Proofs.Ytepmcfleijiloaa

end
section
set_option linter.unusedVariables false
set_option linter.unusedSimpArgs false
/- Chapter 9's own decoding, plain. -/
namespace Go.Proofs.Ytepmcfleijiloaa
open Go.RowKit

def stQ (l : List Nat) (s : List (Nat × Nat) × Nat × Bool) : List (Nat × Nat) × Nat × Bool :=
  if s.2.2 then s else
    (s.1 ++ [((rdN l s.2.1 false 4).1, (rdN l (rdN l s.2.1 false 4).2.1 (rdN l s.2.1 false 4).2.2 2).1)], (rdN l (rdN l s.2.1 false 4).2.1 (rdN l s.2.1 false 4).2.2 2).2)
def itQ (l : List Nat) : Nat → List (Nat × Nat) × Nat × Bool → List (Nat × Nat) × Nat × Bool
  | 0, s => s
  | k + 1, s => stQ l (itQ l k s)
theorem itQ_succ (l : List Nat) (k : Nat) (s : List (Nat × Nat) × Nat × Bool) : itQ l (k + 1) s = stQ l (itQ l k s) := rfl
theorem itQ_bad {l : List Nat} {s : List (Nat × Nat) × Nat × Bool} {k : Nat} (h : (itQ l k s).2.2 = true) : ∀ m, k ≤ m → itQ l m s = itQ l k s
  | 0, hm => by obtain rfl : k = 0 := by omega
                rfl
  | m + 1, hm => by
    rcases Nat.lt_or_ge m k with h2 | h2
    · obtain rfl : k = m + 1 := by omega
      rfl
    · show stQ l (itQ l m s) = _
      rw [itQ_bad h m h2]
      unfold stQ
      rw [if_pos h]
def rdNodeQ (l : List Nat) (p : Nat) : (Bool × List (Nat × Nat)) × Nat × Bool :=
  let f := rdN l p false 1
  let c := rdN l f.2.1 f.2.2 2
  let s := itQ l c.1 ([], c.2.1, c.2.2)
  ((decide (f.1 = 1), s.1), s.2.1, s.2.2)
def stNQ (l : List Nat) (s : List Nd × Nat × Bool) : List Nd × Nat × Bool := if s.2.2 then s else (s.1 ++ [(rdNodeQ l s.2.1).1], (rdNodeQ l s.2.1).2)
def itNQ (l : List Nat) : Nat → List Nd × Nat × Bool → List Nd × Nat × Bool
  | 0, s => s
  | k + 1, s => stNQ l (itNQ l k s)
theorem itNQ_succ (l : List Nat) (k : Nat) (s : List Nd × Nat × Bool) : itNQ l (k + 1) s = stNQ l (itNQ l k s) := rfl
theorem itNQ_bad {l : List Nat} {s : List Nd × Nat × Bool} {k : Nat} (h : (itNQ l k s).2.2 = true) : ∀ m, k ≤ m → itNQ l m s = itNQ l k s
  | 0, hm => by obtain rfl : k = 0 := by omega
                rfl
  | m + 1, hm => by
    rcases Nat.lt_or_ge m k with h2 | h2
    · obtain rfl : k = m + 1 := by omega
      rfl
    · show stNQ l (itNQ l m s) = _
      rw [itNQ_bad h m h2]
      unfold stNQ
      rw [if_pos h]
/-- Its answer. -/
def decQ (L : List Nat) : List ByteArray × Int :=
  if sumOk L = false then ([], 9) else
  if (itNQ L (rdN L 4 false 2).1 ([], (rdN L 4 false 2).2.1, (rdN L 4 false 2).2.2)).2.2 = true then ([], 8) else
  if (wordsQ (itNQ L (rdN L 4 false 2).1 ([], (rdN L 4 false 2).2.1, (rdN L 4 false 2).2.2)).1 14 0 0 ⟨#[]⟩ []).2 = false then ([], 8) else
  if goodE (wordsQ (itNQ L (rdN L 4 false 2).1 ([], (rdN L 4 false 2).2.1, (rdN L 4 false 2).2.2)).1 14 0 0 ⟨#[]⟩ []).1 ≠ 0 then ([], 8) else
  if imageB (graphOf (textsOf (wordsQ (itNQ L (rdN L 4 false 2).1 ([], (rdN L 4 false 2).2.1, (rdN L 4 false 2).2.2)).1 14 0 0 ⟨#[]⟩ []).1)) ≠ L then ([], 8) else
  ((wordsQ (itNQ L (rdN L 4 false 2).1 ([], (rdN L 4 false 2).2.1, (rdN L 4 false 2).2.2)).1 14 0 0 ⟨#[]⟩ []).1, 0)
theorem decQ_no {L : List Nat} (h : NoImg L) : decQ L = ([], if sumOk L then 8 else 9) := by
  unfold decQ
  generalize (itNQ L (rdN L 4 false 2).1 ([], (rdN L 4 false 2).2.1, (rdN L 4 false 2).2.2)) = s
  cases sumOk L with
  | false => simp
  | true =>
    simp only [Bool.true_eq_false, if_false, if_true]
    split
    · rfl
    · split
      · rfl
      · split
        · rfl
        · split
          · rfl
          · rename_i h1 h2
            exfalso
            refine h _ (fun x hx => Nat.le_trans (wordsQ_small s.1 14 0 0 ⟨#[]⟩ [] (by simp [ByteArray.size]) (fun x hx => by cases hx) x hx) (by omega)) ?_ ?_
            · exact Decidable.not_not.1 h1
            · exact (Decidable.not_not.1 h2).symm

/-! Bounds. -/
theorem stQ_le {l : List Nat} (hb : ∀ x ∈ l, x < 256) {s : List (Nat × Nat) × Nat × Bool} (h : s.2.1 ≤ l.length) (h2 : ∀ e ∈ s.1, e.2 ≤ 65535) : (stQ l s).2.1 ≤ l.length ∧ (∀ e ∈ (stQ l s).1, e.2 ≤ 65535) ∧ (stQ l s).1.length ≤ s.1.length + 1 := by
  unfold stQ
  split
  · exact ⟨h, h2, by omega⟩
  · obtain ⟨x, p2, g2, h3⟩ : ∃ a b c, rdN l s.2.1 false 4 = (a, b, c) := ⟨_, _, _, rfl⟩
    rw [h3]
    simp only
    obtain ⟨y, p3, g3, h4⟩ : ∃ a b c, rdN l p2 g2 2 = (a, b, c) := ⟨_, _, _, rfl⟩
    rw [h4]
    have h5 := rdN_le hb h4 (rdN_le hb h3 h).1
    refine ⟨h5.1, fun e he => ?_, by simp⟩
    rcases List.mem_append.1 he with h6 | h6
    · exact h2 e h6
    · obtain rfl : e = (x, y) := by simpa using h6
      have := h5.2.2 (by omega)
      show y ≤ 65535
      omega
theorem itQ_le {l : List Nat} (hb : ∀ x ∈ l, x < 256) {s : List (Nat × Nat) × Nat × Bool} (h : s.2.1 ≤ l.length) (h2 : ∀ e ∈ s.1, e.2 ≤ 65535) : ∀ k, (itQ l k s).2.1 ≤ l.length ∧ (∀ e ∈ (itQ l k s).1, e.2 ≤ 65535) ∧ (itQ l k s).1.length ≤ s.1.length + k
  | 0 => ⟨h, h2, by simp [itQ]⟩
  | k + 1 => by
    obtain ⟨h3, h4, h5⟩ := itQ_le hb h h2 k
    rw [itQ_succ]
    obtain ⟨h6, h7, h8⟩ := stQ_le hb h3 h4
    exact ⟨h6, h7, by omega⟩
theorem rdNodeQ_le {l : List Nat} (hb : ∀ x ∈ l, x < 256) {p : Nat} (hp : p ≤ l.length) : (rdNodeQ l p).2.1 ≤ l.length ∧ (rdNodeQ l p).1.2.length ≤ 65535 ∧ ∀ e ∈ (rdNodeQ l p).1.2, e.2 ≤ 65535 := by
  unfold rdNodeQ
  obtain ⟨f, p1, g1, h1⟩ : ∃ a b c, rdN l p false 1 = (a, b, c) := ⟨_, _, _, rfl⟩
  obtain ⟨n, p2, g2, h2⟩ : ∃ a b c, rdN l p1 g1 2 = (a, b, c) := ⟨_, _, _, rfl⟩
  simp only [h1, h2]
  have h3 := rdN_le hb h2 (rdN_le hb h1 hp).1
  obtain ⟨h4, h5, h6⟩ := itQ_le hb (s := ([], p2, g2)) h3.1 (fun e he => by cases he) n
  refine ⟨h4, ?_, h5⟩
  have := h3.2.2 (by omega)
  simp at h6
  omega
theorem itNQ_le {l : List Nat} (hb : ∀ x ∈ l, x < 256) {p0 : Nat} {b0 : Bool} (h : p0 ≤ l.length) : ∀ k, (itNQ l k ([], p0, b0)).2.1 ≤ l.length ∧ ∀ nd ∈ (itNQ l k ([], p0, b0)).1, nd.2.length ≤ 65535 ∧ ∀ e ∈ nd.2, e.2 ≤ 65535
  | 0 => ⟨h, fun nd hnd => by cases hnd⟩
  | k + 1 => by
    obtain ⟨h1, h2⟩ := itNQ_le hb (b0 := b0) h k
    rw [itNQ_succ]
    unfold stNQ
    split
    · exact ⟨h1, h2⟩
    · obtain ⟨h3, h4, h5⟩ := rdNodeQ_le hb h1
      refine ⟨h3, fun nd hnd => ?_⟩
      rcases List.mem_append.1 hnd with h6 | h6
      · exact h2 nd h6
      · obtain rfl : nd = _ := by simpa using h6
        exact ⟨h4, h5⟩

/-! An image is read back. -/
theorem itQ_at {l a z : List Nat} {es : List (Nat × Nat)} (hl : l = a ++ edgesB es ++ z) (hes : ∀ e ∈ es, e.1 ≤ 1114111 ∧ e.2 < 721) : ∀ k, k ≤ es.length → itQ l k ([], a.length, false) = (es.take k, a.length + 6 * k, false)
  | 0, _ => by simp [itQ]
  | k + 1, hk => by
    have ih := itQ_at hl hes k (by omega)
    have hlt : k < es.length := by omega
    obtain ⟨h1, h2⟩ := hes _ (List.getElem_mem hlt)
    have hlen : (a ++ edgesB (es.take k)).length = a.length + 6 * k := by
      rw [List.length_append, edgesB_len, List.length_take]
      omega
    have hsplit : edgesB es = edgesB (es.take k) ++ (be 4 es[k].1 ++ be 2 es[k].2) ++ edgesB (es.drop (k + 1)) := by
      conv => lhs; rw [← List.take_append_drop (k + 1) es]
      have e1 : edgesB (es.take (k + 1) ++ es.drop (k + 1)) = edgesB (es.take (k + 1)) ++ edgesB (es.drop (k + 1)) := by unfold edgesB; rw [List.flatMap_append]
      rw [e1, edgesB_take es k hlt]
      rfl
    have r1 : rdN l (a.length + 6 * k) false 4 = (es[k].1, a.length + 6 * k + 4, false) :=
      rd4 (a := a ++ edgesB (es.take k)) (z := be 2 es[k].2 ++ edgesB (es.drop (k + 1)) ++ z) false (by rw [hl, hsplit]; simp only [List.append_assoc]) hlen.symm (by omega)
    have r2 : rdN l (a.length + 6 * k + 4) false 2 = (es[k].2, a.length + 6 * k + 4 + 2, false) :=
      rd2 (a := a ++ edgesB (es.take k) ++ be 4 es[k].1) (z := edgesB (es.drop (k + 1)) ++ z) false (by rw [hl, hsplit]; simp only [List.append_assoc]) (by rw [List.length_append, hlen, be_len]) (by omega)
    rw [itQ_succ, ih]
    unfold stQ
    simp only [r1, r2]
    rw [List.take_succ_eq_append_getElem hlt]
    have e6 : a.length + 6 * k + 4 + 2 = a.length + 6 * (k + 1) := by omega
    rw [e6]
    rfl
theorem rdNodeQ_at {l a z : List Nat} {nd : Nd} (hl : l = a ++ nodeB nd ++ z) (hf : nd.2.length ≤ 60) (hes : ∀ e ∈ nd.2, e.1 ≤ 1114111 ∧ e.2 < 721) : rdNodeQ l a.length = (nd, a.length + (nodeB nd).length, false) := by
  obtain ⟨f, es⟩ := nd
  have hfv : (if f then 1 else 0 : Nat) < 256 := by split <;> omega
  have r1 : rdN l a.length false 1 = ((if f then 1 else 0), a.length + 1, false) :=
    rd1 (z := be 2 es.length ++ edgesB es ++ z) false (by rw [hl]; simp only [nodeB, List.append_assoc]) rfl hfv
  have r2 : rdN l (a.length + 1) false 2 = (es.length, a.length + 1 + 2, false) :=
    rd2 (a := a ++ be 1 (if f then 1 else 0)) (z := edgesB es ++ z) false (by rw [hl]; simp only [nodeB, List.append_assoc]) (by rw [List.length_append, be_len]) (by simp only at hf; omega)
  have hl3 : (a ++ be 1 (if f then 1 else 0) ++ be 2 es.length).length = a.length + 1 + 2 := by rw [List.length_append, List.length_append, be_len, be_len]
  have r3 := itQ_at (l := l) (a := a ++ be 1 (if f then 1 else 0) ++ be 2 es.length) (z := z) (es := es) (by rw [hl]; simp only [nodeB, List.append_assoc]) hes es.length (Nat.le_refl _)
  rw [hl3] at r3
  unfold rdNodeQ
  simp only [r1, r2, r3, List.take_length]
  have hff : decide ((if f then 1 else 0 : Nat) = 1) = f := by cases f <;> rfl
  rw [hff, nodeB_len]
  have e6 : a.length + 1 + 2 + 6 * es.length = a.length + (3 + 6 * (f, es).2.length) := by show _ = a.length + (3 + 6 * es.length); omega
  rw [e6]
theorem itNQ_at {l z : List Nat} {ns : List Nd} (h : Ok9 ns) (hl : l = bodyB ns ++ z) : ∀ k, k ≤ ns.length → itNQ l k ([], 6, false) = (ns.take k, (preB ns k).length, false)
  | 0, _ => by rw [pre_zero]; rfl
  | k + 1, hk => by
    have hlt : k < ns.length := by omega
    have hm := List.getElem_mem hlt
    rw [itNQ_succ, itNQ_at h hl k (by omega)]
    unfold stNQ
    have e1 : l = preB ns k ++ nodeB ns[k] ++ (nodesB (ns.drop (k + 1)) ++ z) := by
      rw [hl]
      unfold bodyB preB
      have : nodesB ns = nodesB (ns.take k) ++ nodeB ns[k] ++ nodesB (ns.drop (k + 1)) := by
        conv => lhs; rw [← List.take_append_drop (k + 1) ns]
        have e1 : nodesB (ns.take (k + 1) ++ ns.drop (k + 1)) = nodesB (ns.take (k + 1)) ++ nodesB (ns.drop (k + 1)) := by unfold nodesB; rw [List.flatMap_append]
        rw [e1, nodesB_take ns k hlt]
      rw [this]
      simp only [List.append_assoc]
    rw [rdNodeQ_at e1 (h.few _ hm) (h.small _ hm)]
    have e2 : (preB ns (k + 1)).length = (preB ns k).length + (nodeB ns[k]).length := by
      unfold preB
      rw [nodesB_take ns k hlt]
      simp only [List.length_append]
      omega
    rw [e2, List.take_succ_eq_append_getElem hlt]
    rfl
/-- What is told of a node of a graph of words. -/
theorem told_len_groups (p : List Nat) {R : Rs} (h : R.Pairwise (· < ·)) : R.length = (if fin R then 1 else 0) + ((groups R).flatMap (fun g => told (p ++ [g.1]) g.2)).length := by
  have e := congrArg List.length (told_groups p h)
  rw [told_len, List.length_append] at e
  rw [e]
  split <;> rfl
theorem wordsQ_graph {T : Rs} (hW : Wd T) : ∀ (f n d : Nat) (hn : n < (nodesOf T).length) (p : List Nat) (out : List ByteArray), hgt (nodesOf T)[n] < f → hgt (nodesOf T)[n] + d ≤ 12 → okT p → out.length + (nodesOf T)[n].length ≤ 60 →
    wordsQ (graphOf T) f n d (txt p) out = (out ++ told p (nodesOf T)[n], true)
  | 0, n, d, hn, p, out, h1, _, _, _ => by omega
  | f + 1, n, d, hn, p, out, h1, h2, h3, h4 => by
    obtain ⟨R, hR⟩ : ∃ R, R = (nodesOf T)[n] := ⟨_, rfl⟩
    have hmem : R ∈ nodesOf T := by rw [hR]; exact List.getElem_mem hn
    have hnod := nodesOf_nod hW R hmem
    have hcl := nodesOf_closed hW R hmem
    have hng : n < (graphOf T).length := by rw [graphOf_len]; exact hn
    have e0 : (graphOf T)[n] = (fin R, edgesOf (nodesOf T) R) := by rw [hR]; simp [graphOf, ndOf]
    rw [← hR] at h1 h2 h4 ⊢
    unfold wordsQ
    rw [dif_pos ⟨hng, by omega, by omega⟩]
    rw [e0]
    simp only
    have key : ∀ (gs : List (Nat × Rs)) (o : List ByteArray), (∀ g ∈ gs, g ∈ groups R) → o.length + (gs.flatMap fun g => told (p ++ [g.1]) g.2).length ≤ 60 →
        loopQ (fun r t o => wordsQ (graphOf T) f t (d + 1) (txt p ++ Utf8.encode (r : Int)) o) (gs.map fun g => (g.1, (nodesOf T).idxOf g.2)) o = (o ++ gs.flatMap (fun g => told (p ++ [g.1]) g.2), true) := by
      intro gs
      induction gs with
      | nil => intro o _ _; simp [loopQ]
      | cons g gs ih =>
        intro o hg hlen
        have hgm := hg g (by simp)
        have hin := hcl g hgm
        have hil := List.idxOf_lt_length_of_mem hin
        have hge : (nodesOf T)[(nodesOf T).idxOf g.2] = g.2 := List.getElem_idxOf hil
        have hch := hgt_child hgm
        have hokr : okR g.1 := group_okR hnod.ok hgm
        have hr : g.1 ≤ 1114111 := by rcases hokr.1 with h | h <;> omega
        simp only [List.flatMap_cons, List.length_append, told_len] at hlen
        have hrec : wordsQ (graphOf T) f ((nodesOf T).idxOf g.2) (d + 1) (txt p ++ Utf8.encode (g.1 : Int)) o = (o ++ told (p ++ [g.1]) g.2, true) := by
          have := wordsQ_graph hW f ((nodesOf T).idxOf g.2) (d + 1) hil (p ++ [g.1]) o (by rw [hge]; omega) (by rw [hge]; omega) (okT_append.2 ⟨h3, by simpa [okT] using hokr⟩) (by rw [hge]; omega)
          rw [hge] at this
          rw [encode_txt hokr, txt_add]
          exact this
        have hne : g.2 ≠ [] := (mem_groups R g hgm).1
        have hpos : 0 < g.2.length := List.length_pos_iff.2 hne
        rw [List.map_cons]
        unfold loopQ
        simp only
        rw [if_neg (by omega), hrec, if_neg (by
          rintro (h | h)
          · cases h
          · simp only [List.length_append, told_len] at h; omega)]
        rw [ih _ (fun g' hg' => hg g' (by simp [hg'])) (by rw [List.length_append, told_len]; omega), List.append_assoc, List.flatMap_cons]
    have hll := told_len_groups p hnod.asc
    rw [edgesOf, key (groups R) _ (fun g hg => hg) (by split <;> simp_all <;> omega), told_groups p hnod.asc]
    split <;> simp
theorem decQ_image {xs : List ByteArray} (hW : Wds xs) (hg : goodE xs = 0) : decQ (imageB (graphOf (textsOf xs))) = (xs, 0) := by
  have ok := ok9 hW
  have hnl := ok.len
  have hs := sumOk_seal (bodyB (graphOf (textsOf xs)))
  have h1 : rdN (imageB (graphOf (textsOf xs))) 4 false 2 = ((graphOf (textsOf xs)).length, 6, false) :=
    rd2 (a := [73, 78, 75, 49]) (z := nodesB (graphOf (textsOf xs)) ++ be 4 (crc (bodyB (graphOf (textsOf xs))))) false (by unfold imageB sealB bodyB; simp only [List.append_assoc]) rfl (by omega)
  have h2 := itNQ_at (l := imageB (graphOf (textsOf xs))) (z := be 4 (crc (bodyB (graphOf (textsOf xs))))) ok rfl (graphOf (textsOf xs)).length (Nat.le_refl _)
  rw [List.take_length] at h2
  obtain ⟨M, hM⟩ := nodesOf_head (textsOf xs)
  have hb0 : 0 < (nodesOf (textsOf xs)).length := by rw [hM]; simp
  have hN0 : (nodesOf (textsOf xs))[0] = textsOf xs := by simp [hM]
  have hh := hgt_short (hN0 ▸ hW.short : Short 13 (nodesOf (textsOf xs))[0])
  have hln : (nodesOf (textsOf xs))[0].length ≤ 60 := by rw [hN0]; simp [textsOf]; exact hW.len
  have h3 := wordsQ_graph hW.wd 14 0 0 hb0 [] [] (by omega) (by omega) (by simp [okT]) (by simpa using hln)
  rw [hN0, told_nil, List.nil_append, hW.txt] at h3
  have e : txt [] = ⟨#[]⟩ := txt_nil
  rw [e] at h3
  unfold decQ
  rw [h1]
  simp only
  rw [h2]
  simp only
  rw [h3]
  simp only
  rw [if_neg (by unfold imageB; rw [hs]; simp), if_neg (by simp), if_neg (by simp), if_neg (by simp [hg]), if_neg (by simp)]

end Go.Proofs.Ytepmcfleijiloaa

end
section
set_option linter.unusedVariables false
set_option linter.unusedSimpArgs false
/- inkhornref9.Decode. -/
namespace Go.Proofs.Ytepmcfleijiloaa
open Go.RowKit

theorem infoP : Info Try.prog 119 122 (.agg #[.bool false, .slice none 0 0]) 2 32 := ⟨Try.underlying119, by kernel_rfl, rfl, by omega, by omega⟩
theorem infoQ : Info Try.prog 120 123 (.agg #[.int .i64 0, .int .i64 0]) 2 16 := ⟨Try.underlying120, by kernel_rfl, rfl, by omega, by omega⟩
/-- Bytes as a text. -/
def bstr (l : List Nat) : ByteArray := ⟨(l.map fun n => n.toUInt8).toArray⟩
theorem bstr_list (l : List Nat) : (bstr l).toList = l.map fun n => n.toUInt8 := by rw [Lib.toList_data]; simp [bstr]
theorem bstr_inj {a b : List Nat} (ha : Okb a) (hb : Okb b) (h : (bstr a).toList = (bstr b).toList) : a = b := by
  rw [bstr_list, bstr_list] at h
  have e : ∀ l : List Nat, Okb l → (l.map fun n => n.toUInt8).map UInt8.toNat = l := fun l hl => by
    rw [List.map_map]
    conv => rhs; rw [← List.map_id l]
    apply List.map_congr_left
    intro x hx
    have := hl x hx
    simp
    omega
  rw [← e a ha, ← e b hb, h]
theorem conv_bytes {w : World} {A : Option Addr} {c : Nat} {l : List Nat} (h : Byts w 0 A c l) (hb : Okb l) (h0 : 0 < l.length) (len : Nat) (hlen : len = l.length) :
    (convert 62 9 (.slice A len c)).run Try.prog w = .ok (.string (bstr l)) w := by
  obtain ⟨b, o, rfl, _, _, _⟩ := h.at_ (k := 0) h0
  have := run_convert_bytes_back (P := Try.prog) w 62 9 5 ⟨b, o, none⟩ c (l.map fun n => n.toUInt8) Try.underlying62 Try.underlying5 Try.underlying9 (fun j hj => by
    have hj4 : j < l.length := by simpa using hj
    obtain ⟨b', o', e, _, _, hc⟩ := h.at_ (k := j) hj4
    cases e
    rw [add_plain, hc]
    have hlt := hb _ (List.getElem_mem hj4)
    simp
    omega)
  rw [List.length_map, ← hlen] at this
  exact this

/-- A part's cells whose edges stay. -/
def NSlotQ (w : World) (rb : Nat) (v : Value) (x : Value × Value) (nd : Nd) : Prop := ∃ A c lo wa, x = (.bool nd.1, .slice A nd.2.length c) ∧ rb < lo ∧ Hold lo wa.heap.size wa w v ∧ Edgq wa lo A c nd.2
theorem NSlotQ.far {w w' : World} {rb : Nat} {v : Value} {x : Value × Value} {nd : Nd} (h : NSlotQ w rb v x nd) (hg : w.grownBy w' (some rb)) : NSlotQ w' rb v x nd := by
  obtain ⟨A, c, lo, wa, h1, h2, h3, h4⟩ := h
  exact ⟨A, c, lo, wa, h1, h2, h3.far hg h2, h4⟩
theorem NSlotQ.grown {w wz w1 : World} {rb : Nat} {v v1 : Value} {x : Value × Value} {nd : Nd} (h : NSlotQ w rb v x nd) (hb : Below w.heap.size w wz) (hg : wz.grownBy w1 v.ownBlock) (hat : v1.ownBlock = v.ownBlock ∨ v1.ownBlock = some wz.heap.size) : NSlotQ w1 rb v1 x nd := by
  obtain ⟨A, c, lo, wa, h1, h2, h3, h4⟩ := h
  exact ⟨A, c, lo, wa, h1, h2, h3.grown hb hg hat, h4⟩
theorem NSlotQ.part {w : World} {rb : Nat} {v : Value} {x : Value × Value} {nd : Nd} (h : NSlotQ w rb v x nd) : ∃ A c, x = (.bool nd.1, .slice A nd.2.length c) ∧ Edgq w 0 A c nd.2 := by
  obtain ⟨A, c, lo, wa, h1, h2, h3, h4⟩ := h
  exact ⟨A, c, h1, ⟨(h4.1.keep h3.same).wide (Nat.zero_le _) h3.size, h4.2.1, h4.2.2⟩⟩
theorem PtA.of {w : World} {base k c rb : Nat} {An : Option Addr} {cs : List (Value × Value)} {ns : List Nd} (hO : w.ownsRow base 122 2 (.slice An k c) k (flat cs)) (hc : cs.length = k) (hn : ns.length = k) (hk : k ≤ 65535)
    (hs : ∀ j (h : j < ns.length) (h2 : j < cs.length), NSlotQ w rb (.slice An k c) cs[j] ns[j]) (hb : ∀ nd ∈ ns, nd.2.length ≤ 65535 ∧ ∀ e ∈ nd.2, e.2 ≤ 65535) : ∃ b o, PtA w An b o c k ns := by
  obtain ⟨_, _, e0, hc1, hc2⟩ := own_slice hO
  cases e0
  by_cases h0 : k = 0
  · refine ⟨0, 0, hn.symm, hc1, hc2, hk, fun h => by omega, fun j hj => by omega, fun j hj => by omega, fun j hj => by omega⟩
  · obtain ⟨b, o, rfl, _, hbl, hcl⟩ := Rd.of_own hO (by rw [flat_len]; omega)
    refine ⟨b, o, hn.symm, hc1, hc2, hk, fun _ => rfl, fun j hj => ?_, fun j hj => (hb _ (List.getElem_mem hj)).1, fun j hj => (hb _ (List.getElem_mem hj)).2⟩
    obtain ⟨A2, c2, e, he⟩ := (hs j hj (by omega)).part
    have hf := flat_at cs j (by omega)
    rw [e] at hf
    have k1 := hcl _ _ hf.1
    have k2 := hcl _ _ hf.2
    rw [← Nat.add_assoc] at k2
    rw [Nat.mul_comm] at k1 k2
    exact ⟨A2, c2, fun w' hw => ⟨(World.cell?_of_block (a := ⟨b, o + j * 2, none⟩) (hw.block b hbl)).trans k1, (World.cell?_of_block (a := ⟨b, o + j * 2 + 1, none⟩) (hw.block b hbl)).trans k2, he.ext hw⟩⟩

theorem words0 {w0 : World} {Ap : Option Addr} {c nl : Nat} {ns : List Nd} (h : WordsA w0 Ap c nl ns 14) {lw : List ByteArray} {okw : Bool} (hq : wordsQ ns 14 0 0 ⟨#[]⟩ [] = (lw, okw)) :
    Calls Try.prog 91 #[.slice Ap nl c, .int .i64 0, .int .i64 0, .string ⟨#[]⟩, .slice none 0 0] w0 fun e w' => ∃ A2 c2, e = .returned (.tuple #[.slice A2 lw.length c2, .bool okw]) ∧ Hid (w'.ownsRow w0.heap.size 9 1 (.slice A2 lw.length c2) lw.length (strv lw)) ∧ Hid (Below w0.heap.size w0 w') :=
  h.call 0 ⟨#[]⟩ 0 w0 none 0 [] lw okw (by omega) (by omega) (by omega) (by simp [ByteArray.size]) (by simp) (Below.refl _ _) (World.ownsRow_nil _ _ _ _) hq 0 rfl 0 rfl

set_option maxHeartbeats 8000000 in
set_option maxRecDepth 100000 in
/-- inkhornref9.Decode -/
theorem c57 {w : World} {A : Option Addr} {c len : Nat} {L : List Nat} (h : Byts w 0 A c L) (hb : Okb L) (hlen : len = L.length) (hL : L.length ≤ 300100) (l : List ByteArray) (v : Int) (hd : decQ L = (l, v)) :
    Calls Try.prog 57 #[.slice A len c] w fun e w' => ∃ A1 c1, e = .returned (.tuple #[.slice A1 l.length c1, .int .i64 v]) ∧ Strs w' w.heap.size A1 c1 l ∧ Below w.heap.size w w' := by
  have HL := Lib.hid hlen
  have BY := Lib.hid h
  have OK := Lib.hid hb
  have HOKB : Hid (∀ x ∈ L, x < 256) := Lib.hid hb
  obtain ⟨s, hs⟩ : ∃ s, s = sumOk L := ⟨_, rfl⟩
  have HS := Lib.hid hs
  have hcap := h.2.1
  have hcap2 := h.2.2
  rw [← hlen] at hcap
  have HD := Lib.hid hd
  cases s
  · have HEQ : Hid ([] = l ∧ 9 = v) := Lib.hid (by
      unfold decQ at hd
      rw [← hs] at hd
      simpa using hd)
    clear hd h hb hs hlen
    go_enter Try.func57, Try.ntmps57
    go_wp2_with fail
    (with_reducible refine (c89 BY.out OK.out hL len HL.out false HS.out).mono ?_); rintro e w1 ⟨rfl, rfl⟩
    go_wp2_with fail
    go_ret2
    obtain ⟨rfl, rfl⟩ := HEQ.out
    exact ⟨none, 0, rfl, Strs.nil_ _ _ _ _ (by omega), Below.refl _ _⟩
  · have hl4 : 4 ≤ len := by
      have h1 := hs
      unfold sumOk at h1
      have h2 := (Bool.and_eq_true_iff.1 h1.symm).1
      have := of_decide_eq_true h2
      omega
    obtain ⟨cnt, p0, bad0, hcnt⟩ : ∃ a b c, rdN L 4 false 2 = (a, b, c) := ⟨_, _, _, rfl⟩
    have HCNT := Lib.hid hcnt
    have hle0 := rdN_le hb hcnt (by omega)
    have hp0 := hle0.1
    have hcl : cnt ≤ 65535 := by have := hle0.2.2 (by omega); omega
    have HDQ : Hid ((if (itNQ L cnt ([], p0, bad0)).2.2 = true then ([], 8) else
        if (wordsQ (itNQ L cnt ([], p0, bad0)).1 14 0 0 ⟨#[]⟩ []).2 = false then ([], 8) else
        if goodE (wordsQ (itNQ L cnt ([], p0, bad0)).1 14 0 0 ⟨#[]⟩ []).1 ≠ 0 then ([], 8) else
        if imageB (graphOf (textsOf (wordsQ (itNQ L cnt ([], p0, bad0)).1 14 0 0 ⟨#[]⟩ []).1)) ≠ L then ([], 8) else
        ((wordsQ (itNQ L cnt ([], p0, bad0)).1 14 0 0 ⟨#[]⟩ []).1, 0)) = (l, v)) := Lib.hid (by
      unfold decQ at hd
      rw [← hs, if_neg (by simp), hcnt] at hd
      exact hd)
    have HRD : Hid (Rdq (w.alloc (.cells #[.slice A len c, .int .i64 4, .bool false] 118)) w.heap.size w.heap.size A c L 4 false) := Lib.hid (by
      have h1 := heap_alloc_new w (.cells #[.slice A len c, .int .i64 4, .bool false] 118)
      have h2 := BY.out.1.below (w' := w.alloc (.cells #[.slice A len c, .int .i64 4, .bool false] 118)) ((Below.refl _ _).alloc (Nat.le_refl _) _)
      refine ⟨?_, h2, Nat.le_refl _, BY.out.2.1, BY.out.2.2⟩
      rw [h1, HL.out]
      rfl)
    have hL9 : L.length ≤ 900000 := by omega
    have h4L : 4 ≤ L.length := by omega
    clear hd h hb hs hcnt hle0 hlen
    go_enter Try.func57, Try.ntmps57
    go_wp2_with fail
    (with_reducible refine (c89 BY.out OK.out hL len HL.out true HS.out).mono ?_); rintro e w1 ⟨rfl, rfl⟩
    go_wp2_with fail
    (with_reducible refine (k90 HRD.out HOKB.out hL9 h4L 2 2 HCNT.out rfl (by omega) (by omega)).mono ?_); rintro e w2 ⟨rfl, hr2, hg2⟩
    have HR2 := Lib.hid hr2
    have HB2 : Hid (Below w.heap.size w w2) := Lib.hid (((Below.refl w.heap.size w).alloc (Nat.le_refl _) _).grown hg2 (by simp) (fun k hk => by injection hk with hk; omega))
    clear hr2 hg2
    go_wp2_with fail
    go_loopw [6, 7] (fun vo i wr => ∃ (k cn2 p : Nat) (bad : Bool) (An : Option Addr) (cs : List (Value × Value)) (ns : List Nd), k ≤ cnt ∧ p ≤ L.length ∧ i = .int .i64 k ∧ vo = .slice An k cn2 ∧ Hid (wr.ownsRow (w.heap.size + 1) 122 2 (.slice An k cn2) k (flat cs)) ∧ Hid (cs.length = k ∧ ns.length = k) ∧ Hid (itNQ L k ([], p0, bad0) = (ns, p, bad)) ∧ Hid (∀ j (h : j < ns.length) (h2 : j < cs.length), NSlotQ wr w.heap.size (.slice An k cn2) cs[j] ns[j]) ∧ Hid (Rdq wr w.heap.size w.heap.size A c L p bad) ∧ Hid (Below w.heap.size w wr)) (fun _ i _ => cnt - (intOf i).toNat)
    case atStart => exact ⟨0, 0, p0, bad0, none, [], [], by omega, hp0, rfl, rfl, Lib.hid (World.ownsRow_nil _ _ _ _), Lib.hid ⟨rfl, rfl⟩, Lib.hid rfl, Lib.hid fun j h => by simp at h, HR2, HB2⟩
    case round =>
      clear HR2 HB2 HRD
      obtain ⟨k, cn2, p, bad, An, cs, ns, hk, hp, rfl, rfl, HO, HLN, HIN, HNO, HR, HBW⟩ := hrel
      obtain ⟨wo, rfl⟩ : ∃ wo : World, wo = wr := ⟨_, rfl⟩
      have k2 : wo.cell? ⟨w.heap.size, 2, none⟩ = some (.bool bad) := by rw [cell_of_row _ _ _ _ _ _ HR.out.row]; rfl
      have hrb := HR.out.lt
      cases bad
      · by_cases hlt : k < cnt
        · obtain ⟨fi, p1, b1, h1⟩ : ∃ fi p1 b1, rdN L p false 1 = (fi, p1, b1) := ⟨_, _, _, rfl⟩
          obtain ⟨hp1, hfi, _⟩ := rdN_le HOKB.out h1 hp
          obtain ⟨cn, p2, b2, h2⟩ : ∃ cn p2 b2, rdN L p1 b1 2 = (cn, p2, b2) := ⟨_, _, _, rfl⟩
          obtain ⟨hp2, _, hcn⟩ := rdN_le HOKB.out h2 hp1
          have hcn := hcn (by omega)
          have HRN : Hid (rdNodeQ L p = ((decide (fi = 1), (itQ L cn ([], p2, b2)).1), (itQ L cn ([], p2, b2)).2.1, (itQ L cn ([], p2, b2)).2.2)) := Lib.hid (by unfold rdNodeQ; simp only [h1, h2])
          have H1 := Lib.hid h1
          have H2 := Lib.hid h2
          obtain ⟨fb, hfb⟩ : ∃ fb, ((fi : Int) == 1) = fb := ⟨_, rfl⟩
          have HFB : Hid (decide (fi = 1) = fb) := Lib.hid (by rw [← hfb]; by_cases h : fi = 1 <;> simp [h] <;> omega)
          clear h1 h2
          go_wp2_with fail
          (with_reducible refine (k90 HR.out HOKB.out hL9 hp 1 1 H1.out rfl (by omega) (by omega)).mono ?_); rintro e w3 ⟨rfl, hr3, hg3⟩
          have hs3 := hg3.size
          have HR3 := Lib.hid (hr3.other ((Below.refl _ _).alloc (Nat.le_refl _) (.cells #[.bool fb, .slice none 0 0] 122)))
          have HG3 : Hid (wo.grownBy (w3.alloc (.cells #[.bool fb, .slice none 0 0] 122)) (some w.heap.size)) := Lib.hid (grown_trans hg3 (grown_below ((Below.refl _ _).alloc (Nat.le_refl _) _)))
          have HX3 : Hid ((w3.alloc (.cells #[.bool fb, .slice none 0 0] 122)).heap[w3.heap.size]? = some (.cells #[.bool fb, .slice none 0 0] 122 (0, 0))) := Lib.hid (heap_alloc_new w3 _)
          clear hr3 hg3
          go_wp2_with fail
          (with_reducible refine (k90 HR3.out HOKB.out hL9 hp1 2 2 H2.out rfl (by omega) (by omega)).mono ?_); rintro e w4 ⟨rfl, hr4, hg4⟩
          have HR4 := Lib.hid hr4
          have HG4 := Lib.hid (grown_trans HG3.out hg4)
          have HX4 : Hid (w4.heap[w3.heap.size]? = some (.cells #[.bool fb, .slice none 0 0] 122 (0, 0))) := Lib.hid ((hg4.block _ (by simp) (by intro e; injection e with e; omega)).trans HX3.out)
          have hs4 : w3.heap.size < w4.heap.size := by have := hg4.size; simp at this; omega
          clear hr4 hg4 HR3 HG3 HX3
          go_wp2_with fail
          go_loopw [9] (fun i wr => ∃ (j n5 c5 : Nat) (A5 : Option Addr) (es : List (Nat × Nat)) (q : Nat) (bq : Bool), j ≤ cn ∧ n5 ≤ j ∧ q ≤ L.length ∧ i = .int .i64 ((cn : Int) - j) ∧ w3.heap.size < wr.heap.size ∧ Hid (itQ L j ([], p2, b2) = (es, q, bq)) ∧ Hid (wr.heap[w3.heap.size]? = some (.cells #[.bool fb, .slice A5 n5 c5] 122 (0, 0))) ∧ Hid (wr.ownsRow (w3.heap.size + 1) 123 2 (.slice A5 n5 c5) n5 (edgq es)) ∧ Hid (Rdq wr w.heap.size w.heap.size A c L q bq) ∧ Hid (wo.grownBy wr (some w.heap.size))) (fun i _ => (intOf i).toNat)
          case atStart => exact ⟨0, 0, 0, none, [], p2, b2, by omega, by omega, hp2, by simp, hs4, Lib.hid rfl, HX4, Lib.hid (World.ownsRow_nil _ _ _ _), HR4, HG4⟩
          case round =>
            clear HX4 HR4 HG4
            obtain ⟨j, n5, c5, A5, es, q, bq, hj, hn5, hq, rfl, hszr, HIT, HXW, HO5, HRr, HG⟩ := hrel
            have kx0 : wr.cell? ⟨w3.heap.size, 0, none⟩ = some (.bool fb) := by rw [cell_of_row _ _ _ _ _ _ HXW.out]; rfl
            have kx1 : wr.cell? ⟨w3.heap.size, 1, none⟩ = some (.slice A5 n5 c5) := by rw [cell_of_row _ _ _ _ _ _ HXW.out]; rfl
            have kb2 : wr.cell? ⟨w.heap.size, 2, none⟩ = some (.bool bq) := by rw [cell_of_row _ _ _ _ _ _ HRr.out.row]; rfl
            by_cases hgo : j < cn ∧ bq = false
            · obtain ⟨hjl, rfl⟩ := hgo
              have dpos : decide ((0 : Int) < (cn : Int) - j) = true := decide_eq_true (by omega)
              obtain ⟨rn, q1, bq1, h4⟩ : ∃ rn q1 bq1, rdN L q false 4 = (rn, q1, bq1) := ⟨_, _, _, rfl⟩
              obtain ⟨hq1, hrn, _⟩ := rdN_le HOKB.out h4 hq
              obtain ⟨tv, q2, b6, h6⟩ : ∃ tv q2 b6, rdN L q1 bq1 2 = (tv, q2, b6) := ⟨_, _, _, rfl⟩
              obtain ⟨hq2, hto, _⟩ := rdN_le HOKB.out h6 hq1
              have HST : Hid (itQ L (j + 1) ([], p2, b2) = (es ++ [(rn, tv)], q2, b6)) := Lib.hid (by rw [itQ_succ, HIT.out]; unfold stQ; simp only [h4, h6]; rfl)
              have hn5c : n5 ≤ 65536 := by omega
              have H4 := Lib.hid h4
              have H6 := Lib.hid h6
              clear h4 h6 HIT
              go_wp2_with fail
              (with_reducible refine (k90 HRr.out HOKB.out hL9 hq 4 4 H4.out rfl (by omega) (by omega)).mono ?_); rintro e w5 ⟨rfl, hr5, hg5⟩
              have HR5 := Lib.hid hr5
              have HX5 : Hid (w5.heap[w3.heap.size]? = some (.cells #[.bool fb, .slice A5 n5 c5] 122 (0, 0))) := Lib.hid ((hg5.block _ hszr (by intro e; injection e with e; omega)).trans HXW.out)
              have HO55 := Lib.hid (HO5.out.kept hg5 (Or.inr fun e => by have := HO5.out.lt _ e; omega))
              have HG5 := Lib.hid (grown_trans HG.out hg5)
              have hsz5 : w3.heap.size < w5.heap.size := by have := hg5.size; omega
              have kx51 : w5.cell? ⟨w3.heap.size, 1, none⟩ = some (.slice A5 n5 c5) := by rw [cell_of_row _ _ _ _ _ _ HX5.out]; rfl
              clear hr5 hg5 kx0 kx1 kb2 HXW HO5 HRr HG
              go_wp2_with fail
              go_region_law (first
                | (go_simp; go_at_call 90; (with_reducible refine (k90 (HR5.out.other (by repeat (first | exact Below.refl _ _ | apply below_drewN | apply Below.drew | (refine Below.alloc ?_ (by simp) _)))) HOKB.out hL9 hq1 2 2 H6.out rfl (by omega) (by omega)).mono ?_); rintro e w6 ⟨rfl, hr6, hg6⟩; have hg56 : w5.grownBy w6 (some w.heap.size) := grown_trans (grown_below (by repeat (first | exact Below.refl _ _ | apply below_drewN | apply Below.drew | (refine Below.alloc ?_ (by simp) _)))) hg6; have HR6 := Lib.hid hr6; have HX6 : Hid (w6.heap[w3.heap.size]? = some (.cells #[.bool fb, .slice A5 n5 c5] 122 (0, 0))) := Lib.hid ((hg56.block _ hsz5 (by intro e; injection e with e; omega)).trans HX5.out); have kx61 : w6.cell? ⟨w3.heap.size, 1, none⟩ = some (.slice A5 n5 c5) := (by rw [cell_of_row _ _ _ _ _ _ HX6.out]; rfl); have HO6 := Lib.hid (HO55.out.kept hg56 (Or.inr fun e => by have := HO55.out.lt _ e; omega)); have HG6 := Lib.hid (grown_trans HG5.out hg56); have hsz6 : w3.heap.size < w6.heap.size := (by have := hg56.size; omega); clear hr6 hg6 hg56)
                | (refine step_append_rd infoQ (by rfl) (.tmp 55) (.tmp 60) (by rfl) (w3.heap.size + 1) (.slice A5 n5 c5) n5 (edgq es) (by rfl) (own_below HO6.out (by repeat (first | exact Below.refl _ _ | apply below_drewN | apply Below.drew | (refine Below.alloc ?_ (by simp) _)))) _ _ _ 1 1 [.int .i64 rn, .int .i64 tv] (by rfl) (by first | exact Rd.two _ _ _ _ | exact Rd.drewN (Rd.two _ _ _ _) _) (by rfl) (by simp [Value.oneCell']) (by omega) (by simp; omega) ?_; intro v7 w7 hown1 hg1 hat1; obtain ⟨A7, c7, rfl, _, _⟩ := own_slice hown1; have hlt7 := HO6.out.lt; have hg67 : w6.grownBy w7 (Value.slice A5 n5 c5).ownBlock := grown_trans (grown_below (by repeat (first | exact Below.refl _ _ | apply below_drewN | apply Below.drew | (refine Below.alloc ?_ (by simp) _)))) hg1; have HX7 : Hid (w7.heap[w3.heap.size]? = some (.cells #[.bool fb, .slice A5 n5 c5] 122 (0, 0))) := Lib.hid ((hg67.block _ hsz6 (fun e => by have := hlt7 _ e.symm; omega)).trans HX6.out); have fx71 : w7.frozen? ⟨w3.heap.size, 1, none⟩ = false := (by simp [World.frozen?, HX7.out]); have kx71 : w7.cell? ⟨w3.heap.size, 1, none⟩ = some (.slice A5 n5 c5) := (by rw [cell_of_row _ _ _ _ _ _ HX7.out]; rfl); have HR7 := Lib.hid (HR6.out.own hg67 (fun k hk => by have := hlt7 _ hk; omega)); have HG7 := Lib.hid (grown_own HG6.out hg67 (fun k hk => by have := hlt7 _ hk; omega)); have HO7 := Lib.hid hown1; have hsz7 : w3.heap.size < w7.heap.size := Nat.lt_of_lt_of_le hsz6 hg67.size; clear hown1 hg1 hat1 hg67 hlt7))
              all_goals
                have hgx := Lib.hid (grown_set w7 w3.heap.size 1 (.slice A7 (n5 + 1) c7))
                have HXf : Hid ((w7.setCell ⟨w3.heap.size, 1, none⟩ (.slice A7 (n5 + 1) c7)).heap[w3.heap.size]? = some (.cells #[.bool fb, .slice A7 (n5 + 1) c7] 122 (0, 0))) := Lib.hid (by rw [Go.Joins.block_setCell HX7.out]; rfl)
                have HOf : Hid ((w7.setCell ⟨w3.heap.size, 1, none⟩ (.slice A7 (n5 + 1) c7)).ownsRow (w3.heap.size + 1) 123 2 (.slice A7 (n5 + 1) c7) (n5 + 1) (edgq (es ++ [(rn, tv)]))) := Lib.hid (by rw [edgq_append]; exact HO7.out.kept hgx.out (Or.inr fun e => by have := HO7.out.lt _ e; omega))
                have HRf := Lib.hid (HR7.out.own hgx.out (fun k hk => by injection hk with hk; omega))
                have HGf := Lib.hid (grown_own HG7.out hgx.out (fun k hk => by injection hk with hk; omega))
                have hszf : w3.heap.size < (w7.setCell ⟨w3.heap.size, 1, none⟩ (.slice A7 (n5 + 1) c7)).heap.size := Nat.lt_of_lt_of_le hsz7 hgx.out.size
                clear HX7 HR7 HG7 HO7 fx71 kx71 hgx
                go_wp2_with fail
                go_roundw
                case rel => exact ⟨j + 1, n5 + 1, c7, A7, _, q2, b6, by omega, by omega, hq2, by go_num, hszf, HST, HXf, HOf, HRf, HGf⟩
                case measure => simp [intOf]; omega
            · have HFI : Hid (itQ L cn ([], p2, b2) = (es, q, bq)) := Lib.hid (by
                by_cases hjl : j < cn
                · have hbt : bq = true := by
                    cases bq
                    · exact absurd ⟨hjl, rfl⟩ hgo
                    · rfl
                  rw [itQ_bad (k := j) (by rw [HIT.out]; exact hbt) cn (by omega), HIT.out]
                · obtain rfl : j = cn := by omega
                  exact HIT.out)
              have hn5e : n5 = es.length := by
                have h1 := HO5.out.1
                rw [edgq_len] at h1
                omega
              obtain ⟨_, _, e5, hE5⟩ := Edgq.of_own HO5.out
              have HNW : Hid (NSlotQ wr w.heap.size (.slice An k cn2) (.bool fb, .slice A5 n5 c5) (fb, es)) := Lib.hid (by
                cases e5
                refine ⟨A5, c5, w3.heap.size + 1, wr, rfl, by omega, Hold.refl (fun q hq => by have := (HO.out.lt q hq).2; omega), ?_⟩
                rename_i e7
                exact hE5)
              have HNS : Hid (itNQ L (k + 1) ([], p0, bad0) = (ns ++ [(fb, es)], q, bq)) := Lib.hid (by
                rw [itNQ_succ, HIN.out]
                unfold stNQ
                rw [if_neg (by simp)]
                simp only
                rw [HRN.out, HFI.out, HFB.out])
              have HOo := Lib.hid (HO.out.kept HG.out (Or.inr fun e => by have := HO.out.lt _ e; omega))
              have HBo : Hid (Below w.heap.size w wr) := Lib.hid (HBW.out.grown HG.out HBW.out.size (fun q hq => by injection hq with hq; omega))
              have HOLD : Hid (∀ j (h : j < ns.length) (h2 : j < cs.length), NSlotQ wr w.heap.size (.slice An k cn2) cs[j] ns[j]) := Lib.hid fun j h h2 => (HNO.out j h h2).far HG.out
              have hrbr := HRr.out.lt
              clear HFI e5 hE5 HIT HXW HO5 HG HFB hn5e
              by_cases hjl : j < cn
              · have dpos : decide ((0 : Int) < (cn : Int) - j) = true := decide_eq_true (by omega)
                obtain rfl : bq = true := by
                  cases bq
                  · exact absurd ⟨hjl, rfl⟩ hgo
                  · rfl
                clear hgo
                go_wp2_with (first
                  | (at_builtin
                     refine wpList_append_rd infoP rfl (.tmp 63) (.tmp 65) rfl (w.heap.size + 1) (.slice An k cn2) k (flat cs) rfl (HOo.out.alloc _) wr.heap.size (wr.heap.size + 1) _ 1 1 [.bool fb, .slice A5 n5 c5] rfl (Rd.two wr _ _ _) rfl (by simp [Value.oneCell']) (by omega) (by simp; omega) ?_
                     intro v6 w6 hown1 hg1 hat1
                     obtain ⟨A6, c6, rfl, _, _⟩ := own_slice hown1
                     have hlt6 := HOo.out.lt
                     have HR6 := Lib.hid (HRr.out.own (grown_trans (grown_below ((Below.refl _ _).alloc (Nat.le_refl _) _)) hg1) (fun q hq => by have := hlt6 _ hq; omega))
                     have HB6 : Hid (Below w.heap.size w w6) := Lib.hid ((HBo.out.alloc HBo.out.size _).grown hg1 (by simp; omega) (fun q hq => by have := hlt6 _ hq; omega))
                     have HOLD6 : Hid (∀ j (h : j < ns.length) (h2 : j < cs.length), NSlotQ w6 w.heap.size (.slice A6 (k + 1) c6) cs[j] ns[j]) := Lib.hid fun j h h2 => (HOLD.out j h h2).grown ((Below.refl _ _).alloc (Nat.le_refl _) _) hg1 hat1
                     have HN6 := Lib.hid (HNW.out.grown ((Below.refl _ _).alloc (Nat.le_refl _) _) hg1 hat1)
                     have HO6 := Lib.hid hown1
                     clear hown1 hg1 hat1 hlt6))
                go_roundw
                case rel =>
                  refine ⟨k + 1, c6, q, true, A6, cs ++ [(.bool fb, .slice A5 n5 c5)], ns ++ [(fb, es)], by omega, hq, by go_num, rfl, Lib.hid (by rw [flat_append]; exact HO6.out), Lib.hid ⟨by rw [List.length_append, HLN.out.1]; rfl, by rw [List.length_append, HLN.out.2]; rfl⟩, HNS, Lib.hid fun j h h2 => ?_, HR6, HB6⟩
                  have hcl2 := HLN.out.1
                  have hnl2 := HLN.out.2
                  rcases Nat.lt_or_ge j cs.length with h3 | h3
                  · rw [List.getElem_append_left h3, List.getElem_append_left (by omega)]; exact HOLD6.out j (by omega) h3
                  · obtain rfl : j = k := by simp at h2; omega
                    have e : (cs ++ [(Value.bool fb, Value.slice A5 n5 c5)])[j]'h2 = (.bool fb, .slice A5 n5 c5) := by
                      rw [List.getElem_append_right h3]; simp
                    have e' : (ns ++ [(fb, es)])[j]'h = (fb, es) := by
                      rw [List.getElem_append_right (by omega)]; simp
                    rw [e, e']
                    exact HN6.out
                case measure => simp [intOf]; omega
              · have dpos : decide ((0 : Int) < (cn : Int) - j) = false := decide_eq_false (by omega)
                clear hgo
                go_wp2_with (first
                  | (at_builtin
                     refine wpList_append_rd infoP rfl (.tmp 63) (.tmp 65) rfl (w.heap.size + 1) (.slice An k cn2) k (flat cs) rfl (HOo.out.alloc _) wr.heap.size (wr.heap.size + 1) _ 1 1 [.bool fb, .slice A5 n5 c5] rfl (Rd.two wr _ _ _) rfl (by simp [Value.oneCell']) (by omega) (by simp; omega) ?_
                     intro v6 w6 hown1 hg1 hat1
                     obtain ⟨A6, c6, rfl, _, _⟩ := own_slice hown1
                     have hlt6 := HOo.out.lt
                     have HR6 := Lib.hid (HRr.out.own (grown_trans (grown_below ((Below.refl _ _).alloc (Nat.le_refl _) _)) hg1) (fun q hq => by have := hlt6 _ hq; omega))
                     have HB6 : Hid (Below w.heap.size w w6) := Lib.hid ((HBo.out.alloc HBo.out.size _).grown hg1 (by simp; omega) (fun q hq => by have := hlt6 _ hq; omega))
                     have HOLD6 : Hid (∀ j (h : j < ns.length) (h2 : j < cs.length), NSlotQ w6 w.heap.size (.slice A6 (k + 1) c6) cs[j] ns[j]) := Lib.hid fun j h h2 => (HOLD.out j h h2).grown ((Below.refl _ _).alloc (Nat.le_refl _) _) hg1 hat1
                     have HN6 := Lib.hid (HNW.out.grown ((Below.refl _ _).alloc (Nat.le_refl _) _) hg1 hat1)
                     have HO6 := Lib.hid hown1
                     clear hown1 hg1 hat1 hlt6))
                go_roundw
                case rel =>
                  refine ⟨k + 1, c6, q, bq, A6, cs ++ [(.bool fb, .slice A5 n5 c5)], ns ++ [(fb, es)], by omega, hq, by go_num, rfl, Lib.hid (by rw [flat_append]; exact HO6.out), Lib.hid ⟨by rw [List.length_append, HLN.out.1]; rfl, by rw [List.length_append, HLN.out.2]; rfl⟩, HNS, Lib.hid fun j h h2 => ?_, HR6, HB6⟩
                  have hcl2 := HLN.out.1
                  have hnl2 := HLN.out.2
                  rcases Nat.lt_or_ge j cs.length with h3 | h3
                  · rw [List.getElem_append_left h3, List.getElem_append_left (by omega)]; exact HOLD6.out j (by omega) h3
                  · obtain rfl : j = k := by simp at h2; omega
                    have e : (cs ++ [(Value.bool fb, Value.slice A5 n5 c5)])[j]'h2 = (.bool fb, .slice A5 n5 c5) := by
                      rw [List.getElem_append_right h3]; simp
                    have e' : (ns ++ [(fb, es)])[j]'h = (fb, es) := by
                      rw [List.getElem_append_right (by omega)]; simp
                    rw [e, e']
                    exact HN6.out
                case measure => simp [intOf]; omega
        · obtain rfl : k = cnt := by omega
          have hbd := itNQ_le HOKB.out (b0 := bad0) hp0 k
          rw [HIN.out] at hbd
          obtain ⟨pb, po, hpt⟩ := PtA.of HO.out HLN.out.1 HLN.out.2 hcl HNO.out hbd.2
          obtain ⟨lw, okw, hwq⟩ : ∃ a b, wordsQ ns 14 0 0 ⟨#[]⟩ [] = (a, b) := ⟨_, _, rfl⟩
          have hlw : lw.length ≤ 61 := by have := wordsQ_len ns 14 0 0 ⟨#[]⟩ [] (by simp); rw [hwq] at this; exact this
          have HSM : Hid (Small lw) := Lib.hid fun x hx => by
            have := wordsQ_small ns 14 0 0 ⟨#[]⟩ [] (by simp [ByteArray.size]) (fun x hx => by cases hx)
            rw [hwq] at this
            exact Nat.le_trans (this x hx) (by omega)
          have HDR : Hid ((if okw = false then ([], 8) else if goodE lw ≠ 0 then ([], 8) else if imageB (graphOf (textsOf lw)) ≠ L then ([], 8) else (lw, 0)) = (l, v)) := Lib.hid (by
            have h1 := HDQ.out
            rw [HIN.out] at h1
            simp only [Bool.false_eq_true, if_false] at h1
            rw [hwq] at h1
            exact h1)
          have HCALL := Lib.hid (words0 (wordsAllA hpt 14) hwq)
          clear hbd hpt hwq HO HNO HDQ hlt
          cases okw
          · have HEQ : Hid ([] = l ∧ 8 = v) := Lib.hid (by simpa using HDR.out)
            go_wp2_with fail
            (with_reducible refine HCALL.out.mono ?_); rintro e w5 ⟨A5, c5, rfl, HO5, HB5⟩
            go_wp2_with fail
            go_ret2
            obtain ⟨rfl, rfl⟩ := HEQ.out
            exact ⟨none, 0, rfl, Strs.nil_ _ _ _ _ (by omega), below_ext HBW.out HB5.out⟩
          · go_wp2_with fail
            (with_reducible refine HCALL.out.mono ?_); rintro e w5 ⟨A5, c5, rfl, HO5, HB5⟩
            obtain ⟨_, _, e0, hst⟩ := IsStrs.of_own HO5.out
            cases e0
            have ST : Hid (Strs w5 0 A5 c5 lw) := Lib.hid (hst.low (Nat.zero_le _))
            have STL : Hid (Strs w5 w.heap.size A5 c5 lw) := Lib.hid (hst.low HBW.out.size)
            have HB5' : Hid (Below w.heap.size w w5) := Lib.hid (below_ext HBW.out HB5.out)
            have hlc := hst.2.1
            have hlc2 := hst.2.2
            obtain ⟨gd, hgd⟩ : ∃ g, g = goodE lw := ⟨_, rfl⟩
            have HGD := Lib.hid hgd
            clear hgd hst
            go_wp2_with fail
            (with_reducible refine (c50 ST.out HSM.out HGD.out).mono ?_); rintro e w6 ⟨A6, n6, c6, rfl, HP, hb6⟩
            have HB6 := Lib.hid (below_ext HB5'.out hb6)
            have ST6 := Lib.hid (STL.out.ext hb6)
            have BY6 : Hid (Byts w6 0 A c L) := Lib.hid (BY.out.ext HB6.out)
            clear hb6
            by_cases hg0 : gd = 0
            · subst hg0
              obtain ⟨hn6, ho6⟩ := HP.out.2 (by trivial)
              have BI := Lib.hid (owned_byts ho6)
              have HN6 := Lib.hid hn6
              have hi0 : 0 < (imageB (graphOf (textsOf lw))).length := by unfold imageB sealB; rw [List.length_append, be_len]; omega
              have hc1 := conv_bytes BI.out (sealB_okb (bodyB_okb _)) hi0 n6 HN6.out
              have hc2 := conv_bytes BY6.out OK.out (by omega) len HL.out
              by_cases hie : imageB (graphOf (textsOf lw)) = L
              · have dq : (!(bstr (imageB (graphOf (textsOf lw)))).toList == (bstr L).toList) = false := by rw [hie]; simp
                have HEQ : Hid (lw = l ∧ 0 = v) := Lib.hid (by
                  have h1 := HDR.out
                  rw [if_neg (by simp), if_neg (by rw [← HGD.out]; simp), if_neg (by simp [hie])] at h1
                  simpa using h1)
                obtain ⟨sa, hsa⟩ : ∃ s, s = bstr (imageB (graphOf (textsOf lw))) := ⟨_, rfl⟩
                rw [← hsa] at hc1 dq
                clear hie HP hn6 ho6 hsa
                go_wp2_with fail
                go_ret2
                obtain ⟨rfl, rfl⟩ := HEQ.out
                exact ⟨A5, c5, rfl, ST6.out, HB6.out⟩
              · have dq : (!(bstr (imageB (graphOf (textsOf lw)))).toList == (bstr L).toList) = true := by
                  have : (bstr (imageB (graphOf (textsOf lw)))).toList ≠ (bstr L).toList := fun e => hie (bstr_inj (sealB_okb (bodyB_okb _)) OK.out e)
                  simpa using this
                have HEQ : Hid ([] = l ∧ 8 = v) := Lib.hid (by
                  have h1 := HDR.out
                  rw [if_neg (by simp), if_neg (by rw [← HGD.out]; simp), if_pos hie] at h1
                  simpa using h1)
                obtain ⟨sa, hsa⟩ : ∃ s, s = bstr (imageB (graphOf (textsOf lw))) := ⟨_, rfl⟩
                rw [← hsa] at hc1 dq
                clear hie HP hn6 ho6 hsa
                go_wp2_with fail
                go_ret2
                obtain ⟨rfl, rfl⟩ := HEQ.out
                exact ⟨none, 0, rfl, Strs.nil_ _ _ _ _ (by omega), HB6.out⟩
            · have hg : (gd != 0) = true := by simpa using hg0
              have HEQ : Hid ([] = l ∧ 8 = v) := Lib.hid (by
                have h1 := HDR.out
                rw [if_neg (by simp), if_pos (by rw [← HGD.out]; exact hg0)] at h1
                simpa using h1)
              obtain ⟨rfl, rfl, rfl⟩ := HP.out.1 hg0
              clear hg0 HP
              go_wp2_with fail
              go_ret2
              obtain ⟨rfl, rfl⟩ := HEQ.out
              exact ⟨none, 0, rfl, Strs.nil_ _ _ _ _ (by omega), HB6.out⟩
      · have HEQ : Hid ([] = l ∧ 8 = v) := Lib.hid (by
          have h1 := HDQ.out
          rw [itNQ_bad (k := k) (by rw [HIN.out]) cnt (by omega), HIN.out] at h1
          simpa using h1)
        by_cases hlt : k < cnt
        · clear HNO HO HDQ
          go_wp2_with fail
          go_ret2
          obtain ⟨rfl, rfl⟩ := HEQ.out
          exact ⟨none, 0, rfl, Strs.nil_ _ _ _ _ (by omega), HBW.out⟩
        · obtain rfl : k = cnt := by omega
          clear HNO HO HDQ
          go_wp2_with fail
          go_ret2
          obtain ⟨rfl, rfl⟩ := HEQ.out
          exact ⟨none, 0, rfl, Strs.nil_ _ _ _ _ (by omega), HBW.out⟩

end Go.Proofs.Ytepmcfleijiloaa

end
section
set_option linter.unusedVariables false
set_option linter.unusedSimpArgs false
/- PackReads. -/
namespace Go.Proofs.Ytepmcfleijiloaa
open Go.RowKit

/-- The front of what is owned is owned, with the room behind it. -/
theorem own_front {w : World} {base : Nat} {e : TypeId} {g n m cap : Nat} {xs ys : List Value} (h : w.ownsRow base e 1 (.slice (some ⟨g, 0, none⟩) m cap) m (xs ++ ys)) (hn : xs.length = n) (h0 : n ≤ m) :
    w.ownsRow base e 1 (.slice (some ⟨g, 0, none⟩) n cap) n xs := by
  obtain ⟨h1, h2⟩ := h
  rcases h2 with ⟨h2, _⟩ | ⟨g', cap', cur, hv, hb, hh, hnc, hcm, hcs, ht⟩
  · cases h2
  · refine ⟨by omega, .inr ⟨g', cap', cur, ?_, hb, hh, by omega, hcm, hcs, ?_⟩⟩
    · injection hv with ha _ hc
      rw [ha, hc]
    · have h3 := congrArg (List.take n) ht
      rw [List.take_take, Nat.min_eq_left (by omega), List.take_left' hn] at h3
      rw [Nat.mul_one]
      exact h3

theorem GraphW.keepTop {w w' : World} {lo : Nat} {v : Value} {ns : List Nd} (h : GraphW w lo v ns) (hs : w.heap.size ≤ w'.heap.size) (hk : ∀ k, lo ≤ k → k < w.heap.size → w'.heap[k]? = w.heap[k]?) : GraphW w' lo v ns := by
  obtain ⟨g, A, c, cs, h1, h2, h3, h4, h5, h6, h7, h8⟩ := h
  have hg : g < w.heap.size := (Array.getElem?_eq_some_iff.1 h3).1
  refine ⟨g, A, c, cs, h1, h2, (hk g h2 hg).trans h3, h4, h5, (h6.keep hk).wide (Nat.le_refl _) hs, h7, fun i h h2 => ?_⟩
  obtain ⟨A2, c2, e, he⟩ := h8 i h h2
  exact ⟨A2, c2, e, ⟨(he.1.keep hk).wide (Nat.le_refl _) hs, he.2.1, he.2.2⟩⟩
theorem Strs.keepTop {w w' : World} {lo : Nat} {A : Option Addr} {c : Nat} {xs : List ByteArray} (h : Strs w lo A c xs) (hs : w.heap.size ≤ w'.heap.size) (hk : ∀ k, lo ≤ k → k < w.heap.size → w'.heap[k]? = w.heap[k]?) : Strs w' lo A c xs :=
  ⟨(h.1.keep hk).wide (Nat.le_refl _) hs, h.2.1, h.2.2⟩

set_option maxHeartbeats 8000000 in
set_option maxRecDepth 100000 in
/-- inkhornlaw9.PackReads -/
theorem c12 (w : World) (A : Option Addr) (c : Nat) (L : List Nat) (hx : Byts w 0 A c L) (hb : Okb L) :
    Calls Try.prog 12 #[.slice A L.length c] w fun e w' => e = .returned (.bool true) ∧ Below w.heap.size w w' := by
  obtain ⟨len, hlen⟩ : ∃ n, n = L.length := ⟨_, rfl⟩
  have HL := Lib.hid hlen
  have BY := Lib.hid hx
  have OK := Lib.hid hb
  have hl1 := hx.2.1
  have hl2 := hx.2.2
  rw [← hlen] at hl1 ⊢
  by_cases h3 : 3000 < len
  · have d3 : decide ((3000 : Int) < len) = true := decide_eq_true (by omega)
    clear hx hb hlen
    go_enter Try.func12, Try.ntmps12
    go_wp2_with fail
    (with_reducible refine (c48 _).mono ?_); rintro e w2 ⟨rfl, hb⟩
    go_wp2_with fail
    go_ret
    exact ⟨rfl, hb⟩
  · have d3 : decide ((3000 : Int) < len) = false := decide_eq_false (by omega)
    have h900 : L.length ≤ 900000 := by omega
    have h300 : L.length ≤ 300100 := by omega
    obtain ⟨l, v, hd⟩ : ∃ a b, decQ L = (a, b) := ⟨_, _, rfl⟩
    have HD := Lib.hid hd
    by_cases hI : ∃ xs, Small xs ∧ goodE xs = 0 ∧ L = imageB (graphOf (textsOf xs))
    · obtain ⟨xs, hsm, hgd, hLI⟩ := hI
      have hW := Wds.of_good hgd
      have hq := decQ_image hW hgd
      rw [← hLI, hd] at hq
      simp only [Prod.mk.injEq] at hq
      obtain ⟨rfl, rfl⟩ := hq
      have HSM := Lib.hid hsm
      have HGD : Hid ((0 : Int) = goodE l) := Lib.hid hgd.symm
      have HW := Lib.hid hW
      have HLI := Lib.hid hLI
      clear hx hb hlen hd hsm hgd hLI hW
      go_enter Try.func12, Try.ntmps12
      go_wp2_with fail
      (with_reducible refine (c56 w A c L BY.out h900 len HL.out).mono ?_); rintro e w1 ⟨g, rfl, hg, hb, ho⟩
      have HB := Lib.hid hb
      have hs1 := hb.size
      have HO1 := Lib.hid ho
      have BY1 := Lib.hid (BY.out.ext hb)
      have hfr : Hid (w1.ownsRow w.heap.size 5 1 (.slice (some ⟨g, 0, none⟩) len (len + 3)) len (bytv L)) := Lib.hid (own_front (ys := bytv [119, 119, 119]) (by rw [← bytv_append]; exact ho) (by rw [bytv_len]; exact HL.out.symm) (by omega))
      have BI := Lib.hid (owned_byts hfr.out)
      have HGL : Hid (g < w1.heap.size) := Lib.hid (ho.lt g rfl).2
      have BII : Hid (Byts w1 0 (some ⟨g, 0, none⟩) (len + 3) (imageB (graphOf (textsOf l)))) := Lib.hid (by rw [← HLI.out]; exact BI.out)
      clear hb ho BI
      go_wp2_with fail
      (with_reducible refine (c54b BII.out HW.out (by rw [← HLI.out]; exact HL.out) HSM.out HGD.out).mono ?_); rintro e w2 ⟨q, rfl, hgv, hb⟩
      replace HB := Lib.hid (below_ext HB.out hb)
      replace HO1 := Lib.hid (own_below HO1.out hb)
      have HF := Lib.hid (own_below hfr.out hb)
      replace BY1 := Lib.hid (BY1.out.ext hb)
      have GV := Lib.hid hgv
      have hs2 := hb.size
      clear hb hgv BII hfr
      go_wp2_with fail
      (with_reducible refine (c57 BY1.out OK.out HL.out h300 l 0 HD.out).mono ?_); rintro e w3 ⟨A3, c3, rfl, hst, hb⟩
      replace HB := Lib.hid (below_ext HB.out hb)
      replace HO1 := Lib.hid (own_below HO1.out hb)
      replace HF := Lib.hid (own_below HF.out hb)
      replace BY1 := Lib.hid (BY1.out.ext hb)
      replace GV := Lib.hid (GV.out.ext hb)
      have ST := Lib.hid hst
      have hs3 := hb.size
      clear hb hst
      go_wp2_with fail
      (with_reducible refine (k27 _ 0).mono ?_); rintro e w4 ⟨rfl, rfl⟩
      have HR3 : Hid (Rd w3 0 w3.heap.size (some ⟨g, 0, none⟩) (bytv (L ++ [119, 119, 119]))) := Lib.hid ((Rd.of_own HO1.out).wide (Nat.zero_le _) (Nat.le_refl _))
      go_wp2_with fail
      (with_reducible refine (c58 w3 g A c L HR3.out h900 BY1.out len HL.out).mono ?_); rintro e w4 ⟨rfl, hb⟩
      have HB4 := Lib.hid (below_ext HB.out hb)
      replace HF := Lib.hid (own_below HF.out hb)
      replace GV := Lib.hid (GV.out.ext hb)
      replace ST := Lib.hid (ST.out.ext hb)
      have hs4 := hb.size
      clear hb HR3 BY1 HO1 HB
      go_wp2_with fail
      (with_reducible refine (c53g w4 w.heap.size len (.slice (some ⟨g, 0, none⟩) len (len + 3)) _ HF.out (by omega) w.heap.size (Nat.le_refl _) (by omega)).mono ?_); rintro e w5 ⟨rfl, hb5, hg5⟩
      have hgl := HGL.out
      have hkk : ∀ k, w1.heap.size ≤ k → k < w4.heap.size → w5.heap[k]? = w4.heap[k]? := fun k h1 h2 => hg5.block k h2 (fun e => by have e2 : some k = some g := e; injection e2 with e2; omega)
      have HB5 := Lib.hid (HB4.out.trans hb5)
      have GV5 : Hid (GraphV w5 0 (.pointer (some ⟨q, 0, none⟩)) (graphOf (textsOf l))) := Lib.hid (.inr ((GV.out.keepTop hg5.size hkk).low (Nat.zero_le _)))
      have ST5 : Hid (Strs w5 0 A3 c3 l) := Lib.hid ((ST.out.keepTop hg5.size (fun k h1 h2 => hkk k (by omega) h2)).low (Nat.zero_le _))
      have hl3 := ST5.out.2.1
      have hm3 := ST5.out.2.2
      clear hb5 hg5 hkk hgl GV ST HB4 HF
      go_wp2_with fail
      (with_reducible refine (k45 GV5.out HW.out).mono ?_); rintro e w6 ⟨A11, c11, rfl, hs11, _, hb⟩
      replace HB5 := Lib.hid (below_ext HB5.out hb)
      replace ST5 := Lib.hid (ST5.out.ext hb)
      have S11 := Lib.hid hs11
      clear hb hs11 GV5
      go_wp2_with fail
      (with_reducible refine (k39 S11.out ST5.out (b := true) (by simp)).mono ?_); rintro e w7 ⟨rfl, hb⟩
      replace HB5 := Lib.hid (below_ext HB5.out hb)
      clear hb S11 ST5
      go_wp2_with fail
      (with_reducible refine (c48 _).mono ?_); rintro e w10 ⟨rfl, hb⟩
      go_wp2_with fail
      go_ret
      exact ⟨rfl, below_ext HB5.out hb⟩
    · have hno : NoImg L := fun xs h1 h2 h3 => hI ⟨xs, h1, h2, h3⟩
      have hq := decQ_no hno
      rw [hd] at hq
      simp only [Prod.mk.injEq] at hq
      obtain ⟨rfl, hv⟩ := hq
      have HV := Lib.hid hv
      have HNO := Lib.hid hno
      have hv0 : (v != 0) = true := by rw [hv]; split <;> rfl
      have hvv : (v != v) = false := by simp
      clear hx hb hlen hd hI hno hv
      go_enter Try.func12, Try.ntmps12
      go_wp2_with fail
      (with_reducible refine (c56 w A c L BY.out h900 len HL.out).mono ?_); rintro e w1 ⟨g, rfl, hg, hb, ho⟩
      have HB := Lib.hid hb
      have hs1 := hb.size
      have HO1 := Lib.hid ho
      have BY1 := Lib.hid (BY.out.ext hb)
      have hfr : Hid (w1.ownsRow w.heap.size 5 1 (.slice (some ⟨g, 0, none⟩) len (len + 3)) len (bytv L)) := Lib.hid (own_front (ys := bytv [119, 119, 119]) (by rw [← bytv_append]; exact ho) (by rw [bytv_len]; exact HL.out.symm) (by omega))
      have BI := Lib.hid (owned_byts hfr.out)
      clear hb ho
      go_wp2_with fail
      (with_reducible refine (c54a BI.out OK.out HL.out h300 HNO.out v HV.out).mono ?_); rintro e w2 ⟨rfl, hb⟩
      replace HB := Lib.hid (below_ext HB.out hb)
      replace HO1 := Lib.hid (own_below HO1.out hb)
      have HF := Lib.hid (own_below hfr.out hb)
      replace BY1 := Lib.hid (BY1.out.ext hb)
      have hs2 := hb.size
      clear hb BI hfr
      go_wp2_with fail
      (with_reducible refine (c57 BY1.out OK.out HL.out h300 [] v HD.out).mono ?_); rintro e w3 ⟨A3, c3, rfl, hst, hb⟩
      replace HB := Lib.hid (below_ext HB.out hb)
      replace HO1 := Lib.hid (own_below HO1.out hb)
      replace HF := Lib.hid (own_below HF.out hb)
      replace BY1 := Lib.hid (BY1.out.ext hb)
      have hs3 := hb.size
      clear hb hst
      go_wp2_with fail
      (with_reducible refine (k27 _ v).mono ?_); rintro e w4 ⟨rfl, rfl⟩
      have HR3 : Hid (Rd w3 0 w3.heap.size (some ⟨g, 0, none⟩) (bytv (L ++ [119, 119, 119]))) := Lib.hid ((Rd.of_own HO1.out).wide (Nat.zero_le _) (Nat.le_refl _))
      go_wp2_with fail
      (with_reducible refine (c58 w3 g A c L HR3.out h900 BY1.out len HL.out).mono ?_); rintro e w4 ⟨rfl, hb⟩
      have HB4 := Lib.hid (below_ext HB.out hb)
      replace HF := Lib.hid (own_below HF.out hb)
      have hs4 := hb.size
      clear hb HR3 BY1 HO1 HB
      go_wp2_with fail
      (with_reducible refine (c53g w4 w.heap.size len (.slice (some ⟨g, 0, none⟩) len (len + 3)) _ HF.out (by omega) w.heap.size (Nat.le_refl _) (by omega)).mono ?_); rintro e w5 ⟨rfl, hb5, hg5⟩
      have HB5 := Lib.hid (HB4.out.trans hb5)
      clear hb5 hg5
      go_wp2_with fail
      (with_reducible refine (c48 _).mono ?_); rintro e w10 ⟨rfl, hb⟩
      go_wp2_with fail
      go_ret
      exact ⟨rfl, below_ext HB5.out hb⟩

end Go.Proofs.Ytepmcfleijiloaa

end
