/- Words for the contract of graph's builder: node; rests that were found. -/
import Derived.Test.YtepmcfleijiloaaH2
import Derived.Test.YtepmcfleijiloaaS0
import Derived.Deep.RegionHeld3
import Derived.Deep.RegionLaw
import Derived.Outline
set_option linter.unusedVariables false
namespace Go.Proofs.Ytepmcfleijiloaa
open Go.RowKit

def NodePost (B : Nat) (w : World) (p : Value) (d : Nat) (N : List Rs) (T : Rs) (cs : List (Value × Value)) (e : Ending) (w' : World) : Prop :=
  ∃ more, e = .returned (.int .i64 ((addN d N T).idxOf T : Nat)) ∧ Bst w' B p (addN d N T) (cs ++ more) ∧
    (∀ i (_ : i < more.length) (h2 : N.length + i < (addN d N T).length), NodeS w' w.heap.size none more[i] (ndOf (addN d N T) (addN d N T)[N.length + i])) ∧ Keep B w w'

/-- The map's answer. -/
theorem look_old {w : World} {mb : Nat} {N : List Rs} (h : w.ownsMap Try.prog 9 (plainElem (H := Unit) Try.prog 3) mb N.length (foundD N)) (hN : ∀ T ∈ N, OkN T) (hd : N.Nodup) {T : Rs} (hm : T ∈ N) (hk : (keyL T).length ≤ 1000000) :
    (Instr.lookup 89 (.map (some mb)) (.string (keyB T)) true).run Try.prog w = .ok (.tuple #[.int .i64 (N.idxOf T : Nat), .bool true]) w := by
  obtain ⟨v, ps, h1, h2⟩ := h.look_ok (Maps.string_keyed Try.underlying9) Try.underlying89 (z := .int .i64 0) (zd := .lit (.int .i64 0)) (zp := []) (Try.zeroValue3 w) (plainElem_int Try.underlying3 (by decide)) (keyOf_key T hk)
  obtain ⟨h3, h4⟩ := found_old hN hd hm
  obtain ⟨a, rfl, h5, h6⟩ := plainElem_int_inv Try.underlying3 h2
  rw [h4] at h5
  simp only [Prod.mk.injEq, DataW.lit.injEq, Lit.int.injEq, true_and] at h5
  rw [h1, h3, ← h5.1]
theorem look_new {w : World} {mb : Nat} {N : List Rs} (h : w.ownsMap Try.prog 9 (plainElem (H := Unit) Try.prog 3) mb N.length (foundD N)) (hN : ∀ T ∈ N, OkN T) (hd : N.Nodup) {T : Rs} (hT : OkN T) (hm : T ∉ N) (hk : (keyL T).length ≤ 1000000) :
    ∃ c : Int, (Instr.lookup 89 (.map (some mb)) (.string (keyB T)) true).run Try.prog w = .ok (.tuple #[.int .i64 c, .bool false]) w := by
  obtain ⟨v, ps, h1, h2⟩ := h.look_ok (Maps.string_keyed Try.underlying9) Try.underlying89 (z := .int .i64 0) (zd := .lit (.int .i64 0)) (zp := []) (Try.zeroValue3 w) (plainElem_int Try.underlying3 (by decide)) (keyOf_key T hk)
  obtain ⟨a, rfl, h5, h6⟩ := plainElem_int_inv Try.underlying3 h2
  exact ⟨a, by rw [h1, found_new hN hd hT hm]⟩
theorem upd_new {w : World} {mb : Nat} {N : List Rs} (h : w.ownsMap Try.prog 9 (plainElem (H := Unit) Try.prog 3) mb N.length (foundD N)) {T : Rs} (hk : (keyL T).length ≤ 1000000) (hn : N.length ≤ 1000000) :
    ∃ w', (Instr.mapUpdate 89 (.map (some mb)) (.string (keyB T)) (.int .i64 N.length)).run Try.prog w = .ok () w' ∧ w'.ownsMap Try.prog 9 (plainElem (H := Unit) Try.prog 3) mb (N ++ [T]).length (foundD (N ++ [T])) ∧ w.grownBy w' (some mb) := by
  obtain ⟨w', h1, h2, h3⟩ := h.update (Maps.string_keyed Try.underlying9) Try.underlying89 (by unfold maxLen; omega) (keyOf_key T hk) (plainElem_int Try.underlying3 (a := (N.length : Int)) (by simp [Lit.wf, IntKind.min, IntKind.max, IntKind.signed, IntKind.bits]; omega))
  refine ⟨w', h1, ?_, h3⟩
  rw [List.length_append, ← found_put]
  exact h2

/-- What is left of rests. -/
structure OkL (T : Rs) : Prop where
  ok : okTs T
  nn : [] ∉ T
  len : T.length ≤ 1000
  tot : total T ≤ 100000
theorem OkL.rem {T : Rs} (h : OkL T) (r : Nat) : OkL (remv r T) := by
  have hs : (remv r T).Sublist T := List.dropWhile_sublist _
  have h1 := h.len
  have h2 := h.tot
  exact ⟨fun t ht => h.ok t (hs.subset ht), fun hm => h.nn (hs.subset hm), by have := hs.length_le; omega, by have := total_sub hs; omega⟩
theorem OkL.of_cons {d : Nat} {r : Nat} {x : List Nat} {T : Rs} (h : OkR d ((r :: x) :: T)) : OkL ((r :: x) :: T) :=
  ⟨h.ok, fun hm => by
    rcases List.mem_cons.1 hm with e | e
    · cases e
    · exact asc_tail h.asc e, h.len, h.tot⟩
theorem OkL.of_nil {d : Nat} {T : Rs} (h : OkR d ([] :: T)) : OkL T :=
  ⟨fun t ht => h.ok t (List.mem_cons_of_mem _ ht), asc_tail h.asc, by have := h.len; simp at this; omega, by have := h.tot; rw [total_cons] at this; omega⟩
theorem total_mem {T : Rs} {t : List Nat} (h : t ∈ T) : t.length ≤ total T := by
  induction T with
  | nil => simp at h
  | cons u T ih =>
    rw [total_cons]
    rcases List.mem_cons.1 h with rfl | h
    · omega
    · have := ih h; omega
theorem OkL.size {T : Rs} (h : OkL T) {t : List Nat} (ht : t ∈ T) : (txt t).size ≤ 1000000 := by
  have h1 := encL_len (h.ok t ht)
  have h2 := total_mem ht
  have h3 := h.tot
  rw [txt_size]
  omega
def lenV : Value → Nat | .slice _ n _ => n | _ => 0
def x00 : Value × Value := (.bool false, .slice none 0 0)
/-- The loop over the groups: what is left, what is done. -/
def GRel (B : Nat) (w : World) (p : Value) (d : Nat) (N : List Rs) (T : Rs) (cs : List (Value × Value)) (v1 v10 : Value) (wr : World) : Prop :=
  ∃ (Ax : Option Addr) (cx n : Nat) (T1 : Rs) (done : List (Nat × Rs)) (more : List (Value × Value)), v1 = .slice Ax n cx ∧ n = T1.length ∧ Strs w 0 Ax cx (T1.map txt) ∧ SafeA B w Ax ∧ OkL T1 ∧ groups T = done ++ groups T1 ∧
    wr.ownsRow w.heap.size 49 2 v10 done.length (edgv (edgD (addG d (N ++ [T]) done) done)) ∧ Bst wr B p (addG d (N ++ [T]) done) (cs ++ [x00] ++ more) ∧
    (∀ i (_ : i < more.length) (h2 : N.length + 1 + i < (addG d (N ++ [T]) done).length), NodeS wr w.heap.size v10.ownBlock more[i] (ndOf (addG d (N ++ [T]) done) (addG d (N ++ [T]) done)[N.length + 1 + i])) ∧ Keep B w wr
/-- Ahead of it. -/
def GStart (B : Nat) (w : World) (T : Rs) (wc : World) (v1 : Value) (wx : World) : Prop :=
  wc = wx ∧ ∃ (Ax : Option Addr) (cx n : Nat) (T1 : Rs), v1 = .slice Ax n cx ∧ n = T1.length ∧ Strs w 0 Ax cx (T1.map txt) ∧ SafeA B w Ax ∧ OkL T1 ∧ groups T = groups T1
theorem fin_empty (t : List Nat) (T : Rs) : fin (t :: T) = (txt t).toList.isEmpty := by
  unfold fin
  cases t with
  | nil =>
    have h : (txt []).toList = [] := by rw [txt_empty]
    rw [h]; rfl
  | cons r x =>
    have h : ¬ (txt (r :: x)).toList = [] := by rw [txt_empty]; simp
    simp [h]
theorem take_snoc4 {r : Nat} {y : List Nat} (T : Rs) (k : Nat) (h : k < T.length) (he : T[k] = r :: y) (ha : ∀ t ∈ T.take k, isHd r t = true) :
    (T.take (k + 1)).map (fun t => txt t.tail) = (T.take k).map (fun t => txt t.tail) ++ [txt y] ∧ ∀ t ∈ T.take (k + 1), isHd r t = true := by
  rw [List.take_succ_eq_append_getElem h, he]
  refine ⟨by simp, fun t ht => ?_⟩
  rcases List.mem_append.1 ht with ht | ht
  · exact ha t ht
  · simp at ht; subst ht; exact isHd_cons r y
/-- strings.HasPrefix, quiet -/
theorem c99 (s p : ByteArray) (b : Bool) (hb : b = Lib.hasPrefix s.data.toList p.data.toList) (w : World) : Calls Try.prog 99 #[.string s, .string p] w fun e w' => e = .returned (.bool b) ∧ Drawn w w' :=
  (Try.strings_HasPrefix s p w).mono fun e w' ⟨h1, h2⟩ => ⟨by rw [hb]; exact h1, by rw [h2]; exact Drawn.refl _⟩

/-- The step of a group. -/
def NodeIH (B : Nat) (d : Nat) : Prop := ∀ (w : World) (p : Value) (N : List Rs) (cs : List (Value × Value)) (A : Option Addr) (c n : Nat) (T : Rs), n = T.length → OkR d T → B ≤ w.heap.size → Bst w B p N cs → (∀ x ∈ N, OkN x) → N.Nodup → N.length + 1 + total T ≤ 1000000 →
    Strs w 0 A c (T.map txt) → SafeA B w A → Calls Try.prog 72 #[p, .slice A n c] w (NodePost B w p d N T cs)

theorem OkR.key {d : Nat} {T : Rs} (h : OkR d T) : (keyL T).length ≤ 1000000 := by
  have h1 := keyL_len T h.ok
  have h2 := h.len
  have h3 := h.tot
  omega
theorem key_join (T : Rs) : (⟨(Lib.join ((T.map txt).map (·.data.toList)) (ByteArray.mk #[255]).data.toList).toArray⟩ : ByteArray) = keyB T := by
  unfold keyB keyL
  rw [List.map_map]
  have : (fun x : ByteArray => x.data.toList) ∘ txt = encL := by funext t; exact txt_data t
  rw [this]
/-- strings.Join of rests -/
theorem c97 (d : Nat) (T : Rs) (hT : OkR d T) (w : World) (A : Option Addr) (c : Nat) (hs : Strs w 0 A c (T.map txt)) :
    Calls Try.prog 97 #[.slice A T.length c, .string ⟨#[255]⟩] w fun e w' => e = .returned (.string (keyB T)) ∧ Below w.heap.size w w' := by
  have hl := hs.2.1
  obtain ⟨b, o, rfl, _, hb, hc⟩ := hs.1 (by rw [strv_len]; simp; exact List.length_pos_iff.2 hT.ne)
  have h := Try.strings_Join b o c (T.map txt) ⟨#[255]⟩ w (fun j x hx => hc j _ (by simp only [strv, List.getElem?_map, hx]; rfl)) hb (by simp; have := hT.len; omega) hl (by
    have h1 := congrArg ByteArray.size (key_join T)
    have h2 := hT.key
    simp only [ByteArray.size, keyB] at h1
    simp only [List.size_toArray] at h1
    rw [h1]
    omega)
  rw [key_join] at h
  simpa using h

theorem Bst.below {w w' : World} {B : Nat} {p : Value} {N : List Rs} {cs : List (Value × Value)} (h : Bst w B p N cs) (hb : Below w.heap.size w w') : Bst w' B p N cs := by
  obtain ⟨pb, gb, mb, v, h1, h2, h3, h4, h5, h6, h7, h8, h9⟩ := h
  refine ⟨pb, gb, mb, v, h1, h2, h3, h4, (hb.block pb (Array.getElem?_eq_some_iff.1 h5).1).trans h5, (hb.block gb (Array.getElem?_eq_some_iff.1 h6).1).trans h6, ?_, h8, own_below h9 hb⟩
  exact h7.kept (row := none) ⟨hb.os, hb.tape, hb.output, hb.size, fun i hi _ => hb.block i hi⟩ (by simp)

set_option maxHeartbeats 1000000 in
set_option maxRecDepth 100000 in
/-- Rests that were found. -/
theorem node_old (B d : Nat) (w : World) (p : Value) (N : List Rs) (cs : List (Value × Value)) (A : Option Addr) (c : Nat) (T : Rs) (hT : OkR (d + 1) T) (hB : B ≤ w.heap.size) (hst : Bst w B p N cs) (hN : ∀ x ∈ N, OkN x) (hd : N.Nodup)
    (hs : Strs w 0 A c (T.map txt)) (hm : T ∈ N) : Calls Try.prog 72 #[p, .slice A T.length c] w (NodePost B w p (d + 1) N T cs) := by
  have HST := Lib.hid hst
  obtain ⟨pb, gb, mb, v, rfl, hpb, hgb, hmb, kp, kg, km, kl, kn⟩ := hst
  have HS := Lib.hid hs
  have HT := Lib.hid hT
  have HM := Lib.hid hm
  have HK := Lib.hid km
  have HP := Lib.hid kp
  have HNN := Lib.hid hN
  have HD := Lib.hid hd
  clear kp kg km kl kn hs hT hm hN hd
  go_enter Try.func72, Try.ntmps72
  go_wp2_with fail
  (with_reducible refine (c97 _ T HT.out w A c HS.out).mono ?_); rintro e w1 ⟨rfl, hb⟩
  have cp1 : w1.cell? ⟨pb, 1, none⟩ = some (.map (some mb)) := by
    rw [World.cell?_of_block (a := ⟨pb, 1, none⟩) (hb.block pb (Array.getElem?_eq_some_iff.1 HP.out).1), cell_of_row _ _ _ _ _ _ HP.out]; rfl
  have hlk := look_old (HK.out.kept (row := none) ⟨hb.os, hb.tape, hb.output, hb.size, fun i hi _ => hb.block i hi⟩ (by simp)) HNN.out HD.out HM.out HT.out.key
  have HBB := Lib.hid hb
  clear hb
  go_wp2_with fail
  go_ret
  have hk : Keep B w w1 := Keep.of_below HBB.out B
  refine ⟨[], ?_, ?_, by simp, hk⟩
  · rw [addN_old d N T HM.out]; rfl
  · rw [addN_old d N T HM.out, List.append_nil]
    exact HST.out.below HBB.out

/-- What a step of the builder reads. -/
structure Cel (w : World) (pb gb : Nat) (v : Value) : Prop where
  p0 : w.cell? ⟨pb, 0, none⟩ = some (.pointer (some ⟨gb, 0, none⟩))
  g0 : w.cell? ⟨gb, 0, none⟩ = some v
  gf : w.frozen? ⟨gb, 0, none⟩ = false
theorem Cel.mk' {w : World} {pb gb mb : Nat} {v : Value} (h1 : w.heap[pb]? = some (.cells #[.pointer (some ⟨gb, 0, none⟩), .map (some mb)] 91 (0, 0))) (h2 : w.heap[gb]? = some (.cells #[v] 88 (0, 0))) : Cel w pb gb v :=
  ⟨by rw [cell_of_row _ _ _ _ _ _ h1]; rfl, by rw [cell_of_row _ _ _ _ _ _ h2]; rfl, by simp [World.frozen?, h2]⟩
/-- The three blocks of a builder. -/
structure Blk (w : World) (pb gb mb : Nat) (v : Value) : Prop where
  p : w.heap[pb]? = some (.cells #[.pointer (some ⟨gb, 0, none⟩), .map (some mb)] 91 (0, 0))
  g : w.heap[gb]? = some (.cells #[v] 88 (0, 0))
theorem Blk.below {w w' : World} {pb gb mb : Nat} {v : Value} (h : Blk w pb gb mb v) (hb : Below w.heap.size w w') : Blk w' pb gb mb v :=
  ⟨(hb.block pb (Array.getElem?_eq_some_iff.1 h.p).1).trans h.p, (hb.block gb (Array.getElem?_eq_some_iff.1 h.g).1).trans h.g⟩
theorem Blk.grown {w w' : World} {pb gb mb : Nat} {v v2 : Value} {base n size : Nat} {xs : List Value} (h : Blk w pb gb mb v) (ho : w.ownsRow base 93 size v2 n xs) (hg : w.grownBy w' v2.ownBlock) : Blk w' pb gb mb v := by
  have key : ∀ k o, w.heap[k]? = some (.cells o 91 (0, 0)) ∨ w.heap[k]? = some (.cells o 88 (0, 0)) → some k ≠ v2.ownBlock := by
    intro k o hk e
    rcases ho.2 with ⟨rfl, _⟩ | ⟨g, cap, cur, rfl, _, hh, _⟩
    · simp [Value.ownBlock] at e
    · have : k = g := by simpa [Value.ownBlock] using e
      subst this
      rcases hk with hk | hk <;> (rw [hh] at hk; cases hk)
  exact ⟨(hg.block pb (Array.getElem?_eq_some_iff.1 h.p).1 (key pb _ (.inl h.p))).trans h.p, (hg.block gb (Array.getElem?_eq_some_iff.1 h.g).1 (key gb _ (.inr h.g))).trans h.g⟩
theorem after_app {w2 wa w3 : World} {B pb gb mb n : Nat} {v : Value} {xs : List Value} (h : Blk w2 pb gb mb v) (ho : w2.ownsRow B 93 2 v n xs) (hb : Below w2.heap.size w2 wa) (hg : wa.grownBy w3 v.ownBlock) : Blk w3 pb gb mb v :=
  (h.below hb).grown (own_below ho hb) hg
theorem own_block93 {w : World} {B n : Nat} {v : Value} {xs : List Value} (ho : w.ownsRow B 93 2 v n xs) : ∀ r, v.ownBlock = some r → B ≤ r ∧ ∃ o, w.heap[r]? = some o ∧ special o = true ∧ ∃ cur, o = .cells cur 93 (0, 0) := by
  intro r hr
  rcases ho.2 with ⟨rfl, _⟩ | ⟨g, cap, cur, rfl, hb, hh, _⟩
  · simp [Value.ownBlock] at hr
  · have : g = r := by simpa [Value.ownBlock] using hr
    subst this
    exact ⟨hb, _, hh, rfl, _, rfl⟩
theorem map_ne {w : World} {mb k n : Nat} {N : List Rs} {o : Array Value} {t : TypeId} (h : w.ownsMap Try.prog 9 (plainElem (H := Unit) Try.prog 3) mb n (foundD N)) (hk : w.heap[k]? = some (.cells o t (0, 0))) : k ≠ mb := by
  rintro rfl
  obtain ⟨es, cl, h1, _⟩ := h
  rw [hk] at h1; cases h1
theorem below_grownBy {w w' : World} (hb : Below w.heap.size w w') : w.grownBy w' none := ⟨hb.os, hb.tape, hb.output, hb.size, fun i hi _ => hb.block i hi⟩
theorem mid_done {w2 wa w3 : World} {B pb gb mb : Nat} {N : List Rs} {T : Rs} {cs : List (Value × Value)} {v v1 : Value} (hpb : B ≤ pb) (hgb : B ≤ gb) (hmb : B ≤ mb) (b2 : Blk w2 pb gb mb v) (k2 : w2.ownsRow B 93 2 v N.length (flat cs))
    (m2 : w2.ownsMap Try.prog 9 (plainElem (H := Unit) Try.prog 3) mb (N ++ [T]).length (foundD (N ++ [T]))) (hcs : cs.length = N.length) (hb : Below w2.heap.size w2 wa)
    (ho : w3.ownsRow B 93 2 v1 (N.length + 1) (flat cs ++ [.bool false, .slice none 0 0])) (hg : wa.grownBy w3 v.ownBlock) :
    Bst (w3.setCell ⟨gb, 0, none⟩ v1) B (.pointer (some ⟨pb, 0, none⟩)) (N ++ [T]) (cs ++ [(.bool false, .slice none 0 0)]) ∧ Keep B w2 (w3.setCell ⟨gb, 0, none⟩ v1) := by
  have b3 := after_app b2 k2 hb hg
  have ka := own_below k2 hb
  have hne : pb ≠ gb := by
    rintro rfl
    have h1 := b3.p
    rw [b3.g] at h1; cases h1
  have m3 : w3.ownsMap Try.prog 9 (plainElem (H := Unit) Try.prog 3) mb (N ++ [T]).length (foundD (N ++ [T])) := by
    refine (m2.kept (below_grownBy hb) (by simp)).kept hg (fun e => ?_)
    obtain ⟨_, o, h1, _, cur, rfl⟩ := own_block93 ka mb e.symm
    exact map_ne (m2.kept (below_grownBy hb) (by simp)) h1 rfl
  refine ⟨⟨pb, gb, mb, v1, rfl, hpb, hgb, hmb, ?_, ?_, m3.setCell (fun e => map_ne m3 b3.g e.symm) _, by simp [hcs], ?_⟩, ?_⟩
  · rw [Below.heap_setCell _ _ _ _ hne]; exact b3.p
  · simp [World.setCell, Array.getElem?_modify, b3.g]
  · rw [flat_append]
    refine own_of_block (by simpa [flat] using ho) fun g hg' => Below.heap_setCell _ _ _ _ (fun e => ?_)
    have e : g = gb := e
    obtain ⟨_, o, h1, _, cur, rfl⟩ := own_block93 ho g hg'
    rw [e, b3.g] at h1; cases h1
  · refine ((Keep.of_below hb B).grown hg fun r hr => .inr ?_).setCell (.inr ⟨hgb, _, b3.g, rfl⟩) v1
    obtain ⟨h0, o, h1, h2, _⟩ := own_block93 ka r hr
    exact ⟨h0, o, h1, h2⟩
theorem Blk.cel {w : World} {pb gb mb : Nat} {v : Value} (h : Blk w pb gb mb v) : Cel w pb gb v := Cel.mk' h.p h.g

/-- A row of edges grows: the builder is as it was. -/
theorem Bst.edges {w w' : World} {B base n : Nat} {p v : Value} {N : List Rs} {cs : List (Value × Value)} {xs : List Value} (h : Bst w B p N cs) (ho : w.ownsRow base 49 2 v n xs) (hg : w.grownBy w' v.ownBlock) : Bst w' B p N cs := by
  obtain ⟨pb, gb, mb, v', h1, h2, h3, h4, h5, h6, h7, h8, h9⟩ := h
  have key : ∀ k t o, w.heap[k]? = some (.cells o t (0, 0)) → t ≠ 49 → some k ≠ v.ownBlock := by
    intro k t o hk ht e
    rcases ho.2 with ⟨rfl, _⟩ | ⟨g, cap, cur, rfl, _, hh, _⟩
    · simp [Value.ownBlock] at e
    · have : k = g := by simpa [Value.ownBlock] using e
      subst this
      rw [hh] at hk
      injection hk with hk
      injection hk with _ hk
      exact ht hk.symm
  refine ⟨pb, gb, mb, v', h1, h2, h3, h4, (hg.block pb (Array.getElem?_eq_some_iff.1 h5).1 (key pb _ _ h5 (by decide))).trans h5, (hg.block gb (Array.getElem?_eq_some_iff.1 h6).1 (key gb _ _ h6 (by decide))).trans h6, ?_, h8, ?_⟩
  · refine h7.kept hg (fun e => ?_)
    rcases ho.2 with ⟨rfl, _⟩ | ⟨g, cap, cur, rfl, _, hh, _⟩
    · simp [Value.ownBlock] at e
    · have : mb = g := by simpa [Value.ownBlock] using e
      subst this
      exact map_ne h7 hh rfl
  · refine own_of_block h9 fun g hgo => ?_
    obtain ⟨_, o, e1, _, cur, rfl⟩ := own_block93 h9 g hgo
    exact hg.block g (Array.getElem?_eq_some_iff.1 e1).1 (key g _ _ e1 (by decide))
theorem own_row_ge {w : World} {base n size : Nat} {t : TypeId} {v : Value} {xs : List Value} (h : w.ownsRow base t size v n xs) : ∀ r, v.ownBlock = some r → base ≤ r ∧ r < w.heap.size := fun r hr => h.lt r hr
theorem rest_cut {w : World} {B b o cx kn : Nat} {T T3 : Rs} (hS : Strs w 0 (some ⟨b, o, none⟩) cx (T.map txt)) (hSA : SafeA B w (some ⟨b, o, none⟩)) (e2 : T.drop kn = T3) {Ax : Option Addr} (hA : Ax = if cx = kn then some ⟨b, o, none⟩ else some ⟨b, o + kn, none⟩) (hk : kn ≤ cx) (hkT : kn ≤ T.length) :
    Strs w 0 Ax (cx - kn) (T3.map txt) ∧ SafeA B w Ax := by
  have hl := hS.2.1
  have hm := hS.2.2
  have h1 := hS.1.cut (k := kn) (cap := cx) (by rw [strv_len]; exact hl)
  simp only [Option.map_some, add_plain] at h1
  rw [← hA] at h1
  have e : (strv (T.map txt)).drop kn = strv (T3.map txt) := by
    rw [← e2]
    simp [strv, List.map_drop]
  rw [e] at h1
  refine ⟨⟨h1, ?_, by omega⟩, ?_⟩
  · rw [← e2]
    simp at hl ⊢
    omega
  · intro a ha
    rw [hA] at ha
    split at ha
    · cases ha; exact hSA _ rfl
    · cases ha; exact hSA ⟨b, o, none⟩ rfl
/-- A group more is done. -/
theorem g_step {B d : Nat} {w w5 wa w6 : World} {p : Value} {N : List Rs} {T G T3 : Rs} {cs more more2 : List (Value × Value)} {done : List (Nat × Rs)} {r : Nat} {v10 v6 : Value} {Ax : Option Addr} {cx n : Nat}
    (hd : N.Nodup) (hm : T ∉ N) (hT : OkR (d + 1) T) (hE : groups T = done ++ (r, G) :: groups T3) (hcs : cs.length = N.length)
    (hS : Strs w 0 Ax cx (T3.map txt)) (hSA : SafeA B w Ax) (hn : n = T3.length) (hOK : OkL T3) (hB : B ≤ w.heap.size)
    (ho : w5.ownsRow w.heap.size 49 2 v10 done.length (edgv (edgD (addG d (N ++ [T]) done) done))) (hst : Bst w5 B p (addN d (addG d (N ++ [T]) done) G) (cs ++ [x00] ++ more ++ more2))
    (hml : N.length + 1 + more.length = (addG d (N ++ [T]) done).length)
    (hnd : ∀ i (_ : i < more.length) (h2 : N.length + 1 + i < (addG d (N ++ [T]) done).length), NodeS w5 w.heap.size v10.ownBlock more[i] (ndOf (addG d (N ++ [T]) done) (addG d (N ++ [T]) done)[N.length + 1 + i]))
    (hnd2 : ∀ i (_ : i < more2.length) (h2 : (addG d (N ++ [T]) done).length + i < (addN d (addG d (N ++ [T]) done) G).length), NodeS w5 w.heap.size v10.ownBlock more2[i] (ndOf (addN d (addG d (N ++ [T]) done) G) (addN d (addG d (N ++ [T]) done) G)[(addG d (N ++ [T]) done).length + i]))
    (hk : Keep B w w5) (hb : Below w5.heap.size w5 wa) (ho6 : w6.ownsRow w.heap.size 49 2 v6 (done.length + 1) (edgv (edgD (addG d (N ++ [T]) done) done) ++ [.int .i32 r, .int .i64 ((addN d (addG d (N ++ [T]) done) G).idxOf G : Nat)]))
    (hg : wa.grownBy w6 v10.ownBlock) (hat : v6.ownBlock = v10.ownBlock ∨ v6.ownBlock = some wa.heap.size) :
    GRel B w p d N T cs (.slice Ax n cx) v6 w6 := by
  have hoa := own_below ho hb
  have hnod : ∀ i (_ : i < (more ++ more2).length) (h2 : N.length + 1 + i < (addN d (addG d (N ++ [T]) done) G).length), NodeS w6 w.heap.size v6.ownBlock (more ++ more2)[i] (ndOf (addN d (addG d (N ++ [T]) done) G) (addN d (addG d (N ++ [T]) done) G)[N.length + 1 + i]) := by
    intro i hi h2
    rcases Nat.lt_or_ge i more.length with h3 | h3
    · rw [List.getElem_append_left h3, st_node hd hm hT hE G (N.length + 1 + i) (by omega) (by omega) h2]
      exact ((hnd i h3 (by omega)).below hb).append hg hat
    · rw [List.getElem_append_right h3]
      have e : N.length + 1 + i = (addG d (N ++ [T]) done).length + (i - more.length) := by omega
      have h4 := ((hnd2 (i - more.length) (by simp at hi; omega) (by omega)).below hb).append hg hat
      simp only [e]
      exact h4
  refine ⟨Ax, cx, n, T3, done ++ [(r, G)], more ++ more2, rfl, hn, hS, hSA, hOK, by rw [hE]; simp, ?_, ?_, ?_, ?_⟩
  · rw [addG_snoc, edgD_snoc, st_edges hT hE G, edgv_append]
    simpa [edgv] using ho6
  · rw [addG_snoc]
    have := (hst.below hb).edges hoa hg
    simpa using this
  · simp only [addG_snoc]
    exact hnod
  · refine (hk.then_below hb).grown hg fun k hkk => .inl (hoa.lt k hkk).1

theorem idx_new (d : Nat) (N : List Rs) (T : Rs) (gs : List (Nat × Rs)) (hm : T ∉ N) : (addG d (N ++ [T]) gs).idxOf T = N.length := by
  obtain ⟨M, hM⟩ := addG_ext d gs (N ++ [T])
  rw [hM, idx_more (by simp), List.idxOf_append, if_neg hm, List.idxOf_cons_self]
  omega
/-- The node is laid. -/
theorem node_end {B d : Nat} {w wo : World} {pb gb mb g cap c10 : Nat} {N : List Rs} {T : Rs} {cs more : List (Value × Value)} {done : List (Nat × Rs)} {A10 : Option Addr} {f : Bool}
    (hm : T ∉ N) (hT : OkR (d + 1) T) (he : groups T = done) (hpb : B ≤ pb) (hgb : B ≤ gb) (hmb : B ≤ mb) (hcs : cs.length = N.length) (hml : N.length + 1 + more.length = (addG d (N ++ [T]) done).length)
    (kp : wo.heap[pb]? = some (.cells #[.pointer (some ⟨gb, 0, none⟩), .map (some mb)] 91 (0, 0))) (kg : wo.heap[gb]? = some (.cells #[.slice (some ⟨g, 0, none⟩) (addG d (N ++ [T]) done).length cap] 88 (0, 0)))
    (km : wo.ownsMap Try.prog 9 (plainElem (H := Unit) Try.prog 3) mb (addG d (N ++ [T]) done).length (foundD (addG d (N ++ [T]) done)))
    (kn : wo.ownsRow B 93 2 (.slice (some ⟨g, 0, none⟩) (addG d (N ++ [T]) done).length cap) (addG d (N ++ [T]) done).length (flat (cs ++ [x00] ++ more)))
    (ho : wo.ownsRow w.heap.size 49 2 (.slice A10 done.length c10) done.length (edgv (edgD (addG d (N ++ [T]) done) done)))
    (hnd : ∀ i (_ : i < more.length) (h2 : N.length + 1 + i < (addG d (N ++ [T]) done).length), NodeS wo w.heap.size (Value.slice A10 done.length c10).ownBlock more[i] (ndOf (addG d (N ++ [T]) done) (addG d (N ++ [T]) done)[N.length + 1 + i]))
    (hk : Keep B w wo) (hf : fin T = f) :
    NodePost B w (.pointer (some ⟨pb, 0, none⟩)) (d + 1) N T cs (.returned (.int .i64 (N.length : Nat))) ((wo.setCell ⟨g, N.length * 2, none⟩ (.bool f)).setCell ⟨g, N.length * 2 + 1, none⟩ (.slice A10 done.length c10)) := by
  have hC : addN (d + 1) N T = addG d (N ++ [T]) done := by rw [addN_new d N T hm, he]
  obtain ⟨hgB, og, hg1, _, cur, rfl⟩ := own_block93 kn g rfl
  have k1 := kn.stored (N.length * 2) (.bool f)
  have k2 := k1.1.stored (N.length * 2 + 1) (.slice A10 done.length c10)
  have hsame : ∀ k, k ≠ g → ((wo.setCell ⟨g, N.length * 2, none⟩ (.bool f)).setCell ⟨g, N.length * 2 + 1, none⟩ (.slice A10 done.length c10)).heap[k]? = wo.heap[k]? := fun k hkg => by
    rw [Below.heap_setCell _ _ _ _ hkg, Below.heap_setCell _ _ _ _ hkg]
  have hne : ∀ k t o, wo.heap[k]? = some (.cells o t (0, 0)) → t ≠ 93 → k ≠ g := by
    intro k t o hk ht e
    rw [e, hg1] at hk
    injection hk with hk
    injection hk with _ hk
    exact ht hk.symm
  have hnode : ∀ ex x nd, NodeS wo w.heap.size ex x nd → NodeS ((wo.setCell ⟨g, N.length * 2, none⟩ (.bool f)).setCell ⟨g, N.length * 2 + 1, none⟩ (.slice A10 done.length c10)) w.heap.size none x nd := fun ex x nd h =>
    (h.low (Nat.le_refl _) (fun k _ _ => by simp)).same fun k cur2 _ _ hk2 => (hsame k (hne k _ _ hk2 (by decide))).trans hk2
  have hmg : mb ≠ g := fun e => map_ne km hg1 e.symm
  refine ⟨(.bool f, .slice A10 done.length c10) :: more, ?_, ?_, ?_, ?_⟩
  · rw [hC, idx_new d N T done hm]
  · rw [hC]
    refine ⟨pb, gb, mb, _, rfl, hpb, hgb, hmb, (hsame pb (hne pb _ _ kp (by decide))).trans kp, (hsame gb (hne gb _ _ kg (by decide))).trans kg, (km.setCell hmg _).setCell hmg _, by simp [hcs]; omega, ?_⟩
    have e := flat_set cs x00 (.bool f, .slice A10 done.length c10) more
    rw [hcs] at e
    have h := k2.1
    simp only at e
    rw [e] at h
    simpa using h
  · simp only [hC]
    intro i hi h2
    rcases i with _ | i
    · simp only [List.getElem_cons_zero, Nat.add_zero]
      have e : (addG d (N ++ [T]) done)[N.length] = T := by
        obtain ⟨M, hM⟩ := addG_ext d done (N ++ [T])
        simp only [hM]
        rw [List.getElem_append_left (by simp), List.getElem_append_right (by simp)]
        simp
      rw [e]
      refine hnode none _ _ ⟨A10, c10, ?_, ?_, ?_, ?_⟩
      · unfold ndOf
        simp only [hf, ← edgD_all, he, edgD_len]
      · have := RdT.of_own ho
        unfold ndOf
        simp only [← edgD_all, he]
        exact this
      · unfold ndOf
        simp only [← edgD_all, he, edgD_len]
        obtain ⟨A, c, e1, e2, e3⟩ := own_slice ho
        cases e1
        exact e2
      · obtain ⟨A, c, e1, e2, e3⟩ := own_slice ho
        cases e1
        exact e3
    · simp only [List.getElem_cons_succ]
      have h3 := hnode _ _ _ (hnd i (by simpa using hi) (by omega))
      have e : N.length + (i + 1) = N.length + 1 + i := by omega
      simp only [e]
      exact h3
  · obtain ⟨_, og2, hg2, hs2, _⟩ := own_block93 k1.1 g rfl
    exact (hk.setCell (.inr ⟨hgB, _, hg1, rfl⟩) _).setCell (.inr ⟨hgB, _, hg2, hs2⟩) _

end Go.Proofs.Ytepmcfleijiloaa
