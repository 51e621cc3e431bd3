/- The builder of a graph in memory: what it has found, its nodes; what a step keeps. -/
import Derived.Test.YtepmcfleijiloaaH1
import Derived.Test.YtepmcfleijiloaaP7
import Derived.Maps.OwnSet
namespace Go.Proofs.Ytepmcfleijiloaa
open Go.RowKit

/-! ### What is kept -/
def special : Obj → Bool
  | .map _ _ => true
  | .cells _ t _ => t == 88 || t == 93 || t == 38 || t == 97
  | _ => false
/-- Below B nothing has turned; from B on, nodes, graphs and maps alone. -/
structure Keep (B : Nat) (w w' : World) : Prop where
  os : w'.os = w.os
  tape : w'.tape = w.tape
  output : w'.output = w.output
  size : w.heap.size ≤ w'.heap.size
  block : ∀ (k : Nat) (o : Obj), w.heap[k]? = some o → (k < B ∨ special o = false) → w'.heap[k]? = some o
/-- A block that is kept. -/
def Safe (B : Nat) (w : World) (k : Nat) : Prop := ∃ o, w.heap[k]? = some o ∧ (k < B ∨ special o = false)
def SafeA (B : Nat) (w : World) (A : Option Addr) : Prop := ∀ a, A = some a → Safe B w a.block
section
variable {B : Nat} {w w' w'' : World}
theorem Keep.refl (B : Nat) (w : World) : Keep B w w := ⟨rfl, rfl, rfl, Nat.le_refl _, fun _ _ h _ => h⟩
theorem Keep.trans (h : Keep B w w') (k : Keep B w' w'') : Keep B w w'' :=
  ⟨k.os.trans h.os, k.tape.trans h.tape, k.output.trans h.output, Nat.le_trans h.size k.size, fun i o hi hs => k.block i o (h.block i o hi hs) hs⟩
theorem Keep.below (h : Keep B w w') (hB : B ≤ w.heap.size) : Below B w w' :=
  ⟨h.os, h.tape, h.output, h.size, fun k hk => by
    have hk' : k < w.heap.size := by omega
    rw [Array.getElem?_eq_getElem hk']
    exact h.block k _ (Array.getElem?_eq_getElem hk') (.inl hk)⟩
/-- All that was there is as it was. -/
theorem Keep.of_below (h : Below w.heap.size w w') (B : Nat) : Keep B w w' :=
  ⟨h.os, h.tape, h.output, h.size, fun k _ hk _ => (h.block k (Array.getElem?_eq_some_iff.1 hk).1).trans hk⟩
theorem Keep.then_below (h : Keep B w w') (k : Below w'.heap.size w' w'') : Keep B w w'' := h.trans (Keep.of_below k B)
theorem Keep.drewN (h : Keep B w w') (n : Nat) : Keep B w (w'.drewN n) := ⟨h.os, h.tape, h.output, h.size, h.block⟩
theorem Keep.drew (h : Keep B w w') : Keep B w w'.drew := ⟨h.os, h.tape, h.output, h.size, h.block⟩
theorem Keep.alloc (h : Keep B w w') (o : Obj) : Keep B w (w'.alloc o) := h.then_below ((Below.refl _ _).alloc (Nat.le_refl _) _)
theorem Safe.keep {k : Nat} (h : Safe B w k) (hk : Keep B w w') : Safe B w' k := by
  obtain ⟨o, h1, h2⟩ := h
  exact ⟨o, hk.block k o h1 h2, h2⟩
theorem SafeA.keep {A : Option Addr} (h : SafeA B w A) (hk : Keep B w w') : SafeA B w' A := fun a ha => (h a ha).keep hk
theorem Safe.same {k : Nat} (h : Safe B w k) (hk : Keep B w w') : w'.heap[k]? = w.heap[k]? := by
  obtain ⟨o, h1, h2⟩ := h
  rw [h1]; exact hk.block k o h1 h2
/-- One block turns: one that is new, or that may turn. -/
theorem Keep.grown {row : Option Nat} (h : Keep B w w') (hg : w'.grownBy w'' row) (hr : ∀ r, row = some r → w.heap.size ≤ r ∨ (B ≤ r ∧ ∃ o, w'.heap[r]? = some o ∧ special o = true)) : Keep B w w'' :=
  ⟨hg.os.trans h.os, hg.tape.trans h.tape, hg.output.trans h.output, Nat.le_trans h.size hg.size, fun k o hk hs => by
    have hw' := h.block k o hk hs
    have hlt : k < w'.heap.size := (Array.getElem?_eq_some_iff.1 hw').1
    rw [hg.block k hlt (fun e => ?_)]
    · exact hw'
    · rcases hr k e.symm with h1 | ⟨h1, o', h2, h3⟩
      · have := (Array.getElem?_eq_some_iff.1 hk).1
        omega
      · rw [hw'] at h2
        injection h2 with h2
        subst h2
        rcases hs with hs | hs
        · omega
        · rw [h3] at hs; cases hs⟩
theorem grownBy_setCell (w : World) (p : Addr) (u : Value) : w.grownBy (w.setCell p u) (some p.block) :=
  ⟨rfl, rfl, rfl, by simp [World.setCell], fun k _ h => Below.heap_setCell _ _ _ _ (fun e => h (by rw [e]))⟩
theorem Keep.setCell (h : Keep B w w') {p : Addr} (hp : w.heap.size ≤ p.block ∨ (B ≤ p.block ∧ ∃ o, w'.heap[p.block]? = some o ∧ special o = true)) (u : Value) : Keep B w (w'.setCell p u) :=
  h.grown (grownBy_setCell w' p u) fun r hr => by
    injection hr with hr
    subst hr
    exact hp
theorem Rd.safe {lo hi : Nat} {A : Option Addr} {xs : List Value} (h : Rd w lo hi A xs) (hs : SafeA B w A) (hk : Keep B w w') : Rd w' lo hi A xs := fun hn => by
  obtain ⟨b, o, e, h1, h2, hc⟩ := h hn
  exact ⟨b, o, e, h1, h2, fun j u hu => (World.cell?_of_block (a := ⟨b, o + j, none⟩) ((hs _ e).same hk)).trans (hc j u hu)⟩
theorem Strs.safe {lo : Nat} {A : Option Addr} {c : Nat} {ss : List ByteArray} (h : Strs w lo A c ss) (hs : SafeA B w A) (hk : Keep B w w') : Strs w' lo A c ss :=
  ⟨(h.1.safe hs hk).wide (Nat.le_refl _) hk.size, h.2.1, h.2.2⟩
theorem Edgs.safe {lo : Nat} {A : Option Addr} {c : Nat} {es : List (Nat × Nat)} (h : Edgs w lo A c es) (hs : SafeA B w A) (hk : Keep B w w') : Edgs w' lo A c es :=
  ⟨(h.1.safe hs hk).wide (Nat.le_refl _) hk.size, h.2.1, h.2.2⟩
theorem SafeA.none_ (B : Nat) (w : World) : SafeA B w none := fun a h => by cases h
theorem own_safe {base n size : Nat} {e : TypeId} {A : Option Addr} {k c : Nat} {xs : List Value} (h : w.ownsRow base e size (.slice A k c) n xs) (he : special (.cells #[] e (0, 0)) = false) : SafeA B w A := fun a ha => by
  rcases h.2 with ⟨h1, _⟩ | ⟨g, cap, cur, h1, h2, h3, _⟩
  · injection h1 with h1
    rw [ha] at h1; cases h1
  · injection h1 with h1
    rw [ha] at h1
    injection h1 with h1
    subst h1
    exact ⟨_, h3, .inr he⟩
theorem own_keep {base n size : Nat} {e : TypeId} {v : Value} {xs : List Value} (h : w.ownsRow base e size v n xs) (he : special (.cells #[] e (0, 0)) = false) (hk : Keep B w w') : w'.ownsRow base e size v n xs :=
  own_of_block h fun g hg => by
    obtain ⟨A, c, rfl, _⟩ := own_slice h
    have hs := own_safe (B := B) h he
    cases A with
    | none => simp [Value.ownBlock] at hg
    | some a =>
      have : a.block = g := by simpa [Value.ownBlock] using hg
      subst this
      exact (hs a rfl).same hk
end

/-! ### What has been found -/
abbrev DU := DataW Unit
def keyB (T : Rs) : ByteArray := ⟨(keyL T).toArray⟩
def keyLit (T : Rs) : Lit := .string (keyL T)
/-- The map's datum. -/
def foundD (N : List Rs) : DU := N.zipIdx.foldl (fun D x => D.put (keyLit x.1) (.lit (.int .i64 x.2))) (.map [])
theorem keyLit_inj {T U : Rs} (hT : OkN T) (hU : OkN U) (h : keyLit T = keyLit U) : T = U := by
  unfold keyLit at h
  injection h with h
  exact keyL_inj T U hT.1 hU.1 hT.2 hU.2 h
theorem isKey (T : Rs) : WideAt.IsKeyLit (keyLit T) := trivial
theorem found_gen : ∀ (N : List Rs) (k : Nat) (D : DU), Maps.IsMap D → (∀ T ∈ N, OkN T) → N.Nodup →
    Maps.IsMap ((N.zipIdx k).foldl (fun D x => D.put (keyLit x.1) (.lit (.int .i64 x.2))) D) ∧
    ∀ T, OkN T → (T ∈ N → Maps.has ((N.zipIdx k).foldl (fun D x => D.put (keyLit x.1) (.lit (.int .i64 x.2))) D) (keyLit T) = true ∧
        ∀ z, ((N.zipIdx k).foldl (fun D x => D.put (keyLit x.1) (.lit (.int .i64 x.2))) D).atKey (keyLit T) z = .lit (.int .i64 ((k + N.idxOf T : Nat)))) ∧
      (T ∉ N → Maps.has ((N.zipIdx k).foldl (fun D x => D.put (keyLit x.1) (.lit (.int .i64 x.2))) D) (keyLit T) = Maps.has D (keyLit T) ∧
        ∀ z, ((N.zipIdx k).foldl (fun D x => D.put (keyLit x.1) (.lit (.int .i64 x.2))) D).atKey (keyLit T) z = D.atKey (keyLit T) z)
  | [], k, D, hD, _, _ => ⟨hD, fun T _ => ⟨by simp, fun _ => ⟨rfl, fun _ => rfl⟩⟩⟩
  | x :: N, k, D, hD, hN, hd => by
    have hd' := List.nodup_cons.1 hd
    obtain ⟨h1, h2⟩ := found_gen N (k + 1) (D.put (keyLit x) (.lit (.int .i64 k))) (hD.put _ _) (fun T hT => hN T (List.mem_cons_of_mem _ hT)) hd'.2
    rw [List.zipIdx_cons, List.foldl_cons]
    refine ⟨h1, fun T hT => ⟨fun hm => ?_, fun hm => ?_⟩⟩
    · by_cases e : T = x
      · subst e
        obtain ⟨h3, h4⟩ := (h2 T hT).2 hd'.1
        rw [h3]
        refine ⟨Maps.has_put_same hD (isKey T) _, fun z => ?_⟩
        rw [h4, Maps.atKey_put_same hD (isKey T), List.idxOf_cons_self]
        rfl
      · obtain ⟨h3, h4⟩ := (h2 T hT).1 (by
          rcases List.mem_cons.1 hm with h | h
          · exact absurd h e
          · exact h)
        refine ⟨h3, fun z => ?_⟩
        rw [h4, show (x :: N).idxOf T = N.idxOf T + 1 by rw [List.idxOf_cons]; simp [show (x == T) = false by simpa using fun h => e h.symm]]
        congr 3
        omega
    · have e : T ≠ x := fun h => hm (by simp [h])
      have hk : keyLit T ≠ keyLit x := fun h => e (keyLit_inj hT (hN x (by simp)) h)
      obtain ⟨h3, h4⟩ := (h2 T hT).2 (fun h => hm (List.mem_cons_of_mem _ h))
      rw [h3]
      refine ⟨Maps.has_put_other hk _, fun z => ?_⟩
      rw [h4, Maps.atKey_put_other hk]
theorem found_old {N : List Rs} (hN : ∀ T ∈ N, OkN T) (hd : N.Nodup) {T : Rs} (hm : T ∈ N) : Maps.has (foundD N) (keyLit T) = true ∧ ∀ z, (foundD N).atKey (keyLit T) z = .lit (.int .i64 (N.idxOf T : Nat)) := by
  have := ((found_gen N 0 (.map []) Maps.isMap_empty hN hd).2 T (hN T hm)).1 hm
  unfold foundD
  simpa using this
theorem found_new {N : List Rs} (hN : ∀ T ∈ N, OkN T) (hd : N.Nodup) {T : Rs} (hT : OkN T) (hm : T ∉ N) : Maps.has (foundD N) (keyLit T) = false := by
  have := ((found_gen N 0 (.map []) Maps.isMap_empty hN hd).2 T hT).2 hm
  have h := this.1
  unfold foundD
  rw [h]
  rfl
theorem found_put (N : List Rs) (T : Rs) : (foundD N).put (keyLit T) (.lit (.int .i64 N.length)) = foundD (N ++ [T]) := by
  unfold foundD
  rw [List.zipIdx_append, List.foldl_append]
  simp

/-! ### The builder -/
theorem keyOf_key (T : Rs) (h : (keyL T).length ≤ 1000000) : keyOf Try.prog 9 (.string (keyB T)) = some (keyLit T) := by
  have h1 : (keyB T).size = (keyL T).length := by simp [keyB, ByteArray.size]
  rw [Go.WideMaps.keyOf_string_mk Try.underlying9 (by unfold maxLen; omega)]
  simp [keyB, keyLit]
/-- The builder at p: what has been found, the cells of its nodes. -/
def Bst (w : World) (B : Nat) (p : Value) (N : List Rs) (cs : List (Value × Value)) : Prop :=
  ∃ pb gb mb v, p = .pointer (some ⟨pb, 0, none⟩) ∧ B ≤ pb ∧ B ≤ gb ∧ B ≤ mb ∧ w.heap[pb]? = some (.cells #[.pointer (some ⟨gb, 0, none⟩), .map (some mb)] 91 (0, 0)) ∧
    w.heap[gb]? = some (.cells #[v] 88 (0, 0)) ∧ w.ownsMap Try.prog 9 (plainElem (H := Unit) Try.prog 3) mb N.length (foundD N) ∧
    cs.length = N.length ∧ w.ownsRow B 93 2 v N.length (flat cs)
/-- The cells xs of type t lie at A, in a block from lo on that is not ex. -/
def RdT (w : World) (lo : Nat) (ex : Option Nat) (A : Option Addr) (t : TypeId) (xs : List Value) : Prop :=
  0 < xs.length → ∃ b o cur, A = some ⟨b, o, none⟩ ∧ lo ≤ b ∧ some b ≠ ex ∧ w.heap[b]? = some (.cells cur t (0, 0)) ∧ ∀ (j : Nat) (u : Value), xs[j]? = some u → cur[o + j]? = some u
theorem RdT.rd {w : World} {lo : Nat} {ex : Option Nat} {A : Option Addr} {t : TypeId} {xs : List Value} (h : RdT w lo ex A t xs) : Rd w lo w.heap.size A xs := fun hn => by
  obtain ⟨b, o, cur, h1, h2, _, h3, h4⟩ := h hn
  exact ⟨b, o, h1, h2, (Array.getElem?_eq_some_iff.1 h3).1, fun j u hu => by rw [cell_of_row _ _ _ _ _ _ h3]; exact h4 j u hu⟩
theorem RdT.of_own {w : World} {base size n k c : Nat} {t : TypeId} {A : Option Addr} {xs : List Value} (h : w.ownsRow base t size (.slice A k c) n xs) : RdT w base none A t xs := fun hn => by
  rcases h.2 with ⟨h1, h2⟩ | ⟨g, cap, cur, h1, h2, h3, h4, h5, h6, h7⟩
  · have := h.1
    rw [h2] at this; omega
  · injection h1 with h1
    subst h1
    refine ⟨g, 0, cur, rfl, h2, by simp, h3, fun j u hu => ?_⟩
    rw [← h7, List.getElem?_take] at hu
    split at hu
    · simpa using hu
    · cases hu
/-- Two cells are a node. -/
def NodeS (w : World) (lo : Nat) (ex : Option Nat) (x : Value × Value) (nd : Nd) : Prop := ∃ A c, x = (.bool nd.1, .slice A nd.2.length c) ∧ RdT w lo ex A 49 (edgv nd.2) ∧ nd.2.length ≤ c ∧ c ≤ 9223372036854775807
section
variable {w w' : World} {lo : Nat} {ex : Option Nat} {x : Value × Value} {nd : Nd}
theorem NodeS.same (h : NodeS w lo ex x nd) (hk : ∀ k cur, lo ≤ k → some k ≠ ex → w.heap[k]? = some (.cells cur 49 (0, 0)) → w'.heap[k]? = some (.cells cur 49 (0, 0))) : NodeS w' lo ex x nd := by
  obtain ⟨A, c, e, h1, h2, h3⟩ := h
  refine ⟨A, c, e, fun hn => ?_, h2, h3⟩
  obtain ⟨b, o, cur, h4, h5, h6, h7, h8⟩ := h1 hn
  exact ⟨b, o, cur, h4, h5, h6, hk b cur h5 h6 h7, h8⟩
theorem NodeS.keep {B : Nat} (h : NodeS w lo ex x nd) (hk : Keep B w w') : NodeS w' lo ex x nd := h.same fun k _ _ _ hb => hk.block k _ hb (.inr rfl)
theorem NodeS.below (h : NodeS w lo ex x nd) (hb : Below w.heap.size w w') : NodeS w' lo ex x nd := h.keep (Keep.of_below hb 0)
theorem NodeS.low {lo2 : Nat} {ex2 : Option Nat} (h : NodeS w lo ex x nd) (hl : lo2 ≤ lo) (he : ∀ k, lo ≤ k → some k ≠ ex → some k ≠ ex2) : NodeS w lo2 ex2 x nd := by
  obtain ⟨A, c, e, h1, h2, h3⟩ := h
  refine ⟨A, c, e, fun hn => ?_, h2, h3⟩
  obtain ⟨b, o, cur, h4, h5, h6, h7, h8⟩ := h1 hn
  exact ⟨b, o, cur, h4, by omega, he b h5 h6, h7, h8⟩
theorem NodeS.append {ex2 : Option Nat} (h : NodeS w lo ex x nd) (hg : w.grownBy w' ex) (he : ex2 = ex ∨ ex2 = some w.heap.size) : NodeS w' lo ex2 x nd := by
  obtain ⟨A, c, e, h1, h2, h3⟩ := h
  refine ⟨A, c, e, fun hn => ?_, h2, h3⟩
  obtain ⟨b, o, cur, h4, h5, h6, h7, h8⟩ := h1 hn
  have hlt := (Array.getElem?_eq_some_iff.1 h7).1
  refine ⟨b, o, cur, h4, h5, ?_, (hg.block b hlt h6).trans h7, h8⟩
  rcases he with rfl | rfl
  · exact h6
  · intro e2
    injection e2 with e2
    omega
theorem NodeS.nodeV (h : NodeS w lo ex x nd) : NodeV w lo x nd := by
  obtain ⟨A, c, e, h1, h2, h3⟩ := h
  exact ⟨A, c, e, h1.rd, h2, h3⟩
end
theorem flat_set (cs : List (Value × Value)) (x y : Value × Value) (more : List (Value × Value)) :
    ((flat (cs ++ [x] ++ more)).set (cs.length * 2) y.1).set (cs.length * 2 + 1) y.2 = flat (cs ++ [y] ++ more) := by
  rw [flat_append, flat_append, flat_append, flat_append, List.append_assoc, List.append_assoc]
  rw [List.set_append_right _ _ (by rw [flat_len]; omega), List.set_append_right _ _ (by rw [flat_len]; omega), flat_len]
  simp [flat]

end Go.Proofs.Ytepmcfleijiloaa
