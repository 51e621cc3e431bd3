/- Words for memory: a slice that reads as a list; kept over new blocks, draws and writes elsewhere; append onto a row of the call's own. -/
import Derived.Test.YtepmcfleijiloaaProg
import Derived.WalkKit
import Derived.WalkSpells
import Derived.WalkLawsBesides
import Derived.Deep.AppendLies
import Derived.Deep.Draws
import Derived.Deep.LoopGhost
import Derived.Deep.QuietTactic
import Derived.Deep.DeepCutAuto
import Derived.Deep.CutBlock
import Derived.BigQuiet
import Derived.Lib.Hide
import Derived.Lib.OthersKept
import Derived.Lib.Strings
import Derived.Maps.AppendAt
import Derived.Laws.MakeOwn
namespace Go.Proofs.Ytepmcfleijiloaa
open Go.RowKit

theorem add_plain (b o j : Nat) : (⟨b, o, none⟩ : Addr).add j = ⟨b, o + j, none⟩ := by unfold Addr.add; split <;> simp_all

/-- The cells xs lie at A, in a block from lo to below hi. -/
def Rd (w : World) (lo hi : Nat) (A : Option Addr) (xs : List Value) : Prop :=
  0 < xs.length → ∃ b o, A = some ⟨b, o, none⟩ ∧ lo ≤ b ∧ b < hi ∧ ∀ j u, xs[j]? = some u → w.cell? ⟨b, o + j, none⟩ = some u

section
variable {w w' : World} {lo lo' hi hi' : Nat} {A : Option Addr} {xs : List Value}
theorem Rd.nil_ : Rd w lo hi A [] := fun h => absurd h (by simp)
theorem Rd.keep (h : Rd w lo hi A xs) (hk : ∀ k, lo ≤ k → k < hi → w'.heap[k]? = w.heap[k]?) : Rd w' lo hi A xs := fun hn => by
  obtain ⟨b, o, e, h1, h2, hc⟩ := h hn
  exact ⟨b, o, e, h1, h2, fun j u hu => (World.cell?_of_block (a := ⟨b, o + j, none⟩) (hk b h1 h2)).trans (hc j u hu)⟩
theorem Rd.wide (h : Rd w lo hi A xs) (h1 : lo' ≤ lo) (h2 : hi ≤ hi') : Rd w lo' hi' A xs := fun hn => by
  obtain ⟨b, o, e, h3, h4, hc⟩ := h hn
  exact ⟨b, o, e, by omega, by omega, hc⟩
theorem Rd.below (h : Rd w lo hi A xs) (hb : Below hi w w') : Rd w' lo hi A xs := h.keep fun k _ hk => hb.block k hk
theorem Rd.ext (h : Rd w lo w.heap.size A xs) (hb : Below w.heap.size w w') : Rd w' lo w'.heap.size A xs := (h.below hb).wide (Nat.le_refl _) hb.size
theorem Rd.drewN (h : Rd w lo hi A xs) (n : Nat) : Rd (w.drewN n) lo hi A xs := h
theorem Rd.at_ (h : Rd w lo hi A xs) {k : Nat} (hk : k < xs.length) : ∃ b o, A = some ⟨b, o, none⟩ ∧ lo ≤ b ∧ b < hi ∧ w.cell? ⟨b, o + k, none⟩ = some (xs[k]'hk) := by
  obtain ⟨b, o, e, h1, h2, hc⟩ := h (by omega)
  exact ⟨b, o, e, h1, h2, hc k _ (List.getElem?_eq_getElem hk)⟩
/-- What is cut off at its front (at the capacity the address stays). -/
theorem Rd.cut (h : Rd w lo hi A xs) {k cap : Nat} (hc : xs.length ≤ cap) : Rd w lo hi (if cap = k then A else A.map (·.add k)) (xs.drop k) := fun hn => by
  have hk : k < xs.length := by simp at hn; omega
  obtain ⟨b, o, rfl, h1, h2, hcell⟩ := h (by omega)
  rw [if_neg (by omega)]
  refine ⟨b, o + k, by simp [add_plain], h1, h2, fun j u hu => ?_⟩
  rw [Nat.add_assoc]
  exact hcell _ u (by rw [← hu, List.getElem?_drop])
/-- .. by one, as the walk writes it. -/
theorem Rd.tail {b o d : Nat} {x : Value} (h : Rd w lo hi (some ⟨b, o, none⟩) (x :: xs)) (hd : xs.length + 1 ≤ d) : Rd w lo hi (if d = 1 then some ⟨b, o, none⟩ else some ⟨b, o + 1, none⟩) xs := fun hn => by
  obtain ⟨b', o', e, h1, h2, hcell⟩ := h (by simp)
  injection e with e
  injection e with e1 e2
  subst e1; subst e2
  rw [if_neg (by omega)]
  refine ⟨b, o + 1, rfl, h1, h2, fun j u hu => ?_⟩
  rw [Nat.add_assoc, Nat.add_comm 1 j]
  exact hcell (j + 1) u (by simpa using hu)
theorem Rd.take (h : Rd w lo hi A xs) (k : Nat) : Rd w lo hi A (xs.take k) := fun hn => by
  have hk : 0 < xs.length := by simp at hn; omega
  obtain ⟨b, o, e, h1, h2, hc⟩ := h hk
  refine ⟨b, o, e, h1, h2, fun j u hu => hc j u ?_⟩
  rw [List.getElem?_take] at hu
  split at hu
  · exact hu
  · cases hu
theorem cell_new (w : World) (cs : Array Value) (t : TypeId) (fr : Nat × Nat) (i : Nat) : (w.alloc (.cells cs t fr)).cell? ⟨w.heap.size, i, none⟩ = cs[i]? :=
  cell_of_row _ _ _ _ _ _ (heap_alloc_new w _)
/-- One new cell. -/
theorem Rd.new (w : World) (x : Value) (t : TypeId) : Rd (w.alloc (.cells #[x] t)) w.heap.size (w.heap.size + 1) (some ⟨w.heap.size, 0, none⟩) [x] := fun _ =>
  ⟨w.heap.size, 0, rfl, Nat.le_refl _, by omega, fun j u hu => by
    match j, hu with
    | 0, hu => simp at hu; subst hu; exact cell_new w _ _ _ 0⟩
theorem Rd.two (w : World) (x y : Value) (t : TypeId) : Rd (w.alloc (.cells #[x, y] t)) w.heap.size (w.heap.size + 1) (some ⟨w.heap.size, 0, none⟩) [x, y] := fun _ =>
  ⟨w.heap.size, 0, rfl, Nat.le_refl _, by omega, fun j u hu => by
    match j, hu with
    | 0, hu => simp at hu; subst hu; exact cell_new w _ _ _ 0
    | 1, hu => simp at hu; subst hu; exact cell_new w _ _ _ 1⟩
theorem Rd.of_own {base size n c : Nat} {e : TypeId} (h : w.ownsRow base e size (.slice A n c) n xs) : Rd w base w.heap.size A xs := fun hn => by
  have hn' : 0 < n := by
    rcases Nat.eq_zero_or_pos n with h0 | h0
    · have := h.1; rw [h0] at this; omega
    · exact h0
  obtain ⟨g, cap, hv, hb, hlt⟩ := h.form hn'
  injection hv with hA
  subst hA
  exact ⟨g, 0, rfl, hb, hlt, fun j u hu => by
    have := h.cells (g := g) rfl j u hu
    rwa [add_plain] at this⟩
end

/-- What is owned is a slice. -/
theorem own_slice {w : World} {base n : Nat} {e : TypeId} {size : Nat} {v : Value} {xs : List Value} (h : w.ownsRow base e size v n xs) : ∃ A c, v = .slice A n c ∧ n ≤ c ∧ c ≤ 9223372036854775807 := by
  rcases h.2 with ⟨rfl, rfl⟩ | ⟨g, cap, cur, rfl, _, _, h1, h2, _⟩
  · exact ⟨none, 0, rfl, Nat.le_refl _, by omega⟩
  · exact ⟨_, cap, rfl, h1, by simpa [maxLen] using h2⟩

/-- The element type e of the slice type t: its zero value, its cells, its bytes. -/
structure Info (P : Program) (t e : TypeId) (z : Value) (size bytes : Nat) : Prop where
  under : P.underlying t = some (.slice e)
  row : (P.info? e).map (fun i => (i.zero, i.size, i.bytes)) = some (some z, size, bytes)
  cells : z.cells.size = size
  pos : 0 < size
  bpos : 0 < bytes

section
variable {P : Program} {t e : TypeId} {z : Value} {size bytes : Nat} {w : World}

theorem run_append_rd (I : Info P t e z size bytes) (ty : TypeId) (base : Nat) (v : Value) (n : Nat) (xs : List Value) (hown : w.ownsRow base e size v n xs)
    (lo hi : Nat) (A : Option Addr) (m c : Nat) (news : List Value) (hr : Rd w lo hi A news) (hm : news.length = m * size) (h1 : ∀ u ∈ news, u.oneCell' = true)
    (hbytes : (n + m) * bytes ≤ 140737488355328) (hbase : base ≤ w.heap.size) :
    ∃ v' w', (Builtin.append_ #[t, t] ty #[v, .slice A m c]).run P w = .ok v' w' ∧ w'.ownsRow base e size v' (n + m) (xs ++ news) ∧ w.grownBy w' v.ownBlock ∧
      (v'.ownBlock = v.ownBlock ∨ v'.ownBlock = some w.heap.size) := by
  obtain ⟨i, hi0, hz, hsize, hby⟩ := info_parts I.row
  have h63 : n + m ≤ maxLen := by
    have h := Nat.le_trans (Nat.le_mul_of_pos_right (n + m) I.bpos) hbytes
    simp only [maxLen]; omega
  rcases A with _ | ad
  · have hn : news = [] := by
      rcases news with _ | ⟨x, r⟩
      · rfl
      · obtain ⟨b, o, h, _⟩ := hr (by simp)
        cases h
    subst hn
    have hm0 : m = 0 := by
      have : m * size = 0 := by simpa using hm.symm
      rcases Nat.mul_eq_zero.1 this with h | h
      · exact h
      · have := I.pos; omega
    subst hm0
    refine ⟨v, w, ?_, by simpa using hown, World.grownBy.refl w _, .inl rfl⟩
    rcases hown.2 with ⟨rfl, rfl⟩ | ⟨g, cap, cur, rfl, _, _, hnc, _⟩
    · simp [Builtin.append_, run_underlying I.under, sizeOf, typeInfo, hi0, Builtin.lenOf, Builtin.firstCells]
    · simp [Builtin.append_, run_underlying I.under, sizeOf, typeInfo, hi0, Builtin.lenOf, Builtin.firstCells, hnc, storeCells]
  · have hcells : ∀ j u, news[j]? = some u → w.cell? (ad.add j) = some u := by
      intro j u hu
      obtain ⟨b, o, h, _, _, hcl⟩ := hr (by
        rcases news with _ | ⟨x, r⟩
        · simp at hu
        · simp)
      injection h with h
      subst h
      rw [add_plain]
      exact hcl j u hu
    obtain ⟨v', w', hrun, h2, h3, _, h5⟩ := run_append_own_at (P := P) w base t ty e i z size bytes I.under hi0 hz hsize hby I.cells I.pos v n xs hown ad m c news hm hcells h1 h63 hbytes hbase
    exact ⟨v', w', hrun, h2, h3, h5⟩

theorem wp_append_rd (I : Info P t e z size bytes) {o : Oper} {a : Act} {K : Act → World → Prop} {Q : Exit → Act → World → Prop} (s x : Operand)
    (ho : o.op = .call { callee := .builtin .append, args := #[s, x], argTypes := #[t, t] })
    (base : Nat) (v : Value) (n : Nat) (xs : List Value) (hs : a.eval s = v) (hown : w.ownsRow base e size v n xs)
    (lo hi : Nat) (A : Option Addr) (m c : Nat) (news : List Value) (hx : a.eval x = .slice A m c) (hr : Rd w lo hi A news) (hm : news.length = m * size) (h1 : ∀ u ∈ news, u.oneCell' = true)
    (hbytes : (n + m) * bytes ≤ 140737488355328) (hbase : base ≤ w.heap.size)
    (h : ∀ v' w', w'.ownsRow base e size v' (n + m) (xs ++ news) → w.grownBy w' v.ownBlock → (v'.ownBlock = v.ownBlock ∨ v'.ownBlock = some w.heap.size) → K (a.put o.dst v') w') : o.wp P a w K Q := by
  obtain ⟨v', w', hrun, h2, h3, h4⟩ := run_append_rd I o.type base v n xs hown lo hi A m c news hr hm h1 hbytes hbase
  unfold Oper.wp execOp
  simp only [ho, resolve, invoke, builtin, Sem.run_bind, Sem.run_pure, Result.andThen_ok, List.map_toArray, List.map_cons, List.map_nil, hs, hx, hrun]
  exact h v' w' h2 h3 h4

theorem wpList_append_rd (I : Info P t e z size bytes) {ops : Array Oper} {rest : List Oper} {o : Oper} {a : Act} {Q : Exit → Act → World → Prop} (hgd : o.guard = none) (s x : Operand)
    (ho : o.op = .call { callee := .builtin .append, args := #[s, x], argTypes := #[t, t] })
    (base : Nat) (v : Value) (n : Nat) (xs : List Value) (hs : a.eval s = v) (hown : w.ownsRow base e size v n xs)
    (lo hi : Nat) (A : Option Addr) (m c : Nat) (news : List Value) (hx : a.eval x = .slice A m c) (hr : Rd w lo hi A news) (hm : news.length = m * size) (h1 : ∀ u ∈ news, u.oneCell' = true)
    (hbytes : (n + m) * bytes ≤ 140737488355328) (hbase : base ≤ w.heap.size)
    (h : ∀ v' w', w'.ownsRow base e size v' (n + m) (xs ++ news) → w.grownBy w' v.ownBlock → (v'.ownBlock = v.ownBlock ∨ v'.ownBlock = some w.heap.size) → wpList P ops Q rest (a.put o.dst v') w') : wpList P ops Q (o :: rest) a w :=
  wpList_plain hgd fun _ hK => wp_append_rd I s x ho base v n xs hs hown lo hi A m c news hx hr hm h1 hbytes hbase fun v' w' h2 h3 h4 => hK _ _ (h v' w' h2 h3 h4)

theorem step_append_rd (I : Info P t e z size bytes) {ops : Array Oper} {o : Oper} {a : Act} {K : Act → World → Prop} {Q : Exit → Act → World → Prop} {E : Prop} (hgd : o.guard = none) (s x : Operand)
    (ho : o.op = .call { callee := .builtin .append, args := #[s, x], argTypes := #[t, t] })
    (base : Nat) (v : Value) (n : Nat) (xs : List Value) (hs : a.eval s = v) (hown : w.ownsRow base e size v n xs)
    (lo hi : Nat) (A : Option Addr) (m c : Nat) (news : List Value) (hx : a.eval x = .slice A m c) (hr : Rd w lo hi A news) (hm : news.length = m * size) (h1 : ∀ u ∈ news, u.oneCell' = true)
    (hbytes : (n + m) * bytes ≤ 140737488355328) (hbase : base ≤ w.heap.size)
    (h : ∀ v' w', w'.ownsRow base e size v' (n + m) (xs ++ news) → w.grownBy w' v.ownBlock → (v'.ownBlock = v.ownBlock ∨ v'.ownBlock = some w.heap.size) → K (a.put o.dst v') w') :
    if Region.wanted o (yielded ops a.tmps) = true then Oper.wp P o a w K Q else E := by
  have hw : Region.wanted o (yielded ops a.tmps) = true := by simp [Region.wanted, hgd]
  rw [if_pos hw]
  exact wp_append_rd I s x ho base v n xs hs hown lo hi A m c news hx hr hm h1 hbytes hbase h
end

section
variable {P : Program} {t e : TypeId} {z : Value} {size bytes : Nat} {w : World}
/-- make of nothing with room. -/
theorem wpList_make_rd (I : Info P t e z size bytes) {ops : Array Oper} {rest : List Oper} {o : Oper} {a : Act} {Q : Exit → Act → World → Prop} (hg : o.guard = none) (l c : Operand) (hop : o.op = Op.makeSlice t l c)
    (base : Nat) {kl kc : IntKind} {C : Int} (n : Nat) (hl : a.eval l = .int kl 0) (hc : a.eval c = .int kc C) (hC : C = (n : Int)) (b2 : bytes * n ≤ 140737488355328) (b4 : base ≤ w.heap.size)
    (hK : ∀ w', w'.ownsRow base e size (.slice (some ⟨w.heap.size, 0, none⟩) 0 n) 0 [] → w.grownBy w' none → wpList P ops Q rest (a.put o.dst (.slice (some ⟨w.heap.size, 0, none⟩) 0 n)) w') :
    wpList P ops Q (o :: rest) a w := by
  obtain ⟨i, hi, hz, hs, hb⟩ := info_parts I.row
  have h63 : n ≤ maxLen := by
    have h := Nat.le_trans (Nat.le_mul_of_pos_left n I.bpos) b2
    simp only [maxLen]; omega
  exact wpList_make_own w hg l c t hop base e i z size I.under hi hz hs kl kc C n hl hc hC (by rw [hb]; omega) h63 b4 hK

/-- append within the room. -/
theorem wpList_append_fit (I : Info P t e z size bytes) {ops : Array Oper} {rest : List Oper} {o : Oper} {a : Act} {Q : Exit → Act → World → Prop} (hg : o.guard = none) (s x : Operand)
    (hop : o.op = .call { callee := .builtin .append, args := #[s, x], argTypes := #[t, t] })
    (base g k cap : Nat) (xs : List Value) (hs : a.eval s = .slice (some ⟨g, 0, none⟩) k cap) (hown : w.ownsRow base e size (.slice (some ⟨g, 0, none⟩) k cap) k xs)
    (lo hi : Nat) (A : Option Addr) (m c : Nat) (news : List Value) (hx : a.eval x = .slice A m c) (hr : Rd w lo hi A news) (hm : news.length = m * size) (h1 : ∀ u ∈ news, u.oneCell' = true) (b1 : k + m ≤ cap)
    (hK : ∀ w', w'.ownsRow base e size (.slice (some ⟨g, 0, none⟩) (k + m) cap) (k + m) (xs ++ news) → w.grownBy w' (some g) → wpList P ops Q rest (a.put o.dst (.slice (some ⟨g, 0, none⟩) (k + m) cap)) w') :
    wpList P ops Q (o :: rest) a w := by
  obtain ⟨i, hi0, hz, hsz, hb⟩ := info_parts I.row
  rcases A with _ | ad
  · have h0 : news = [] := by
      rcases news with _ | ⟨y, r⟩
      · rfl
      · obtain ⟨b, o, h, _⟩ := hr (by simp)
        cases h
    subst h0
    have hm0 : m = 0 := by
      have : m * size = 0 := by simpa using hm.symm
      rcases Nat.mul_eq_zero.1 this with h | h
      · exact h
      · have := I.pos; omega
    subst hm0
    refine wpList_plain hg fun K hK' => ?_
    have b1' : k ≤ cap := by omega
    have hrun : (Builtin.append_ #[t, t] o.type #[.slice (some ⟨g, 0, none⟩) k cap, .slice none 0 c]).run P w = .ok (.slice (some ⟨g, 0, none⟩) k cap) w := by
      simp [Builtin.append_, run_underlying I.under, sizeOf, typeInfo, hi0, Builtin.lenOf, Builtin.firstCells, b1', storeCells]
    unfold Oper.wp
    simp [execOp, hop, resolve, invoke, builtin, hs, hx, hrun, Result.andThen]
    exact hK' _ _ (by simpa using hK w (by simpa using hown) (World.grownBy.refl _ _))
  · refine wpList_append_fits w hg s x t hop base e i size I.under hi0 hsz g k cap xs hs hown ad m c news hx hm (fun j u hu => ?_) h1 b1 hK
    obtain ⟨b, o', he, _, _, hc⟩ := hr (by
      rcases news with _ | ⟨y, r⟩
      · simp at hu
      · simp)
    injection he with he
    subst he
    rw [add_plain]
    exact hc j u hu
end

/-! ### Slices of strings -/
theorem infoS : Info Try.prog 22 9 (.string ⟨#[]⟩) 1 16 := ⟨Try.underlying22, by kernel_rfl, rfl, by omega, by omega⟩

def strv (ss : List ByteArray) : List Value := ss.map Value.string
theorem strv_len (ss : List ByteArray) : (strv ss).length = ss.length := by simp [strv]
theorem strv_append (a b : List ByteArray) : strv (a ++ b) = strv a ++ strv b := by simp [strv]
theorem strv_one (ss : List ByteArray) : ∀ u ∈ strv ss, u.oneCell' = true := by
  intro u hu
  simp only [strv, List.mem_map] at hu
  obtain ⟨s, _, rfl⟩ := hu
  rfl

/-- The slice at A of length ss.length and capacity c reads as ss, in a block from lo on. -/
def Strs (w : World) (lo : Nat) (A : Option Addr) (c : Nat) (ss : List ByteArray) : Prop :=
  Rd w lo w.heap.size A (strv ss) ∧ ss.length ≤ c ∧ c ≤ 9223372036854775807
/-- .. as a value. -/
def IsStrs (w : World) (lo : Nat) (v : Value) (ss : List ByteArray) : Prop := ∃ A c, v = .slice A ss.length c ∧ Strs w lo A c ss

section
variable {w w' : World} {lo : Nat} {A : Option Addr} {c : Nat} {ss : List ByteArray}
theorem Strs.at_ (h : Strs w lo A c ss) {k : Nat} (hk : k < ss.length) :
    ∃ b o, A = some ⟨b, o, none⟩ ∧ lo ≤ b ∧ b < w.heap.size ∧ w.cell? ⟨b, o + k, none⟩ = some (.string (ss[k]'hk)) := by
  obtain ⟨b, o, e, h1, h2, hc⟩ := h.1.at_ (k := k) (by simpa [strv] using hk)
  exact ⟨b, o, e, h1, h2, by simpa [strv] using hc⟩
theorem Strs.all (h : Strs w lo A c ss) (hk : 0 < ss.length) :
    ∃ b o, A = some ⟨b, o, none⟩ ∧ lo ≤ b ∧ b < w.heap.size ∧ ∀ k (hk : k < ss.length), w.cell? ⟨b, o + k, none⟩ = some (.string (ss[k]'hk)) := by
  obtain ⟨b, o, e, h1, h2, hc⟩ := h.1 (by simpa [strv] using hk)
  exact ⟨b, o, e, h1, h2, fun k hk => hc k _ (by simp [strv, hk])⟩
theorem Strs.ext (h : Strs w lo A c ss) (hb : Below w.heap.size w w') : Strs w' lo A c ss := ⟨h.1.ext hb, h.2.1, h.2.2⟩
theorem Strs.low {lo2 : Nat} (h : Strs w lo A c ss) (hl : lo2 ≤ lo) : Strs w lo2 A c ss := ⟨h.1.wide hl (Nat.le_refl _), h.2.1, h.2.2⟩
theorem Strs.nil_ (w : World) (lo : Nat) (A : Option Addr) (c : Nat) (h : c ≤ 9223372036854775807) : Strs w lo A c [] := ⟨Rd.nil_, by simp, h⟩
theorem IsStrs.ext {v : Value} (h : IsStrs w lo v ss) (hb : Below w.heap.size w w') : IsStrs w' lo v ss := by
  obtain ⟨A, c, e, h⟩ := h
  exact ⟨A, c, e, h.ext hb⟩
theorem IsStrs.of_own {base n : Nat} {v : Value} (h : w.ownsRow base 9 1 v n (strv ss)) : IsStrs w base v ss := by
  obtain ⟨A, c, rfl, h1, h2⟩ := own_slice h
  have hn : ss.length = n := by have := h.1; simpa [strv] using this
  subst hn
  exact ⟨A, c, rfl, Rd.of_own h, h1, h2⟩
end

/-! ### Worlds -/
theorem below_drewN {B : Nat} {a w : World} (h : Below B a w) (n : Nat) : Below B a (w.drewN n) := ⟨h.os, h.tape, h.output, h.size, h.block⟩
theorem below_then {B : Nat} {w w1 w2 : World} (h : Below B w w1) (k : Below w1.heap.size w1 w2) (hB : B ≤ w1.heap.size) : Below B w w2 :=
  h.trans (k.mono hB)
theorem below_ext {w w1 w2 : World} (h : Below w.heap.size w w1) (k : Below w1.heap.size w1 w2) : Below w.heap.size w w2 := below_then h k h.size
theorem own_below {w w1 : World} {base n : Nat} {e : TypeId} {size : Nat} {v : Value} {xs : List Value} (h : w.ownsRow base e size v n xs) (hb : Below w.heap.size w w1) : w1.ownsRow base e size v n xs :=
  h.kept (row := none) ⟨hb.os, hb.tape, hb.output, hb.size, fun i hi _ => hb.block i hi⟩ (by cases v.ownBlock <;> simp)
theorem below_grown {B : Nat} {w w1 w2 : World} (h : Below B w w1) {v : Value} {base n : Nat} {e : TypeId} {size : Nat} {xs : List Value} (hown : w1.ownsRow base e size v n xs) (hg : w1.grownBy w2 v.ownBlock) (hB : B ≤ base) (hs : B ≤ w1.heap.size) : Below B w w2 :=
  h.grown hg hs fun k hk => Nat.le_trans hB (hown.lt k hk).1
theorem data_ext {a b : ByteArray} : a = b ↔ a.toList = b.toList := by
  constructor
  · rintro rfl; rfl
  · intro h
    rw [Lib.toList_data, Lib.toList_data] at h
    cases a; cases b
    simp only [ByteArray.mk.injEq]
    exact Array.ext' h
/-- One cell more is written behind what is owned (elements of one cell). -/
theorem own_room {w : World} {base : Nat} {e : TypeId} {g n cap : Nat} {xs : List Value} (h : w.ownsRow base e 1 (.slice (some ⟨g, 0, none⟩) n cap) n xs) (hn : n < cap) (u : Value) :
    (w.setCell ⟨g, n, none⟩ u).ownsRow base e 1 (.slice (some ⟨g, 0, none⟩) (n + 1) cap) (n + 1) (xs ++ [u]) := by
  obtain ⟨h1, h2⟩ := h
  rcases h2 with ⟨h2, _⟩ | ⟨g', cap', cur, hv, hb, hh, hnc, hcm, hcs, ht⟩
  · cases h2
  · injection hv with ha _ hc
    injection ha with ha
    injection ha with hg
    subst hg; subst hc
    have hl : cur.size = cap := by simpa using hcs
    refine ⟨by simp [h1], .inr ⟨g, cap, cur.setIfInBounds n u, rfl, hb, ?_, hn, hcm, by simpa using hcs, ?_⟩⟩
    · simp [World.setCell, Array.getElem?_modify, hh]
    · rw [Nat.mul_one] at ht ⊢
      rw [Array.toList_setIfInBounds, List.take_succ_eq_append_getElem (by simp; omega), List.getElem_set_self, List.take_set_of_le (Nat.le_refl n), ht]
theorem own_room_cell {w : World} {base : Nat} {e : TypeId} {g n cap : Nat} {xs : List Value} (h : w.ownsRow base e 1 (.slice (some ⟨g, 0, none⟩) n cap) n xs) {j : Nat} (hj : j < cap) :
    (∃ u, w.cell? ⟨g, j, none⟩ = some u) ∧ w.frozen? ⟨g, j, none⟩ = false := by
  obtain ⟨h1, h2⟩ := h
  rcases h2 with ⟨h2, _⟩ | ⟨g', cap', cur, hv, hb, hh, hnc, hcm, hcs, ht⟩
  · cases h2
  · injection hv with ha _ hc
    injection ha with ha
    injection ha with hg
    subst hg; subst hc
    have hl : cur.size = cap := by simpa using hcs
    refine ⟨⟨cur[j]'(by omega), ?_⟩, ?_⟩
    · rw [cell_of_row _ _ _ _ _ _ hh]; exact Array.getElem?_eq_getElem _
    · simp [World.frozen?, hh]

theorem own_of_block {w w' : World} {base n : Nat} {e : TypeId} {size : Nat} {v : Value} {xs : List Value} (h : w.ownsRow base e size v n xs) (hb : ∀ g, v.ownBlock = some g → w'.heap[g]? = w.heap[g]?) : w'.ownsRow base e size v n xs := by
  obtain ⟨h1, h2⟩ := h
  rcases h2 with h2 | ⟨g, cap, cur, rfl, hbg, hh, r⟩
  · exact ⟨h1, .inl h2⟩
  · exact ⟨h1, .inr ⟨g, cap, cur, rfl, hbg, (hb g rfl).trans hh, r⟩⟩
/-- An owned row while a string's iterator moves on. -/
theorem own_iterAt {w : World} {base n : Nat} {e : TypeId} {size : Nat} {v : Value} {xs : List Value} (h : w.ownsRow base e size v n xs) {k : Nat} {s : ByteArray} {p : Nat} (hk : w.heap[k]? = some (.stringIter s p)) (q : Nat) :
    (w.iterAt k s q).ownsRow base e size v n xs := own_of_block h fun g hg => Lib.iterAt_other w k g s q (by
  rintro rfl
  rcases h.2 with ⟨rfl, _⟩ | ⟨g', cap, cur, rfl, _, hh, _⟩
  · simp [Value.ownBlock] at hg
  · have : g' = g := by simpa [Value.ownBlock] using hg
    subst this
    rw [hh] at hk; cases hk)
/-- An iterator stays while an owned row grows. -/
theorem iter_grown {w w' : World} {base n : Nat} {e : TypeId} {size : Nat} {v : Value} {xs : List Value} (h : w.ownsRow base e size v n xs) {k : Nat} {s : ByteArray} {p : Nat} (hk : w.heap[k]? = some (.stringIter s p))
    (hg : w.grownBy w' v.ownBlock) : w'.heap[k]? = some (.stringIter s p) := by
  have hlt : k < w.heap.size := (Array.getElem?_eq_some_iff.1 hk).1
  refine (hg.block k hlt (fun hkv => ?_)).trans hk
  rcases h.2 with ⟨rfl, _⟩ | ⟨g', cap, cur, rfl, _, hh, _⟩
  · simp [Value.ownBlock] at hkv
  · have : k = g' := by simpa [Value.ownBlock] using hkv
    subst this
    rw [hh] at hk; cases hk
theorem iter_alloc {w : World} {k : Nat} {s : ByteArray} {p : Nat} (hk : w.heap[k]? = some (.stringIter s p)) (o : Obj) : (w.alloc o).heap[k]? = some (.stringIter s p) :=
  (Below.heap_alloc w o k (Array.getElem?_eq_some_iff.1 hk).1).trans hk
theorem iterPos_of {w : World} {k : Nat} {s : ByteArray} {p : Nat} (hk : w.heap[k]? = some (.stringIter s p)) : w.iterPos k = p := by simp [World.iterPos, hk]

/-- Some orders have been drawn, no more. -/
def Drawn (w w' : World) : Prop := ∃ n, w' = w.drewN n
theorem Drawn.refl (w : World) : Drawn w w := ⟨0, rfl⟩
theorem Drawn.step {w w' : World} (h : Drawn w w') (n : Nat) : Drawn w (w'.drewN n) := by
  obtain ⟨m, rfl⟩ := h
  exact ⟨m + n, World.drewN_drewN ..⟩
theorem Drawn.below {w w' : World} {B : Nat} (h : Drawn w w') : Below B w w' := by
  obtain ⟨m, rfl⟩ := h
  exact below_drewN (Below.refl _ _) _

theorem quiet_add_left {P : Program} {f : FuncId} {args : Array Value} {w : World} {a n : Nat} {v : Value}
    (h : Calls P f args (w.drewN (a + n)) fun e w' => e = .returned v ∧ w.drewN (a + n) = w') :
    Calls P f args (w.drewN (a + n)) fun e w'' => e = .returned v ∧ ∃ m, w'' = w.drewN (a + m) :=
  h.mono fun _ _ ⟨he, hm⟩ => ⟨he, n, hm.symm⟩
theorem quiet_left {P : Program} {f : FuncId} {args : Array Value} {w : World} {n : Nat} {v : Value}
    (h : Calls P f args (w.drewN n) fun e w' => e = .returned v ∧ w.drewN n = w') : Calls P f args (w.drewN n) fun e w'' => e = .returned v ∧ ∃ m, w'' = w.drewN m :=
  h.mono fun _ _ ⟨he, hm⟩ => ⟨he, n, hm.symm⟩
theorem quiet_add_drawn {P : Program} {f : FuncId} {args : Array Value} {w : World} {a n : Nat} {v : Value}
    (h : Calls P f args (w.drewN (a + n)) fun e w' => e = .returned v ∧ Drawn (w.drewN (a + n)) w') :
    Calls P f args (w.drewN (a + n)) fun e w'' => e = .returned v ∧ ∃ m, w'' = w.drewN (a + m) :=
  h.mono fun _ _ ⟨he, m, hm⟩ => ⟨he, n + m, by rw [hm, World.drewN_drewN, Nat.add_assoc]⟩
theorem quiet_drawn {P : Program} {f : FuncId} {args : Array Value} {w : World} {n : Nat} {v : Value}
    (h : Calls P f args (w.drewN n) fun e w' => e = .returned v ∧ Drawn (w.drewN n) w') : Calls P f args (w.drewN n) fun e w'' => e = .returned v ∧ ∃ m, w'' = w.drewN m :=
  h.mono fun _ _ ⟨he, m, hm⟩ => ⟨he, n + m, by rw [hm, World.drewN_drewN]⟩

/-- One text more behind what is owned. -/
theorem own_step {w wr wz w1 : World} {v v1 : Value} {n : Nat} {acc : List ByteArray} {x : ByteArray} (ho : wr.ownsRow w.heap.size 9 1 v n (strv acc)) (hb : Below w.heap.size w wr) (hz : Below wr.heap.size wr wz)
    (h1 : w1.ownsRow w.heap.size 9 1 v1 (n + 1) (strv acc ++ [.string x])) (hg : wz.grownBy w1 v.ownBlock) : Hid (w1.ownsRow w.heap.size 9 1 v1 (n + 1) (strv (acc ++ [x])) ∧ Below w.heap.size w w1) :=
  ⟨by rw [strv_append]; exact h1, below_grown (below_ext hb hz) (own_below ho hz) hg (Nat.le_refl _) (Nat.le_trans hb.size hz.size)⟩

/-! ### Slices of runes -/
theorem infoR : Info Try.prog 45 21 (.int .i32 0) 1 4 := ⟨Try.underlying45, by kernel_rfl, rfl, by omega, by omega⟩
def i32v (rs : List Nat) : List Value := rs.map fun (r : Nat) => Value.int .i32 (r : Int)
theorem i32v_len (rs : List Nat) : (i32v rs).length = rs.length := by simp [i32v]
theorem i32v_append (a b : List Nat) : i32v (a ++ b) = i32v a ++ i32v b := by simp [i32v]

end Go.Proofs.Ytepmcfleijiloaa
