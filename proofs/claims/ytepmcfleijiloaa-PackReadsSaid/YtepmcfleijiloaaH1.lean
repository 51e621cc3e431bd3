/- Graphs in memory; contracts of package graph's small functions. -/
import Derived.Test.YtepmcfleijiloaaA0
import Derived.Test.YtepmcfleijiloaaP1
namespace Go.Proofs.Ytepmcfleijiloaa
open Go.RowKit

/-! ### Edges and nodes -/
theorem infoE : Info Try.prog 39 49 (.agg #[.int .i32 0, .int .i64 0]) 2 16 := ⟨Try.underlying39, by kernel_rfl, rfl, by omega, by omega⟩
theorem infoN : Info Try.prog 86 93 (.agg #[.bool false, .slice none 0 0]) 2 32 := ⟨Try.underlying86, by kernel_rfl, rfl, by omega, by omega⟩
def edgv (es : List (Nat × Nat)) : List Value := es.flatMap fun e => [.int .i32 e.1, .int .i64 e.2]
theorem edgv_nil : edgv [] = [] := rfl
theorem edgv_cons (e : Nat × Nat) (es : List (Nat × Nat)) : edgv (e :: es) = [.int .i32 e.1, .int .i64 e.2] ++ edgv es := rfl
theorem edgv_append (a b : List (Nat × Nat)) : edgv (a ++ b) = edgv a ++ edgv b := by simp [edgv]
theorem edgv_len (es : List (Nat × Nat)) : (edgv es).length = es.length * 2 := by
  induction es with
  | nil => rfl
  | cons e es ih => rw [edgv_cons, List.length_append, ih]; simp; omega
theorem edgv_one (es : List (Nat × Nat)) : ∀ u ∈ edgv es, u.oneCell' = true := by
  intro u hu
  simp only [edgv, List.mem_flatMap] at hu
  obtain ⟨e, _, hu⟩ := hu
  simp at hu
  rcases hu with rfl | rfl <;> rfl
theorem edgv_at (es : List (Nat × Nat)) (k : Nat) (h : k < es.length) : (edgv es)[2 * k]? = some (.int .i32 (es[k]'h).1) ∧ (edgv es)[2 * k + 1]? = some (.int .i64 (es[k]'h).2) := by
  induction es generalizing k with
  | nil => simp at h
  | cons e es ih =>
    cases k with
    | zero => simp [edgv_cons]
    | succ k =>
      have := ih k (by simpa using h)
      rw [edgv_cons, show 2 * (k + 1) = 2 * k + 2 by omega, show 2 * k + 2 + 1 = (2 * k + 1) + 2 by omega]
      simpa using this

/-- The slice at A of length es.length and capacity c reads as es. -/
def Edgs (w : World) (lo : Nat) (A : Option Addr) (c : Nat) (es : List (Nat × Nat)) : Prop :=
  Rd w lo w.heap.size A (edgv es) ∧ es.length ≤ c ∧ c ≤ 9223372036854775807
section
variable {w w' : World} {lo : Nat} {A : Option Addr} {c : Nat} {es : List (Nat × Nat)}
theorem Edgs.at_ (h : Edgs w lo A c es) {k : Nat} (hk : k < es.length) :
    ∃ b o, A = some ⟨b, o, none⟩ ∧ lo ≤ b ∧ b < w.heap.size ∧ w.cell? ⟨b, o + k * 2, none⟩ = some (.int .i32 (es[k]'hk).1) ∧ w.cell? ⟨b, o + k * 2 + 1, none⟩ = some (.int .i64 (es[k]'hk).2) := by
  obtain ⟨b, o, e, h1, h2, hc⟩ := h.1 (by rw [edgv_len]; omega)
  have := edgv_at es k hk
  refine ⟨b, o, e, h1, h2, ?_, ?_⟩
  · rw [Nat.mul_comm]; exact hc _ _ this.1
  · rw [Nat.mul_comm, Nat.add_assoc]; exact hc _ _ this.2
theorem Edgs.ext (h : Edgs w lo A c es) (hb : Below w.heap.size w w') : Edgs w' lo A c es := ⟨h.1.ext hb, h.2.1, h.2.2⟩
theorem Edgs.low {lo2 : Nat} (h : Edgs w lo A c es) (hl : lo2 ≤ lo) : Edgs w lo2 A c es := ⟨h.1.wide hl (Nat.le_refl _), h.2.1, h.2.2⟩
theorem Edgs.nil_ (w : World) (lo : Nat) (A : Option Addr) (c : Nat) (h : c ≤ 9223372036854775807) : Edgs w lo A c [] := ⟨Rd.nil_, by simp, h⟩
theorem Edgs.of_own {base n : Nat} {v : Value} (h : w.ownsRow base 49 2 v n (edgv es)) : ∃ A c, v = .slice A es.length c ∧ Edgs w base A c es := by
  obtain ⟨A, c, rfl, h1, h2⟩ := own_slice h
  have hn : es.length = n := by have := h.1; rw [edgv_len] at this; omega
  subst hn
  exact ⟨A, c, rfl, Rd.of_own h, h1, h2⟩
end

/-- A node as plain data. -/
abbrev Nd := Bool × List (Nat × Nat)
/-- Two cells are a node. -/
def NodeV (w : World) (lo : Nat) (x : Value × Value) (nd : Nd) : Prop := ∃ A c, x = (.bool nd.1, .slice A nd.2.length c) ∧ Edgs w lo A c nd.2
theorem NodeV.ext {w w' : World} {lo : Nat} {x : Value × Value} {nd : Nd} (h : NodeV w lo x nd) (hb : Below w.heap.size w w') : NodeV w' lo x nd := by
  obtain ⟨A, c, e, h⟩ := h
  exact ⟨A, c, e, h.ext hb⟩
def flat (cs : List (Value × Value)) : List Value := cs.flatMap fun x => [x.1, x.2]
theorem flat_nil : flat [] = [] := rfl
theorem flat_cons (x : Value × Value) (cs : List (Value × Value)) : flat (x :: cs) = [x.1, x.2] ++ flat cs := rfl
theorem flat_append (a b : List (Value × Value)) : flat (a ++ b) = flat a ++ flat b := by simp [flat]
theorem flat_len (cs : List (Value × Value)) : (flat cs).length = cs.length * 2 := by
  induction cs with
  | nil => rfl
  | cons e cs ih => rw [flat_cons, List.length_append, ih]; simp; omega
theorem flat_at (cs : List (Value × Value)) (k : Nat) (h : k < cs.length) : (flat cs)[2 * k]? = some (cs[k]'h).1 ∧ (flat cs)[2 * k + 1]? = some (cs[k]'h).2 := by
  induction cs generalizing k with
  | nil => simp at h
  | cons e cs ih =>
    cases k with
    | zero => simp [flat_cons]
    | succ k =>
      have := ih k (by simpa using h)
      rw [flat_cons, show 2 * (k + 1) = 2 * k + 2 by omega, show 2 * k + 2 + 1 = (2 * k + 1) + 2 by omega]
      simpa using this

/-- A pointer to a graph with these nodes. -/
def GraphW (w : World) (lo : Nat) (v : Value) (ns : List Nd) : Prop :=
  ∃ g A c cs, v = .pointer (some ⟨g, 0, none⟩) ∧ lo ≤ g ∧ w.heap[g]? = some (.cells #[.slice A ns.length c] 88 (0, 0)) ∧ ns.length ≤ c ∧ c ≤ 9223372036854775807 ∧
    Rd w lo w.heap.size A (flat cs) ∧ cs.length = ns.length ∧ ∀ i (h : i < ns.length) (h2 : i < cs.length), NodeV w lo cs[i] ns[i]
/-- .. or to none. -/
def GraphV (w : World) (lo : Nat) (v : Value) (ns : List Nd) : Prop := (v = .pointer none ∧ ns = []) ∨ GraphW w lo v ns
theorem GraphW.ext {w w' : World} {lo : Nat} {v : Value} {ns : List Nd} (h : GraphW w lo v ns) (hb : Below w.heap.size w w') : GraphW w' lo v ns := by
  obtain ⟨g, A, c, cs, h1, h2, h3, h4, h5, h6, h7, h8⟩ := h
  have hg : g < w.heap.size := (Array.getElem?_eq_some_iff.1 h3).1
  exact ⟨g, A, c, cs, h1, h2, (hb.block g hg).trans h3, h4, h5, h6.ext hb, h7, fun i h h2 => (h8 i h h2).ext hb⟩
theorem GraphV.ext {w w' : World} {lo : Nat} {v : Value} {ns : List Nd} (h : GraphV w lo v ns) (hb : Below w.heap.size w w') : GraphV w' lo v ns := by
  rcases h with h | h
  · exact .inl h
  · exact .inr (h.ext hb)
theorem GraphW.lt {w : World} {lo : Nat} {v : Value} {ns : List Nd} (h : GraphW w lo v ns) : ∃ g A c, v = .pointer (some ⟨g, 0, none⟩) ∧ w.cell? ⟨g, 0, none⟩ = some (.slice A ns.length c) ∧ ns.length ≤ c ∧ c ≤ 9223372036854775807 := by
  obtain ⟨g, A, c, cs, h1, h2, h3, h4, h5, h6, h7, h8⟩ := h
  exact ⟨g, A, c, h1, by rw [cell_of_row _ _ _ _ _ _ h3]; rfl, h4, h5⟩

/-- A node by its number. -/
def nodeOf (ns : List Nd) (n : Int) : Nd := if h : 0 ≤ n ∧ n < ns.length then ns[n.toNat]'(by omega) else (false, [])
theorem nodeOf_in {ns : List Nd} {n : Nat} (h : n < ns.length) : nodeOf ns n = ns[n] := by
  unfold nodeOf
  rw [dif_pos (by omega)]
  simp
theorem nodeOf_out {ns : List Nd} {n : Int} (h : ¬ (0 ≤ n ∧ n < ns.length)) : nodeOf ns n = (false, []) := by
  unfold nodeOf
  rw [dif_neg h]

theorem own_low {w : World} {base base2 n : Nat} {e : TypeId} {size : Nat} {v : Value} {xs : List Value} (h : w.ownsRow base e size v n xs) (hb : base2 ≤ base) : w.ownsRow base2 e size v n xs := by
  obtain ⟨h1, h2⟩ := h
  rcases h2 with h2 | ⟨g, cap, cur, h3, h4, r⟩
  · exact ⟨h1, .inl h2⟩
  · exact ⟨h1, .inr ⟨g, cap, cur, h3, Nat.le_trans hb h4, r⟩⟩

/-! ### Contracts -/
set_option maxHeartbeats 400000 in
/-- graph.first -/
theorem c98 (s : ByteArray) (w : World) (h0 : 0 < s.size) (r q : Nat) (hd : Utf8.decode s 0 = (r, q)) (hq : q ≤ s.size) :
    Calls Try.prog 98 #[.string s] w fun e w' => e = .returned (.tuple #[.int .i32 r, .int .i64 q]) ∧ Below w.heap.size w w' := by
  have hq1 := decode_pos s 0
  rw [hd] at hq1
  simp only at hq1
  have HD := Lib.hid hd
  clear hd
  go_enter Try.func98, Try.ntmps98
  go_wp2
  go_loopw [4] (fun h wr => ∃ p : Nat, wr = w.iter s p ∧ Hid (p = 0 ∨ (p = q ∧ h = .int .i32 r))) (fun _ wr => s.size + 1 - wr.iterPos w.heap.size)
  case atStart => exact ⟨0, rfl, Lib.hid (.inl rfl)⟩
  case round =>
    obtain ⟨p, rfl, HP⟩ := hrel
    rcases HP.out with rfl | ⟨rfl, rfl⟩
    · have hnx := fun ty => run_next_any (P := Try.prog) w s 0 ty h0
      rw [HD.out] at hnx
      simp only [Nat.zero_add] at hnx
      clear HP
      go_wp2
      go_roundw
      case rel => exact ⟨q, rfl, Lib.hid (.inr ⟨rfl, rfl⟩)⟩
      case measure => simp; omega
    · clear HP
      by_cases hlt : p < s.size
      · have hnx := fun ty => run_next_any (P := Try.prog) w s p ty hlt
        go_wp2
        go_ret2
        exact ⟨rfl, (Below.refl _ _).alloc (Nat.le_refl _) _⟩
      · have hnx := fun ty => run_next_end (P := Try.prog) w s p ty hlt
        obtain rfl : s.size = p := by omega
        go_wp2
        go_ret2
        exact ⟨rfl, (Below.refl _ _).alloc (Nat.le_refl _) _⟩

/-- Graph.Nodes -/
theorem c29 (w : World) (lo : Nat) (v : Value) (ns : List Nd) (h : GraphV w lo v ns) :
    Calls Try.prog 29 #[v] w fun e w' => e = .returned (.int .i64 ns.length) ∧ w = w' := by
  rcases h with ⟨rfl, rfl⟩ | h
  · go_enter Try.func29, Try.ntmps29
    go_wp2
    go_ret
    exact ⟨rfl, rfl⟩
  · obtain ⟨g, A, c, rfl, hc, h1, h2⟩ := h.lt
    go_enter Try.func29, Try.ntmps29
    go_wp2
    go_ret
    exact ⟨rfl, rfl⟩

set_option maxHeartbeats 400000 in
set_option maxRecDepth 100000 in
/-- Graph.get -/
theorem c75 (w : World) (lo : Nat) (v : Value) (ns : List Nd) (n : Int) (nd : Nd) (h : GraphV w lo v ns) (hn : nd = nodeOf ns n) :
    Calls Try.prog 75 #[v, .int .i64 n] w fun e w' => ∃ A c, e = .returned (.agg #[.bool nd.1, .slice A nd.2.length c]) ∧ Edgs w' lo A c nd.2 ∧ Below w.heap.size w w' := by
  by_cases hin : 0 ≤ n ∧ n < ns.length
  · have h1 : 0 ≤ n := hin.1
    have h2 : n < ns.length := hin.2
    have h3 : decide (n < 0) = false := by simp; omega
    have h4 : decide ((ns.length : Int) ≤ n) = false := by simp; omega
    obtain ⟨m, rfl⟩ : ∃ m : Nat, n = m := ⟨n.toNat, by omega⟩
    rw [nodeOf_in (by omega)] at hn
    rcases h with ⟨rfl, rfl⟩ | h
    · simp at h2; omega
    have HG := Lib.hid (.inr h : GraphV w lo v ns)
    obtain ⟨g, A, c, cs, rfl, g2, g3, g4, g5, g6, g7, g8⟩ := h
    have hm : m < ns.length := by omega
    obtain ⟨A', c', hx, he⟩ := g8 m hm (by omega)
    have hf := flat_at cs m (by omega)
    rw [hx] at hf
    obtain ⟨b, o, rfl, _, hb, hc⟩ := g6 (by rw [flat_len]; omega)
    have k1 := hc _ _ hf.1
    have k2 := hc _ _ hf.2
    rw [← Nat.add_assoc] at k2
    rw [Nat.mul_comm] at k1 k2
    rw [← hn] at k1 k2 he
    have kg : w.cell? ⟨g, 0, none⟩ = some (.slice (some ⟨b, o, none⟩) ns.length c) := by rw [cell_of_row _ _ _ _ _ _ g3]; rfl
    have hg : g < w.heap.size := (Array.getElem?_eq_some_iff.1 g3).1
    have HE := Lib.hid he
    clear hc hf hx he g8 g6 g3 hn hin
    go_enter Try.func75, Try.ntmps75
    go_wp2
    refine bodyPost_ret (v := .agg #[.bool nd.1, .slice A' nd.2.length c']) (by simp [results, Try.results75, go_sem]) rfl ⟨A', c', rfl, ?_⟩
    have hb : Below w.heap.size w (w.alloc (.cells #[.bool nd.1, .slice A' nd.2.length c'] 93)) := (Below.refl w.heap.size w).alloc (Nat.le_refl _) _
    exact ⟨HE.out.ext hb, hb⟩
  · rw [nodeOf_out hin] at hn
    subst hn
    by_cases h1 : n < 0
    · clear hin
      go_enter Try.func75, Try.ntmps75
      go_wp2
      refine bodyPost_ret (v := .agg #[.bool false, .slice none 0 0]) (by simp [results, Try.results75, go_sem]) rfl ⟨none, 0, rfl, Edgs.nil_ _ _ _ _ (by omega), (Below.refl w.heap.size w).alloc (Nat.le_refl _) _⟩
    · have h3 : decide (n < 0) = false := by simp; omega
      have h1' : 0 ≤ n := by omega
      have h2 : (ns.length : Int) ≤ n := by omega
      clear hin h1
      rcases h with ⟨rfl, rfl⟩ | h
      · simp at h2
        clear h2
        go_enter Try.func75, Try.ntmps75
        go_wp2
        refine bodyPost_ret (v := .agg #[.bool false, .slice none 0 0]) (by simp [results, Try.results75, go_sem]) rfl ⟨none, 0, rfl, Edgs.nil_ _ _ _ _ (by omega), (Below.refl w.heap.size w).alloc (Nat.le_refl _) _⟩
      · have hg0 := h
        obtain ⟨g, A, c, rfl, hc, g1, g2⟩ := h.lt
        have hg : g < w.heap.size := World.block_lt_of_cell? w ⟨g, 0, none⟩ hc
        have HG := Lib.hid hg0
        clear hg0 h
        go_enter Try.func75, Try.ntmps75
        go_wp2
        refine bodyPost_ret (v := .agg #[.bool false, .slice none 0 0]) (by simp [results, Try.results75, go_sem]) rfl ⟨none, 0, rfl, Edgs.nil_ _ _ _ _ (by omega), (Below.refl w.heap.size w).alloc (Nat.le_refl _) _⟩

theorem field_fin (x : Bool) (A : Option Addr) (n c : Nat) (w : World) : (Instr.field 93 (.agg #[.bool x, .slice A n c]) 0).run Try.prog w = .ok (.bool x) w := by kernel_rfl
theorem field_edges (x : Bool) (A : Option Addr) (n c : Nat) (w : World) : (Instr.field 93 (.agg #[.bool x, .slice A n c]) 1).run Try.prog w = .ok (.slice A n c) w := by kernel_rfl

set_option maxHeartbeats 400000 in
set_option maxRecDepth 100000 in
/-- Graph.Final -/
theorem c31 (w : World) (lo : Nat) (v : Value) (ns : List Nd) (n : Int) (h : GraphV w lo v ns) :
    Calls Try.prog 31 #[v, .int .i64 n] w fun e w' => e = .returned (.bool (nodeOf ns n).1) ∧ Below w.heap.size w w' := by
  obtain ⟨nd, hn⟩ : ∃ nd, nd = nodeOf ns n := ⟨_, rfl⟩
  rw [← hn]
  have HN := Lib.hid hn
  clear hn
  have HG := Lib.hid h
  clear h
  have hf := field_fin
  go_enter Try.func31, Try.ntmps31
  go_wp2_with (go_at_call 75; (with_reducible refine (c75 w lo v ns n nd HG.out HN.out).mono ?_); rintro e w1 ⟨A, c, rfl, he, hb⟩)
  go_ret
  exact ⟨rfl, hb⟩

set_option maxRecDepth 100000 in
/-- slices.Clone of edges -/
theorem c74 (w : World) (lo : Nat) (A : Option Addr) (c : Nat) (es : List (Nat × Nat)) (he : Edgs w lo A c es) (hn : es.length ≤ 1000000) :
    Calls Try.prog 74 #[.slice A es.length c] w fun e w' => ∃ v, e = .returned v ∧ w'.ownsRow w.heap.size 49 2 v es.length (edgv es) ∧ Below w.heap.size w w' := by
  rcases A with _ | a
  · have h0 : es = [] := by
      cases es with
      | nil => rfl
      | cons e es =>
        obtain ⟨b, o, h, _⟩ := he.1 (by simp [edgv_cons])
        cases h
    subst h0
    have H1 := @Lib.run_eql_slice_nil Try.prog
    go_enter Try.func74, Try.ntmps74
    go_wp2
    go_ret
    exact ⟨_, rfl, World.ownsRow_nil _ _ _ _, Below.refl _ _⟩
  · have hl := he.2.1
    have hm := he.2.2
    have H1 := @Lib.run_eql_slice_nil Try.prog
    go_enter Try.func74, Try.ntmps74
    have HO : Hid ((w.alloc (.cells #[] 49)).ownsRow w.heap.size 49 2 (.slice (some ⟨w.heap.size, 0, none⟩) 0 0) 0 []) := World.ownsRow_made w #[] 0 (Nat.le_refl _) (by simp [maxLen]) rfl
    have HR : Hid (Rd (w.alloc (.cells #[] 49)) lo w.heap.size (some a) (edgv es)) := he.1.below ((Below.refl _ _).alloc (Nat.le_refl _) _)
    go_wp2_with (first
      | (at_builtin
         refine wpList_append_rd infoE rfl (.tmp 5) (.tmp 6) rfl w.heap.size (.slice (some ⟨w.heap.size, 0, none⟩) 0 0) 0 [] rfl HO.out lo w.heap.size (some a) es.length c (edgv es) rfl HR.out (edgv_len es) (edgv_one es) (by omega) (by simp) ?_
         intro v1 w1 hown1 hg1 hat1
         have X : Hid (w1.ownsRow w.heap.size 49 2 v1 es.length (edgv es) ∧ Below w.heap.size w w1) := ⟨by simpa using hown1, ((Below.refl w.heap.size w).alloc (Nat.le_refl _) _).grown hg1 (by simp) (by simp [Value.ownBlock])⟩
         clear hown1 hg1 hat1))
    go_ret
    exact ⟨v1, rfl, X.out.1, X.out.2⟩

set_option maxHeartbeats 400000 in
set_option maxRecDepth 100000 in
/-- Graph.Edges -/
theorem c30 (w : World) (lo : Nat) (v : Value) (ns : List Nd) (n : Int) (es : List (Nat × Nat)) (h : GraphV w lo v ns) (hn : es = (nodeOf ns n).2) (hs : es.length ≤ 1000000) :
    Calls Try.prog 30 #[v, .int .i64 n] w fun e w' => ∃ r, e = .returned r ∧ w'.ownsRow w.heap.size 49 2 r es.length (edgv es) ∧ Below w.heap.size w w' := by
  obtain ⟨nd, hnd⟩ : ∃ nd, nd = nodeOf ns n := ⟨_, rfl⟩
  rw [← hnd] at hn
  subst hn
  have HN := Lib.hid hnd
  clear hnd
  have HG := Lib.hid h
  clear h
  have hf := field_edges
  go_enter Try.func30, Try.ntmps30
  go_wp2_with (first
    | (go_at_call 75; (with_reducible refine (c75 w lo v ns n nd HG.out HN.out).mono ?_); rintro e w1 ⟨A, c, rfl, he, hb⟩)
    | (go_at_call 74; (with_reducible refine (c74 w1 lo A c nd.2 he hs).mono ?_); rintro e w2 ⟨r, rfl, ho, hb2⟩))
  go_ret
  exact ⟨r, rfl, own_low ho hb.size, below_ext hb hb2⟩

set_option maxHeartbeats 400000 in
set_option maxRecDepth 100000 in
/-- Graph.Next -/
theorem c40 (w : World) (lo : Nat) (v : Value) (ns : List Nd) (n : Int) (r : Int) (h : GraphV w lo v ns) (tn : Nat) (is : Bool) (hs : (nodeOf ns n).2.length ≤ 1000000)
    (hn : (tn, is) = match (nodeOf ns n).2.find? (fun e => decide ((e.1 : Int) = r)) with | some e => (e.2, true) | none => (0, false)) :
    Calls Try.prog 40 #[v, .int .i64 n, .int .i32 r] w fun e w' => e = .returned (.tuple #[.int .i64 tn, .bool is]) ∧ Below w.heap.size w w' := by
  obtain ⟨nd, hnd⟩ : ∃ nd, nd = nodeOf ns n := ⟨_, rfl⟩
  rw [← hnd] at hn hs
  have HN := Lib.hid hnd
  clear hnd
  have HT := Lib.hid hn
  clear hn
  have HG := Lib.hid h
  clear h
  have hf := field_edges
  go_enter Try.func40, Try.ntmps40
  go_wp2_with (first
    | (go_at_call 75; (with_reducible refine (c75 w lo v ns n nd HG.out HN.out).mono ?_); rintro e w1 ⟨A, c, rfl, he, hb⟩; have hl := he.2.1; have hm := he.2.2; have HE := Lib.hid he; have HB := Lib.hid hb; clear he hb))
  go_loopw [15] (fun i wr => ∃ k : Nat, k ≤ nd.2.length ∧ i = .int .i64 k ∧ Hid (∀ j, (h : j < nd.2.length) → j < k → (nd.2[j].1 : Int) ≠ r) ∧ Hid (Below w1.heap.size w1 wr)) (fun i _ => nd.2.length - (intOf i).toNat)
  case atStart => exact ⟨0, by omega, rfl, Lib.hid fun j h h2 => by omega, Lib.hid (Below.refl _ _)⟩
  case round =>
    obtain ⟨k, hk, rfl, HK, HB2⟩ := hrel
    by_cases hlt : k < nd.2.length
    · obtain ⟨b, o, rfl, _, hb, hc1, hc2⟩ := (HE.out.ext HB2.out).at_ hlt
      obtain ⟨x, hx⟩ : ∃ x, x = nd.2[k].1 := ⟨_, rfl⟩
      obtain ⟨y, hy⟩ : ∃ y, y = nd.2[k].2 := ⟨_, rfl⟩
      rw [← hx] at hc1
      rw [← hy] at hc2
      have HX := Lib.hid hx
      have HY := Lib.hid hy
      clear hx hy
      by_cases hxr : (x : Int) = r
      · have g : ((x : Int) == r) = true := by simp [hxr]
        have HR := Lib.hid hxr
        clear hxr
        go_wp2
        go_ret2
        have h1 : nd.2.find? (fun e => decide ((e.1 : Int) = r)) = some nd.2[k] := by
          rw [List.find?_eq_some_iff_getElem]
          exact ⟨by rw [← HX.out]; exact decide_eq_true HR.out, k, hlt, rfl, fun j hj => by simpa using HK.out j (by omega) hj⟩
        have h2 := HT.out
        rw [h1] at h2
        simp only [Prod.mk.injEq] at h2
        rw [h2.1, h2.2, ← HY.out]
        exact ⟨rfl, below_ext HB.out (below_ext HB2.out ((Below.refl _ _).alloc (Nat.le_refl _) _))⟩
      · have g : ((x : Int) == r) = false := by simp [hxr]
        have HR := Lib.hid hxr
        clear hxr
        go_wp2
        go_roundw
        case rel =>
          refine ⟨k + 1, by omega, by go_num, Lib.hid fun j h h2 => ?_, Lib.hid (below_ext HB2.out ((Below.refl _ _).alloc (Nat.le_refl _) _))⟩
          rcases Nat.lt_or_ge j k with h3 | h3
          · exact HK.out j h h3
          · obtain rfl : j = k := by omega
            rw [← HX.out]; exact HR.out
        case measure => simp [intOf]; omega
    · go_wp2
      go_ret2
      have h1 : nd.2.find? (fun e => decide ((e.1 : Int) = r)) = none := by
        rw [List.find?_eq_none]
        intro e he
        obtain ⟨j, hj, rfl⟩ := List.getElem_of_mem he
        simpa using HK.out j hj (by omega)
      have h2 := HT.out
      rw [h1] at h2
      simp only [Prod.mk.injEq] at h2
      rw [h2.1, h2.2]
      exact ⟨rfl, below_ext HB.out HB2.out⟩

end Go.Proofs.Ytepmcfleijiloaa
