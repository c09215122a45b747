/-
  strash.Hash's memory: what stays when one block is written; latches in own memory, one by one; the set of what is needed.
-/
import Derived.Test.YthdhlkcdbogcaaaHashA
import Derived.Test.YthdhlkcdbogcaaaCopyC
import Derived.Test.YthdhlkcdbogcaaaCone
import Derived.Test.YthdhlkcdbogcaaaStrashQ
namespace Go.Proofs.Ythdhlkcdbogcaaa
open Go.RowKit Base Go.Maps
set_option linter.unusedVariables false
set_option linter.unusedSimpArgs false
namespace StrashP
open Circuit GetI

/-- w2 is as w, but for one block. -/
structure OffB (b : Nat) (w w2 : World) : Prop where
  os : w2.os = w.os
  tape : w2.tape = w.tape
  output : w2.output = w.output
  size : w.heap.size ≤ w2.heap.size
  block : ∀ k, k < w.heap.size → k ≠ b → w2.heap[k]? = w.heap[k]?

theorem OffB.refl (b : Nat) (w : World) : OffB b w w := ⟨rfl, rfl, rfl, Nat.le_refl _, fun _ _ _ => rfl⟩
theorem OffB.below {b : Nat} {w w2 w3 : World} (h : OffB b w w2) (hb : Below w2.heap.size w2 w3) : OffB b w w3 :=
  ⟨hb.os.trans h.os, hb.tape.trans h.tape, hb.output.trans h.output, Nat.le_trans h.size hb.size, fun k hk hne => (hb.block k (Nat.lt_of_lt_of_le hk h.size)).trans (h.block k hk hne)⟩
theorem OffB.set {b : Nat} {w w2 : World} (h : OffB b w w2) (j : Nat) (u : Value) : OffB b w (w2.setCell ⟨b, j, none⟩ u) :=
  ⟨h.os, h.tape, h.output, by simpa [World.setCell] using h.size, fun k hk hne => (Below.heap_setCell w2 ⟨b, j, none⟩ u k hne).trans (h.block k hk hne)⟩
theorem OffB.grown {b : Nat} {w w2 w3 : World} (h : OffB b w w2) {row : Option Nat} (hg : w2.grownBy w3 row) (hr : ∀ k, row = some k → w.heap.size ≤ k) : OffB b w w3 :=
  ⟨hg.os.trans h.os, hg.tape.trans h.tape, hg.output.trans h.output, Nat.le_trans h.size hg.size, fun k hk hne => (hg.block k (Nat.lt_of_lt_of_le hk h.size) (fun e => by have := hr k e.symm; omega)).trans (h.block k hk hne)⟩
theorem OffB.own {b : Nat} {w w2 : World} (h : OffB b w w2) {B : Nat} {e : TypeId} {size : Nat} {v : Value} {n : Nat} {vs : List Value} (ho : w.ownsRow B e size v n vs) (hne : v.ownBlock ≠ some b) : w2.ownsRow B e size v n vs := by
  refine ⟨ho.1, ?_⟩
  rcases ho.2 with hn | ⟨g, cap, cur, hv, hb, hh, r⟩
  · exact .inl hn
  · refine .inr ⟨g, cap, cur, hv, hb, ?_, r⟩
    rw [h.block g (Array.getElem?_eq_some_iff.1 hh).1 (by rintro rfl; exact hne (by rw [hv]; rfl))]
    exact hh
theorem OffB.base {b : Nat} {w w2 : World} (h : OffB b w w2) {B : Nat} {w0 : World} (h0 : Below B w0 w) (hB : B ≤ w.heap.size) (hb : B ≤ b) : Below B w0 w2 :=
  ⟨h.os.trans h0.os, h.tape.trans h0.tape, h.output.trans h0.output, Nat.le_trans h0.size h.size, fun k hk => (h.block k (by omega) (by omega)).trans (h0.block k hk)⟩
theorem OffB.box {b : Nat} {w w2 : World} (h : OffB b w w2) {N : Nat} {cs : List Value} (hx : BoxN N cs w) (hne : N ≠ b) : BoxN N cs w2 := by
  have hblk := h.block N hx.lt hne
  refine ⟨Nat.lt_of_lt_of_le hx.lt h.size, fun j u hu => ?_, fun j => ?_⟩
  · exact (World.cell?_of_block (w := w) (a := ⟨N, j, none⟩) hblk).trans (hx.at' j u hu)
  · exact (World.frozen?_of_block (w := w) (a := ⟨N, j, none⟩) hblk).trans (hx.fz j)
theorem OffB.seti {b : Nat} {w w2 : World} (h : OffB b w w2) {m n : Nat} {X : List Int} (hx : SetI.SetIs w m n X) (hne : m ≠ b) : SetI.SetIs w2 m n X := by
  obtain ⟨D, ⟨es, cl, hh, r⟩, hm, hat⟩ := hx
  exact ⟨D, ⟨es, cl, (h.block m (Array.getElem?_eq_some_iff.1 hh).1 hne).trans hh, r⟩, hm, hat⟩
theorem own_not {w : World} {B : Nat} {e : TypeId} {size : Nat} {v : Value} {n : Nat} {vs : List Value} (h : w.ownsRow B e size v n vs) {N : Nat} (hN : w.heap.size ≤ N) : v.ownBlock ≠ some N := by
  intro e
  have := (h.lt N e).2
  omega
theorem own_not' {w : World} {B : Nat} {e : TypeId} {size : Nat} {v : Value} {n : Nat} {vs : List Value} (h : w.ownsRow B e size v n vs) {N : Nat} (hN : N < B) : v.ownBlock ≠ some N := by
  intro e
  have := (h.lt N e).1
  omega

/-! ### Latches, one by one. -/
theorem tris_set1 : ∀ (l : List Tri) (k : Nat) (hk : k < l.length) (u : Int), (tris l).flatten.set (k * 3 + 1) (.int .i64 u) = (tris (l.set k (l[k].1, u, l[k].2.2))).flatten
  | t :: r, 0, hk, u => by simp [tris]
  | t :: r, k + 1, hk, u => by
    have ih := tris_set1 r k (by simpa using hk) u
    have e : (k + 1) * 3 + 1 = k * 3 + 1 + 1 + 1 + 1 := by omega
    have e2 : (tris (t :: r)).flatten = .int .i64 t.1 :: .int .i64 t.2.1 :: .int .i64 t.2.2 :: (tris r).flatten := by simp [tris]
    have e3 : ∀ q : Tri, (tris (t :: (r.set k q))).flatten = .int .i64 t.1 :: .int .i64 t.2.1 :: .int .i64 t.2.2 :: (tris (r.set k q)).flatten := fun q => by simp [tris]
    rw [e, e2, List.set_cons_succ, List.set_cons_succ, List.set_cons_succ, ih, List.set_cons_succ, e3]
    rfl
theorem tris_flat1 (l : List Tri) (k : Nat) (hk : k < l.length) : (tris l).flatten[k * 3 + 1]? = some (.int .i64 l[k].2.1) := by
  rw [Base.flat_at (tris_row l) k 1 (by decide)]
  have : (tris l)[k]? = some [.int .i64 l[k].1, .int .i64 l[k].2.1, .int .i64 l[k].2.2] := by unfold tris; rw [List.getElem?_map, List.getElem?_eq_getElem hk]; rfl
  rw [this]; rfl

theorem own_some_at {w : World} {B : Nat} {e : TypeId} {size : Nat} {a : Option Addr} {n c : Nat} {vs : List Value} (h : w.ownsRow B e size (.slice a n c) n vs) {k : Nat} (hk : k < n) : ∃ g, a = some ⟨g, 0, none⟩ := by
  rcases h.2 with ⟨hv, h0⟩ | ⟨g, cap, cur, hv, _⟩
  · omega
  · simp only [Value.slice.injEq] at hv; exact ⟨g, hv.1⟩
theorem own_tri_set {w : World} {B : Nat} {e : TypeId} {g n c : Nat} {l : List Tri} (h : w.ownsRow B e 3 (.slice (some ⟨g, 0, none⟩) n c) n (tris l).flatten) {k : Nat} (hl : l.length = n) {q : Tri} (hq : l[k]? = some q) (u : Int) :
    B ≤ g ∧ g < w.heap.size ∧ (∃ cur, w.heap[g]? = some (.cells cur e (0, 0))) ∧ w.cell? ⟨g, k * 3 + 1, none⟩ = some (.int .i64 q.2.1) ∧ w.frozen? ⟨g, k * 3 + 1, none⟩ = false ∧
      (w.setCell ⟨g, k * 3 + 1, none⟩ (.int .i64 u)).ownsRow B e 3 (.slice (some ⟨g, 0, none⟩) n c) n (tris (l.set k (q.1, u, q.2.2))).flatten := by
  obtain ⟨hk, rfl⟩ := List.getElem?_eq_some_iff.1 hq
  rcases h.2 with ⟨hv, h0⟩ | ⟨g', cap, cur, hv, hb, hh, hnc, hcap, hsz, ht⟩
  · simp only [Value.slice.injEq] at hv; omega
  · simp only [Value.slice.injEq, true_and, Option.some.injEq, Addr.mk.injEq, and_true] at hv
    obtain ⟨rfl, rfl⟩ := hv
    have hcell : cur[k * 3 + 1]? = some (.int .i64 l[k].2.1) := by
      have h1 := tris_flat1 l k hk
      rw [← ht, List.getElem?_take_of_lt (by omega)] at h1
      simpa using h1
    refine ⟨hb, (Array.getElem?_eq_some_iff.1 hh).1, ⟨cur, hh⟩, ?_, ?_, ?_⟩
    · simp only [World.cell?, hh]
      simpa using hcell
    · simp [World.frozen?, hh]
    · refine ⟨by rw [← tris_set1 l k hk u, List.length_set]; exact h.1, .inr ⟨g, c, cur.setIfInBounds (k * 3 + 1) (.int .i64 u), rfl, hb, ?_, hnc, hcap, by simpa using hsz, ?_⟩⟩
      · simp only [World.setCell, Array.getElem?_modify, hh, if_true]
        rfl
      · rw [Array.toList_setIfInBounds, List.take_set, ht, tris_set1 l k hk u]
theorem own_otherS {w : World} {B : Nat} {e e' : TypeId} {size : Nat} {v : Value} {n : Nat} {vs : List Value} (h : w.ownsRow B e size v n vs) {g : Nat} {cur : Array Value} {fz : Nat × Nat} (hg : w.heap[g]? = some (.cells cur e' fz)) (he : e' ≠ e) (i : Nat) (u : Value) : (w.setCell ⟨g, i, none⟩ u).ownsRow B e size v n vs := by
  refine ownsRow_setCell_other h (fun e2 => ?_) u
  rcases h.2 with ⟨rfl, _⟩ | ⟨g', cap, cur', rfl, _, hh, _⟩
  · cases e2
  · simp only [Value.ownBlock, Option.some.injEq] at e2
    subst e2
    rw [hg] at hh
    simp only [Option.some.injEq, Obj.cells.injEq] at hh
    exact he hh.2.1

def updL (S : List (Int × Int)) (l : List Tri) (k : Nat) : List Tri := (l.take k).map (fun t => (t.1, litS S t.2.1, t.2.2)) ++ l.drop k
theorem updL_zero (S : List (Int × Int)) (l : List Tri) : updL S l 0 = l := by simp [updL]
theorem updL_len (S : List (Int × Int)) (l : List Tri) {k : Nat} (hk : k ≤ l.length) : (updL S l k).length = l.length := by simp [updL]; omega
theorem updL_at (S : List (Int × Int)) (l : List Tri) {k : Nat} (hk : k < l.length) : (updL S l k)[k]? = some l[k] := by
  unfold updL
  have e1 : ((l.take k).map (fun t => (t.1, litS S t.2.1, t.2.2))).length = k := by simp; omega
  rw [List.getElem?_append_right (by omega), e1, Nat.sub_self, List.drop_eq_getElem_cons hk]
  rfl
theorem updL_step (S : List (Int × Int)) (l : List Tri) {k : Nat} (hk : k < l.length) : (updL S l k).set k (l[k].1, litS S l[k].2.1, l[k].2.2) = updL S l (k + 1) := by
  unfold updL
  have e1 : ((l.take k).map (fun t => (t.1, litS S t.2.1, t.2.2))).length = k := by simp; omega
  rw [List.set_append_right _ _ (by omega), e1, Nat.sub_self, List.drop_eq_getElem_cons hk, List.set_cons_zero, List.take_succ_eq_append_getElem hk, List.map_append, List.append_assoc]
  rfl
theorem updL_full (S : List (Int × Int)) (l : List Tri) : updL S l l.length = l.map (fun t => (t.1, litS S t.2.1, t.2.2)) := by simp [updL]

/-! ### The set of what is needed. -/
theorem set_store {w : World} {b n : Nat} {X : List Int} (h : SetI.SetIs w b n X) {x : Int} (hx : SetI.I64 x) (hn : n < 9223372036854775807) :
    ∃ w', (Instr.mapUpdate 58 (.map (some b)) (.int .i64 x) (.bool true)).run Try.prog w = .ok () w' ∧ SetI.SetIs w' b (n + 1) (X ++ [x]) ∧ w.grownBy w' (some b) := by
  obtain ⟨D, ho, hm, hat⟩ := h
  obtain ⟨w', hrun, ho', hg⟩ := ho.update SetI.law Try.underlying58 (by unfold maxLen; omega) (keyOf_int_mk Try.underlying3 (SetI.wf_lit hx)) (plainElem_bool Try.underlying4 true)
  have hput := SetI.set_put hm hat x
  exact ⟨w', hrun, ⟨_, ho', hput.1, hput.2⟩, hg⟩
end StrashP
end Go.Proofs.Ythdhlkcdbogcaaa
