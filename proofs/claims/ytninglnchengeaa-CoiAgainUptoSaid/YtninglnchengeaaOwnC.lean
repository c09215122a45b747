/-
  A circuit in memory of one's own; a box of cells that may be written.
-/
import Derived.Test.YtninglnchengeaaTrip
import Derived.Test.YtninglnchengeaaCBox
namespace Go.Proofs.Ytninglnchengeaa
open Go.RowKit Base
set_option linter.unusedVariables false
set_option linter.unusedSimpArgs false
namespace Circuit

/-- All seven parts lie in memory from block B on, each its own. -/
structure OwnC (w : World) (B : Nat) (x : Circ) (p : At) : Prop where
  ins : w.ownsRow B 3 1 (.slice p.a1 x.ins.length p.c1) x.ins.length (ints x.ins)
  lats : w.ownsRow B 47 3 (.slice p.a2 x.lats.length p.c2) x.lats.length (tris x.lats).flatten
  outs : w.ownsRow B 3 1 (.slice p.a3 x.outs.length p.c3) x.outs.length (ints x.outs)
  bads : w.ownsRow B 3 1 (.slice p.a4 x.bads.length p.c4) x.bads.length (ints x.bads)
  invs : w.ownsRow B 3 1 (.slice p.a5 x.invs.length p.c5) x.invs.length (ints x.invs)
  ands : w.ownsRow B 52 3 (.slice p.a6 x.ands.length p.c6) x.ands.length (tris x.ands).flatten
  names : w.ownsRow B 56 3 (.slice p.a7 x.names.length p.c7) x.names.length (namesV x.names).flatten

theorem own_sl' {w : World} {B : Nat} {e : TypeId} {a : Option Addr} {n c : Nat} {vs : List Value} (h : w.ownsRow B e 1 (.slice a n c) n vs) : Sl w a n c vs := by
  obtain ⟨a', c', hv, hs⟩ := own_sl h
  simp only [Value.slice.injEq, true_and] at hv
  obtain ⟨rfl, rfl⟩ := hv
  exact hs
theorem own_slT' {w : World} {B : Nat} {e : TypeId} {a : Option Addr} {n c : Nat} {vs : List (List Value)} (hr : ∀ r ∈ vs, r.length = 3) (hn : vs.length = n) (h : w.ownsRow B e 3 (.slice a n c) n vs.flatten) : SlT w 3 a n c vs := by
  obtain ⟨a', c', hv, hs⟩ := own_slT (by decide) hr hn h
  simp only [Value.slice.injEq, true_and] at hv
  obtain ⟨rfl, rfl⟩ := hv
  exact hs

theorem OwnC.inC {w : World} {B : Nat} {x : Circ} {p : At} (h : OwnC w B x p) : InCirc w x p :=
  ⟨own_sl' h.ins, own_slT' (tris_row _) (tris_len _) h.lats, own_sl' h.outs, own_sl' h.bads, own_sl' h.invs, own_slT' (tris_row _) (tris_len _) h.ands, own_slT' (names_row _) (names_len _) h.names⟩
theorem OwnC.next {w w' : World} {B : Nat} {x : Circ} {p : At} (h : OwnC w B x p) (hb : Below w.heap.size w w') : OwnC w' B x p :=
  ⟨own_next h.ins hb, own_next h.lats hb, own_next h.outs hb, own_next h.bads hb, own_next h.invs hb, own_next h.ands hb, own_next h.names hb⟩
theorem OwnC.mono {w : World} {B B' : Nat} {x : Circ} {p : At} (h : OwnC w B x p) (hB : B' ≤ B) : OwnC w B' x p :=
  ⟨own_mono h.ins hB, own_mono h.lats hB, own_mono h.outs hB, own_mono h.bads hB, own_mono h.invs hB, own_mono h.ands hB, own_mono h.names hB⟩
theorem OwnC.holds {w w' : World} {B N : Nat} {x : Circ} {p : At} (h : OwnC w B x p) (hk : Holds N w w') (hN : N ≤ B) : OwnC w' B x p :=
  ⟨hk.own h.ins hN, hk.own h.lats hN, hk.own h.outs hN, hk.own h.bads hN, hk.own h.invs hN, hk.own h.ands hN, hk.own h.names hN⟩

theorem OwnC.set {w : World} {B : Nat} {x : Circ} {p : At} (h : OwnC w B x p) {a : Addr} (ha : a.block < B) (u : Value) : OwnC (w.setCell a u) B x p :=
  ⟨ownsRow_setCell_below h.ins ha u, ownsRow_setCell_below h.lats ha u, ownsRow_setCell_below h.outs ha u, ownsRow_setCell_below h.bads ha u, ownsRow_setCell_below h.invs ha u, ownsRow_setCell_below h.ands ha u, ownsRow_setCell_below h.names ha u⟩

/-- Each part is small enough to be made anew. -/
structure Fits (x : Circ) : Prop where
  ins : x.ins.length * 8 ≤ 140737488355328
  lats : x.lats.length * 24 ≤ 140737488355328
  outs : x.outs.length * 8 ≤ 140737488355328
  bads : x.bads.length * 8 ≤ 140737488355328
  invs : x.invs.length * 8 ≤ 140737488355328
  ands : x.ands.length * 24 ≤ 140737488355328
  names : x.names.length * 40 ≤ 140737488355328

/-- Block N holds these cells, and may be written. -/
structure BoxN (N : Nat) (cs : List Value) (w : World) : Prop where
  lt : N < w.heap.size
  at' : ∀ j u, cs[j]? = some u → w.cell? ⟨N, j, none⟩ = some u
  fz : ∀ j, w.frozen? ⟨N, j, none⟩ = false

theorem BoxN.new (w : World) (cs : Array Value) (t : TypeId) : BoxN w.heap.size cs.toList (w.alloc (.cells cs t)) := by
  refine ⟨by simp, fun j u hu => ?_, fun j => by simp [go_sem]⟩
  simp [go_sem]
  simpa using hu

theorem BoxN.next {N : Nat} {cs : List Value} {w w' : World} (h : BoxN N cs w) {B : Nat} (hb : Below B w w') (hB : N < B) : BoxN N cs w' :=
  ⟨Nat.lt_of_lt_of_le h.lt hb.size, fun j u hu => (hb.cell (p := ⟨N, j, none⟩) hB).trans (h.at' j u hu), fun j => (hb.frozen (p := ⟨N, j, none⟩) hB).trans (h.fz j)⟩

theorem BoxN.holds {N : Nat} {cs : List Value} {w w' : World} (h : BoxN N cs w) {B : Nat} (hb : Holds B w w') (hB : B ≤ N) : BoxN N cs w' := by
  have hblk := hb.block N hB h.lt
  refine ⟨Nat.lt_of_lt_of_le h.lt hb.size, fun j u hu => ?_, fun j => ?_⟩
  · exact (World.cell?_of_block (w := w) (a := ⟨N, j, none⟩) hblk).trans (h.at' j u hu)
  · exact (World.frozen?_of_block (w := w) (a := ⟨N, j, none⟩) hblk).trans (h.fz j)

theorem BoxN.set {N : Nat} {cs : List Value} {w : World} (h : BoxN N cs w) (j : Nat) (u : Value) : BoxN N (cs.set j u) (w.setCell ⟨N, j, none⟩ u) := by
  refine ⟨by simpa [World.setCell] using h.lt, fun i v hv => ?_, fun i => by rw [World.frozen?_setCell]; exact h.fz i⟩
  by_cases hij : j = i
  · subst hij
    obtain ⟨hl, he⟩ := List.getElem?_eq_some_iff.1 hv
    rw [List.length_set] at hl
    have h0 := h.at' j cs[j] (List.getElem?_eq_getElem hl)
    have : v = u := by rw [← he]; simp
    subst this
    exact World.cell?_setCell_same' _ _ _ (by rw [h0]; rfl)
  · rw [List.getElem?_set_ne hij] at hv
    rw [World.cell?_setCell_other _ _ _ _ (by intro e; simp only [Addr.mk.injEq, and_true, true_and] at e; exact hij e)]
    exact h.at' i v hv

theorem BoxN.other {N : Nat} {cs : List Value} {w : World} (h : BoxN N cs w) {a : Addr} (ha : a.block ≠ N) (u : Value) : BoxN N cs (w.setCell a u) := by
  refine ⟨by simpa [World.setCell] using h.lt, fun i v hv => ?_, fun i => by rw [World.frozen?_setCell]; exact h.fz i⟩
  rw [World.cell?_setCell_other _ _ _ _ (by intro e; apply ha; rw [e])]
  exact h.at' i v hv
end Circuit
end Go.Proofs.Ytninglnchengeaa
