/-
  A circuit's parts as they lie in memory: slices of structs.
-/
import Derived.Test.YtjmmhbmbafjneaaGreatDoorLaws
namespace Go.Proofs.YtjmmhbmbafjneaaGreatDoor
open Go.RowKit
set_option linter.unusedVariables false
set_option linter.unusedSimpArgs false
namespace Base

/-- v is a slice whose elements are rows of k cells. -/
structure SlT (w : World) (k : Nat) (a : Option Addr) (n c : Nat) (vs : List (List Value)) : Prop where
  len : vs.length = n
  cap : n ≤ c
  big : c ≤ 9223372036854775807
  bare : a = none → n = 0 ∧ c = 0
  cell : ∀ (i : Nat) (r : List Value), vs[i]? = some r → r.length = k ∧ ∃ b o, a = some ⟨b, o, none⟩ ∧ b < w.heap.size ∧ ∀ (j : Nat) (x : Value), r[j]? = some x → w.cell? ⟨b, o + i * k + j, none⟩ = some x

theorem SlT.next {w w' : World} {k : Nat} {a : Option Addr} {n c : Nat} {vs : List (List Value)} (h : SlT w k a n c vs) (hb : Below w.heap.size w w') : SlT w' k a n c vs :=
  ⟨h.len, h.cap, h.big, h.bare, fun i r hr => by
    obtain ⟨hl, b, o, ha, hs, hc⟩ := h.cell i r hr
    exact ⟨hl, b, o, ha, Nat.lt_of_lt_of_le hs hb.size, fun j x hx => (hb.cell (p := ⟨b, o + i * k + j, none⟩) hs).trans (hc j x hx)⟩⟩

/-- Three integers. -/
abbrev Tri := Int × Int × Int

def tris (l : List Tri) : List (List Value) := l.map fun t => [.int .i64 t.1, .int .i64 t.2.1, .int .i64 t.2.2]

theorem SlT.tri {w : World} {a : Option Addr} {n c : Nat} {l : List Tri} (h : SlT w 3 a n c (tris l)) {i : Nat} (hi : i < n) :
    ∃ b o, ∃ hx : i < l.length, a = some ⟨b, o, none⟩ ∧ b < w.heap.size ∧ w.cell? ⟨b, o + i * 3, none⟩ = some (.int .i64 l[i].1) ∧ w.cell? ⟨b, o + i * 3 + 1, none⟩ = some (.int .i64 l[i].2.1) ∧ w.cell? ⟨b, o + i * 3 + 2, none⟩ = some (.int .i64 l[i].2.2) := by
  have hl : i < l.length := by have := h.len; unfold tris at this; rw [List.length_map] at this; omega
  have hg : (tris l)[i]? = some [.int .i64 l[i].1, .int .i64 l[i].2.1, .int .i64 l[i].2.2] := by
    unfold tris
    rw [List.getElem?_map, List.getElem?_eq_getElem hl]
    rfl
  obtain ⟨_, b, o, ha, hs, hc⟩ := h.cell i _ hg
  exact ⟨b, o, hl, ha, hs, hc 0 _ rfl, hc 1 _ rfl, hc 2 _ rfl⟩

/-- A circuit. -/
structure Circ where
  max : Int
  ins : List Int
  lats : List Tri
  outs : List Int
  bads : List Int
  invs : List Int
  ands : List Tri
  names : List (ByteArray × Int × ByteArray)

def namesV (l : List (ByteArray × Int × ByteArray)) : List (List Value) := l.map fun t => [.string t.1, .int .i64 t.2.1, .string t.2.2]

/-- The addresses and capacities of its parts. -/
structure At where
  a1 : Option Addr
  c1 : Nat
  a2 : Option Addr
  c2 : Nat
  a3 : Option Addr
  c3 : Nat
  a4 : Option Addr
  c4 : Nat
  a5 : Option Addr
  c5 : Nat
  a6 : Option Addr
  c6 : Nat
  a7 : Option Addr
  c7 : Nat

def cells (x : Circ) (p : At) : Array Value := #[.int .i64 x.max, .slice p.a1 x.ins.length p.c1, .slice p.a2 x.lats.length p.c2, .slice p.a3 x.outs.length p.c3, .slice p.a4 x.bads.length p.c4, .slice p.a5 x.invs.length p.c5, .slice p.a6 x.ands.length p.c6, .slice p.a7 x.names.length p.c7]

structure InCirc (w : World) (x : Circ) (p : At) : Prop where
  ins : Sl w p.a1 x.ins.length p.c1 (ints x.ins)
  lats : SlT w 3 p.a2 x.lats.length p.c2 (tris x.lats)
  outs : Sl w p.a3 x.outs.length p.c3 (ints x.outs)
  bads : Sl w p.a4 x.bads.length p.c4 (ints x.bads)
  invs : Sl w p.a5 x.invs.length p.c5 (ints x.invs)
  ands : SlT w 3 p.a6 x.ands.length p.c6 (tris x.ands)
  names : SlT w 3 p.a7 x.names.length p.c7 (namesV x.names)

theorem InCirc.next {w w' : World} {x : Circ} {p : At} (h : InCirc w x p) (hb : Below w.heap.size w w') : InCirc w' x p :=
  ⟨h.ins.next hb, h.lats.next hb, h.outs.next hb, h.bads.next hb, h.invs.next hb, h.ands.next hb, h.names.next hb⟩

end Base
end Go.Proofs.YtjmmhbmbafjneaaGreatDoor
