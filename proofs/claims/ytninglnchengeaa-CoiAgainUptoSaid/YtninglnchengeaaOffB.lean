/-
  What stays when one block is written.
-/
import Derived.Test.YtninglnchengeaaOwnC
import Derived.Test.YtninglnchengeaaSetI
namespace Go.Proofs.Ytninglnchengeaa
open Go.RowKit Base Go.Maps
set_option linter.unusedVariables false
set_option linter.unusedSimpArgs false
namespace StrashP
open Circuit

/-- w2 is as w, but for one block. -/
structure OffB (b : Nat) (w w2 : World) : Prop where
  os : w2.os = w.os
  tape : w2.tape = w.tape
  output : w2.output = w.output
  size : w.heap.size ≤ w2.heap.size
  block : ∀ k, k < w.heap.size → k ≠ b → w2.heap[k]? = w.heap[k]?

theorem OffB.refl (b : Nat) (w : World) : OffB b w w := ⟨rfl, rfl, rfl, Nat.le_refl _, fun _ _ _ => rfl⟩
theorem OffB.trans {b : Nat} {w1 w2 w3 : World} (h : OffB b w1 w2) (h2 : OffB b w2 w3) : OffB b w1 w3 :=
  ⟨h2.os.trans h.os, h2.tape.trans h.tape, h2.output.trans h.output, Nat.le_trans h.size h2.size, fun k hk hne => (h2.block k (Nat.lt_of_lt_of_le hk h.size) hne).trans (h.block k hk hne)⟩
theorem OffB.below {b : Nat} {w w2 w3 : World} (h : OffB b w w2) (hb : Below w2.heap.size w2 w3) : OffB b w w3 :=
  ⟨hb.os.trans h.os, hb.tape.trans h.tape, hb.output.trans h.output, Nat.le_trans h.size hb.size, fun k hk hne => (hb.block k (Nat.lt_of_lt_of_le hk h.size)).trans (h.block k hk hne)⟩
theorem OffB.set {b : Nat} {w w2 : World} (h : OffB b w w2) (j : Nat) (u : Value) : OffB b w (w2.setCell ⟨b, j, none⟩ u) :=
  ⟨h.os, h.tape, h.output, by simpa [World.setCell] using h.size, fun k hk hne => (Below.heap_setCell w2 ⟨b, j, none⟩ u k hne).trans (h.block k hk hne)⟩
theorem OffB.grown {b : Nat} {w w2 w3 : World} (h : OffB b w w2) {row : Option Nat} (hg : w2.grownBy w3 row) (hr : ∀ k, row = some k → w.heap.size ≤ k) : OffB b w w3 :=
  ⟨hg.os.trans h.os, hg.tape.trans h.tape, hg.output.trans h.output, Nat.le_trans h.size hg.size, fun k hk hne => (hg.block k (Nat.lt_of_lt_of_le hk h.size) (fun e => by have := hr k e.symm; omega)).trans (h.block k hk hne)⟩
theorem OffB.put {b : Nat} {w w2 w3 : World} (h : OffB b w w2) (hg : w2.grownBy w3 (some b)) : OffB b w w3 :=
  ⟨hg.os.trans h.os, hg.tape.trans h.tape, hg.output.trans h.output, Nat.le_trans h.size hg.size, fun k hk hne => (hg.block k (Nat.lt_of_lt_of_le hk h.size) (by simpa using hne)).trans (h.block k hk hne)⟩
theorem OffB.own {b : Nat} {w w2 : World} (h : OffB b w w2) {B : Nat} {e : TypeId} {size : Nat} {v : Value} {n : Nat} {vs : List Value} (ho : w.ownsRow B e size v n vs) (hne : v.ownBlock ≠ some b) : w2.ownsRow B e size v n vs := by
  refine ⟨ho.1, ?_⟩
  rcases ho.2 with hn | ⟨g, cap, cur, hv, hb, hh, r⟩
  · exact .inl hn
  · refine .inr ⟨g, cap, cur, hv, hb, ?_, r⟩
    rw [h.block g (Array.getElem?_eq_some_iff.1 hh).1 (by rintro rfl; exact hne (by rw [hv]; rfl))]
    exact hh
theorem OffB.base {b : Nat} {w w2 : World} (h : OffB b w w2) {B : Nat} {w0 : World} (h0 : Below B w0 w) (hB : B ≤ w.heap.size) (hb : B ≤ b) : Below B w0 w2 :=
  ⟨h.os.trans h0.os, h.tape.trans h0.tape, h.output.trans h0.output, Nat.le_trans h0.size h.size, fun k hk => (h.block k (by omega) (by omega)).trans (h0.block k hk)⟩
theorem OffB.box {b : Nat} {w w2 : World} (h : OffB b w w2) {N : Nat} {cs : List Value} (hx : BoxN N cs w) (hne : N ≠ b) : BoxN N cs w2 := by
  have hblk := h.block N hx.lt hne
  refine ⟨Nat.lt_of_lt_of_le hx.lt h.size, fun j u hu => ?_, fun j => ?_⟩
  · exact (World.cell?_of_block (w := w) (a := ⟨N, j, none⟩) hblk).trans (hx.at' j u hu)
  · exact (World.frozen?_of_block (w := w) (a := ⟨N, j, none⟩) hblk).trans (hx.fz j)
theorem OffB.seti {b : Nat} {w w2 : World} (h : OffB b w w2) {m n : Nat} {X : List Int} (hx : SetI.SetIs w m n X) (hne : m ≠ b) : SetI.SetIs w2 m n X := by
  obtain ⟨D, ⟨es, cl, hh, r⟩, hm, hat⟩ := hx
  exact ⟨D, ⟨es, cl, (h.block m (Array.getElem?_eq_some_iff.1 hh).1 hne).trans hh, r⟩, hm, hat⟩
theorem own_not {w : World} {B : Nat} {e : TypeId} {size : Nat} {v : Value} {n : Nat} {vs : List Value} (h : w.ownsRow B e size v n vs) {N : Nat} (hN : w.heap.size ≤ N) : v.ownBlock ≠ some N := by
  intro e
  have := (h.lt N e).2
  omega
theorem own_not' {w : World} {B : Nat} {e : TypeId} {size : Nat} {v : Value} {n : Nat} {vs : List Value} (h : w.ownsRow B e size v n vs) {N : Nat} (hN : N < B) : v.ownBlock ≠ some N := by
  intro e
  have := (h.lt N e).1
  omega

end StrashP
end Go.Proofs.Ytninglnchengeaa
