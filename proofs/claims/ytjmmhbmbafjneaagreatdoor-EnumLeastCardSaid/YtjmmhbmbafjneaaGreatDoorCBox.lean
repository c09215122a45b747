/-
  The boxes in which functions hold a circuit, a name, three integers; the truth of a proposition as a Bool.
-/
import Derived.Test.YtjmmhbmbafjneaaGreatDoorGateP
namespace Go.Proofs.YtjmmhbmbafjneaaGreatDoor
open Go.RowKit Base
set_option linter.unusedVariables false
set_option linter.unusedSimpArgs false
namespace Circuit

/-- Is a proposition so? -/
noncomputable def tt (P : Prop) : Bool := @decide P (Classical.propDecidable P)
theorem tt_pos {P : Prop} (h : P) : tt P = true := by unfold tt; exact @decide_eq_true P (Classical.propDecidable P) h
theorem tt_neg {P : Prop} (h : ¬ P) : tt P = false := by unfold tt; exact @decide_eq_false P (Classical.propDecidable P) h
theorem tt_iff {P : Prop} : tt P = true ↔ P := by unfold tt; exact @decide_eq_true_iff P (Classical.propDecidable P)
theorem tt_congr {P Q : Prop} (h : P ↔ Q) : tt P = tt Q := by
  by_cases hq : Q
  · rw [tt_pos hq, tt_pos (h.2 hq)]
  · rw [tt_neg hq, tt_neg (fun hp => hq (h.1 hp))]
theorem tt_bool {P : Prop} {b : Bool} (h : b = true ↔ P) : tt P = b := by
  cases b
  · exact tt_neg (fun hp => by have := h.2 hp; cases this)
  · exact tt_pos (h.1 rfl)

structure CBox (N : Nat) (x : Circ) (p : At) (w : World) : Prop where
  lt : N < w.heap.size
  k0 : w.cell? ⟨N, 0, none⟩ = some (.int .i64 x.max)
  k1 : w.cell? ⟨N, 1, none⟩ = some (.slice p.a1 x.ins.length p.c1)
  k2 : w.cell? ⟨N, 2, none⟩ = some (.slice p.a2 x.lats.length p.c2)
  k3 : w.cell? ⟨N, 3, none⟩ = some (.slice p.a3 x.outs.length p.c3)
  k4 : w.cell? ⟨N, 4, none⟩ = some (.slice p.a4 x.bads.length p.c4)
  k5 : w.cell? ⟨N, 5, none⟩ = some (.slice p.a5 x.invs.length p.c5)
  k6 : w.cell? ⟨N, 6, none⟩ = some (.slice p.a6 x.ands.length p.c6)
  k7 : w.cell? ⟨N, 7, none⟩ = some (.slice p.a7 x.names.length p.c7)

theorem CBox.next {N : Nat} {x : Circ} {p : At} {w w' : World} (h : CBox N x p w) {B : Nat} (hb : Below B w w') (hB : w.heap.size ≤ B) : CBox N x p w' :=
  have hl : N < B := Nat.lt_of_lt_of_le h.lt hB
  ⟨Nat.lt_of_lt_of_le h.lt hb.size, (hb.cell (p := ⟨N, 0, none⟩) hl).trans h.k0, (hb.cell (p := ⟨N, 1, none⟩) hl).trans h.k1, (hb.cell (p := ⟨N, 2, none⟩) hl).trans h.k2, (hb.cell (p := ⟨N, 3, none⟩) hl).trans h.k3, (hb.cell (p := ⟨N, 4, none⟩) hl).trans h.k4, (hb.cell (p := ⟨N, 5, none⟩) hl).trans h.k5, (hb.cell (p := ⟨N, 6, none⟩) hl).trans h.k6, (hb.cell (p := ⟨N, 7, none⟩) hl).trans h.k7⟩

theorem cbox_new (w : World) (x : Circ) (p : At) (W : World) (hW : w.alloc (.cells (cells x p) 27) = W) : Below w.heap.size w W ∧ CBox w.heap.size x p W := by
  subst hW
  refine ⟨(Below.refl _ _).alloc (Nat.le_refl _) _, by simp, ?_, ?_, ?_, ?_, ?_, ?_, ?_, ?_⟩
  all_goals simp [go_sem, cells]

structure NBox (N : Nat) (t : ByteArray × Int × ByteArray) (w : World) : Prop where
  lt : N < w.heap.size
  n0 : w.cell? ⟨N, 0, none⟩ = some (.string t.1)
  n1 : w.cell? ⟨N, 1, none⟩ = some (.int .i64 t.2.1)
  n2 : w.cell? ⟨N, 2, none⟩ = some (.string t.2.2)

theorem NBox.next {N : Nat} {t : ByteArray × Int × ByteArray} {w w' : World} (h : NBox N t w) {B : Nat} (hb : Below B w w') (hB : w.heap.size ≤ B) : NBox N t w' :=
  have hl : N < B := Nat.lt_of_lt_of_le h.lt hB
  ⟨Nat.lt_of_lt_of_le h.lt hb.size, (hb.cell (p := ⟨N, 0, none⟩) hl).trans h.n0, (hb.cell (p := ⟨N, 1, none⟩) hl).trans h.n1, (hb.cell (p := ⟨N, 2, none⟩) hl).trans h.n2⟩

def nameC (t : ByteArray × Int × ByteArray) : Array Value := #[.string t.1, .int .i64 t.2.1, .string t.2.2]

theorem nbox_new (w : World) (t : ByteArray × Int × ByteArray) (W : World) (hW : w.alloc (.cells (nameC t) 96) = W) : Below w.heap.size w W ∧ NBox w.heap.size t W := by
  subst hW
  refine ⟨(Below.refl _ _).alloc (Nat.le_refl _) _, by simp, ?_, ?_, ?_⟩
  all_goals simp [go_sem, nameC]

structure TBox (N : Nat) (t : Tri) (w : World) : Prop where
  lt : N < w.heap.size
  t0 : w.cell? ⟨N, 0, none⟩ = some (.int .i64 t.1)
  t1 : w.cell? ⟨N, 1, none⟩ = some (.int .i64 t.2.1)
  t2 : w.cell? ⟨N, 2, none⟩ = some (.int .i64 t.2.2)

theorem TBox.next {N : Nat} {t : Tri} {w w' : World} (h : TBox N t w) {B : Nat} (hb : Below B w w') (hB : w.heap.size ≤ B) : TBox N t w' :=
  have hl : N < B := Nat.lt_of_lt_of_le h.lt hB
  ⟨Nat.lt_of_lt_of_le h.lt hb.size, (hb.cell (p := ⟨N, 0, none⟩) hl).trans h.t0, (hb.cell (p := ⟨N, 1, none⟩) hl).trans h.t1, (hb.cell (p := ⟨N, 2, none⟩) hl).trans h.t2⟩

def triC (t : Tri) : Array Value := #[.int .i64 t.1, .int .i64 t.2.1, .int .i64 t.2.2]

theorem tbox_new (w : World) (t : Tri) (ty : TypeId) (W : World) (hW : w.alloc (.cells (triC t) ty) = W) : Below w.heap.size w W ∧ TBox w.heap.size t W := by
  subst hW
  refine ⟨(Below.refl _ _).alloc (Nat.le_refl _) _, by simp, ?_, ?_, ?_⟩
  all_goals simp [go_sem, triC]

theorem SlT.name {w : World} {a : Option Addr} {n c : Nat} {l : List (ByteArray × Int × ByteArray)} (h : SlT w 3 a n c (namesV l)) {i : Nat} (hi : i < n) :
    ∃ b o, ∃ hx : i < l.length, a = some ⟨b, o, none⟩ ∧ b < w.heap.size ∧ w.cell? ⟨b, o + i * 3, none⟩ = some (.string l[i].1) ∧ w.cell? ⟨b, o + i * 3 + 1, none⟩ = some (.int .i64 l[i].2.1) ∧ w.cell? ⟨b, o + i * 3 + 2, none⟩ = some (.string l[i].2.2) := by
  have hl : i < l.length := by have := h.len; unfold namesV at this; rw [List.length_map] at this; omega
  have hg : (namesV l)[i]? = some [.string l[i].1, .int .i64 l[i].2.1, .string l[i].2.2] := by
    unfold namesV
    rw [List.getElem?_map, List.getElem?_eq_getElem hl]
    rfl
  obtain ⟨_, b, o, ha, hs, hc⟩ := h.cell i _ hg
  exact ⟨b, o, hl, ha, hs, hc 0 _ rfl, hc 1 _ rfl, hc 2 _ rfl⟩

end Circuit
end Go.Proofs.YtjmmhbmbafjneaaGreatDoor
