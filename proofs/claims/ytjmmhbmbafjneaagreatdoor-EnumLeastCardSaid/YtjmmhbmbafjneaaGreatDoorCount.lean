/-
  circuit.count: how many of a kind there are.
-/
import Derived.Test.YtjmmhbmbafjneaaGreatDoorCirc
namespace Go.Proofs.YtjmmhbmbafjneaaGreatDoor
open Go.RowKit Base
set_option linter.unusedVariables false
set_option linter.unusedSimpArgs false
namespace Circuit

/-- How many of a kind there are. -/
def countOf (x : Circ) (k : ByteArray) : Nat :=
  if (k.toList == [105]) = true then x.ins.length else if (k.toList == [108]) = true then x.lats.length else if (k.toList == [111]) = true then x.outs.length else if (k.toList == [98]) = true then x.bads.length else x.invs.length

set_option maxRecDepth 4000 in
set_option maxHeartbeats 4000000 in
theorem count_any (w : World) (x : Circ) (p : At) (k : ByteArray) :
    Calls Tryz.prog 92 #[.agg (cells x p), .string k] w fun e w' => e = .returned (.int .i64 (countOf x k)) ∧ Below w.heap.size w w' := by
  have hco : countOf x k = if (k.toList == [105]) = true then x.ins.length else if (k.toList == [108]) = true then x.lats.length else if (k.toList == [111]) = true then x.outs.length else if (k.toList == [98]) = true then x.bads.length else x.invs.length := rfl
  have HCO := Lib.hid hco
  clear hco
  obtain ⟨mx, ins, lats, outs, bads, invs, ands, names⟩ := x
  obtain ⟨a1, c1, a2, c2, a3, c3, a4, c4, a5, c5, a6, c6, a7, c7⟩ := p
  simp only [cells] at *
  obtain ⟨W1, hW1⟩ : ∃ W1, w.alloc (.cells #[.int .i64 mx, .slice a1 ins.length c1, .slice a2 lats.length c2, .slice a3 outs.length c3, .slice a4 bads.length c4, .slice a5 invs.length c5, .slice a6 ands.length c6, .slice a7 names.length c7] 27) = W1 := ⟨_, rfl⟩
  have h1 : Below w.heap.size w W1 := by rw [← hW1]; exact (Below.refl _ _).alloc (Nat.le_refl _) _
  have k1 : W1.cell? ⟨w.heap.size, 1, none⟩ = some (.slice a1 ins.length c1) := by rw [← hW1]; simp [go_sem]
  have k2 : W1.cell? ⟨w.heap.size, 2, none⟩ = some (.slice a2 lats.length c2) := by rw [← hW1]; simp [go_sem]
  have k3 : W1.cell? ⟨w.heap.size, 3, none⟩ = some (.slice a3 outs.length c3) := by rw [← hW1]; simp [go_sem]
  have k4 : W1.cell? ⟨w.heap.size, 4, none⟩ = some (.slice a4 bads.length c4) := by rw [← hW1]; simp [go_sem]
  have k5 : W1.cell? ⟨w.heap.size, 5, none⟩ = some (.slice a5 invs.length c5) := by rw [← hW1]; simp [go_sem]
  have HB := Lib.hid h1
  clear h1
  generalize countOf _ k = R at *
  go_enter Tryz.func92, Tryz.ntmps92
  go_wp2_with fail
  all_goals
    go_ret
    refine ⟨ret_int ?_, HB.out⟩
    rw [HCO.out]
    simp_all

end Circuit
end Go.Proofs.YtjmmhbmbafjneaaGreatDoor
