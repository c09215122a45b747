/-
  sim.reset: a latch's first bit; cube.strange: the closure over a circuit.
-/
import Derived.Test.YtllbncfcnjmbmaaDoorStrange
namespace Go.Proofs.YtllbncfcnjmbmaaDoor
open Go.RowKit Base
set_option linter.unusedVariables false
set_option linter.unusedSimpArgs false
namespace SimReset

/-- The bit that a latch begins with: its own, or one given. -/
def resetI (t : Tri) (b : Int) : Int := if t.2.2 = t.1 then b else IntKind.u8.wrap (48 + IntKind.u8.wrap t.2.2)

set_option maxHeartbeats 1000000 in
theorem reset_any (w : World) (t : Tri) (b : Int) :
    Calls Tryd.prog 41 #[.agg #[.int .i64 t.1, .int .i64 t.2.1, .int .i64 t.2.2], .int .u8 b] w fun e w' => e = .returned (.int .u8 (resetI t b)) ∧ Below w.heap.size w w' := by
  obtain ⟨U, hU⟩ : ∃ U, w.alloc (.cells #[.int .i64 t.1, .int .i64 t.2.1, .int .i64 t.2.2] 44) = U := ⟨_, rfl⟩
  have hbU : Below w.heap.size w U := by rw [← hU]; exact (Below.refl _ _).alloc (Nat.le_refl _) _
  have u0 : U.cell? ⟨w.heap.size, 0, none⟩ = some (.int .i64 t.1) := by rw [← hU]; simp [go_sem]
  have u2 : U.cell? ⟨w.heap.size, 2, none⟩ = some (.int .i64 t.2.2) := by rw [← hU]; simp [go_sem]
  have HBU := Lib.hid hbU
  clear hbU
  by_cases h : t.2.2 = t.1
  · have hv : (t.2.2 == t.1) = true := by simp [h]
    have HV : Hid (resetI t b = b) := by show _ = _; unfold resetI; rw [if_pos h]
    clear h
    go_enter Tryd.func41, Tryd.ntmps41
    go_wp2_with fail
    go_ret
    exact ⟨by rw [HV.out]; rfl, HBU.out⟩
  · have hv : (t.2.2 == t.1) = false := by simp [h]
    have HV : Hid (resetI t b = IntKind.u8.wrap (48 + IntKind.u8.wrap t.2.2)) := by show _ = _; unfold resetI; rw [if_neg h]
    clear h
    generalize hq : IntKind.u8.wrap t.2.2 = q at *
    generalize hr : IntKind.u8.wrap (48 + q) = r at *
    go_enter Tryd.func41, Tryd.ntmps41
    go_wp2_with fail
    go_ret
    exact ⟨by rw [HV.out]; rfl, HBU.out⟩

/-- cube.strange makes a closure over a new box that holds the circuit. -/
theorem make_any (w : World) (x : Circ) (p : At) :
    Calls Tryd.prog 21 #[.agg (cells x p)] w fun e w' => e = .returned (.func (.func 37) #[] #[.pointer (some ⟨w.heap.size, 0, none⟩)]) ∧ Circuit.CBox w.heap.size x p w' ∧ Below w.heap.size w w' := by
  obtain ⟨W1, hW1⟩ : ∃ U, w.alloc (.cells (cells x p) 27) = U := ⟨_, rfl⟩
  obtain ⟨hb1, hx1⟩ := Circuit.cbox_new w x p W1 hW1
  have HB1 := Lib.hid hb1
  have HX1 := Lib.hid hx1
  clear hb1 hx1
  unfold cells at *
  go_enter Tryd.func21, Tryd.ntmps21
  go_wp2_with fail
  go_ret
  exact ⟨rfl, HX1.out, HB1.out⟩
end SimReset
end Go.Proofs.YtllbncfcnjmbmaaDoor
