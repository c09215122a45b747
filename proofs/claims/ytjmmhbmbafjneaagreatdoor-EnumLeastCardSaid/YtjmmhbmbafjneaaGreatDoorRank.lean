/-
  circuit.rank: where a name stands.
-/
import Derived.Test.YtjmmhbmbafjneaaGreatDoorCirc
import Derived.Test.YtjmmhbmbafjneaaGreatDoorIndex
import Derived.BigQuiet
namespace Go.Proofs.YtjmmhbmbafjneaaGreatDoor
open Go.RowKit Base
set_option linter.unusedVariables false
set_option linter.unusedSimpArgs false
namespace Circuit

/-- "ilobc" -/
def kindsB : ByteArray := ⟨#[105, 108, 111, 98, 99]⟩

theorem ib_lt (l : List UInt8) (c : UInt8) : Lib.indexByte l c < l.length := by
  induction l with
  | nil => simp [Lib.indexByte]
  | cons x l ih =>
    unfold Lib.indexByte
    rw [List.length_cons]
    split
    · omega
    · split <;> omega

theorem at1_bounds (c : UInt8) : -1 ≤ at1 kindsB c ∧ at1 kindsB c ≤ 4 := by
  have h1 := Lib.indexByte_ge kindsB.data.toList c
  have h2 := ib_lt kindsB.data.toList c
  have h3 : (kindsB.data.toList.length : Int) = 5 := rfl
  unfold at1
  omega

/-- Where a name stands. -/
def rankOf (c : UInt8) (i : Int) : Int := at1 kindsB c * 2048 + i

set_option maxRecDepth 8000 in
set_option maxHeartbeats 2000000 in
theorem rank_any (w : World) (k : ByteArray) (i : Int) (t : ByteArray) (c : UInt8) (hk : k.data.toList = [c]) (h0 : 0 ≤ i) (h1 : i ≤ 1048576) :
    Calls Tryz.prog 94 #[.agg #[.string k, .int .i64 i, .string t]] w fun e w' => e = .returned (.int .i64 (rankOf c i)) ∧ Below w.heap.size w w' := by
  have HR : Hid (rankOf c i = at1 kindsB c * 2048 + i) := rfl
  have IA := Lib.hid (fun U => index_one kindsB k c hk (by decide) U)
  obtain ⟨hb0, hb1⟩ := at1_bounds c
  clear hk
  generalize at1 kindsB c = q at *
  obtain ⟨U, hU⟩ : ∃ U, w.alloc (.cells #[.string k, .int .i64 i, .string t] 96) = U := ⟨_, rfl⟩
  have hbU : Below w.heap.size w U := by rw [← hU]; exact (Below.refl _ _).alloc (Nat.le_refl _) _
  have u0 : U.cell? ⟨w.heap.size, 0, none⟩ = some (.string k) := by rw [← hU]; simp [go_sem]
  have u1 : U.cell? ⟨w.heap.size, 1, none⟩ = some (.int .i64 i) := by rw [← hU]; simp [go_sem]
  have HB := Lib.hid hbU
  clear hbU
  unfold kindsB at IA
  go_enter Tryz.func94, Tryz.ntmps94
  go_wp2_with fail
  go_quiet ((go_at_call 116; exact Calls.quiet_of_same ((IA.out _).mono fun e w' h => ⟨h.1, h.2.symm⟩)))
  go_wp2_with fail
  go_ret
  exact ⟨ret_int HR.out.symm, below_drewN HB.out _⟩
end Circuit
end Go.Proofs.YtjmmhbmbafjneaaGreatDoor
