/-
  clause.without: all literals but one.
-/
import Derived.Test.YthhkngpbaflfiaaDelI
import Derived.Test.YthhkngpbaflfiaaCloneI
namespace Go.Proofs.Ythhkngpbaflfiaa
open Go.RowKit Base
set_option linter.unusedVariables false
set_option linter.unusedSimpArgs false
namespace Clause

theorem eg_without : SlfI.Enters 85 := enters_of Try.func85 (by kernel_rfl) rfl

set_option maxHeartbeats 400000 in
theorem without1_any (x y : Int) (B : Nat) (w : World) (hc : w.cell? ⟨B, 0, none⟩ = some (.int .i64 x)) :
    Calls Try.prog 85 #[.int .i64 y, .pointer (some ⟨B, 0, none⟩)] w fun e w' => e = .returned (.bool (decide (y = x))) ∧ w = w' := by
  have HD : Hid (decide (y = x) = (y == x)) := by show _ = _; rw [Bool.eq_iff_iff]; simp
  go_enter Try.func85, Try.ntmps85
  go_wp2
  go_ret
  exact ⟨ret_bool HD.out.symm, rfl⟩

def wo (l : List Int) (x : Int) : List Int := l.filter fun y => !decide (y = x)

theorem wo_len (l : List Int) (x : Int) : (wo l x).length ≤ l.length := List.length_filter_le _ _

set_option maxHeartbeats 1000000 in
theorem without_any (w : World) (a : Option Addr) (n c : Nat) (l : List Int) (hsl : Sl w a n c (ints l)) (hn : n * 8 ≤ 140737488355328) (x : Int) :
    Calls Try.prog 75 #[.slice a n c, .int .i64 x] w fun e w' => ∃ a' n' c', e = .returned (.slice a' n' c') ∧ w'.ownsRow w.heap.size 3 1 (.slice a' n' c') n' (ints (wo l x)) ∧ Below w.heap.size w w' := by
  have hal : Below w.heap.size w (w.alloc (.cells #[.int .i64 x] 3)) := (Below.refl _ _).alloc (Nat.le_refl _) _
  have hcell : (w.alloc (.cells #[.int .i64 x] 3)).cell? ⟨w.heap.size, 0, none⟩ = some (.int .i64 x) := by simp
  have hsz : (w.alloc (.cells #[.int .i64 x] 3)).heap.size = w.heap.size + 1 := by simp
  have HC := Lib.hid (CloneI.clone (w.alloc (.cells #[.int .i64 x] 3)) a n c (ints l) (hsl.next hal) (by intro u hu; obtain ⟨x, _, rfl⟩ := List.mem_map.1 hu; rfl) hn)
  have HAL := Lib.hid hal
  have HCELL := Lib.hid hcell
  have HSZ := Lib.hid hsz
  clear hal hcell hsl hn hsz
  go_enter Try.func75, Try.ntmps75
  go_wp2_with fail
  refine HC.out.mono ?_
  rintro e w1 ⟨a1, c1, rfl, hown1, hb1⟩
  have D := DelI.del_own w1 _ a1 n c1 l hown1 hb1.size 85 #[.pointer (some ⟨w.heap.size, 0, none⟩)] (fun y => decide (y = x)) eg_without (fun W hW y => by
    refine without1_any x y w.heap.size W ?_
    have hlt : w.heap.size < w1.heap.size := by have := hb1.size; rw [HSZ.out] at this; omega
    rw [hW.cell hlt (by
      intro he
      have := (hown1.lt w.heap.size he.symm).1
      rw [HSZ.out] at this
      omega) 0, hb1.cell (p := ⟨w.heap.size, 0, none⟩) (by show w.heap.size < _; rw [HSZ.out]; omega)]
    exact HCELL.out)
  have HD := Lib.hid D
  have HB1 := Lib.hid hb1
  clear D hown1 hb1
  go_wp2_with fail
  refine HD.out.mono ?_
  rintro e w2 ⟨n2, rfl, hown2, hb2⟩
  have HO := Lib.hid (own_mono hown2 (B' := w.heap.size) (by rw [HSZ.out]; omega))
  have HB := Lib.hid (HAL.out.trans ((HB1.out.trans hb2).mono (by rw [HSZ.out]; omega)))
  clear hown2 hb2
  go_wp2_with fail
  go_ret
  exact ⟨a1, n2, c1, rfl, HO.out, HB.out⟩

end Clause
end Go.Proofs.Ythhkngpbaflfiaa
