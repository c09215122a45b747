/-
  clause.Subsumes: is every literal of a clause one of another clause?
-/
import Derived.Test.YthhkngpbaflfiaaCont
import Derived.Test.YthhkngpbaflfiaaSlfI
import Derived.Test.YthhkngpbaflfiaaSubP
namespace Go.Proofs.Ythhkngpbaflfiaa
open Go.RowKit Base
set_option linter.unusedVariables false
set_option linter.unusedSimpArgs false
namespace Clause

set_option maxHeartbeats 1000000 in
theorem subs1_any (w : World) (a : Option Addr) (n c : Nat) (xs : List Int) (hsl : Sl w a n c (ints xs)) (x : Int) (B : Nat) (hc : w.cell? ⟨B, 0, none⟩ = some (.slice a n c)) :
    Calls Try.prog 72 #[.int .i64 x, .pointer (some ⟨B, 0, none⟩)] w fun e w' => e = .returned (.bool (!decide (x ∈ xs))) ∧ w = w' := by
  have H := Lib.hid (Cont.contains_any w a n c xs hsl x)
  clear hsl
  generalize hq : decide (x ∈ xs) = q at *
  clear hq
  go_enter Try.func72, Try.ntmps72
  go_wp2_with fail
  refine H.out.mono ?_
  rintro e w1 ⟨rfl, rfl⟩
  go_wp2_with fail
  go_ret
  exact ⟨ret_bool rfl, rfl⟩

theorem eg_subs : SlfI.Enters 72 := enters_of Try.func72 (by kernel_rfl) rfl

set_option maxHeartbeats 1000000 in
theorem subsumes_any (w : World) (a : Option Addr) (n c : Nat) (xs : List Int) (hsl : Sl w a n c (ints xs)) (a2 : Option Addr) (n2 c2 : Nat) (ys : List Int) (hsl2 : Sl w a2 n2 c2 (ints ys)) :
    Calls Try.prog 48 #[.slice a n c, .slice a2 n2 c2] w fun e w' => e = .returned (.bool (subs xs ys)) ∧ Below w.heap.size w w' := by
  have hal : Below w.heap.size w (w.alloc (.cells #[.slice a2 n2 c2] 29)) := (Below.refl _ _).alloc (Nat.le_refl _) _
  have hcell : (w.alloc (.cells #[.slice a2 n2 c2] 29)).cell? ⟨w.heap.size, 0, none⟩ = some (.slice a2 n2 c2) := by simp
  have H := Lib.hid (SlfI.containsFunc (w.alloc (.cells #[.slice a2 n2 c2] 29)) a n c (ints xs) 72 #[] #[.pointer (some ⟨w.heap.size, 0, none⟩)] (xs.map fun x => !decide (x ∈ ys)) (hsl.next hal)
    (by rw [List.length_map, ← hsl.len, ints_len]) eg_subs (by
      intro W hW k v b hv hb
      obtain ⟨hk, rfl⟩ := ints_at hv
      rw [List.getElem?_map, List.getElem?_eq_getElem hk] at hb
      simp only [Option.map_some, Option.some.injEq] at hb
      subst hb
      refine (subs1_any W a2 n2 c2 ys ((hsl2.next hal).next hW) xs[k] w.heap.size ((hW.cell (p := ⟨w.heap.size, 0, none⟩) (by simp)).trans hcell)).mono ?_
      rintro e w' ⟨rfl, rfl⟩
      exact ⟨rfl, Below.refl _ _⟩))
  have HS := Lib.hid (subs_any xs ys)
  generalize (xs.map fun x => !decide (x ∈ ys)).any id = q at *
  generalize subs xs ys = r at *
  have HAL := Lib.hid hal
  clear hal hcell hsl hsl2
  go_enter Try.func48, Try.ntmps48
  go_wp2_with fail
  refine H.out.mono ?_
  rintro e w1 ⟨rfl, hb1⟩
  go_wp2_with fail
  go_ret
  exact ⟨ret_bool HS.out, HAL.out.trans (hb1.mono (by simp))⟩

end Clause
end Go.Proofs.Ythhkngpbaflfiaa
