/-
  slices.Clone of slices of structs of three cells.
-/
import Derived.Test.YtninglnchengeaaTrip
namespace Go.Proofs.Ytninglnchengeaa
open Go.RowKit Base
set_option linter.unusedVariables false
set_option linter.unusedSimpArgs false
namespace CloneT
theorem info_latch : (Try.prog.info? 47).map (fun i => (i.zero, i.size, i.bytes)) = some (some (.agg #[.int .i64 0, .int .i64 0, .int .i64 0]), 3, 24) := by kernel_rfl
theorem info_and : (Try.prog.info? 52).map (fun i => (i.zero, i.size, i.bytes)) = some (some (.agg #[.int .i64 0, .int .i64 0, .int .i64 0]), 3, 24) := by kernel_rfl


set_option maxHeartbeats 1000000 in
theorem latches (w : World) (a : Option Addr) (n c : Nat) (vs : List (List Value)) (hsl : SlT w 3 a n c vs) (h1 : ∀ u ∈ vs.flatten, u.oneCell' = true) (hr : ∀ r ∈ vs, r.length = 3) (hn : n * 24 ≤ 140737488355328) :
    Calls Try.prog 16 #[.slice a n c] w fun e w' => ∃ a' c', e = .returned (.slice a' n c') ∧ w'.ownsRow w.heap.size 47 3 (.slice a' n c') n vs.flatten ∧ Below w.heap.size w w' := by
  have heq := fun (W : World) (x : Option Addr) => Lib.run_eql_slice_nil (P := Try.prog) W 23 47 x n c 0 0 Try.underlying23
  cases a with
  | none =>
    obtain ⟨rfl, rfl⟩ := hsl.bare rfl
    have hv : vs = [] := List.eq_nil_of_length_eq_zero hsl.len
    subst hv
    go_enter Try.func16, Try.ntmps16
    go_wp2_with fail
    go_ret
    exact ⟨none, 0, rfl, World.ownsRow_nil _ _ _ _, Below.refl _ _⟩
  | some ad =>
    have hal : Below w.heap.size w (w.alloc (.cells #[] 47)) := (Below.refl _ _).alloc (Nat.le_refl _) _
    have hsl' := hsl.next hal
    have hown : (w.alloc (.cells #[] 47)).ownsRow w.heap.size 47 3 (.slice (some ⟨w.heap.size, 0, none⟩) 0 0) 0 ([] : List (List Value)).flatten := World.ownsRow_lit w #[] 0 (Nat.le_refl _) (by unfold maxLen; omega) rfl
    have H1 := Lib.hid h1
    have HR := Lib.hid hr
    clear h1 hsl hr
    go_enter Try.func16, Try.ntmps16
    go_wp2_with ((with_reducible refine wpL_appK (k := 3) (by decide) (B := w.heap.size) (W := w) _ 0 [] _ n c vs info_latch Try.underlying23 ?_ ?_ ?_ H1.out HR.out hown hsl' ?_ ?_ ?_ hal ?_); rfl; rfl; rfl; exact hal.size; omega; omega; (rw [Nat.zero_add, List.nil_append]; intro a2 c2 w2 hown2 hb2 _))
    go_ret
    exact ⟨a2, c2, rfl, hown2, hb2⟩


set_option maxHeartbeats 1000000 in
theorem ands (w : World) (a : Option Addr) (n c : Nat) (vs : List (List Value)) (hsl : SlT w 3 a n c vs) (h1 : ∀ u ∈ vs.flatten, u.oneCell' = true) (hr : ∀ r ∈ vs, r.length = 3) (hn : n * 24 ≤ 140737488355328) :
    Calls Try.prog 19 #[.slice a n c] w fun e w' => ∃ a' c', e = .returned (.slice a' n c') ∧ w'.ownsRow w.heap.size 52 3 (.slice a' n c') n vs.flatten ∧ Below w.heap.size w w' := by
  have heq := fun (W : World) (x : Option Addr) => Lib.run_eql_slice_nil (P := Try.prog) W 24 52 x n c 0 0 Try.underlying24
  cases a with
  | none =>
    obtain ⟨rfl, rfl⟩ := hsl.bare rfl
    have hv : vs = [] := List.eq_nil_of_length_eq_zero hsl.len
    subst hv
    go_enter Try.func19, Try.ntmps19
    go_wp2_with fail
    go_ret
    exact ⟨none, 0, rfl, World.ownsRow_nil _ _ _ _, Below.refl _ _⟩
  | some ad =>
    have hal : Below w.heap.size w (w.alloc (.cells #[] 52)) := (Below.refl _ _).alloc (Nat.le_refl _) _
    have hsl' := hsl.next hal
    have hown : (w.alloc (.cells #[] 52)).ownsRow w.heap.size 52 3 (.slice (some ⟨w.heap.size, 0, none⟩) 0 0) 0 ([] : List (List Value)).flatten := World.ownsRow_lit w #[] 0 (Nat.le_refl _) (by unfold maxLen; omega) rfl
    have H1 := Lib.hid h1
    have HR := Lib.hid hr
    clear h1 hsl hr
    go_enter Try.func19, Try.ntmps19
    go_wp2_with ((with_reducible refine wpL_appK (k := 3) (by decide) (B := w.heap.size) (W := w) _ 0 [] _ n c vs info_and Try.underlying24 ?_ ?_ ?_ H1.out HR.out hown hsl' ?_ ?_ ?_ hal ?_); rfl; rfl; rfl; exact hal.size; omega; omega; (rw [Nat.zero_add, List.nil_append]; intro a2 c2 w2 hown2 hb2 _))
    go_ret
    exact ⟨a2, c2, rfl, hown2, hb2⟩


end CloneT
end Go.Proofs.Ytninglnchengeaa
