/-
  clause.Check and the reference's; may a clause be?
-/
import Derived.Test.YtmiklgekcmeedaaDoorLaws
import Derived.Test.YtmiklgekcmeedaaDoorSlfI
import Derived.Test.YtmiklgekcmeedaaDoorAbs
import Derived.Deep.QuietTactic
import Derived.BigQuiet
namespace Go.Proofs.YtmiklgekcmeedaaDoor
open Go.RowKit Base
set_option linter.unusedVariables false
namespace Clause

/-- May a literal not be? -/
def badL (vars x : Int) : Bool := decide (absI x < 1) || decide (vars < absI x)

def check (vars : Int) (l : List Int) : Int := if 1024 < l.length then 5 else if l.any (badL vars) then 4 else 0

set_option maxHeartbeats 400000 in
/-- The closure of clause.Check: its variable is read through its address. -/
theorem bad_any (vars x : Int) (h0 : -9223372036854775808 ≤ x) (h1 : x ≤ 9223372036854775807) (w : World) (b : Nat) (hb : w.cell? ⟨b, 0, none⟩ = some (.int .i64 vars)) :
    Calls Tryd.prog 37 #[.int .i64 x, .pointer (some ⟨b, 0, none⟩)] w fun e w' => e = .returned (.bool (badL vars x)) ∧ ∃ n, w' = w.drewN n := by
  have A := fun W => abs_any x h0 h1 W
  have HA := Lib.hid A
  clear A h0 h1
  by_cases hq : absI x < 1
  · have hd : decide (absI x < 1) = true := decide_eq_true hq
    have HB : Hid (badL vars x = true) := by show badL vars x = true; unfold badL; rw [hd]; rfl
    generalize hy : absI x = y at *
    have HY := Lib.hid hy
    clear hy
    go_enter Tryd.func37, Tryd.ntmps37
    go_wp2_with fail
    go_quiet ((go_at_call 38; exact Calls.quiet_of_same ((HA.out _).mono fun e w' h => ⟨h.1, h.2.symm⟩)))
    go_wp2
    go_ret
    exact ⟨ret_bool HB.out.symm, _, rfl⟩
  · have hd : decide (absI x < 1) = false := decide_eq_false hq
    have HB : Hid (badL vars x = decide (vars < absI x)) := by show badL vars x = _; unfold badL; rw [hd]; rfl
    generalize hy : absI x = y at *
    have HY := Lib.hid hy
    clear hy
    go_enter Tryd.func37, Tryd.ntmps37
    go_wp2_with fail
    go_quiet ((go_at_call 38; exact Calls.quiet_of_same ((HA.out _).mono fun e w' h => ⟨h.1, h.2.symm⟩)))
    go_wp2
    go_ret
    exact ⟨ret_bool HB.out.symm, _, rfl⟩

theorem map_any (xs : List Int) (p : Int → Bool) : (xs.map p).any id = xs.any p := by
  rw [List.any_map]; rfl

/-- A predicate on integers, handed to ContainsFunc. -/
theorem gives_of {w : World} {g : FuncId} {fs lb : Array Value} {xs : List Int} {p : Int → Bool}
    (h : ∀ W, Below w.heap.size w W → ∀ x ∈ xs, Calls Tryd.prog g (fs.push (.int .i64 x) ++ lb) W fun e w' => e = .returned (.bool (p x)) ∧ Below W.heap.size W w') :
    SlfI.Gives w g fs lb (ints xs) (xs.map p) := by
  intro W hW k v b hv hb
  obtain ⟨hk, rfl⟩ := ints_at hv
  rw [List.getElem?_map, List.getElem?_eq_getElem hk] at hb
  simp only [Option.map_some, Option.some.injEq] at hb
  subst hb
  exact h W hW _ (List.getElem_mem hk)

set_option maxHeartbeats 1000000 in
theorem check_any (w : World) (vars : Int) (a : Option Addr) (n c : Nat) (xs : List Int) (hsl : Sl w a n c (ints xs)) (hx : Wf xs) :
    Calls Tryd.prog 22 #[.int .i64 vars, .slice a n c] w fun e w' => e = .returned (.int .i64 (check vars xs)) ∧ Below w.heap.size w w' := by
  have hlen : xs.length = n := by have := hsl.len; rw [ints_len] at this; exact this
  have hal : Below w.heap.size w (w.alloc (.cells #[.int .i64 vars] 3)) := (Below.refl _ _).alloc (Nat.le_refl _) _
  have hcell : (w.alloc (.cells #[.int .i64 vars] 3)).cell? ⟨w.heap.size, 0, none⟩ = some (.int .i64 vars) := by
    simp
  have H := Lib.hid (SlfI.containsFunc _ a n c (ints xs) 37 #[] #[.pointer (some ⟨w.heap.size, 0, none⟩)] (xs.map (badL vars)) (hsl.next hal) (by simpa using hlen)
    (enters_of Tryd.func37 (by kernel_rfl) rfl)
    (gives_of fun W hW x hm => (bad_any vars x (hx x hm).1 (hx x hm).2 W w.heap.size ((hW.cell (p := ⟨w.heap.size, 0, none⟩) (by simp)).trans hcell)).mono fun e w' h => ⟨h.1, by
      obtain ⟨n, rfl⟩ := h.2; exact below_drewN (Below.refl _ _) n⟩))
  rw [map_any] at H
  have HL := Lib.hid hlen
  by_cases hn : 1024 < n
  · have HC : Hid (check vars xs = 5) := by show check vars xs = 5; unfold check; rw [HL.out, if_pos hn]
    clear hsl hx hcell H hlen
    go_enter Tryd.func22, Tryd.ntmps22
    go_wp2
    go_ret
    exact ⟨ret_int HC.out.symm, hal⟩
  · cases hq : xs.any (badL vars)
    · have HC : Hid (check vars xs = 0) := by show check vars xs = 0; unfold check; rw [HL.out, if_neg hn, hq]; rfl
      rw [hq] at H
      clear hsl hx hcell hlen hq
      have hmf : ∀ (fn : Fn) (first cap : Array Value) (w : World), (Instr.makeFunc fn first cap).run Tryd.prog w = .ok (.func fn first cap) w := fun _ _ _ _ => rfl
      go_enter Tryd.func22, Tryd.ntmps22
      go_wp2_with fail
      refine H.out.mono ?_
      rintro e w1 ⟨rfl, hb1⟩
      go_wp2_with fail
      go_ret
      exact ⟨ret_int HC.out.symm, hal.trans (hb1.mono hal.size)⟩
    · have HC : Hid (check vars xs = 4) := by show check vars xs = 4; unfold check; rw [HL.out, if_neg hn, hq]; rfl
      rw [hq] at H
      clear hsl hx hcell hlen hq
      have hmf : ∀ (fn : Fn) (first cap : Array Value) (w : World), (Instr.makeFunc fn first cap).run Tryd.prog w = .ok (.func fn first cap) w := fun _ _ _ _ => rfl
      go_enter Tryd.func22, Tryd.ntmps22
      go_wp2_with fail
      refine H.out.mono ?_
      rintro e w1 ⟨rfl, hb1⟩
      go_wp2_with fail
      go_ret
      exact ⟨ret_int HC.out.symm, hal.trans (hb1.mono hal.size)⟩

theorem any_take_more {xs : List Int} {p : Int → Bool} {k : Nat} (hk : k < xs.length) (h : (xs.take k).any p = false) (hp : p xs[k] = false) : (xs.take (k + 1)).any p = false := by
  rw [List.take_succ_eq_append_getElem hk, List.any_append, h]; simp [hp]

theorem any_hit {xs : List Int} {p : Int → Bool} {k : Nat} (hk : k < xs.length) (hp : p xs[k] = true) : xs.any p = true :=
  List.any_eq_true.2 ⟨_, List.getElem_mem hk, hp⟩
end Clause
end Go.Proofs.YtmiklgekcmeedaaDoor
