/-
  clause.order: the order of literals, as the sort asks it.
-/
import Derived.Test.YtmiklgekcmeedaaDoorLaws
import Derived.Test.YtmiklgekcmeedaaDoorAbs
import Derived.Test.YtmiklgekcmeedaaDoorRefHasP
import Derived.Shelf.SlSortCmp.Whole1
namespace Go.Proofs.YtmiklgekcmeedaaDoor
open Go.RowKit Base
set_option linter.unusedVariables false
set_option linter.unusedSimpArgs false
namespace Order

def cmpI (x y : Int) : Int := if x < y then -1 else if y < x then 1 else 0

def ordI (x y : Int) : Int := if cmpI (Clause.absI x) (Clause.absI y) ≠ 0 then cmpI (Clause.absI x) (Clause.absI y) else cmpI x y

theorem cmp_lt (x y : Int) : cmpI x y < 0 ↔ x < y := by unfold cmpI; split <;> (try split) <;> omega
theorem cmp_zero (x y : Int) : cmpI x y = 0 ↔ x = y := by unfold cmpI; split <;> (try split) <;> omega

theorem ord_lt (x y : Int) : ordI x y < 0 ↔ (Clause.absI x < Clause.absI y ∨ (Clause.absI x = Clause.absI y ∧ x < y)) := by
  unfold ordI
  by_cases h : Clause.absI x = Clause.absI y
  · rw [if_neg (fun h' => h' ((cmp_zero _ _).2 h)), cmp_lt]
    exact ⟨fun h' => .inr ⟨h, h'⟩, fun h' => by rcases h' with h' | h' <;> omega⟩
  · rw [if_pos (by rw [ne_eq, cmp_zero]; exact h), cmp_lt]
    exact ⟨.inl, fun h' => by rcases h' with h' | h' <;> omega⟩

set_option maxHeartbeats 400000 in
theorem isNaN_any (x : Int) (w : World) :
    Calls Tryd.prog 71 #[.int .i64 x] w fun e w' => e = .returned (.bool false) ∧ w = w' := by
  go_enter Tryd.func71, Tryd.ntmps71
  go_wp2
  go_ret
  exact ⟨ret_bool (by simp), rfl⟩

set_option maxHeartbeats 400000 in
theorem compare_any (x y : Int) (w : World) :
    Calls Tryd.prog 51 #[.int .i64 x, .int .i64 y] w fun e w' => e = .returned (.int .i64 (cmpI x y)) ∧ w = w' := by
  have N1 := Lib.hid (isNaN_any x w)
  have N2 := Lib.hid (isNaN_any y w)
  have HC : Hid (cmpI x y = if x < y then -1 else if y < x then 1 else 0) := rfl
  by_cases h1 : x < y
  · have e : cmpI x y = -1 := by rw [HC.out, if_pos h1]
    have E := Lib.hid e
    clear e
    go_enter Tryd.func51, Tryd.ntmps51
    go_wp2_with fail
    refine N1.out.mono ?_; rintro e w1 ⟨rfl, rfl⟩
    go_wp2_with fail
    refine N2.out.mono ?_; rintro e w1 ⟨rfl, rfl⟩
    go_wp2_with fail
    go_ret
    exact ⟨ret_int E.out.symm, rfl⟩
  · by_cases h2 : y < x
    · have e : cmpI x y = 1 := by rw [HC.out, if_neg h1, if_pos h2]
      have E := Lib.hid e
      clear e
      go_enter Tryd.func51, Tryd.ntmps51
      go_wp2_with fail
      refine N1.out.mono ?_; rintro e w1 ⟨rfl, rfl⟩
      go_wp2_with fail
      refine N2.out.mono ?_; rintro e w1 ⟨rfl, rfl⟩
      go_wp2_with fail
      go_ret
      exact ⟨ret_int E.out.symm, rfl⟩
    · have e : cmpI x y = 0 := by rw [HC.out, if_neg h1, if_neg h2]
      have E := Lib.hid e
      clear e
      go_enter Tryd.func51, Tryd.ntmps51
      go_wp2_with fail
      refine N1.out.mono ?_; rintro e w1 ⟨rfl, rfl⟩
      go_wp2_with fail
      refine N2.out.mono ?_; rintro e w1 ⟨rfl, rfl⟩
      go_wp2_with fail
      go_ret
      exact ⟨ret_int E.out.symm, rfl⟩

/-- Neither is less: they are one. -/
theorem lt_total (x y : Int) (h1 : ¬ (Clause.absI x < Clause.absI y ∨ (Clause.absI x = Clause.absI y ∧ x < y))) (h2 : ¬ (Clause.absI y < Clause.absI x ∨ (Clause.absI y = Clause.absI x ∧ y < x))) : x = y := by omega

set_option maxHeartbeats 1000000 in
theorem or_any (w : World) (a : Option Addr) (c : Nat) (p q : Int) (hsl : Sl w a 2 c (ints [p, q])) :
    Calls Tryd.prog 50 #[.slice a 2 c] w fun e w' => e = .returned (.int .i64 (if p ≠ 0 then p else q)) ∧ w = w' := by
  have hcap := hsl.cap
  have hbig := hsl.big
  obtain ⟨b, o, hx, rfl, hbs, hc0⟩ := hsl.int (k := 0) (by omega)
  obtain ⟨b', o', hx', e, hbs', hc1⟩ := hsl.int (k := 1) (by omega)
  simp only [Option.some.injEq, Addr.mk.injEq] at e
  obtain ⟨rfl, rfl, _⟩ := e
  simp only [List.getElem_cons_zero, List.getElem_cons_succ, Nat.add_zero] at hc0 hc1
  clear hsl
  by_cases hp : p = 0
  · subst hp
    by_cases hq : q = 0
    · subst hq
      go_enter Tryd.func50, Tryd.ntmps50
      go_wp2
      go_loop [8] (fun i => ∃ k : Nat, k ≤ 2 ∧ i = .int .i64 k) (fun i => 2 - (intOf i).toNat)
      case atStart => exact ⟨0, by omega, rfl⟩
      case round =>
        obtain ⟨k, hk, rfl⟩ := hrel
        have hk3 : k = 0 ∨ k = 1 ∨ k = 2 := by omega
        rcases hk3 with rfl | rfl | rfl
        · go_wp2
          go_round
          case rel => exact ⟨1, by omega, by go_num⟩
          case measure => simp [intOf]
        · go_wp2
          go_round
          case rel => exact ⟨2, by omega, by go_num⟩
          case measure => simp [intOf]
        · go_wp2
          go_ret
          exact ⟨ret_int (by simp), rfl⟩
    · have v0 : (q == 0) = false := by simp [hq]
      have HQ := Lib.hid hq
      clear hq
      go_enter Tryd.func50, Tryd.ntmps50
      go_wp2
      go_loop [8] (fun i => ∃ k : Nat, k ≤ 1 ∧ i = .int .i64 k) (fun i => 2 - (intOf i).toNat)
      case atStart => exact ⟨0, by omega, rfl⟩
      case round =>
        obtain ⟨k, hk, rfl⟩ := hrel
        have hk3 : k = 0 ∨ k = 1 := by omega
        rcases hk3 with rfl | rfl
        · go_wp2
          go_round
          case rel => exact ⟨1, by omega, by go_num⟩
          case measure => simp [intOf]
        · go_wp2
          go_ret
          exact ⟨ret_int (by simp), rfl⟩
  · have v0 : (p == 0) = false := by simp [hp]
    have HP := Lib.hid hp
    clear hp
    go_enter Tryd.func50, Tryd.ntmps50
    go_wp2
    go_loop [8] (fun i => i = .int .i64 0) (fun i => 2 - (intOf i).toNat)
    case atStart => rfl
    case round =>
      subst hrel
      go_wp2
      go_ret
      exact ⟨ret_int (by first | rfl | rw [if_pos HP.out]), rfl⟩

set_option maxHeartbeats 1000000 in
theorem order_any (x y : Int) (h0 : RefC.I64 x) (h1 : RefC.I64 y) (w : World) :
    Calls Tryd.prog 34 #[.int .i64 x, .int .i64 y] w fun e w' => e = .returned (.int .i64 (ordI x y)) ∧ ∃ os, w' = Sort.grow w os := by
  have A1 := Lib.hid (Clause.abs_any x h0.1 h0.2 w)
  have A2 := Lib.hid (Clause.abs_any y h1.1 h1.2 w)
  have HO : Hid (ordI x y = if cmpI (Clause.absI x) (Clause.absI y) ≠ 0 then cmpI (Clause.absI x) (Clause.absI y) else cmpI x y) := rfl
  clear h0 h1
  have C1 := Lib.hid (compare_any (Clause.absI x) (Clause.absI y) w)
  have C2 := Lib.hid (compare_any x y w)
  generalize cmpI (Clause.absI x) (Clause.absI y) = p at *
  generalize cmpI x y = q at *
  have O := Lib.hid (or_any (w.alloc (.cells #[.int .i64 p, .int .i64 q] 3)) (some ⟨w.heap.size, 0, none⟩) 2 p q (sl_new w #[.int .i64 p, .int .i64 q] 3 2 rfl (by decide)))
  generalize (if p ≠ 0 then p else q) = r at *
  go_enter Tryd.func34, Tryd.ntmps34
  go_wp2_with fail
  refine A1.out.mono ?_; rintro e w1 ⟨rfl, rfl⟩
  go_wp2_with fail
  refine A2.out.mono ?_; rintro e w1 ⟨rfl, rfl⟩
  go_wp2_with fail
  refine C1.out.mono ?_; rintro e w1 ⟨rfl, rfl⟩
  go_wp2_with fail
  refine C2.out.mono ?_; rintro e w1 ⟨rfl, rfl⟩
  go_wp2_with fail
  refine O.out.mono ?_; rintro e w1 ⟨rfl, rfl⟩
  go_wp2_with fail
  go_ret
  exact ⟨ret_int HO.out.symm, #[.cells #[.int .i64 p, .int .i64 q] 3], rfl⟩

end Order
end Go.Proofs.YtmiklgekcmeedaaDoor
