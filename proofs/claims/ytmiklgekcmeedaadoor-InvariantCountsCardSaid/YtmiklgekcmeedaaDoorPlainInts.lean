/-
  interlockplain.Ints: are two lists of integers one?
-/
import Derived.Test.YtmiklgekcmeedaaDoorLaws
import Derived.Deep.QuietTactic
import Derived.BigQuiet
namespace Go.Proofs.YtmiklgekcmeedaaDoor
open Go.RowKit Base
set_option linter.unusedVariables false
namespace Plain

theorem take_all {xs ys : List Int} (h : xs.length = ys.length) : xs.take xs.length = ys.take xs.length → xs = ys := by
  intro e
  rw [List.take_length, h, List.take_length] at e
  exact e

theorem take_more {xs ys : List Int} {k : Nat} (hx : k < xs.length) (hy : k < ys.length) (h : xs.take k = ys.take k) (e : xs[k] = ys[k]) : xs.take (k + 1) = ys.take (k + 1) := by
  rw [List.take_succ_eq_append_getElem hx, List.take_succ_eq_append_getElem hy, h, e]

set_option maxHeartbeats 1000000 in
theorem ints_any (w : World) (a1 a2 : Option Addr) (n1 n2 c1 c2 : Nat) (xs ys : List Int) (h1 : Sl w a1 n1 c1 (ints xs)) (h2 : Sl w a2 n2 c2 (ints ys)) :
    Calls Tryd.prog 17 #[.slice a1 n1 c1, .slice a2 n2 c2] w fun e w' => e = .returned (.bool (decide (xs = ys))) ∧ Below w.heap.size w w' := by
  have l1 : xs.length = n1 := by have := h1.len; rw [ints_len] at this; exact this
  have l2 : ys.length = n2 := by have := h2.len; rw [ints_len] at this; exact this
  have hb1 := h1.cap
  have hb2 := h1.big
  by_cases hn : n1 = n2
  · subst hn
    subst l1
    have L2 := Lib.hid l2
    have l2' : ys.length ≤ xs.length := by omega
    have l2'' : xs.length ≤ ys.length := by omega
    clear l2
    go_enter Tryd.func17, Tryd.ntmps17
    go_wp2
    go_loopw [5] (fun i wr => ∃ k : Nat, k ≤ xs.length ∧ i = .int .i64 k ∧ Hid (xs.take k = ys.take k) ∧ Below w.heap.size w wr) (fun i _ => xs.length - (intOf i).toNat)
    case atStart => exact ⟨0, Nat.zero_le _, rfl, rfl, Below.refl _ _⟩
    case round =>
      obtain ⟨k, hk, rfl, hI, hbr⟩ := hrel
      by_cases hlt : k < xs.length
      · obtain ⟨b, o, hx, rfl, hbs, hc⟩ := h1.int hlt
        obtain ⟨b', o', hy, rfl, hbs', hc'⟩ := h2.int hlt
        have hcr : wr.cell? ⟨b, o + k, none⟩ = some (.int .i64 xs[k]) := (hbr.cell (p := ⟨b, o + k, none⟩) hbs).trans hc
        have hcr' : wr.cell? ⟨b', o' + k, none⟩ = some (.int .i64 ys[k]) := (hbr.cell (p := ⟨b', o' + k, none⟩) hbs').trans hc'
        clear hc hc'
        generalize hp : xs[k] = p at *
        generalize hq : ys[k] = q at *
        have HP := Lib.hid hp
        have HQ := Lib.hid hq
        clear hp hq
        by_cases hpq : p = q
        · have hv : (p != q) = false := by simp [hpq]
          have E := Lib.hid hpq
          clear hpq
          go_wp2_with fail
          go_quiet (fail)
          go_wp2
          go_roundw
          case rel => exact ⟨k + 1, by omega, by go_num, take_more hx hy hI.out (by rw [HP.out, HQ.out, E.out]), below_drewN hbr _⟩
          case measure => simp [intOf]; omega
        · have hv : (p != q) = true := by simp [hpq]
          have E := Lib.hid hpq
          clear hpq
          go_wp2_with fail
          go_quiet (fail)
          go_wp2
          go_ret
          refine ⟨ret_bool ?_, below_drewN hbr _⟩
          symm
          apply decide_eq_false
          intro h
          apply E.out
          rw [← HP.out, ← HQ.out]
          subst h
          rfl
      · go_wp2
        go_ret
        refine ⟨ret_bool ?_, hbr⟩
        symm
        apply decide_eq_true
        have hk' : k = xs.length := by omega
        subst hk'
        exact take_all L2.out.symm hI.out
  · have hne : ((n1 : Int) != (n2 : Int)) = true := by simp; omega
    have hne' : ((n1 : Int) == (n2 : Int)) = false := by simp; omega
    have hd : decide (xs = ys) = false := decide_eq_false (fun h => hn (by rw [← l1, ← l2, h]))
    have HD := Lib.hid hd
    clear hd
    go_enter Tryd.func17, Tryd.ntmps17
    go_wp2
    go_ret
    exact ⟨ret_bool HD.out.symm, Below.refl _ _⟩
end Plain
end Go.Proofs.YtmiklgekcmeedaaDoor
