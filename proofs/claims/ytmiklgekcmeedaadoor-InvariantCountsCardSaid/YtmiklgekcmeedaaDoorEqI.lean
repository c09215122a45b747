/-
  slices.Equal of []int: are two lists of integers one?
-/
import Derived.Test.YtmiklgekcmeedaaDoorLaws
import Derived.Deep.QuietTactic
import Derived.BigQuiet
namespace Go.Proofs.YtmiklgekcmeedaaDoor
open Go.RowKit Base
set_option linter.unusedVariables false
namespace EqI

theorem take_all {xs ys : List Int} (h : xs.length = ys.length) : xs.take xs.length = ys.take xs.length → xs = ys := by
  intro e
  rw [List.take_length, h, List.take_length] at e
  exact e

theorem take_more {xs ys : List Int} {k : Nat} (hx : k < xs.length) (hy : k < ys.length) (h : xs.take k = ys.take k) (e : xs[k] = ys[k]) : xs.take (k + 1) = ys.take (k + 1) := by
  rw [List.take_succ_eq_append_getElem hx, List.take_succ_eq_append_getElem hy, h, e]

theorem drew_more {w wr : World} (h : ∃ m, wr = w.drewN m) (k : Nat) : ∃ m, wr.drewN k = w.drewN m := by
  obtain ⟨m, rfl⟩ := h
  exact ⟨m + k, World.drewN_drewN _ _ _⟩

set_option maxHeartbeats 1000000 in
theorem equal_any (w : World) (a1 a2 : Option Addr) (n1 n2 c1 c2 : Nat) (xs ys : List Int) (h1 : Sl w a1 n1 c1 (ints xs)) (h2 : Sl w a2 n2 c2 (ints ys)) :
    Calls Tryd.prog 21 #[.slice a1 n1 c1, .slice a2 n2 c2] w fun e w' => e = .returned (.bool (decide (xs = ys))) ∧ ∃ m, w' = w.drewN m := by
  have l1 : xs.length = n1 := by have := h1.len; rw [ints_len] at this; exact this
  have l2 : ys.length = n2 := by have := h2.len; rw [ints_len] at this; exact this
  have hb1 := h1.cap
  have hb2 := h1.big
  by_cases hn : n1 = n2
  · subst hn
    subst l1
    have L2 := Lib.hid l2
    have l2' : ys.length ≤ xs.length := by omega
    have l2'' : xs.length ≤ ys.length := by omega
    clear l2
    go_enter Tryd.func21, Tryd.ntmps21
    go_wp2
    go_loopw [5, 13] (fun _ i wr => ∃ k : Nat, k ≤ xs.length ∧ i = .int .i64 k ∧ Hid (xs.take k = ys.take k) ∧ Hid (∃ m, wr = w.drewN m)) (fun _ i _ => xs.length - (intOf i).toNat)
    case atStart => exact ⟨0, Nat.zero_le _, rfl, rfl, 0, rfl⟩
    case round =>
      obtain ⟨k, hk, rfl, hI, hdr⟩ := hrel
      have hbr : Below w.heap.size w wr := by obtain ⟨q, rfl⟩ := hdr.out; exact below_drewN (Below.refl _ _) q
      by_cases hlt : k < xs.length
      · obtain ⟨b, o, hx, rfl, hbs, hc⟩ := h1.int hlt
        obtain ⟨b', o', hy, rfl, hbs', hc'⟩ := h2.int hlt
        have hcr : wr.cell? ⟨b, o + k, none⟩ = some (.int .i64 xs[k]) := (hbr.cell (p := ⟨b, o + k, none⟩) hbs).trans hc
        have hcr' : wr.cell? ⟨b', o' + k, none⟩ = some (.int .i64 ys[k]) := (hbr.cell (p := ⟨b', o' + k, none⟩) hbs').trans hc'
        clear hc hc'
        generalize hp : xs[k] = p at *
        generalize hq : ys[k] = q at *
        have HP := Lib.hid hp
        have HQ := Lib.hid hq
        clear hp hq
        by_cases hpq : p = q
        · have hv : (p != q) = false := by simp [hpq]
          have E := Lib.hid hpq
          clear hpq
          go_wp2_with fail
          go_quiet (fail)
          go_wp2
          go_roundw
          case rel => exact ⟨k + 1, by omega, by go_num, take_more hx hy hI.out (by rw [HP.out, HQ.out, E.out]), drew_more hdr.out _⟩
          case measure => simp [intOf]; omega
        · have hv : (p != q) = true := by simp [hpq]
          have E := Lib.hid hpq
          clear hpq
          go_wp2_with fail
          go_quiet (fail)
          go_wp2
          go_ret
          refine ⟨ret_bool ?_, drew_more hdr.out _⟩
          symm
          apply decide_eq_false
          intro h
          apply E.out
          rw [← HP.out, ← HQ.out]
          subst h
          rfl
      · go_wp2
        go_ret
        refine ⟨ret_bool ?_, hdr.out⟩
        symm
        apply decide_eq_true
        have hk' : k = xs.length := by omega
        subst hk'
        exact take_all L2.out.symm hI.out
  · have hne : ((n1 : Int) != (n2 : Int)) = true := by simp; omega
    have hne' : ((n1 : Int) == (n2 : Int)) = false := by simp; omega
    have hd : decide (xs = ys) = false := decide_eq_false (fun h => hn (by rw [← l1, ← l2, h]))
    have HD := Lib.hid hd
    clear hd
    go_enter Tryd.func21, Tryd.ntmps21
    go_wp2
    go_ret
    exact ⟨ret_bool HD.out.symm, 0, rfl⟩

end EqI
end Go.Proofs.YtmiklgekcmeedaaDoor
