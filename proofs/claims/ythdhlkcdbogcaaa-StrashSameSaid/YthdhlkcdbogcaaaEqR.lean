/-
  slices.Equal of slices of structs, and the reference's of []int: one and the same list.
-/
import Derived.Test.YthdhlkcdbogcaaaCBox
import Derived.Deep.DeepCutAuto
import Derived.BigQuiet

namespace Go.Proofs.Ythdhlkcdbogcaaa
open Go.RowKit Base
set_option linter.unusedVariables false
set_option linter.unusedSimpArgs false
namespace EqT

theorem drew_moreR {w wr : World} (h : ∃ m, wr = w.drewN m) (k : Nat) : ∃ m, wr.drewN k = w.drewN m := by
  obtain ⟨m, rfl⟩ := h
  exact ⟨m + k, World.drewN_drewN _ _ _⟩


set_option maxHeartbeats 4000000 in
theorem same (w : World) (a1 a2 : Option Addr) (c1 c2 : Nat) (l : List (Int)) (h1 : Sl w  a1 l.length c1 (ints l)) (h2 : Sl w  a2 l.length c2 (ints l)) :
    Calls Try.prog 27 #[.slice a1 l.length c1, .slice a2 l.length c2] w fun e w' => e = .returned (.bool true) ∧ ∃ m, w' = w.drewN m := by
  have hb1 := h1.cap
  have hb2 := h1.big
  have hb3 := h2.cap
  have hb4 := h2.big
  go_enter Try.func27, Try.ntmps27
  go_wp2
  go_loopw [5] (fun i wr => ∃ k : Nat, k ≤ l.length ∧ i = .int .i64 k ∧ Hid (∃ m, wr = w.drewN m)) (fun i _ => l.length - (intOf i).toNat)
  case atStart => exact ⟨0, Nat.zero_le _, rfl, 0, rfl⟩
  case round =>
    obtain ⟨k, hk, rfl, hdr⟩ := hrel
    have hbr : Below w.heap.size w wr := by obtain ⟨q, rfl⟩ := hdr.out; exact below_drewN (Below.refl _ _) q
    by_cases hlt : k < l.length
    · obtain ⟨b, o, hx, rfl, hbs, d0⟩ := Sl.int h1 hlt
      obtain ⟨b', o', hy, rfl, hbs', e0⟩ := Sl.int h2 hlt
      have r0 := (hbr.cell (p := ⟨b, o + k, none⟩) hbs).trans d0
      have s0 := (hbr.cell (p := ⟨b', o' + k, none⟩) hbs').trans e0
      clear d0 e0
      generalize l[k] = t at *
      clear hx hy

      go_wp2_with fail
      go_quiet (fail)
      go_wp2
      go_roundw
      case rel => exact ⟨k + 1, by omega, by go_num, drew_moreR hdr.out _⟩
      case measure => simp [intOf]; omega
    · go_wp2
      go_ret
      exact ⟨rfl, hdr.out⟩

end EqT
end Go.Proofs.Ythdhlkcdbogcaaa
