/-
  (*names).known, .all: is a literal of something; are all?
-/
import Derived.Test.YtjmmhbmbafjneaaGreatDoorMet
import Derived.Test.YtjmmhbmbafjneaaGreatDoorSlfI
import Derived.Laws.EntriesVeiled
namespace Go.Proofs.YtjmmhbmbafjneaaGreatDoor
open Go.RowKit Base
set_option linter.unusedVariables false
set_option linter.unusedSimpArgs false
namespace Circuit

theorem var_64 {l : Int} (h : I64 l) : I64 (var l) := by unfold I64 var at *; omega

set_option maxRecDepth 4000 in
set_option maxHeartbeats 4000000 in
theorem known_any (w : World) (N b n : Nat) (D : List (Int × ByteArray)) (hc : w.cell? ⟨N, 0, none⟩ = some (.map (some b))) (hm : MetIs w b n D) (l : Int) (hl : I64 l) :
    Calls Tryz.prog 68 #[.pointer (some ⟨N, 0, none⟩), .int .i64 l] w fun e w' => e = .returned (.bool (known D l)) ∧ Below w.heap.size w w' := by
  have VA := Lib.hid (fun U => var_any l hl.1 hl.2 U)
  have HK : Hid (known D l = (decide (0 ≤ l) && (decide (l < 2) || !(get D (var l)).toList.isEmpty))) := rfl
  have HL := Lib.hid (fun q => met_look (hm.next (below_drewN (Below.refl _ _) q)) (var_64 hl))
  by_cases h0 : 0 ≤ l
  · rw [decide_eq_true h0, Bool.true_and] at HK
    by_cases h2 : l < 2
    · rw [decide_eq_true h2, Bool.true_or] at HK
      go_enter Tryz.func68, Tryz.ntmps68
      go_wp2_with fail
      go_quiet (fail)
      go_wp2_with fail
      go_ret
      exact ⟨ret_bool HK.out.symm, below_drewN (Below.refl _ _) _⟩
    · rw [decide_eq_false h2, Bool.false_or] at HK
      have h2' : 2 ≤ l := by omega
      have hl2 := fun q => HL.out q
      generalize get D (var l) = s at *
      go_enter Tryz.func68, Tryz.ntmps68
      go_wp2_with fail
      go_quiet ((go_at_call 89; exact Calls.quiet_of_same ((VA.out _).mono fun e w' h => ⟨h.1, h.2.symm⟩)))
      go_wp2_with fail
      go_ret
      exact ⟨ret_bool (by rw [HK.out, decide_eq_false (show ¬ l < 2 by omega), Bool.false_or]), below_drewN (Below.refl _ _) _⟩
  · rw [decide_eq_false h0, Bool.false_and] at HK
    have hd : decide (0 ≤ l) = false := decide_eq_false h0
    have h0' : l < 0 := by omega
    go_enter Tryz.func68, Tryz.ntmps68
    go_wp2_with fail
    go_quiet (fail)
    go_wp2_with fail
    go_ret
    exact ⟨ret_bool HK.out.symm, below_drewN (Below.refl _ _) _⟩

theorem egA : SlfI.Enters 90 := enters_of Tryz.func90 (by kernel_rfl) rfl

theorem unknown_any (w : World) (B N b n : Nat) (D : List (Int × ByteArray)) (hB : w.cell? ⟨B, 0, none⟩ = some (.pointer (some ⟨N, 0, none⟩))) (hc : w.cell? ⟨N, 0, none⟩ = some (.map (some b))) (hm : MetIs w b n D) (l : Int) (hl : I64 l) :
    Calls Tryz.prog 90 #[.int .i64 l, .pointer (some ⟨B, 0, none⟩)] w fun e w' => e = .returned (.bool (!known D l)) ∧ Below w.heap.size w w' := by
  have KA := Lib.hid (known_any w N b n D hc hm l hl)
  go_enter Tryz.func90, Tryz.ntmps90
  go_wp2_with fail
  refine KA.out.mono ?_
  rintro e w1 ⟨rfl, hb1⟩
  have HB1 := Lib.hid hb1
  clear hb1
  go_wp2_with fail
  go_ret
  exact ⟨rfl, HB1.out⟩

end Circuit
end Go.Proofs.YtjmmhbmbafjneaaGreatDoor
