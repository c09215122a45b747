/-
  interlockplain.Texts, of two lists that are one.
-/
import Derived.Test.YthhkngpbaflfiaaModelsP
import Derived.BigQuiet
import Derived.Deep.QuietTactic
namespace Go.Proofs.Ythhkngpbaflfiaa
open Go.RowKit Base
set_option linter.unusedVariables false
namespace Plain

set_option maxHeartbeats 1000000 in
theorem texts_same (w : World) (a1 a2 : Option Addr) (n c1 c2 : Nat) (xs : List ByteArray) (h1 : Sl w a1 n c1 (ModelsP.strs xs)) (h2 : Sl w a2 n c2 (ModelsP.strs xs)) :
    Calls Try.prog 22 #[.slice a1 n c1, .slice a2 n c2] w fun e w' => e = .returned (.bool true) ∧ Below w.heap.size w w' := by
  have hb1 := h1.cap
  have hb2 := h1.big
  have H1 := Lib.hid h1
  have H2 := Lib.hid h2
  clear h1 h2
  go_enter Try.func22, Try.ntmps22
  go_wp2
  go_loopw [5] (fun i wr => ∃ k : Nat, k ≤ n ∧ i = .int .i64 k ∧ Below w.heap.size w wr) (fun i _ => n - (intOf i).toNat)
  case atStart => exact ⟨0, Nat.zero_le _, rfl, Below.refl _ _⟩
  case round =>
    obtain ⟨k, hk, rfl, hbr⟩ := hrel
    by_cases hlt : k < n
    · obtain ⟨b, o, hx, rfl, hbs, hc⟩ := ModelsP.str_at H1.out hlt
      obtain ⟨b', o', hy, rfl, hbs', hc'⟩ := ModelsP.str_at H2.out hlt
      have hcr := (hbr.cell (p := ⟨b, o + k, none⟩) hbs).trans hc
      have hcr' := (hbr.cell (p := ⟨b', o' + k, none⟩) hbs').trans hc'
      clear hc hc'
      generalize xs[k] = p at *
      go_wp2_with fail
      go_quiet (fail)
      go_wp2
      go_roundw
      case rel => exact ⟨k + 1, by omega, by go_num, below_drewN hbr _⟩
      case measure => simp [intOf]; omega
    · go_wp2
      go_ret
      exact ⟨rfl, hbr⟩
end Plain
end Go.Proofs.Ythhkngpbaflfiaa
