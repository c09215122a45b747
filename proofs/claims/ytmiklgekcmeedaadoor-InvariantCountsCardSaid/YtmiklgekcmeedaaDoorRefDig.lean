/-
  The reference's digits and Print; digits.Print.
-/
import Derived.Test.YtmiklgekcmeedaaDoorUns
import Derived.Deep.RegionWith
import Derived.BigRegion
namespace Go.Proofs.YtmiklgekcmeedaaDoor
open Go.RowKit Base
set_option linter.unusedVariables false
set_option linter.unusedSimpArgs false
namespace Dig

theorem conv_one (U : World) (b : Nat) (n : Nat) (h : n < 10) (hc : U.cell? ⟨b, 0, none⟩ = some (.int .u8 (48 + (n : Int)))) :
    (convert 50 9 (.slice (some ⟨b, 0, none⟩) 1 1)).run Tryd.prog U = .ok (.string (str [one n])) U := by
  refine run_convert_bytes_back (P := Tryd.prog) U 50 9 5 ⟨b, 0, none⟩ 1 [one n] Tryd.underlying50 Tryd.underlying5 Tryd.underlying9 (fun j hj => ?_)
  have hj0 : j = 0 := by simpa using hj
  subst hj0
  rw [Addr.add_lit]
  show U.cell? ⟨b, 0 + 0, none⟩ = _
  rw [Nat.add_zero, hc]
  simp [one_nat h]

set_option maxRecDepth 8000 in
set_option maxHeartbeats 4000000 in
theorem digits_any (n : Nat) : ∀ (w : World), n ≤ 18446744073709551615 →
    Calls Tryd.prog 18 #[.int .u64 (n : Int)] w fun e w' => e = .returned (.string (str (dg n))) ∧ Below w.heap.size w w' := by
  induction n using Nat.strongRecOn with
  | ind n ih =>
    intro w hn
    have HN := Lib.hid hn
    by_cases hlt : n < 10
    · have HD := Lib.hid (dg_small hlt)
      have HC := conv_one (w.alloc (.cells #[.int .u8 (48 + (n : Int))] 5)) w.heap.size n hlt (by simp [go_sem])
      have hl : decide ((n : Int) < 10) = true := decide_eq_true (by omega)
      have hb : Hid (Below w.heap.size w (w.alloc (.cells #[.int .u8 (48 + (n : Int))] 5))) := (Below.refl _ _).alloc (Nat.le_refl _) _
      generalize hs : str [one n] = s1 at *
      have HS := Lib.hid hs
      clear ih hn hs
      go_enter Tryd.func18, Tryd.ntmps18
      go_wp2_with fail
      go_ret
      exact ⟨by rw [HD.out, HS.out]; rfl, hb.out⟩
    · have HD := Lib.hid (dg_big hlt)
      have HI := Lib.hid (fun U => ih (n / 10) (by omega) U (by omega))
      have hl : decide ((n : Int) < 10) = false := decide_eq_false (by omega)
      have hq : IntKind.u64.wrap ((n : Int) / 10) = ((n / 10 : Nat) : Int) := by
        have h2 : (n : Int) / 10 = ((n / 10 : Nat) : Int) := by simp
        rw [h2, IntKind.wrap_u64]
        omega
      have HC : ∀ (U : World) (b : Nat), U.cell? ⟨b, 0, none⟩ = some (.int .u8 (48 + ((n % 10 : Nat) : Int))) → (convert 50 9 (.slice (some ⟨b, 0, none⟩) 1 1)).run Tryd.prog U = .ok (.string (str [one (n % 10)])) U := fun U b hc => conv_one U b (n % 10) (Nat.mod_lt _ (by decide)) hc
      have hz : ¬ 9223372036854775807 < (str (dg (n / 10))).size + (str [one (n % 10)]).size := by
        have := dg_len 19 (n / 10) (by omega)
        rw [str_size, str_size]
        simp
        omega
      have HA : Hid (str (dg (n / 10)) ++ str [one (n % 10)] = str (dg n)) := by show _ = _; rw [str_app, HD.out]
      generalize str (dg (n / 10)) = s1 at *
      generalize str [one (n % 10)] = s2 at *
      clear ih hn HD
      generalize n / 10 = m at *
      have ht : (n : Int).tmod 10 = ((n % 10 : Nat) : Int) := by rw [Int.tmod_eq_emod_of_nonneg (by omega)]; simp
      have hk : n % 10 < 10 := Nat.mod_lt _ (by decide)
      generalize n % 10 = k at *
      have hw1 : IntKind.u64.wrap (48 + (k : Int)) = 48 + (k : Int) := by rw [IntKind.wrap_u64]; omega
      have hw2 : IntKind.u8.wrap (48 + (k : Int)) = 48 + (k : Int) := by rw [IntKind.wrap_u8]; omega
      have HK := Lib.hid hk
      clear hk
      go_enter Tryd.func18, Tryd.ntmps18
      go_wp2_with fail
      go_region_with (go_at_call 18; refine (HI.out _).mono ?_; rintro e w' ⟨rfl, hb⟩; (first | (refine have hcc : w'.cell? ⟨w.heap.size, 0, none⟩ = some (.int .u8 (48 + (k : Int))) := ?_; ?_; (focus (refine (hb.cell (p := ⟨w.heap.size, 0, none⟩) ?_).trans ?_ <;> (simp [go_sem]; done)))) | skip))
      all_goals go_wp2_with fail
      all_goals go_ret
      all_goals refine ⟨by rw [← HA.out]; rfl, ?_⟩
      all_goals first
        | exact ((Below.refl w.heap.size w).drew.trans hb).alloc hb.size _
        | exact (((Below.refl w.heap.size w).alloc (Nat.le_refl _) _).drew.trans (hb.mono (by simp)))
end Dig
end Go.Proofs.YtmiklgekcmeedaaDoor
