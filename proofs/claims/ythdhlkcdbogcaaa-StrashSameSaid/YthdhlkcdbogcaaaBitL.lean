/-
  interlocklaw06's alive and bit; the reference's Var and Neg.
-/
import Derived.Test.YthdhlkcdbogcaaaStrashQ
import Derived.Test.YthdhlkcdbogcaaaNot
import Derived.Deep.QuietTactic
import Derived.BigQuiet
namespace Go.Proofs.Ythdhlkcdbogcaaa
open Go.RowKit Base
set_option linter.unusedVariables false
set_option linter.unusedSimpArgs false
namespace StrashP
open Circuit GetI

theorem refVar_any (a : Int) (h0 : 0 ≤ a) (h1 : a ≤ 9223372036854775807) (w : World) : Calls Try.prog 28 #[.int .i64 a] w fun e w' => e = .returned (.int .i64 (var a)) ∧ w' = w := by
  have hn : ¬ a < 0 := by omega
  have HV : Hid (var a = a / 2) := by show _ = _; unfold var; omega
  have HD : Hid (Int.tdiv a 2 = a / 2) := Int.tdiv_eq_ediv_of_nonneg h0
  go_enter Try.func28, Try.ntmps28
  go_wp2
  all_goals
    go_ret
    exact ⟨ret_int (by have := HV.out; have := HD.out; first | omega | (rw [HV.out, HD.out]) | (rw [HV.out])), rfl⟩

theorem refNeg_any (a : Int) (h0 : 0 ≤ a) (h1 : a ≤ 9223372036854775807) (w : World) : Calls Try.prog 29 #[.int .i64 a] w fun e w' => e = .returned (.bool (neg a)) ∧ w' = w := by
  have HV : Hid (neg a = (a % 2 == 1)) := by show _ = _; unfold neg; rw [if_neg (by omega)]
  go_enter Try.func29, Try.ntmps29
  go_wp2
  all_goals
    go_ret
    exact ⟨ret_bool (by rw [HV.out]; first | done | (have hz : a = 0 := (by omega); subst hz; decide)), rfl⟩

set_option maxHeartbeats 400000 in
theorem alive_any (w : World) : Calls Try.prog 6 #[] w fun e w' => e = .returned (.bool true) ∧ w' = w := by
  have h := plain_nn 4 5 (by decide) (by decide) (by decide) (by decide) w
  have e : plainV 4 5 = .tuple #[.int .i64 0, .bool true] := by unfold plainV; rfl
  rw [e] at h
  have H := Lib.hid h
  clear h e
  go_enter Try.func6, Try.ntmps6
  go_wp2_with fail
  with_reducible refine H.out.mono ?_
  rintro e w2 ⟨rfl, rfl⟩
  go_wp2_with fail
  go_ret
  exact ⟨rfl, rfl⟩

def bools (l : List Bool) : List Value := l.map .bool
/-- A literal's value among values. -/
def bitL (vs : List Bool) (l : Int) : Bool := vs.getD (var l).toNat false != neg l

set_option maxHeartbeats 1000000 in
theorem bit_any (w : World) (a : Option Addr) (c : Nat) (vs : List Bool) (hs : Sl w a vs.length c (bools vs)) (l : Int) (h0 : 0 ≤ l) (h1 : l ≤ 9223372036854775807) :
    Calls Try.prog 12 #[.slice a vs.length c, .int .i64 l] w fun e w' => e = .returned (.bool (bitL vs l)) ∧ ∃ q, w' = w.drewN q := by
  have HVV := Lib.hid (fun U => refVar_any l h0 h1 U)
  have HN := Lib.hid (fun U => refNeg_any l h0 h1 U)
  have hv0 : 0 ≤ var l := by unfold var; omega
  have hv1 : var l ≤ 9223372036854775807 := by unfold var; omega
  have hcap := hs.cap
  have hbig := hs.big
  by_cases hlt : (var l).toNat < vs.length
  · have hg : (bools vs)[(var l).toNat]? = some (.bool vs[(var l).toNat]) := by unfold bools; rw [List.getElem?_map, List.getElem?_eq_getElem hlt]; rfl
    obtain ⟨b, o, rfl, hb, hc⟩ := hs.cell _ _ hg
    have HR : Hid (bitL vs l = (vs[(var l).toNat] != neg l)) := by show _ = _; unfold bitL; rw [List.getD_eq_getElem?_getD, List.getElem?_eq_getElem hlt]; rfl
    generalize vs[(var l).toNat] = y at *
    generalize neg l = g at *
    obtain ⟨k, hk⟩ : ∃ k : Nat, var l = (k : Int) := ⟨(var l).toNat, by omega⟩
    rw [hk] at HVV
    have hkt : (var l).toNat = k := by omega
    rw [hkt] at hc hlt
    have hl2 : (k : Int) < (vs.length : Int) := by omega
    clear hs hg h0 h1 hv0 hv1 hk hkt hb
    generalize vs.length = m at *
    go_enter Try.func12, Try.ntmps12
    go_wp2_with fail
    with_reducible refine (HVV.out _).mono ?_
    rintro e w2 ⟨rfl, rfl⟩
    go_wp2_with fail
    go_quiet ((go_at_call 29; exact Calls.quiet_of_same (HN.out _)))
    go_wp2_with fail
    go_ret
    exact ⟨by rw [HR.out]; rfl, _, rfl⟩
  · have HR : Hid (bitL vs l = neg l) := by show _ = _; unfold bitL; rw [List.getD_eq_getElem?_getD, List.getElem?_eq_none (by omega)]; cases neg l <;> rfl
    generalize neg l = g at *
    obtain ⟨k, hk⟩ : ∃ k : Nat, var l = (k : Int) := ⟨(var l).toNat, by omega⟩
    rw [hk] at HVV
    have hkt : (var l).toNat = k := by omega
    rw [hkt] at hlt
    have hl2 : ¬ (k : Int) < (vs.length : Int) := by omega
    clear hs h0 h1 hv0 hv1 hk hkt
    generalize vs.length = m at *
    go_enter Try.func12, Try.ntmps12
    go_wp2_with fail
    with_reducible refine (HVV.out _).mono ?_
    rintro e w2 ⟨rfl, rfl⟩
    go_wp2_with fail
    go_quiet ((go_at_call 29; exact Calls.quiet_of_same (HN.out _)))
    go_wp2_with fail
    go_ret
    exact ⟨by rw [HR.out]; rfl, _, rfl⟩
end StrashP
end Go.Proofs.Ythdhlkcdbogcaaa
