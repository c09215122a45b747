/-
  lits.Neg; (*names).define: a variable is defined, or a fault panics.
-/
import Derived.Test.YtjmmhbmbafjneaaGreatDoorKnown
namespace Go.Proofs.YtjmmhbmbafjneaaGreatDoor
open Go.RowKit Base Go.Maps
set_option linter.unusedVariables false
set_option linter.unusedSimpArgs false
namespace Circuit

theorem and1 (n : Int) : bits .and .i64 n 1 = n % 2 := by
  have h1 : (BitVec.ofInt 64 1).toNat = 2 ^ 1 - 1 := by decide
  have key : (BitVec.ofInt 64 n &&& BitVec.ofInt 64 1).toNat = (n % ((2 ^ 64 : Nat) : Int)).toNat % 2 ^ 1 := by
    rw [BitVec.toNat_and, BitVec.toNat_ofInt, h1, Nat.and_two_pow_sub_one_eq_mod]
  show IntKind.i64.wrap ((BitVec.ofInt 64 n &&& BitVec.ofInt 64 1).toNat : Nat) = n % 2
  rw [key, IntKind.wrap_i64]
  omega

/-- Is a literal an opposite? -/
def neg (a : Int) : Bool := if a < 0 then false else (a % 2 == 1)

set_option maxHeartbeats 400000 in
theorem neg_any (a : Int) (w : World) :
    Calls Tryz.prog 115 #[.int .i64 a] w fun e w' => e = .returned (.bool (neg a)) ∧ w = w' := by
  go_enter Tryz.func115, Tryz.ntmps115
  go_wp2
  · go_ret
    exact ⟨ret_bool (by rw [and1]; unfold neg; rw [if_pos (by assumption)]; rfl), rfl⟩
  · go_ret
    exact ⟨ret_bool (by rw [and1]; unfold neg; rw [if_neg (by omega)]), rfl⟩

/-- May a variable be defined so? -/
def okD (D : List (Int × ByteArray)) (l most : Int) : Bool := decide (2 ≤ l) && (!neg l && (decide (var l ≤ most) && (get D (var l)).toList.isEmpty))

def fault : List PanicEntry := [{ v := .iface 33 (.int .i64 9), recovered := false }]

set_option maxRecDepth 4000 in
set_option maxHeartbeats 4000000 in
theorem define_bad (w : World) (N b n : Nat) (D : List (Int × ByteArray)) (hc : w.cell? ⟨N, 0, none⟩ = some (.map (some b))) (hm : MetIs w b n D) (l most : Int) (hl : I64 l) (kind : ByteArray) (hbad : okD D l most = false) :
    Calls Tryz.prog 88 #[.pointer (some ⟨N, 0, none⟩), .int .i64 l, .int .i64 most, .string kind] w fun e w' => e = .panicked fault ∧ w = w' := by
  have VA := Lib.hid (var_any l hl.1 hl.2 w)
  have NA := Lib.hid (neg_any l w)
  have NB := Lib.hid (need_bad w)
  have HL := met_look hm (var_64 hl)
  unfold okD at hbad
  generalize get D (var l) = s at *
  by_cases h2 : 2 ≤ l
  · rw [decide_eq_true h2, Bool.true_and] at hbad
    cases hn : neg l
    · rw [hn] at hbad NA
      simp only [Bool.not_false, Bool.true_and] at hbad
      by_cases hv : var l ≤ most
      · rw [decide_eq_true hv, Bool.true_and] at hbad
        clear hn
        go_enter Tryz.func88, Tryz.ntmps88
        go_wp2_with fail
        refine VA.out.mono ?_
        rintro e w1 ⟨rfl, rfl⟩
        go_wp2_with fail
        refine NA.out.mono ?_
        rintro e w1 ⟨rfl, rfl⟩
        go_wp2_with fail
        refine NB.out.mono ?_
        rintro e w1 ⟨rfl, rfl⟩
        go_wp2_with fail
        exact ⟨rfl, rfl, rfl⟩
      · have hv' : most < var l := by omega
        clear hn
        go_enter Tryz.func88, Tryz.ntmps88
        go_wp2_with fail
        refine VA.out.mono ?_
        rintro e w1 ⟨rfl, rfl⟩
        go_wp2_with fail
        refine NA.out.mono ?_
        rintro e w1 ⟨rfl, rfl⟩
        go_wp2_with fail
        refine NB.out.mono ?_
        rintro e w1 ⟨rfl, rfl⟩
        go_wp2_with fail
        exact ⟨rfl, rfl, rfl⟩
    · rw [hn] at NA
      clear hn
      go_enter Tryz.func88, Tryz.ntmps88
      go_wp2_with fail
      refine VA.out.mono ?_
      rintro e w1 ⟨rfl, rfl⟩
      go_wp2_with fail
      refine NA.out.mono ?_
      rintro e w1 ⟨rfl, rfl⟩
      go_wp2_with fail
      refine NB.out.mono ?_
      rintro e w1 ⟨rfl, rfl⟩
      go_wp2_with fail
      exact ⟨rfl, rfl, rfl⟩
  · have h2' : l < 2 := by omega
    go_enter Tryz.func88, Tryz.ntmps88
    go_wp2_with fail
    refine VA.out.mono ?_
    rintro e w1 ⟨rfl, rfl⟩
    go_wp2_with fail
    refine NB.out.mono ?_
    rintro e w1 ⟨rfl, rfl⟩
    go_wp2_with fail
    exact ⟨rfl, rfl, rfl⟩

set_option maxRecDepth 4000 in
set_option maxHeartbeats 4000000 in
theorem define_good (w : World) (N b n : Nat) (D : List (Int × ByteArray)) (hc : w.cell? ⟨N, 0, none⟩ = some (.map (some b))) (hm : MetIs w b n D) (l most : Int) (hl : I64 l) (kind : ByteArray) (hk : kind.size ≤ maxLen) (hn : n < maxLen) (hok : okD D l most = true) :
    Calls Tryz.prog 88 #[.pointer (some ⟨N, 0, none⟩), .int .i64 l, .int .i64 most, .string kind] w fun e w' => e = .returned (.tuple #[]) ∧ MetIs w' b (n + 1) ((var l, kind) :: D) ∧ w.grownBy w' (some b) := by
  have VA := Lib.hid (var_any l hl.1 hl.2 w)
  have NA := neg_any l w
  have NB := Lib.hid (need_ok w)
  have HL := met_look hm (var_64 hl)
  unfold okD at hok
  simp only [Bool.and_eq_true, decide_eq_true_eq, Bool.not_eq_true'] at hok
  obtain ⟨h2, hng, hv, hs⟩ := hok
  rw [hng] at NA
  have HNA := Lib.hid NA
  obtain ⟨M, hown, hM, hat⟩ := hm
  have HPUT := Lib.hid (met_put hM hat (var l) kind)
  have HKEY := Lib.hid (wf_litM (var_64 hl))
  have HKS := Lib.hid hk
  have HN := Lib.hid hn
  generalize get D (var l) = s at *
  clear NA hng hM hat hk hn
  go_enter Tryz.func88, Tryz.ntmps88
  go_wp2_with fail
  refine VA.out.mono ?_
  rintro e w1 ⟨rfl, rfl⟩
  go_wp2_with fail
  refine HNA.out.mono ?_
  rintro e w1 ⟨rfl, rfl⟩
  go_wp2_with fail
  refine NB.out.mono ?_
  rintro e w1 ⟨rfl, rfl⟩
  go_wp2_with ((at_mapUpdate; refine wpList_mapUpdate_own _ rfl _ _ _ 125 rfl 3 9 lawM Tryz.underlying125 _ b n _ rfl hown HN.out _ _ _ rfl rfl (keyOf_int_mk Tryz.underlying3 HKEY.out) _ [] (plainElem_string Tryz.underlying9 HKS.out) ?_; intro w6 hown6 hgrow6))
  go_end0
  exact ⟨rfl, ⟨_, hown6, HPUT.out.1, HPUT.out.2⟩, hgrow6⟩

end Circuit
end Go.Proofs.YtjmmhbmbafjneaaGreatDoor
