/-
  interlockref10.value, interlockref10.left.
-/
import Derived.Test.YtpanpfbhdcanhaaRefHas
namespace Go.Proofs.Ytpanpfbhdcanhaa
open Go.RowKit Base
set_option linter.unusedVariables false
set_option linter.unusedSimpArgs false
namespace RefC

def valueL (set : List Int) (x : Int) : Int := if x ∈ set then 1 else if -x ∈ set then -1 else 0

set_option maxHeartbeats 1000000 in
theorem value_any (w : World) (a : Option Addr) (n c : Nat) (set : List Int) (hsl : Sl w a n c (ints set)) (x : Int) (h0 : -9223372036854775808 < x) (h1 : x ≤ 9223372036854775807) :
    Calls Try.prog 30 #[.slice a n c, .int .i64 x] w fun e w' => e = .returned (.int .i64 (valueL set x)) ∧ w = w' := by
  have H1 := has_any w a n c set hsl x
  have H2 := has_any w a n c set hsl (-x)
  by_cases hx : x ∈ set
  · have HV : Hid (valueL set x = 1) := if_pos hx
    rw [decide_eq_true hx] at H1
    have H1' := Lib.hid H1
    clear H1 H2 hx
    go_enter Try.func30, Try.ntmps30
    go_wp2_with fail
    refine H1'.out.mono ?_; rintro e w1 ⟨rfl, rfl⟩
    go_wp2_with fail
    go_ret
    exact ⟨ret_int HV.out.symm, rfl⟩
  · rw [decide_eq_false hx] at H1
    by_cases hy : -x ∈ set
    · have HV : Hid (valueL set x = -1) := (if_neg hx).trans (if_pos hy)
      rw [decide_eq_true hy] at H2
      have H1' := Lib.hid H1
      have H2' := Lib.hid H2
      clear H1 H2 hx hy
      go_enter Try.func30, Try.ntmps30
      go_wp2_with fail
      refine H1'.out.mono ?_; rintro e w1 ⟨rfl, rfl⟩
      go_wp2_with fail
      refine H2'.out.mono ?_; rintro e w1 ⟨rfl, rfl⟩
      go_wp2_with fail
      go_ret
      exact ⟨ret_int HV.out.symm, rfl⟩
    · have HV : Hid (valueL set x = 0) := (if_neg hx).trans (if_neg hy)
      rw [decide_eq_false hy] at H2
      have H1' := Lib.hid H1
      have H2' := Lib.hid H2
      clear H1 H2 hx hy
      go_enter Try.func30, Try.ntmps30
      go_wp2_with fail
      refine H1'.out.mono ?_; rintro e w1 ⟨rfl, rfl⟩
      go_wp2_with fail
      refine H2'.out.mono ?_; rintro e w1 ⟨rfl, rfl⟩
      go_wp2_with fail
      go_ret
      exact ⟨ret_int HV.out.symm, rfl⟩

/-- What a clause leaves: as the reference reckons. -/
def leftGo (set : List Int) : List Int → Int → Bool → Int × Bool
  | [], f, m => if m then (0, true) else (f, decide (f ≠ 0))
  | x :: r, f, m => if x ∈ set then (0, true) else if -x ∈ set then leftGo set r f m else leftGo set r x (m || (decide (f ≠ 0) && decide (f ≠ x)))

def left (l set : List Int) : Int × Bool := leftGo set l 0 false

theorem leftGo_drop (set xs : List Int) (k : Nat) (hk : k < xs.length) (f : Int) (m : Bool) : leftGo set (xs.drop k) f m = leftGo set (xs[k] :: xs.drop (k + 1)) f m := by
  rw [List.drop_eq_getElem_cons hk]

def Lits (xs : List Int) : Prop := ∀ x ∈ xs, -9223372036854775808 < x ∧ x ≤ 9223372036854775807

set_option maxHeartbeats 2000000 in
theorem left_any (w : World) (a : Option Addr) (n c : Nat) (l : List Int) (hsl : Sl w a n c (ints l)) (hl : Lits l) (a1 : Option Addr) (n1 c1 : Nat) (set : List Int) (hset : Sl w a1 n1 c1 (ints set)) :
    Calls Try.prog 31 #[.slice a n c, .slice a1 n1 c1] w fun e w' => e = .returned (.tuple #[.int .i64 (left l set).1, .bool (left l set).2]) ∧ w = w' := by
  have HL : Hid (l.length = n) := by have := hsl.len; rwa [ints_len] at this
  have hcap := hsl.cap
  have hbig := hsl.big
  have HSL := Lib.hid hsl
  have HSET := Lib.hid hset
  have HLI := Lib.hid hl
  clear hsl hset hl
  go_enter Try.func31, Try.ntmps31
  go_wp2
  go_loop [6, 7, 8] (fun f m i => ∃ k : Nat, k ≤ n ∧ i = .int .i64 k ∧ ∃ (fi : Int) (mb : Bool), f = .int .i64 fi ∧ m = .bool mb ∧ Hid (left l set = leftGo set (l.drop k) fi mb)) (fun _ _ i => n - (intOf i).toNat)
  case atStart => exact ⟨0, Nat.zero_le _, rfl, 0, false, rfl, rfl, rfl⟩
  case round =>
    obtain ⟨k, hk, rfl, fi, mb, rfl, rfl, hI⟩ := hrel
    by_cases hlt : k < n
    · obtain ⟨b, o, hx, rfl, hbs, hc⟩ := HSL.out.int hlt
      have hr := HLI.out _ (List.getElem_mem hx)
      have HI2 := Lib.hid (hI.out.trans (leftGo_drop set l k hx fi mb))
      have HV := Lib.hid (value_any w a1 n1 c1 set HSET.out l[k] hr.1 hr.2)
      clear hr
      generalize hp : l[k] = p at *
      have HP := Lib.hid hp
      clear hp
      by_cases h1 : p ∈ set
      · have e1 : valueL set p = 1 := if_pos h1
        have HF : Hid (left l set = (0, true)) := by show _ = _; rw [HI2.out]; simp only [leftGo, if_pos h1]
        rw [e1] at HV
        clear e1 h1
        go_wp2_with fail
        refine HV.out.mono ?_; rintro e w1 ⟨rfl, rfl⟩
        go_wp2_with fail
        exact bodyPost_ret (v := .tuple #[.int .i64 0, .bool true]) (by simp [results, Try.results31, go_sem]) rfl ⟨by rw [HF.out], rfl⟩
      · by_cases h2 : -p ∈ set
        · have e1 : valueL set p = -1 := (if_neg h1).trans (if_pos h2)
          have HF : Hid (left l set = leftGo set (l.drop (k + 1)) fi mb) := by show _ = _; rw [HI2.out]; simp only [leftGo, if_neg h1, if_pos h2]
          rw [e1] at HV
          clear e1 h1 h2
          go_wp2_with fail
          refine HV.out.mono ?_; rintro e w1 ⟨rfl, rfl⟩
          go_wp2_with fail
          go_round
          case rel => exact ⟨k + 1, by omega, by go_num, fi, mb, rfl, rfl, HF⟩
          case measure => simp [intOf]; omega
        · have e1 : valueL set p = 0 := (if_neg h1).trans (if_neg h2)
          have HF : Hid (left l set = leftGo set (l.drop (k + 1)) p (mb || (decide (fi ≠ 0) && decide (fi ≠ p)))) := by show _ = _; rw [HI2.out]; simp only [leftGo, if_neg h1, if_neg h2]
          rw [e1] at HV
          clear e1 h1 h2
          cases mb
          · by_cases hf0 : fi = 0
            · have hq : (fi != 0) = false := by simp [hf0]
              have HF2 : Hid (left l set = leftGo set (l.drop (k + 1)) p false) := by show _ = _; rw [HF.out]; simp [hf0]
              clear hf0
              go_wp2_with fail
              refine HV.out.mono ?_; rintro e w1 ⟨rfl, rfl⟩
              go_wp2_with fail
              go_round
              case rel => exact ⟨k + 1, by omega, by go_num, p, false, rfl, rfl, HF2⟩
              case measure => simp [intOf]; omega
            · have hq : (fi != 0) = true := by simp [hf0]
              have HF2 : Hid (left l set = leftGo set (l.drop (k + 1)) p (fi != p)) := by show _ = _; rw [HF.out]; simp [hf0]; rfl
              clear hf0
              go_wp2_with fail
              refine HV.out.mono ?_; rintro e w1 ⟨rfl, rfl⟩
              go_wp2_with fail
              go_round
              case rel => exact ⟨k + 1, by omega, by go_num, p, (fi != p), rfl, rfl, HF2⟩
              case measure => simp [intOf]; omega
          · have HF2 : Hid (left l set = leftGo set (l.drop (k + 1)) p true) := by show _ = _; rw [HF.out]; rfl
            go_wp2_with fail
            refine HV.out.mono ?_; rintro e w1 ⟨rfl, rfl⟩
            go_wp2_with fail
            go_round
            case rel => exact ⟨k + 1, by omega, by go_num, p, true, rfl, rfl, HF2⟩
            case measure => simp [intOf]; omega
    · have hI2 : Hid (left l set = if mb then (0, true) else (fi, decide (fi ≠ 0))) := by
        show _ = _
        rw [hI.out, List.drop_eq_nil_of_le (by have := HL.out; omega)]
        rfl
      cases mb
      · by_cases hf0 : fi = 0
        · have HF : Hid (left l set = (0, false)) := by show _ = _; rw [hI2.out, hf0]; rfl
          have hq : (fi != 0) = false := by simp [hf0]
          have HF0 := Lib.hid hf0
          clear hf0
          go_wp2
          exact bodyPost_ret (v := .tuple #[.int .i64 fi, .bool false]) (by simp [results, Try.results31, go_sem]) rfl ⟨by rw [HF.out, HF0.out], rfl⟩
        · have HF : Hid (left l set = (fi, true)) := by show _ = _; rw [hI2.out]; simp [hf0]
          have hq : (fi != 0) = true := by simp [hf0]
          clear hf0
          go_wp2
          exact bodyPost_ret (v := .tuple #[.int .i64 fi, .bool true]) (by simp [results, Try.results31, go_sem]) rfl ⟨by rw [HF.out], rfl⟩
      · have HF : Hid (left l set = (0, true)) := hI2.out
        go_wp2
        exact bodyPost_ret (v := .tuple #[.int .i64 0, .bool true]) (by simp [results, Try.results31, go_sem]) rfl ⟨by rw [HF.out], rfl⟩
end RefC
end Go.Proofs.Ytpanpfbhdcanhaa
