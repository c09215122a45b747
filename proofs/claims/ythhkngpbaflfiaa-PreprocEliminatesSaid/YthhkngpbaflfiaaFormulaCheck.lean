/-
  May a formula be? formula.Check and the reference's Formula: what both return, for every formula.
-/
import Derived.Test.YthhkngpbaflfiaaClauseCheck
import Derived.Test.YthhkngpbaflfiaaSlfR
namespace Go.Proofs.Ythhkngpbaflfiaa
open Go.RowKit Base
set_option linter.unusedVariables false
namespace Formula

def bad (vars : Int) (cls : List (List Int)) : Bool :=
  decide (vars < 0) || decide (262144 < vars) || decide (1048576 < cls.length) || cls.any fun l => !(Clause.check vars l == 0)

def check (vars : Int) (cls : List (List Int)) : Int := if bad vars cls then 9 else 0

def Wf2 (cls : List (List Int)) : Prop := ∀ l ∈ cls, Clause.Wf l

set_option maxHeartbeats 400000 in
theorem bad_any (vars : Int) (w : World) (b : Nat) (v1 : Value) (a : Option Addr) (n c : Nat) (xs : List Int) (hsl : Sl w a n c (ints xs)) (hx : Clause.Wf xs)
    (hc0 : w.cell? ⟨b, 0, none⟩ = some (.int .i64 vars)) :
    Calls Try.prog 41 #[.slice a n c, .pointer (some ⟨b, 0, none⟩)] w fun e w' => e = .returned (.bool (!(Clause.check vars xs == 0))) ∧ Below w.heap.size w w' := by
  have H := Lib.hid (Clause.check_any w vars a n c xs hsl hx)
  clear hsl hx
  go_enter Try.func41, Try.ntmps41
  go_wp2_with fail
  refine H.out.mono ?_
  rintro e w1 ⟨rfl, hb⟩
  generalize hq : Clause.check vars xs = q
  have HQ := Lib.hid hq
  clear hq
  go_wp2_with fail
  go_ret
  exact ⟨ret_bool (by rw [HQ.out]; rfl), hb⟩

theorem gives_rows {w : World} {g : FuncId} {fs lb : Array Value} {vs : List Value} {xss : List (List Int)} {p : List Int → Bool} {a : Option Addr} {n c : Nat} (hsl : Sl2 w a n c vs xss) (hw : Wf2 xss)
    (h : ∀ W, Below w.heap.size w W → ∀ (a : Option Addr) (n c : Nat) (xs : List Int), xs ∈ xss → Sl W a n c (ints xs) → Clause.Wf xs → Calls Try.prog g (fs.push (.slice a n c) ++ lb) W fun e w' => e = .returned (.bool (p xs)) ∧ Below W.heap.size W w') :
    SlfR.Gives w g fs lb vs (xss.map p) := by
  intro W hW k v b hv hb
  rw [List.getElem?_map, Option.map_eq_some_iff] at hb
  obtain ⟨xs, hxs, rfl⟩ := hb
  obtain ⟨a', c', rfl, hs⟩ := hsl.row k v xs hv hxs
  have hm : xs ∈ xss := List.mem_of_getElem? hxs
  exact h W hW a' xs.length c' xs hm (hs.next hW) (hw xs hm)

set_option maxHeartbeats 1000000 in
theorem check_any (w : World) (vars : Int) (a : Option Addr) (n c : Nat) (vs : List Value) (cls : List (List Int)) (hsl : Sl2 w a n c vs cls) (hw : Wf2 cls) :
    Calls Try.prog 26 #[.agg #[.int .i64 vars, .slice a n c]] w fun e w' => e = .returned (.int .i64 (check vars cls)) ∧ Below w.heap.size w w' := by
  have hal : Below w.heap.size w (w.alloc (.cells #[.int .i64 vars, .slice a n c] 24)) := (Below.refl _ _).alloc (Nat.le_refl _) _
  have hc0 : (w.alloc (.cells #[.int .i64 vars, .slice a n c] 24)).cell? ⟨w.heap.size, 0, none⟩ = some (.int .i64 vars) := by simp
  have H := Lib.hid (SlfR.containsFunc _ a n c vs 41 #[] #[.pointer (some ⟨w.heap.size, 0, none⟩)] (cls.map fun l => !(Clause.check vars l == 0)) (hsl.next hal).sl (by rw [List.length_map]; exact hsl.len)
    (enters_of Try.func41 (by kernel_rfl) rfl)
    (gives_rows (hsl.next hal) hw fun W hW a' n' c' xs hm hs hx => bad_any vars W w.heap.size (.slice a n c) a' n' c' xs hs hx ((hW.cell (p := ⟨w.heap.size, 0, none⟩) (by simp)).trans hc0)))
  rw [show (cls.map fun l => !(Clause.check vars l == 0)).any id = cls.any (fun l => !(Clause.check vars l == 0)) from by rw [List.any_map]; rfl] at H
  have HL := Lib.hid hsl.len
  have hcap := hsl.sl.cap
  have hbig := hsl.sl.big
  have hmf : ∀ (fn : Fn) (first cap : Array Value) (w : World), (Instr.makeFunc fn first cap).run Try.prog w = .ok (.func fn first cap) w := fun _ _ _ _ => rfl
  clear hsl hw hc0
  by_cases h0 : vars < 0
  · have HC : Hid (check vars cls = 9) := by show check vars cls = 9; unfold check bad; rw [decide_eq_true h0]; rfl
    clear H
    go_enter Try.func26, Try.ntmps26
    go_wp2
    go_ret
    exact ⟨ret_int HC.out.symm, hal⟩
  by_cases h1 : 262144 < vars
  · have HC : Hid (check vars cls = 9) := by show check vars cls = 9; unfold check bad; rw [decide_eq_true h1]; simp
    clear H
    go_enter Try.func26, Try.ntmps26
    go_wp2
    go_ret
    exact ⟨ret_int HC.out.symm, hal⟩
  by_cases h2 : 1048576 < n
  · have HC : Hid (check vars cls = 9) := by show check vars cls = 9; unfold check bad; rw [HL.out, decide_eq_true h2]; simp
    clear H
    go_enter Try.func26, Try.ntmps26
    go_wp2
    go_ret
    exact ⟨ret_int HC.out.symm, hal⟩
  have HC : Hid (check vars cls = if cls.any (fun l => !(Clause.check vars l == 0)) then 9 else 0) := by
    show check vars cls = _; unfold check bad; rw [HL.out, decide_eq_false h0, decide_eq_false h1, decide_eq_false h2]; rfl
  cases hq : cls.any (fun l => !(Clause.check vars l == 0))
  all_goals
    rw [hq] at H HC
    have HQ := Lib.hid hq
    clear hq
    go_enter Try.func26, Try.ntmps26
    go_wp2_with fail
    refine H.out.mono ?_
    rintro e w1 ⟨rfl, hb1⟩
    go_wp2_with fail
    go_ret
    exact ⟨ret_int HC.out.symm, hal.trans (hb1.mono hal.size)⟩

theorem any_take_more {α : Type} {xs : List α} {p : α → Bool} {k : Nat} (hk : k < xs.length) (h : (xs.take k).any p = false) (hp : p xs[k] = false) : (xs.take (k + 1)).any p = false := by
  rw [List.take_succ_eq_append_getElem hk, List.any_append, h]; simp [hp]

theorem any_hit {α : Type} {xs : List α} {p : α → Bool} {k : Nat} (hk : k < xs.length) (hp : p xs[k] = true) : xs.any p = true :=
  List.any_eq_true.2 ⟨_, List.getElem_mem hk, hp⟩

set_option maxHeartbeats 1000000 in
theorem ref_any (w : World) (vars : Int) (a : Option Addr) (n c : Nat) (vs : List Value) (cls : List (List Int)) (hsl : Sl2 w a n c vs cls) (hw : Wf2 cls) :
    Calls Try.prog 10 #[.agg #[.int .i64 vars, .slice a n c]] w fun e w' => e = .returned (.int .i64 (check vars cls)) ∧ Below w.heap.size w w' := by
  have hal : Below w.heap.size w (w.alloc (.cells #[.int .i64 vars, .slice a n c] 24)) := (Below.refl _ _).alloc (Nat.le_refl _) _
  have HL := Lib.hid hsl.len
  have hcap := hsl.sl.cap
  have hbig := hsl.sl.big
  by_cases h0 : vars < 0
  · have HC : Hid (check vars cls = 9) := by show check vars cls = 9; unfold check bad; rw [decide_eq_true h0]; rfl
    go_enter Try.func10, Try.ntmps10
    go_wp2
    go_ret
    exact ⟨ret_int HC.out.symm, hal⟩
  by_cases h1 : 262144 < vars
  · have HC : Hid (check vars cls = 9) := by show check vars cls = 9; unfold check bad; rw [decide_eq_true h1]; simp
    go_enter Try.func10, Try.ntmps10
    go_wp2
    go_ret
    exact ⟨ret_int HC.out.symm, hal⟩
  by_cases h2 : 1048576 < n
  · have HC : Hid (check vars cls = 9) := by show check vars cls = 9; unfold check bad; rw [HL.out, decide_eq_true h2]; simp
    go_enter Try.func10, Try.ntmps10
    go_wp2
    go_ret
    exact ⟨ret_int HC.out.symm, hal⟩
  have HC : Hid (check vars cls = if cls.any (fun l => !(Clause.check vars l == 0)) then 9 else 0) := by
    show check vars cls = _; unfold check bad; rw [HL.out, decide_eq_false h0, decide_eq_false h1, decide_eq_false h2]; rfl
  have HW := Lib.hid hw
  go_enter Try.func10, Try.ntmps10
  go_wp2_with fail
  go_loopw [3] (fun i wr => ∃ k : Nat, k ≤ n ∧ i = .int .i64 k ∧ Hid ((cls.take k).any (fun l => !(Clause.check vars l == 0)) = false) ∧ Below (w.heap.size + 1) (w.alloc (.cells #[.int .i64 vars, .slice a n c] 24)) wr) (fun i _ => n - (intOf i).toNat)
  case atStart => exact ⟨0, Nat.zero_le _, rfl, rfl, Below.refl _ _⟩
  case round =>
    obtain ⟨k, hk, rfl, hI, hbr⟩ := hrel
    have c0 : wr.cell? ⟨w.heap.size, 0, none⟩ = some (.int .i64 vars) := (hbr.cell (p := ⟨w.heap.size, 0, none⟩) (by simp)).trans (by simp)
    have c1 : wr.cell? ⟨w.heap.size, 1, none⟩ = some (.slice a n c) := (hbr.cell (p := ⟨w.heap.size, 1, none⟩) (by simp)).trans (by simp)
    by_cases hlt : k < n
    · obtain ⟨b, o, a', c', hxk, rfl, hbs, hc, hsr, _⟩ := (hsl.next hal).at hlt
      have hcr : wr.cell? ⟨b, o + k, none⟩ = some (.slice a' cls[k].length c') := (hbr.cell (p := ⟨b, o + k, none⟩) (by simpa using hbs)).trans hc
      have HR := Lib.hid (fun (W : World) (hW : Below wr.heap.size wr W) => Clause.refCheck_any W vars a' cls[k].length c' cls[k] ((hsr.below hbr (by simp)).next hW) (HW.out _ (List.getElem_mem hxk)))
      have HK := Lib.hid hxk
      generalize hy : cls[k].length = m at *
      generalize hz : Clause.check vars cls[k] = z at *
      have HZ := Lib.hid hz
      have HY := Lib.hid hy
      clear hy hz hc hsr
      by_cases hz0 : z = 0
      · have hv : (z != 0) = false := by simp [hz0]
        have HB : Hid ((fun l => !(Clause.check vars l == 0)) cls[k] = false) := by show (!(Clause.check vars cls[k] == 0)) = false; rw [HZ.out, hz0]; rfl
        clear hz0
        go_wp2_with fail
        go_quiet ((go_at_call 29; exact Calls.quiet_of_same ((HR.out _ (below_drewN (Below.refl _ _) _)).mono fun e w' h => ⟨h.1, h.2.symm⟩)))
        go_wp2_with fail
        go_roundw
        case rel => exact ⟨k + 1, by omega, by go_num, any_take_more HK.out hI.out HB.out, below_drewN hbr _⟩
        case measure => simp [intOf]; omega
      · have hv : (z != 0) = true := by simp [hz0]
        have HB : Hid (check vars cls = 9) := by
          show check vars cls = 9
          rw [HC.out, any_hit (p := fun l => !(Clause.check vars l == 0)) HK.out (by show (!(Clause.check vars cls[k] == 0)) = true; rw [HZ.out]; simp [hz0])]; rfl
        clear hz0
        go_wp2_with fail
        go_quiet ((go_at_call 29; exact Calls.quiet_of_same ((HR.out _ (below_drewN (Below.refl _ _) _)).mono fun e w' h => ⟨h.1, h.2.symm⟩)))
        go_wp2_with fail
        go_ret
        exact ⟨ret_int HB.out.symm, hal.trans ((below_drewN hbr _).mono (by simp))⟩
    · have HB : Hid (check vars cls = 0) := by
        show check vars cls = 0
        have h := hI.out
        rw [List.take_of_length_le (by rw [HL.out]; omega)] at h
        rw [HC.out, h]; rfl
      go_wp2_with fail
      go_ret
      exact ⟨ret_int HB.out.symm, hal.trans (hbr.mono (by simp))⟩

end Formula
end Go.Proofs.Ythhkngpbaflfiaa
