/-
  slices.IndexFunc and slices.ContainsFunc at []int, whatever predicate is handed over.
-/
import Derived.Test.YtllbncfcnjmbmaaDoorBase
namespace Go.Proofs.YtllbncfcnjmbmaaDoor
open Go.RowKit Base
set_option linter.unusedVariables false
namespace Slf

/-- A function value gives p of each x, and turns nothing that is there. -/
def Gives (w : World) (g : FuncId) (fs lb : Array Value) (xs : List Int) (p : Int → Bool) : Prop :=
  ∀ W, Below w.heap.size w W → ∀ x ∈ xs, Calls Tryd.prog g (fs.push (.int .i64 x) ++ lb) W fun e w' => e = .returned (.bool (p x)) ∧ Below W.heap.size W w'

/-- A function that has a body is entered. -/
def Enters (g : FuncId) : Prop := ∀ args w, (callFunc g args).run Tryd.prog w = .ok (.enter g args) w

theorem idx_hit (p : Int → Bool) (xs : List Int) (k : Nat) (hk : k < xs.length) (h : p xs[k] = true) : idx p (xs.drop k) k = k := by
  rw [List.drop_eq_getElem_cons hk]; unfold idx; rw [if_pos h]
theorem idx_miss (p : Int → Bool) (xs : List Int) (k : Nat) (hk : k < xs.length) (h : p xs[k] = false) : idx p (xs.drop k) k = idx p (xs.drop (k + 1)) (k + 1) := by
  rw [List.drop_eq_getElem_cons hk]
  show (if p xs[k] = true then _ else _) = _
  rw [h]; rfl

set_option maxHeartbeats 1000000 in
theorem indexFunc (w : World) (a : Option Addr) (n c : Nat) (xs : List Int) (g : FuncId) (fs lb : Array Value) (p : Int → Bool)
    (hs : Sl w a n c (ints xs)) (eg : Enters g) (hg : Gives w g fs lb xs p) :
    Calls Tryd.prog 24 #[.slice a n c, .func (.func g) fs lb] w fun e w' => e = .returned (.int .i64 (idx p xs 0)) ∧ Below w.heap.size w w' := by
  have hcap := hs.cap
  have hbig := hs.big
  have hlen : xs.length ≤ n := by have := hs.len; rw [ints_len] at this; omega
  have hlen' : n ≤ xs.length := by have := hs.len; rw [ints_len] at this; omega
  have HG := Lib.hid hg
  clear hg
  unfold Enters at eg
  go_enter Tryd.func24, Tryd.ntmps24
  go_wp2
  go_loopw [5, 8] (fun _ i wr => ∃ k : Nat, k ≤ n ∧ i = .int .i64 k ∧ Below w.heap.size w wr ∧ Hid (idx p xs 0 = idx p (xs.drop k) k)) (fun _ i _ => n - (intOf i).toNat)
  case atStart => exact ⟨0, Nat.zero_le _, rfl, Below.refl _ _, rfl⟩
  case round =>
    obtain ⟨k, hk, rfl, hb, hI⟩ := hrel
    by_cases hlt : k < n
    · obtain ⟨b, o, hx, rfl, hbs, hc⟩ := hs.int hlt
      have hcr : wr.cell? ⟨b, o + k, none⟩ = some (.int .i64 xs[k]) := (hb.cell (p := ⟨b, o + k, none⟩) hbs).trans hc
      clear hc
      cases hp : p xs[k]
      all_goals
        have HP := Lib.hid hp
        clear hp
        go_wp2_with fail
        refine (HG.out wr hb _ (List.getElem_mem hx)).mono ?_
        rintro e w1 ⟨rfl, hb1⟩
        rw [HP.out]
        go_wp2_with fail
      · go_roundw
        case rel => exact ⟨k + 1, by omega, by go_num, hb.trans (hb1.mono hb.size), hI.out.trans (idx_miss p xs k hx HP.out)⟩
        case measure => simp [intOf]; omega
      · go_ret
        exact ⟨ret_int (by rw [hI.out, idx_hit p xs k hx HP.out]), hb.trans (hb1.mono hb.size)⟩
    · go_wp2
      go_ret
      exact ⟨ret_int (by rw [hI.out, List.drop_of_length_le (by omega)]; rfl), hb⟩

set_option maxHeartbeats 400000 in
theorem containsFunc (w : World) (a : Option Addr) (n c : Nat) (xs : List Int) (g : FuncId) (fs lb : Array Value) (p : Int → Bool)
    (hs : Sl w a n c (ints xs)) (eg : Enters g) (hg : Gives w g fs lb xs p) :
    Calls Tryd.prog 20 #[.slice a n c, .func (.func g) fs lb] w fun e w' => e = .returned (.bool (xs.any p)) ∧ Below w.heap.size w w' := by
  have H := Lib.hid (indexFunc w a n c xs g fs lb p hs eg hg)
  clear hg hs eg
  go_enter Tryd.func20, Tryd.ntmps20
  go_wp2_with fail
  refine H.out.mono ?_
  rintro e w1 ⟨rfl, hb1⟩
  generalize hq : idx p xs 0 = q
  have HQ := Lib.hid hq
  clear hq
  go_wp2_with fail
  go_ret
  exact ⟨ret_bool (by rw [← idx_nn p xs 0, HQ.out]), hb1⟩
end Slf
end Go.Proofs.YtllbncfcnjmbmaaDoor
