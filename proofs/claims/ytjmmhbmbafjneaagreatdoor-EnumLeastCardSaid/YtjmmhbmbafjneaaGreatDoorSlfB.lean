/-
  slices.IndexFunc and slices.ContainsFunc at one instance (elements of one cell), whatever predicate is handed over: ps says of each element what the predicate gives.
-/
import Derived.Test.YtjmmhbmbafjneaaGreatDoorBase
import Derived.Shelf.Abstract
namespace Go.Proofs.YtjmmhbmbafjneaaGreatDoor
open Go.RowKit Base
set_option linter.unusedVariables false
namespace SlfB

/-- A function value gives ps of the elements, and turns nothing that is there. -/
def Gives (w : World) (g : FuncId) (fs lb : Array Value) (vs : List Value) (ps : List Bool) : Prop :=
  ∀ W, Below w.heap.size w W → ∀ (k : Nat) (v : Value) (b : Bool), vs[k]? = some v → ps[k]? = some b → Calls Tryz.prog g (fs.push v ++ lb) W fun e w' => e = .returned (.bool b) ∧ Below W.heap.size W w'

def Enters (g : FuncId) : Prop := ∀ args w, (callFunc g args).run Tryz.prog w = .ok (.enter g args) w

theorem idx_hit (ps : List Bool) (k : Nat) (h : ps[k]? = some true) : idx id (ps.drop k) k = k := by
  obtain ⟨hk, e⟩ := List.getElem?_eq_some_iff.1 h
  rw [List.drop_eq_getElem_cons hk]; unfold idx; rw [e]; rfl
theorem idx_miss (ps : List Bool) (k : Nat) (h : ps[k]? = some false) : idx id (ps.drop k) k = idx id (ps.drop (k + 1)) (k + 1) := by
  obtain ⟨hk, e⟩ := List.getElem?_eq_some_iff.1 h
  rw [List.drop_eq_getElem_cons hk]
  show (if id ps[k] = true then _ else _) = _
  rw [e]; rfl

set_option maxHeartbeats 1000000 in
theorem indexFunc (w : World) (a : Option Addr) (n c : Nat) (vs : List Value) (g : FuncId) (fs lb : Array Value) (ps : List Bool)
    (hs : Sl w a n c vs) (hps : ps.length = n) (eg : Enters g) (hg : Gives w g fs lb vs ps) :
    Calls Tryz.prog 140 #[.slice a n c, .func (.func g) fs lb] w fun e w' => e = .returned (.int .i64 (idx id ps 0)) ∧ Below w.heap.size w w' := by
  have hcap := hs.cap
  have hbig := hs.big
  have HPS := Lib.hid hps
  have HG := Lib.hid hg
  clear hg hps
  unfold Enters at eg
  go_enter Tryz.func140, Tryz.ntmps140
  go_wp2
  go_loopw [5, 8] (fun _ i wr => ∃ k : Nat, k ≤ n ∧ i = .int .i64 k ∧ Below w.heap.size w wr ∧ Hid (idx id ps 0 = idx id (ps.drop k) k)) (fun _ i _ => n - (intOf i).toNat)
  case atStart => exact ⟨0, Nat.zero_le _, rfl, Below.refl _ _, rfl⟩
  case round =>
    obtain ⟨k, hk, rfl, hb, hI⟩ := hrel
    by_cases hlt : k < n
    · obtain ⟨b, o, v, rfl, hbs, hv, hc⟩ := hs.at hlt
      have hcr : wr.cell? ⟨b, o + k, none⟩ = some v := (hb.cell (p := ⟨b, o + k, none⟩) hbs).trans hc
      have HV := Lib.hid hv
      clear hc hv
      obtain ⟨q, hq⟩ : ∃ q, ps[k]? = some q := ⟨_, List.getElem?_eq_getElem (by have := HPS.out; omega)⟩
      have HQ := Lib.hid hq
      clear hq
      cases q
      all_goals
        go_wp2_with fail
        refine (HG.out wr hb k v _ HV.out HQ.out).mono ?_
        rintro e w1 ⟨rfl, hb1⟩
        go_wp2_with fail
      · go_roundw
        case rel => exact ⟨k + 1, by omega, by go_num, hb.trans (hb1.mono hb.size), hI.out.trans (idx_miss ps k HQ.out)⟩
        case measure => simp [intOf]; omega
      · go_ret
        exact ⟨ret_int (by rw [hI.out, idx_hit ps k HQ.out]), hb.trans (hb1.mono hb.size)⟩
    · go_wp2
      go_ret
      exact ⟨ret_int (by rw [hI.out, List.drop_of_length_le (by rw [HPS.out]; omega)]; rfl), hb⟩

set_option maxHeartbeats 400000 in
theorem containsFunc (w : World) (a : Option Addr) (n c : Nat) (vs : List Value) (g : FuncId) (fs lb : Array Value) (ps : List Bool)
    (hs : Sl w a n c vs) (hps : ps.length = n) (eg : Enters g) (hg : Gives w g fs lb vs ps) :
    Calls Tryz.prog 117 #[.slice a n c, .func (.func g) fs lb] w fun e w' => e = .returned (.bool (ps.any id)) ∧ Below w.heap.size w w' := by
  have H := Lib.hid (indexFunc w a n c vs g fs lb ps hs hps eg hg)
  clear hg hs eg hps
  go_enter Tryz.func117, Tryz.ntmps117
  go_wp2_with fail
  refine H.out.mono ?_
  rintro e w1 ⟨rfl, hb1⟩
  generalize hq : idx id ps 0 = q
  have HQ := Lib.hid hq
  clear hq
  go_wp2_with fail
  go_ret
  exact ⟨ret_bool (by rw [← idx_nn id ps 0, HQ.out]), hb1⟩
end SlfB
end Go.Proofs.YtjmmhbmbafjneaaGreatDoor
