/-
  interlockref03.rank, names: where a kind stands; may names be, the page's way?
-/
import Derived.Test.YtjmmhbmbafjneaaGreatDoorRefSmall
import Derived.Test.YtjmmhbmbafjneaaGreatDoorNamed
import Derived.Test.YtjmmhbmbafjneaaGreatDoorLex
import Derived.Deep.DeepCutAuto
namespace Go.Proofs.YtjmmhbmbafjneaaGreatDoor
open Go.RowKit Base
set_option linter.unusedVariables false
set_option linter.unusedSimpArgs false
namespace Circuit

def kinds5 : List ByteArray := [⟨#[105]⟩, ⟨#[108]⟩, ⟨#[111]⟩, ⟨#[98]⟩, ⟨#[99]⟩]

/-- Where a kind stands, the page's way. -/
def rankR (k : ByteArray) : Int := idx (fun s => s.toList == k.toList) kinds5 0

theorem idx_at {α : Type} {p : α → Bool} {l : List α} {k : Nat} (hk : k < l.length) (h : p l[k] = true) (n : Nat) : idx p (l.drop k) n = n := by
  rw [List.drop_eq_getElem_cons hk]; unfold idx; rw [if_pos h]
theorem idx_on {α : Type} {p : α → Bool} {l : List α} {k : Nat} (hk : k < l.length) (h : p l[k] = false) (n : Nat) : idx p (l.drop k) n = idx p (l.drop (k + 1)) (n + 1) := by
  rw [List.drop_eq_getElem_cons hk]; show (if p l[k] = true then _ else _) = _; rw [h]; rfl

set_option maxRecDepth 8000 in
set_option maxHeartbeats 4000000 in
theorem refRank_any (w : World) (k : ByteArray) :
    Calls Tryz.prog 55 #[.string k] w fun e w' => e = .returned (.int .i64 (rankR k)) ∧ Below w.heap.size w w' := by
  obtain ⟨W1, hW1⟩ : ∃ W1, w.alloc (.cells #[.string ⟨#[105]⟩, .string ⟨#[108]⟩, .string ⟨#[111]⟩, .string ⟨#[98]⟩, .string ⟨#[99]⟩] 9) = W1 := ⟨_, rfl⟩
  have hb1 : Below w.heap.size w W1 := by rw [← hW1]; exact (Below.refl _ _).alloc (Nat.le_refl _) _
  have hcells : ∀ j (hj : j < kinds5.length), W1.cell? ⟨w.heap.size, j, none⟩ = some (.string kinds5[j]) := by
    intro j hj
    have hj5 : j < 5 := hj
    rw [← hW1]
    rcases j with _ | _ | _ | _ | _ | j
    · simp [go_sem, kinds5]
    · simp [go_sem, kinds5]
    · simp [go_sem, kinds5]
    · simp [go_sem, kinds5]
    · simp [go_sem, kinds5]
    · omega
  have HC := Lib.hid hcells
  have HB1 := Lib.hid hb1
  clear hb1 hcells
  go_enter Tryz.func55, Tryz.ntmps55
  go_wp2_with fail
  clear hW1
  go_loopw [4] (fun s wr => ∃ j : Nat, j ≤ 5 ∧ s = .int .i64 j ∧ Hid (rankR k = idx (fun s => s.toList == k.toList) (kinds5.drop j) j) ∧ wr = W1) (fun s _ => 5 - (intOf s).toNat)
  case atStart => exact ⟨0, by omega, rfl, rfl, rfl⟩
  case round =>
    obtain ⟨j, hj, rfl, hI, rfl⟩ := hrel
    by_cases hlt : j < 5
    · have hl : j < kinds5.length := hlt
      have c0 := HC.out j hl
      have HA : Hid ((kinds5[j].toList == k.toList) = true → rankR k = j) := fun h => by rw [hI.out, idx_at hl h]
      have HO : Hid ((kinds5[j].toList == k.toList) = false → rankR k = idx (fun s => s.toList == k.toList) (kinds5.drop (j + 1)) ((j : Int) + 1).toNat) := fun h => by rw [hI.out, idx_on hl h]; rfl
      clear hI
      generalize kinds5[j] = s at *
      cases hq : (s.toList == k.toList)
      · have HR := Lib.hid (HO.out hq)
        have HX := Lib.hid True.intro
        clear HA HO
        go_wp2_with fail
        go_roundw
        case rel => exact ⟨j + 1, by omega, by go_num, HR.out, trivial⟩
        case measure => simp [intOf]; omega
      · have HR := Lib.hid (HA.out hq)
        clear HA HO
        go_wp2_with fail
        go_ret
        exact ⟨ret_int HR.out.symm, HB1.out⟩
    · have hke : j = 5 := by omega
      have HR : Hid (rankR k = -1) := by
        have h := hI.out
        rw [hke] at h
        exact h
      clear hke hI
      go_wp2_with fail
      go_ret
      exact ⟨ret_int HR.out.symm, HB1.out⟩

end Circuit
end Go.Proofs.YtjmmhbmbafjneaaGreatDoor
