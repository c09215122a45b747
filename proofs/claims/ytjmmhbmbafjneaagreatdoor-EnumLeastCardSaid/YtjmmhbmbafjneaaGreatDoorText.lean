/-
  circuit.text: may a name's text be?
-/
import Derived.Test.YtjmmhbmbafjneaaGreatDoorLaws
import Derived.Test.YtjmmhbmbafjneaaGreatDoorSlfB
import Derived.BigQuiet
import Derived.Laws.EntriesVeiled
namespace Go.Proofs.YtjmmhbmbafjneaaGreatDoor
open Go.RowKit Base
set_option linter.unusedVariables false
set_option linter.unusedSimpArgs false
namespace Circuit

/-- May a byte of a name not be? -/
def offB (c : UInt8) : Bool := decide ((c.toNat : Int) < 33) || decide ((126 : Int) < c.toNat)

theorem egT : SlfB.Enters 118 := enters_of Tryz.func118 (by kernel_rfl) rfl

set_option maxHeartbeats 1000000 in
theorem off_any (w : World) (c : UInt8) :
    Calls Tryz.prog 118 #[.int .u8 c.toNat] w fun e w' => e = .returned (.bool (offB c)) ∧ Below w.heap.size w w' := by
  have HV : Hid (offB c = (decide ((c.toNat : Int) < 33) || decide ((126 : Int) < c.toNat))) := rfl
  go_enter Tryz.func118, Tryz.ntmps118
  go_wp2_with fail
  all_goals
    go_ret
    exact ⟨ret_bool (by first | (rw [HV.out]; done) | (rw [HV.out]; simp [*])), by exact Below.refl _ _⟩

theorem run_bytes (w : World) (s : ByteArray) (hn : s.size ≤ 9223372036854775807) :
    ∃ c W1, (convert 9 59 (.string s)).run Tryz.prog w = .ok (.slice (some ⟨w.heap.size, 0, none⟩) s.size c) W1 ∧ Sl W1 (some ⟨w.heap.size, 0, none⟩) s.size c (bytesV s) ∧ Below w.heap.size w W1 := by
  have hrun := run_bytes_of_string (P := Tryz.prog) w 9 59 5 s Tryz.underlying9 Tryz.underlying59 Tryz.underlying5
  generalize hc : grownCap w s.size 0 5 = c at hrun
  have hge : s.size ≤ c := by rw [← hc]; exact grownCap_ge w s.size 0 _
  have hle : c ≤ 9223372036854775807 := by rw [← hc]; exact grownCap_big w s.size _ hn
  refine ⟨c, _, hrun, ⟨bytesV_len s, hge, hle, (fun h => by cases h), fun k v hv => ⟨w.heap.size, 0, rfl, ?_, ?_⟩⟩, (Below.refl _ _).drew.alloc (Nat.le_refl _) _⟩
  · show w.heap.size < (w.heap.push _).size; simp
  · rw [cell_of_row _ w.heap.size (0 + k) (bytesRow s c) 5 ((bytesRow s c).size, (bytesRow s c).size + 1) (by show (w.heap.push _)[w.heap.size]? = _; simp)]
    unfold bytesRow
    unfold bytesV at hv
    rw [Nat.zero_add, Array.getElem?_append_left, ← Array.getElem?_toList, Array.toList_map]
    · exact hv
    · have := (List.getElem?_eq_some_iff.1 hv).1
      simpa using this

/-- May a name's text be? -/
def textOk (s : ByteArray) : Bool := !s.toList.isEmpty && (decide ((s.size : Int) ≤ 32) && !(s.data.toList.map offB).any id)

set_option maxRecDepth 8000 in
set_option maxHeartbeats 2000000 in
theorem text_any (w : World) (s : ByteArray) :
    Calls Tryz.prog 93 #[.string s] w fun e w' => e = .returned (.bool (textOk s)) ∧ Below w.heap.size w w' := by
  have HV : Hid (textOk s = (!s.toList.isEmpty && (decide ((s.size : Int) ≤ 32) && !(s.data.toList.map offB).any id))) := rfl
  cases he : s.toList.isEmpty
  · rw [he] at HV
    by_cases h32 : (s.size : Int) ≤ 32
    · rw [decide_eq_true h32] at HV
      have CF := fun U a c (h : Sl U a s.size c (bytesV s)) => SlfB.containsFunc U a s.size c (bytesV s) 118 #[] #[] (s.data.toList.map offB) h (by simp) egT (by
        intro V hV j y q hy hq
        unfold bytesV at hy
        rw [List.getElem?_map, Option.map_eq_some_iff] at hy hq
        obtain ⟨b, hb, rfl⟩ := hy
        obtain ⟨b2, hb2, rfl⟩ := hq
        have hbb : b = b2 := by
          have e1 : s.data.toList[j]? = some b := hb
          rw [hb2] at e1
          exact (Option.some.inj e1).symm
        subst hbb
        exact off_any V b)
      have HCF := Lib.hid CF
      clear CF
      generalize (s.data.toList.map offB).any id = q at *
      have he2 : (s.toList == []) = false := by
        cases h : s.toList with
        | nil => rw [h] at he; simp at he
        | cons a b => rfl
      have HE := Lib.hid he
      clear he
      obtain ⟨c0, W1, hcv, hsl, hb⟩ := run_bytes w s (by omega)
      have HC1 := Lib.hid (HCF.out W1 _ c0 hsl)
      have HB := Lib.hid hb
      clear hsl hb HCF
      go_enter Tryz.func93, Tryz.ntmps93
      go_wp2_with fail
      refine HC1.out.mono ?_
      rintro e w3 ⟨rfl, hb3⟩
      have HB3 := Lib.hid (HB.out.trans (hb3.mono HB.out.size))
      clear hb3
      go_wp2_with fail
      go_ret
      exact ⟨ret_bool (by rw [HV.out]; simp), HB3.out⟩
    · rw [decide_eq_false h32] at HV
      have h32' : (32 : Int) < s.size := by omega
      have hd : decide ((s.size : Int) ≤ 32) = false := decide_eq_false h32
      have he2 : (s.toList == []) = false := by
        cases h : s.toList with
        | nil => rw [h] at he; simp at he
        | cons a b => rfl
      have HE := Lib.hid he
      clear he
      go_enter Tryz.func93, Tryz.ntmps93
      go_wp2_with fail
      go_ret
      exact ⟨ret_bool (by rw [HV.out]; simp), by exact Below.refl _ _⟩
  · rw [he] at HV
    have he2 : (s.toList == []) = true := by
      rw [List.isEmpty_iff.1 he]; rfl
    have HE := Lib.hid he
    clear he
    go_enter Tryz.func93, Tryz.ntmps93
    go_wp2_with fail
    go_ret
    exact ⟨ret_bool (by rw [HV.out]; simp), by exact Below.refl _ _⟩
end Circuit
end Go.Proofs.YtjmmhbmbafjneaaGreatDoor
