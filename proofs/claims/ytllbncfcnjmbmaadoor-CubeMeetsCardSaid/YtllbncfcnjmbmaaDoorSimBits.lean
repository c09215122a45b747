/-
  sim.Bits: is a text so many bits?
-/
import Derived.Test.YtllbncfcnjmbmaaDoorLayB
import Derived.Test.YtllbncfcnjmbmaaDoorRefBits
namespace Go.Proofs.YtllbncfcnjmbmaaDoor
open Go.RowKit Base
set_option linter.unusedVariables false
set_option linter.unusedSimpArgs false
namespace SimBits

theorem drop_all {α : Type} {p : α → Bool} {L : List α} (h : ∀ x ∈ L.dropWhile p, p x = true) : ∀ x ∈ L, p x = true := by
  induction L with
  | nil => intro x hx; cases hx
  | cons a t ih =>
    rw [List.dropWhile_cons] at h
    by_cases hp : p a = true
    · rw [if_pos hp] at h
      intro x hx
      rcases List.mem_cons.1 hx with rfl | hx
      · exact hp
      · exact ih h x hx
    · rw [if_neg hp] at h
      exact absurd (h a List.mem_cons_self) hp
theorem drop_nil {α : Type} {p : α → Bool} {L : List α} (h : ∀ x ∈ L, p x = true) : L.dropWhile p = [] := by
  induction L with
  | nil => rfl
  | cons a t ih =>
    rw [List.dropWhile_cons, if_pos (h a List.mem_cons_self)]
    exact ih fun x hx => h x (List.mem_cons_of_mem _ hx)
theorem drop_ne {α : Type} {p : α → Bool} {L : List α} (h : L.dropWhile p = []) : ∀ x ∈ L, p x = true := drop_all (by rw [h]; intro x hx; cases hx)

theorem set_bit (c : UInt8) : ([48, 49] : List UInt8).contains c = RefBits.bit c := by
  unfold RefBits.bit
  simp only [List.contains_cons, List.contains_nil, Bool.or_false]

theorem trim_all {l : List UInt8} (h : l.all RefBits.bit = true) : Lib.trimS l [48, 49] = [] := by
  rw [List.all_eq_true] at h
  unfold Lib.trimS Lib.trimLeftS Lib.trimRightS
  rw [drop_nil (L := l.reverse) (fun x hx => by rw [set_bit]; exact h x (List.mem_reverse.1 hx))]
  rfl
theorem trim_not {l : List UInt8} (h : Lib.trimS l [48, 49] = []) : l.all RefBits.bit = true := by
  rw [List.all_eq_true]
  unfold Lib.trimS Lib.trimLeftS Lib.trimRightS at h
  have h1 := drop_ne h
  intro x hx
  rw [← set_bit]
  exact drop_all (p := fun c => ([48, 49] : List UInt8).contains c) (L := l.reverse) (fun y hy => h1 y (List.mem_reverse.2 hy)) x (List.mem_reverse.2 hx)

set_option maxHeartbeats 1000000 in
theorem bits_any (w : World) (s : ByteArray) (hs : s.size ≤ 9223372036854775807) (n : Int) :
    Calls Tryd.prog 39 #[.string s, .int .i64 n] w fun e w' => e = .returned (.bool (RefBits.bits s.data.toList n)) ∧ Below w.heap.size w w' := by
  have HT := Lib.hid (LayB.trim_any s w hs)
  have hl : (s.data.toList.length : Int) = s.size := by rw [Array.length_toList]; rfl
  have HB : Hid (RefBits.bits s.data.toList n = (s.data.toList.all RefBits.bit && decide ((s.size : Int) = n))) := by show _ = _; unfold RefBits.bits; rw [hl]
  have HA := Lib.hid (fun h => trim_all (l := s.data.toList) h)
  have HN := Lib.hid (fun h => trim_not (l := s.data.toList) h)
  clear hl
  generalize RefBits.bits s.data.toList n = B at *
  generalize hab : s.data.toList.all RefBits.bit = ab at *
  generalize Lib.trimS s.data.toList [48, 49] = T at *
  by_cases hn : (s.size : Int) = n
  · have hv : ((s.size : Int) == n) = true := by simp [hn]
    cases ab
    · have hT : T ≠ [] := fun e => by have := HN.out e; cases this
      have hd2 : (⟨T.toArray⟩ : ByteArray).toList.isEmpty = false := by
        rw [Lib.toList_data]
        show T.toArray.toList.isEmpty = false
        cases T with
        | nil => exact absurd rfl hT
        | cons _ _ => rfl
      have HV : Hid (B = false) := by show _ = _; rw [HB.out]; rfl
      generalize (⟨T.toArray⟩ : ByteArray) = R at *
      clear hT hn
      go_enter Tryd.func39, Tryd.ntmps39
      go_wp2_with fail
      with_reducible refine HT.out.mono ?_
      rintro e w1 ⟨rfl, hb1⟩
      go_wp2_with fail
      go_ret
      exact ⟨by rw [HV.out]; rfl, hb1⟩
    · have hT : T = [] := HA.out rfl
      subst hT
      have HV : Hid (B = true) := by show _ = _; rw [HB.out, decide_eq_true hn]; rfl
      clear hn
      go_enter Tryd.func39, Tryd.ntmps39
      go_wp2_with fail
      with_reducible refine HT.out.mono ?_
      rintro e w1 ⟨rfl, hb1⟩
      go_wp2_with fail
      go_ret
      exact ⟨by rw [HV.out]; rfl, hb1⟩
  · have hv : ((s.size : Int) == n) = false := by simp [hn]
    have HV : Hid (B = false) := by show _ = _; rw [HB.out, decide_eq_false hn, Bool.and_false]
    clear hn
    go_enter Tryd.func39, Tryd.ntmps39
    go_wp2_with fail
    go_ret
    exact ⟨by rw [HV.out]; rfl, Below.refl _ _⟩
end SimBits
end Go.Proofs.YtllbncfcnjmbmaaDoor
