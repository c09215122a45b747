/-
  slices.Equal of slices of structs, and the reference's of []int: one and the same list.
-/
import Derived.Test.YtpejpjiipcolbaaCBox
import Derived.Test.YtpejpjiipcolbaaEqI
namespace Go.Proofs.Ytpejpjiipcolbaa
open Go.RowKit Base
set_option linter.unusedVariables false
set_option linter.unusedSimpArgs false
namespace EqT


set_option maxHeartbeats 4000000 in
theorem latches (w : World) (a1 a2 : Option Addr) (c1 c2 : Nat) (l : List (Tri)) (h1 : SlT w 3 a1 l.length c1 (tris l)) (h2 : SlT w 3 a2 l.length c2 (tris l)) :
    Calls Try.prog 47 #[.slice a1 l.length c1, .slice a2 l.length c2] w fun e w' => e = .returned (.bool true) ∧ ∃ m, w' = w.drewN m := by
  have hb1 := h1.cap
  have hb2 := h1.big
  have hb3 := h2.cap
  have hb4 := h2.big
  go_enter Try.func47, Try.ntmps47
  go_wp2
  go_loopw [5, 13] (fun _ i wr => ∃ k : Nat, k ≤ l.length ∧ i = .int .i64 k ∧ Hid (∃ m, wr = w.drewN m)) (fun _ i _ => l.length - (intOf i).toNat)
  case atStart => exact ⟨0, Nat.zero_le _, rfl, 0, rfl⟩
  case round =>
    obtain ⟨k, hk, rfl, hdr⟩ := hrel
    have hbr : Below w.heap.size w wr := by obtain ⟨q, rfl⟩ := hdr.out; exact below_drewN (Below.refl _ _) q
    by_cases hlt : k < l.length
    · obtain ⟨b, o, hx, rfl, hbs, d0, d1, d2⟩ := SlT.tri h1 hlt
      obtain ⟨b', o', hy, rfl, hbs', e0, e1, e2⟩ := SlT.tri h2 hlt
      have r0 := (hbr.cell (p := ⟨b, o + k * 3, none⟩) hbs).trans d0
      have s0 := (hbr.cell (p := ⟨b', o' + k * 3, none⟩) hbs').trans e0
      have r1 := (hbr.cell (p := ⟨b, o + k * 3 + 1, none⟩) hbs).trans d1
      have s1 := (hbr.cell (p := ⟨b', o' + k * 3 + 1, none⟩) hbs').trans e1
      have r2 := (hbr.cell (p := ⟨b, o + k * 3 + 2, none⟩) hbs).trans d2
      have s2 := (hbr.cell (p := ⟨b', o' + k * 3 + 2, none⟩) hbs').trans e2
      clear d0 d1 d2 e0 e1 e2
      generalize l[k] = t at *
      clear hx hy
      obtain ⟨t0, t1, t2⟩ := t
      simp only at r0 r1 r2 s0 s1 s2
      go_wp2_with fail
      go_quiet (fail)
      go_wp2
      go_roundw
      case rel => exact ⟨k + 1, by omega, by go_num, EqI.drew_more hdr.out _⟩
      case measure => simp [intOf]; omega
    · go_wp2
      go_ret
      exact ⟨rfl, hdr.out⟩


set_option maxHeartbeats 4000000 in
theorem ands (w : World) (a1 a2 : Option Addr) (c1 c2 : Nat) (l : List (Tri)) (h1 : SlT w 3 a1 l.length c1 (tris l)) (h2 : SlT w 3 a2 l.length c2 (tris l)) :
    Calls Try.prog 48 #[.slice a1 l.length c1, .slice a2 l.length c2] w fun e w' => e = .returned (.bool true) ∧ ∃ m, w' = w.drewN m := by
  have hb1 := h1.cap
  have hb2 := h1.big
  have hb3 := h2.cap
  have hb4 := h2.big
  go_enter Try.func48, Try.ntmps48
  go_wp2
  go_loopw [5, 13] (fun _ i wr => ∃ k : Nat, k ≤ l.length ∧ i = .int .i64 k ∧ Hid (∃ m, wr = w.drewN m)) (fun _ i _ => l.length - (intOf i).toNat)
  case atStart => exact ⟨0, Nat.zero_le _, rfl, 0, rfl⟩
  case round =>
    obtain ⟨k, hk, rfl, hdr⟩ := hrel
    have hbr : Below w.heap.size w wr := by obtain ⟨q, rfl⟩ := hdr.out; exact below_drewN (Below.refl _ _) q
    by_cases hlt : k < l.length
    · obtain ⟨b, o, hx, rfl, hbs, d0, d1, d2⟩ := SlT.tri h1 hlt
      obtain ⟨b', o', hy, rfl, hbs', e0, e1, e2⟩ := SlT.tri h2 hlt
      have r0 := (hbr.cell (p := ⟨b, o + k * 3, none⟩) hbs).trans d0
      have s0 := (hbr.cell (p := ⟨b', o' + k * 3, none⟩) hbs').trans e0
      have r1 := (hbr.cell (p := ⟨b, o + k * 3 + 1, none⟩) hbs).trans d1
      have s1 := (hbr.cell (p := ⟨b', o' + k * 3 + 1, none⟩) hbs').trans e1
      have r2 := (hbr.cell (p := ⟨b, o + k * 3 + 2, none⟩) hbs).trans d2
      have s2 := (hbr.cell (p := ⟨b', o' + k * 3 + 2, none⟩) hbs').trans e2
      clear d0 d1 d2 e0 e1 e2
      generalize l[k] = t at *
      clear hx hy
      obtain ⟨t0, t1, t2⟩ := t
      simp only at r0 r1 r2 s0 s1 s2
      go_wp2_with fail
      go_quiet (fail)
      go_wp2
      go_roundw
      case rel => exact ⟨k + 1, by omega, by go_num, EqI.drew_more hdr.out _⟩
      case measure => simp [intOf]; omega
    · go_wp2
      go_ret
      exact ⟨rfl, hdr.out⟩


set_option maxHeartbeats 4000000 in
theorem names (w : World) (a1 a2 : Option Addr) (c1 c2 : Nat) (l : List (ByteArray × Int × ByteArray)) (h1 : SlT w 3 a1 l.length c1 (namesV l)) (h2 : SlT w 3 a2 l.length c2 (namesV l)) :
    Calls Try.prog 49 #[.slice a1 l.length c1, .slice a2 l.length c2] w fun e w' => e = .returned (.bool true) ∧ ∃ m, w' = w.drewN m := by
  have hb1 := h1.cap
  have hb2 := h1.big
  have hb3 := h2.cap
  have hb4 := h2.big
  go_enter Try.func49, Try.ntmps49
  go_wp2
  go_loopw [5, 13] (fun _ i wr => ∃ k : Nat, k ≤ l.length ∧ i = .int .i64 k ∧ Hid (∃ m, wr = w.drewN m)) (fun _ i _ => l.length - (intOf i).toNat)
  case atStart => exact ⟨0, Nat.zero_le _, rfl, 0, rfl⟩
  case round =>
    obtain ⟨k, hk, rfl, hdr⟩ := hrel
    have hbr : Below w.heap.size w wr := by obtain ⟨q, rfl⟩ := hdr.out; exact below_drewN (Below.refl _ _) q
    by_cases hlt : k < l.length
    · obtain ⟨b, o, hx, rfl, hbs, d0, d1, d2⟩ := Circuit.SlT.name h1 hlt
      obtain ⟨b', o', hy, rfl, hbs', e0, e1, e2⟩ := Circuit.SlT.name h2 hlt
      have r0 := (hbr.cell (p := ⟨b, o + k * 3, none⟩) hbs).trans d0
      have s0 := (hbr.cell (p := ⟨b', o' + k * 3, none⟩) hbs').trans e0
      have r1 := (hbr.cell (p := ⟨b, o + k * 3 + 1, none⟩) hbs).trans d1
      have s1 := (hbr.cell (p := ⟨b', o' + k * 3 + 1, none⟩) hbs').trans e1
      have r2 := (hbr.cell (p := ⟨b, o + k * 3 + 2, none⟩) hbs).trans d2
      have s2 := (hbr.cell (p := ⟨b', o' + k * 3 + 2, none⟩) hbs').trans e2
      clear d0 d1 d2 e0 e1 e2
      generalize l[k] = t at *
      clear hx hy
      obtain ⟨t0, t1, t2⟩ := t
      simp only at r0 r1 r2 s0 s1 s2
      go_wp2_with fail
      go_quiet (fail)
      go_wp2
      go_roundw
      case rel => exact ⟨k + 1, by omega, by go_num, EqI.drew_more hdr.out _⟩
      case measure => simp [intOf]; omega
    · go_wp2
      go_ret
      exact ⟨rfl, hdr.out⟩


set_option maxHeartbeats 4000000 in
theorem same (w : World) (a1 a2 : Option Addr) (c1 c2 : Nat) (l : List (Int)) (h1 : Sl w  a1 l.length c1 (ints l)) (h2 : Sl w  a2 l.length c2 (ints l)) :
    Calls Try.prog 45 #[.slice a1 l.length c1, .slice a2 l.length c2] w fun e w' => e = .returned (.bool true) ∧ ∃ m, w' = w.drewN m := by
  have hb1 := h1.cap
  have hb2 := h1.big
  have hb3 := h2.cap
  have hb4 := h2.big
  go_enter Try.func45, Try.ntmps45
  go_wp2
  go_loopw [5] (fun i wr => ∃ k : Nat, k ≤ l.length ∧ i = .int .i64 k ∧ Hid (∃ m, wr = w.drewN m)) (fun i _ => l.length - (intOf i).toNat)
  case atStart => exact ⟨0, Nat.zero_le _, rfl, 0, rfl⟩
  case round =>
    obtain ⟨k, hk, rfl, hdr⟩ := hrel
    have hbr : Below w.heap.size w wr := by obtain ⟨q, rfl⟩ := hdr.out; exact below_drewN (Below.refl _ _) q
    by_cases hlt : k < l.length
    · obtain ⟨b, o, hx, rfl, hbs, d0⟩ := Sl.int h1 hlt
      obtain ⟨b', o', hy, rfl, hbs', e0⟩ := Sl.int h2 hlt
      have r0 := (hbr.cell (p := ⟨b, o + k, none⟩) hbs).trans d0
      have s0 := (hbr.cell (p := ⟨b', o' + k, none⟩) hbs').trans e0
      clear d0 e0
      generalize l[k] = t at *
      clear hx hy

      go_wp2_with fail
      go_quiet (fail)
      go_wp2
      go_roundw
      case rel => exact ⟨k + 1, by omega, by go_num, EqI.drew_more hdr.out _⟩
      case measure => simp [intOf]; omega
    · go_wp2
      go_ret
      exact ⟨rfl, hdr.out⟩

end EqT
end Go.Proofs.Ytpejpjiipcolbaa
