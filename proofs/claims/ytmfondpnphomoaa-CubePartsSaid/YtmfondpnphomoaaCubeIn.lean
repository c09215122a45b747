/-
  The walk of the law CubeIn: a state is in the cube that its trits make, and in each part of it, and not in that cube with one literal turned round.
-/
import Derived.Test.YtmfondpnphomoaaCube
import Derived.Test.YtmfondpnphomoaaPlainInts
import Derived.Test.YtmfondpnphomoaaRefBits
namespace Go.Proofs.Ytmfondpnphomoaa
open Go.RowKit Base
set_option linter.unusedVariables false
namespace cubeIn

set_option maxHeartbeats 1000000 in
theorem alive (w : World) : Calls Try.prog 5 #[] w fun e w' => e = .returned (.bool true) ∧ Below w.heap.size w w' := by
  go_enter Try.func5, Try.ntmps5
  go_wp2_with fail
  refine (Cube.of_any _ (by decide) w).mono ?_
  rintro e w1 ⟨a, c, rfl, hown, hb⟩
  obtain ⟨a', c', ev, hsl⟩ := own_sl hown
  simp only [Value.slice.injEq] at ev
  obtain ⟨rfl, _, rfl⟩ := ev
  go_wp2_with fail
  refine (Plain.ints_any _ _ _ _ _ _ _ _ [-2, 3] (hsl.next ((Below.refl _ _).alloc (Nat.le_refl _) _)) (sl_new w1 #[.int .i64 (-2), .int .i64 3] 3 2 rfl (by decide))).mono ?_
  rintro e w2 ⟨rfl, hb2⟩
  go_wp2_with fail
  go_ret
  have hb1 := hb.alloc hb.size (.cells #[.int .i64 (-2), .int .i64 3] 3)
  exact ⟨ret_bool (by decide), hb1.trans (hb2.mono hb1.size)⟩

/-- The index that the law reckons: within the cube, whatever came in. -/
theorem at_rem (x : Int) (n : Nat) (hn : 0 < n) : ∃ j : Nat, j < n ∧ -(n : Int) < x.tmod n ∧ x.tmod n < n ∧ (x.tmod n + n) % n = (j : Int) := by
  have h1 := Int.tmod_lt_of_pos x (show (0 : Int) < n by omega)
  have h2 : -(n : Int) < x.tmod n := by
    have := Int.lt_tmod_of_pos x (show (0 : Int) < n by omega)
    exact this
  have h3 := Int.emod_nonneg (x.tmod n + n) (show (n : Int) ≠ 0 by omega)
  have h4 := Int.emod_lt_of_pos (x.tmod n + n) (show (0 : Int) < n by omega)
  exact ⟨((x.tmod n + n) % n).toNat, by omega, h2, h1, by omega⟩

set_option maxHeartbeats 2000000 in
theorem walk_big (s : ByteArray) (hs : s.size ≤ 1073741824) (x : Int) (w : World) :
    Calls Try.prog 3 #[.string s, .int .i64 x] w fun e w' => e = .returned (.bool true) ∧ Below w.heap.size w w' := by
  by_cases hbit : s.data.toList.all CubeP.bit = true
  · have hlen : (CubeP.ofT s.data.toList 0).length = s.size := by rw [CubeP.ofT_length _ _ hbit]; simp
    have hB : RefBits.bits s.data.toList (s.size : Int) = true := by
      unfold RefBits.bits
      rw [show s.data.toList.all RefBits.bit = true from hbit]
      simp
    have HB := Lib.hid hB
    have HBIT := Lib.hid hbit
    have HLEN := Lib.hid hlen
    have hwf : ∀ y ∈ CubeP.ofT s.data.toList 0, -1073741824 ≤ y ∧ y ≤ 1073741824 := fun y hy => by
      have := CubeP.ofT_bd _ _ y hy
      have h2 : s.data.toList.length = s.size := by simp
      omega
    have HWF := Lib.hid hwf
    clear hB hbit hlen hwf
    have O := Cube.of_any s hs
    have HO := Lib.hid O
    clear O
    by_cases hz : s.size = 0
    · have hIn : CubeP.inC (CubeP.ofT s.data.toList 0) s.data.toList = true := CubeP.in_of _ _ (CubeP.in_self _ HBIT.out)
      have HIN := Lib.hid hIn
      have HZ := Lib.hid hz
      clear hIn hz
      go_enter Try.func3, Try.ntmps3
      go_wp2_with fail
      refine (alive _).mono ?_
      rintro e w1 ⟨rfl, hb1⟩
      go_wp2_with fail
      refine (RefBits.bits_any _ s (by omega) _).mono ?_
      rintro e w1' ⟨rfl, rfl⟩
      rw [HB.out]
      go_wp2_with fail
      refine (HO.out _).mono ?_
      rintro e w2 ⟨a, c, rfl, hown, hb2⟩
      generalize hL : CubeP.ofT s.data.toList 0 = L at *
      have HL := Lib.hid hL
      clear hL
      rw [HLEN.out] at hown ⊢
      obtain ⟨a', c', ev, hsl⟩ := own_sl hown
      simp only [Value.slice.injEq] at ev
      obtain ⟨rfl, _, rfl⟩ := ev
      have g1 : ((s.size : Int) != (s.size : Int)) = false := by simp
      have g2 : ((s.size : Int) == 0) = true := beq_iff_eq.2 (by rw [HZ.out]; rfl)
      have hwf : Cube.Wf L := fun y hy => by have := HWF.out y hy; omega
      have HWF2 := Lib.hid hwf
      clear hwf
      go_wp2_with fail
      refine (Cube.in_any _ _ _ _ _ hsl HWF2.out s (by omega)).mono ?_
      rintro e w3 ⟨rfl, hb3⟩
      rw [HIN.out]
      go_wp2_with fail
      refine (Cube.in_any _ _ _ _ [] (Sl.nil _) (fun _ h => by cases h) s (by omega)).mono ?_
      rintro e w4 ⟨rfl, hb4⟩
      go_wp2_with fail
      go_ret
      have k2 := hb1.trans (hb2.mono hb1.size)
      have k3 := k2.trans (hb3.mono k2.size)
      exact ⟨rfl, k3.trans (hb4.mono k3.size)⟩
    · obtain ⟨j, hj, r1, r2, r3⟩ := at_rem x s.size (by omega)
      go_enter Try.func3, Try.ntmps3
      go_wp2_with fail
      refine (alive _).mono ?_
      rintro e w1 ⟨rfl, hb1⟩
      go_wp2_with fail
      refine (RefBits.bits_any _ s (by omega) _).mono ?_
      rintro e w1' ⟨rfl, rfl⟩
      rw [HB.out]
      go_wp2_with fail
      refine (HO.out _).mono ?_
      rintro e w2 ⟨a, c, rfl, hown, hb2⟩
      generalize hL : CubeP.ofT s.data.toList 0 = L at *
      have HL := Lib.hid hL
      clear hL
      rw [HLEN.out] at hown ⊢
      obtain ⟨a', c', ev, hsl⟩ := own_sl hown
      simp only [Value.slice.injEq] at ev
      obtain ⟨rfl, _, rfl⟩ := ev
      have g1 : ((s.size : Int) != (s.size : Int)) = false := by simp
      have g2 : ((s.size : Int) == 0) = false := beq_eq_false_iff_ne.2 (by omega)
      obtain ⟨b, o, hjl, rfl, hbs, hc⟩ := hsl.int hj
      have hy := HWF.out _ (List.getElem_mem hjl)
      have hwf : Cube.Wf L := fun y hy => by have := HWF.out y hy; omega
      have HWF2 := Lib.hid hwf
      clear hwf
      have hcap := hsl.cap
      have hIn : CubeP.inC L s.data.toList = true := by
        rw [← HL.out]; exact CubeP.in_of _ _ (CubeP.in_self _ HBIT.out)
      have HIN := Lib.hid hIn
      clear hIn
      go_wp2_with fail
      refine (Cube.in_any _ _ _ _ _ hsl HWF2.out s (by omega)).mono ?_
      rintro e w3 ⟨rfl, hb3⟩
      have hsl3 := hsl.next hb3
      rw [HIN.out]
      go_wp2_with ((with_reducible refine wpL_app0 _ _ _ (ints L) Cube.info_int Try.underlying24 ?_ ?_ ?_ ?_ hsl3 ?_ ?_ ?_); rfl; rfl; rfl; (exact ints_one _); omega; omega; (intro a4 c4 w4 hown4 hb4; (obtain ⟨g4, rfl, hg4, hg4'⟩ := own_addr hown4 (by omega)); (have hc4 := (hown4.cellAt j (by omega)).trans (List.getElem?_map.trans (congrArg _ (List.getElem?_eq_getElem hjl)))); have hf4 := hown4.frozenAt j))
      have hslp := (hsl3.next hb4).take (k := j) (by omega)
      have hst := hown4.stored j (.int .i64 (-L[j]))
      have hb5 : Below w3.heap.size w3 (w4.setCell ⟨g4, j, none⟩ (.int .i64 (-L[j]))) := hb4.setCell hg4 _
      have hslp5 : Sl (w4.setCell ⟨g4, j, none⟩ (.int .i64 (-L[j]))) (some ⟨b, o, none⟩) j c (ints (L.take j)) := by
        have := (hsl3.next hb5).take (k := j) (by omega)
        unfold ints at this ⊢
        rw [List.map_take]
        exact this
      obtain ⟨a6, c6, ev6, hsl6⟩ := own_sl hst.1
      simp only [Value.slice.injEq] at ev6
      obtain ⟨rfl, _, rfl⟩ := ev6
      have hset : (ints L).set j (.int .i64 (-L[j])) = ints (L.set j (-L[j])) := by unfold ints; rw [List.map_set]
      rw [hset] at hsl6
      have hwp : Cube.Wf (L.take j) := fun y hy => by have := HWF.out y (List.mem_of_mem_take hy); omega
      have hws : Cube.Wf (L.set j (-L[j])) := fun y hy => by
        rcases List.mem_or_eq_of_mem_set hy with h | h
        · have := HWF.out y h; omega
        · subst h; omega
      have HI1 : Hid (CubeP.inC (L.take j) s.data.toList = true) := by
        rw [← HL.out]; exact CubeP.in_of _ _ fun y hy => CubeP.in_self _ HBIT.out y (List.mem_of_mem_take hy)
      have HI2 : Hid (CubeP.inC (L.set j (-L[j])) s.data.toList = false) := by
        have hL := HL.out
        subst hL
        exact CubeP.in_other _ HBIT.out j hjl
      refine (Cube.in_any _ _ _ _ _ hslp5 hwp s (by omega)).mono ?_
      rintro e w6 ⟨rfl, hb6⟩
      rw [HI1.out]
      go_wp2_with fail
      refine (Cube.in_any _ _ _ _ _ (hsl6.next hb6) hws s (by omega)).mono ?_
      rintro e w7 ⟨rfl, hb7⟩
      rw [HI2.out]
      go_wp2_with fail
      go_ret
      have k1 := hb1
      have k2 := k1.trans (hb2.mono k1.size)
      have k3 := k2.trans (hb3.mono k2.size)
      have k5 := k3.trans (hb5.mono k3.size)
      have k6 := k5.trans (hb6.mono k5.size)
      exact ⟨rfl, k6.trans (hb7.mono k6.size)⟩
  · have hB : RefBits.bits s.data.toList (s.size : Int) = false := by
      unfold RefBits.bits
      rw [show s.data.toList.all RefBits.bit = false from Bool.eq_false_iff.2 hbit]
      rfl
    have HB := Lib.hid hB
    clear hB hbit
    go_enter Try.func3, Try.ntmps3
    go_wp2_with fail
    refine (alive _).mono ?_
    rintro e w1 ⟨rfl, hb1⟩
    go_wp2_with fail
    refine (RefBits.bits_any _ s (by omega) _).mono ?_
    rintro e w1' ⟨rfl, rfl⟩
    rw [HB.out]
    go_wp2_with fail
    go_ret
    exact ⟨rfl, hb1⟩

theorem walk (s : ByteArray) (hs : s.size ≤ 1048576) (x : Int) (wx : (Lit.int .i64 x).wf = true) (w : World) :
    Calls Try.prog 3 #[.string s, .int .i64 x] w fun e w' => e = .returned (.bool true) ∧ Below w.heap.size w w' :=
  walk_big s (by omega) x w
end cubeIn
end Go.Proofs.Ytmfondpnphomoaa
