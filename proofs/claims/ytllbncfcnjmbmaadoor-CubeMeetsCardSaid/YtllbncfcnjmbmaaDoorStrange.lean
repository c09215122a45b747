/-
  cube.strange's closure: has no first state a literal?
-/
import Derived.Test.YtllbncfcnjmbmaaDoorCBox
import Derived.Test.YtllbncfcnjmbmaaDoorAbsP
namespace Go.Proofs.YtllbncfcnjmbmaaDoor
open Go.RowKit Base
set_option linter.unusedVariables false
set_option linter.unusedSimpArgs false
namespace Strange

/-- May a latch not begin as a literal says? -/
def offT (t : Tri) (pos : Bool) : Bool := (t.2.2 != t.1) && ((t.2.2 == 1) != pos)
def strangeB (lats : List Tri) (l : Int) : Bool := decide (Clause.absI l < 1) || decide ((lats.length : Int) < Clause.absI l) || offT (lats.getD ((Clause.absI l).toNat - 1) (0, 0, 0)) (decide (0 < l))

theorem strange_out {lats : List Tri} {l : Int} (h : Clause.absI l < 1 ∨ (lats.length : Int) < Clause.absI l) : strangeB lats l = true := by
  unfold strangeB
  rcases h with h | h
  · rw [decide_eq_true h]; rfl
  · rw [decide_eq_true h, Bool.or_true]; rfl
theorem abs_pos (i : Nat) : Clause.absI ((i : Int) + 1) = (i : Int) + 1 := by unfold Clause.absI; rw [if_neg (by omega)]; omega
theorem abs_neg (i : Nat) (h : -9223372036854775807 ≤ -((i : Int) + 1)) : Clause.absI (-((i : Int) + 1)) = (i : Int) + 1 := by unfold Clause.absI; rw [if_neg (by omega)]; omega
theorem strange_in {lats : List Tri} {l : Int} {i : Nat} (h : Clause.absI l = (i : Int) + 1) (hi : i < lats.length) : strangeB lats l = offT lats[i] (decide (0 < l)) := by
  unfold strangeB
  rw [h, decide_eq_false (by omega), decide_eq_false (by omega)]
  have e : ((i : Int) + 1).toNat - 1 = i := by omega
  rw [e]
  simp [List.getD_eq_getElem?_getD, List.getElem?_eq_getElem hi]

set_option maxRecDepth 8000 in
set_option maxHeartbeats 4000000 in
theorem strange_any (w : World) (x : Circ) (p : At) (Bx : Nat) (hB : Circuit.CBox Bx x p w) (hL : SlT w 3 p.a2 x.lats.length p.c2 (tris x.lats)) (l : Int) (h0 : -9223372036854775808 ≤ l) (h1 : l ≤ 9223372036854775807) :
    Calls Tryd.prog 37 #[.int .i64 l, .pointer (some ⟨Bx, 0, none⟩)] w fun e w' => e = .returned (.bool (strangeB x.lats l)) ∧ Below w.heap.size w w' := by
  have k2 := hB.k2
  have hcap := hL.cap
  have hbig := hL.big
  have HL := Lib.hid hL
  clear hB hL
  generalize hn : x.lats.length = n at *
  have HN := Lib.hid hn
  clear hn
  by_cases hm : l = -9223372036854775808
  · subst hm
    have HV : Hid (strangeB x.lats (-9223372036854775808) = true) := strange_out (.inl (by decide))
    have hw1 : IntKind.i64.wrap 9223372036854775808 = -9223372036854775808 := by rw [IntKind.wrap_i64]; decide
    have hw2 : wrap64 9223372036854775808 = -9223372036854775808 := by unfold wrap64; decide
    go_enter Tryd.func37, Tryd.ntmps37
    go_wp2_with fail
    all_goals
      go_ret
      exact ⟨by rw [HV.out]; rfl, Below.refl _ _⟩
  · have hm' : -9223372036854775807 ≤ l := by omega
    clear h0
    by_cases hp : 0 < l
    · have ha : Clause.absI l = l := by unfold Clause.absI; rw [if_neg hm]; omega
      by_cases hlo : l < 1
      · have HV : Hid (strangeB x.lats l = true) := strange_out (.inl (by rw [ha]; exact hlo))
        clear ha hm
        go_enter Tryd.func37, Tryd.ntmps37
        go_wp2_with fail
        all_goals
          go_ret
          exact ⟨by rw [HV.out]; rfl, Below.refl _ _⟩
      · by_cases hi : (n : Int) < l
        · have HV : Hid (strangeB x.lats l = true) := strange_out (.inr (by rw [ha, HN.out]; exact hi))
          clear ha hm
          go_enter Tryd.func37, Tryd.ntmps37
          go_wp2_with fail
          all_goals
            go_ret
            exact ⟨by rw [HV.out]; rfl, Below.refl _ _⟩
        · obtain ⟨b, o, hx, hae, hbs, d0, d1, d2⟩ := HL.out.tri (i := l.toNat - 1) (by omega)
          rw [hae] at k2
          have HV : Hid (strangeB x.lats l = offT x.lats[(l.toNat - 1)] true) := by
            show _ = _
            rw [strange_in (i := (l.toNat - 1)) (by rw [ha]; omega) hx, decide_eq_true hp]
          obtain ⟨U, hU⟩ : ∃ U, w.alloc (.cells #[.int .i64 x.lats[(l.toNat - 1)].1, .int .i64 x.lats[(l.toNat - 1)].2.1, .int .i64 x.lats[(l.toNat - 1)].2.2] 44) = U := ⟨_, rfl⟩
          have hbU : Below w.heap.size w U := by rw [← hU]; exact (Below.refl _ _).alloc (Nat.le_refl _) _
          have u0 : U.cell? ⟨w.heap.size, 0, none⟩ = some (.int .i64 x.lats[(l.toNat - 1)].1) := by rw [← hU]; simp [go_sem]
          have u2 : U.cell? ⟨w.heap.size, 2, none⟩ = some (.int .i64 x.lats[(l.toNat - 1)].2.2) := by rw [← hU]; simp [go_sem]
          have HBU := Lib.hid hbU
          have HO : Hid (offT x.lats[(l.toNat - 1)] true = ((x.lats[(l.toNat - 1)].2.2 != x.lats[(l.toNat - 1)].1) && ((x.lats[(l.toNat - 1)].2.2 == 1) != true))) := rfl
          clear hae hbU ha hm
          generalize x.lats[(l.toNat - 1)] = t at *
          generalize hb1 : (t.2.2 != t.1) = b1 at *
          generalize hb2 : (t.2.2 == 1) = b2 at *
          cases b1 <;> cases b2
          all_goals
            go_enter Tryd.func37, Tryd.ntmps37
            go_wp2_with fail
            go_ret
            exact ⟨by rw [HV.out, HO.out]; rfl, HBU.out⟩
    · have ha : Clause.absI l = -l := by unfold Clause.absI; rw [if_neg hm]; omega
      by_cases hlo : -l < 1
      · have HV : Hid (strangeB x.lats l = true) := strange_out (.inl (by rw [ha]; exact hlo))
        clear ha hm
        go_enter Tryd.func37, Tryd.ntmps37
        go_wp2_with fail
        all_goals
          go_ret
          exact ⟨by rw [HV.out]; rfl, Below.refl _ _⟩
      · by_cases hi : (n : Int) < -l
        · have HV : Hid (strangeB x.lats l = true) := strange_out (.inr (by rw [ha, HN.out]; exact hi))
          clear ha hm
          go_enter Tryd.func37, Tryd.ntmps37
          go_wp2_with fail
          all_goals
            go_ret
            exact ⟨by rw [HV.out]; rfl, Below.refl _ _⟩
        · obtain ⟨b, o, hx, hae, hbs, d0, d1, d2⟩ := HL.out.tri (i := (-l).toNat - 1) (by omega)
          rw [hae] at k2
          have HV : Hid (strangeB x.lats l = offT x.lats[((-l).toNat - 1)] false) := by
            show _ = _
            rw [strange_in (i := ((-l).toNat - 1)) (by rw [ha]; omega) hx, decide_eq_false hp]
          obtain ⟨U, hU⟩ : ∃ U, w.alloc (.cells #[.int .i64 x.lats[((-l).toNat - 1)].1, .int .i64 x.lats[((-l).toNat - 1)].2.1, .int .i64 x.lats[((-l).toNat - 1)].2.2] 44) = U := ⟨_, rfl⟩
          have hbU : Below w.heap.size w U := by rw [← hU]; exact (Below.refl _ _).alloc (Nat.le_refl _) _
          have u0 : U.cell? ⟨w.heap.size, 0, none⟩ = some (.int .i64 x.lats[((-l).toNat - 1)].1) := by rw [← hU]; simp [go_sem]
          have u2 : U.cell? ⟨w.heap.size, 2, none⟩ = some (.int .i64 x.lats[((-l).toNat - 1)].2.2) := by rw [← hU]; simp [go_sem]
          have HBU := Lib.hid hbU
          have HO : Hid (offT x.lats[((-l).toNat - 1)] false = ((x.lats[((-l).toNat - 1)].2.2 != x.lats[((-l).toNat - 1)].1) && ((x.lats[((-l).toNat - 1)].2.2 == 1) != false))) := rfl
          clear hae hbU ha hm
          generalize x.lats[((-l).toNat - 1)] = t at *
          generalize hb1 : (t.2.2 != t.1) = b1 at *
          generalize hb2 : (t.2.2 == 1) = b2 at *
          cases b1 <;> cases b2
          all_goals
            go_enter Tryd.func37, Tryd.ntmps37
            go_wp2_with fail
            go_ret
            exact ⟨by rw [HV.out, HO.out]; rfl, HBU.out⟩
end Strange
end Go.Proofs.YtllbncfcnjmbmaaDoor
