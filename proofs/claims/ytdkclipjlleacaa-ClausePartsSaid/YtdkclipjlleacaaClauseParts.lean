/-
  interlocklaw10.ClauseParts: the walk: a clause subsumes itself, and what one that it subsumes subsumes; an empty one all.
-/
import Derived.Test.YtdkclipjlleacaaClauseAlive
import Derived.Test.YtdkclipjlleacaaSub
namespace Go.Proofs.Ytdkclipjlleacaa.clauseParts
open Go.RowKit Base
set_option linter.unusedVariables false

theorem subs_refl (a : List Int) : Clause.subs a a = true := Clause.subs_iff.2 fun x h => h
theorem subs_trans {a b c : List Int} (h1 : Clause.subs a b = true) (h2 : Clause.subs b c = true) : Clause.subs a c = true :=
  Clause.subs_iff.2 fun x h => Clause.subs_iff.1 h2 x (Clause.subs_iff.1 h1 x h)

set_option maxHeartbeats 2000000 in
theorem walk (a0 : Option Addr) (c0 : Nat) (x0 : List Int) {w : World} (s0 : Sl w a0 x0.length c0 (ints x0)) (w0 : Clause.Wf x0) (z0 : x0.length * 8 ≤ 140737488351232)
    (a1 : Option Addr) (c1 : Nat) (x1 : List Int) (s1 : Sl w a1 x1.length c1 (ints x1)) (w1 : Clause.Wf x1) (z1 : x1.length * 8 ≤ 140737488351232)
    (a2 : Option Addr) (c2 : Nat) (x2 : List Int) (s2 : Sl w a2 x2.length c2 (ints x2)) (w2 : Clause.Wf x2) (z2 : x2.length * 8 ≤ 140737488351232) (W : World) (hW : W = w) :
    Calls Try.prog 4 #[.slice a0 x0.length c0, .slice a1 x1.length c1, .slice a2 x2.length c2] W fun e w' => e = .returned (.bool true) ∧ Below W.heap.size W w' := by
  subst hW
  clear w0 w1 w2 z0 z1 z2
  have HA := Lib.hid (ClauseLaw.alive_any W)
  have HT := Lib.hid (@subs_trans x0 x1 x2)
  have S := fun V (hV : Below W.heap.size W V) => Clause.subsumes_any V a0 _ c0 x0 (s0.next hV) a0 _ c0 x0 (s0.next hV)
  have Z := fun V (hV : Below W.heap.size W V) => Clause.subsumes_any V none 0 0 [] (Sl.nil V) a0 _ c0 x0 (s0.next hV)
  have AB := fun V (hV : Below W.heap.size W V) => Clause.subsumes_any V a0 _ c0 x0 (s0.next hV) a1 _ c1 x1 (s1.next hV)
  have BC := fun V (hV : Below W.heap.size W V) => Clause.subsumes_any V a1 _ c1 x1 (s1.next hV) a2 _ c2 x2 (s2.next hV)
  have AC := fun V (hV : Below W.heap.size W V) => Clause.subsumes_any V a0 _ c0 x0 (s0.next hV) a2 _ c2 x2 (s2.next hV)
  simp only [subs_refl] at S
  have hz : Clause.subs [] x0 = true := rfl
  simp only [hz] at Z
  generalize Clause.subs x0 x1 = p at *
  generalize Clause.subs x1 x2 = q at *
  generalize Clause.subs x0 x2 = r at *
  have HS := Lib.hid S
  have HZ := Lib.hid Z
  have HAB := Lib.hid AB
  have HBC := Lib.hid BC
  have HAC := Lib.hid AC
  clear S Z AB BC AC s0 s1 s2 hz
  generalize x0.length = n0 at *
  generalize x1.length = n1 at *
  generalize x2.length = n2 at *
  go_enter Try.func4, Try.ntmps4
  go_wp2_with fail
  refine HA.out.mono ?_; rintro e w1 ⟨rfl, hb1⟩
  have HB1 := Lib.hid hb1
  clear hb1
  go_wp2_with fail
  refine (HS.out w1 HB1.out).mono ?_; rintro e w2 ⟨rfl, hb⟩
  have HB2 := Lib.hid (HB1.out.trans (hb.mono HB1.out.size))
  clear hb
  go_wp2_with fail
  refine (HZ.out w2 HB2.out).mono ?_; rintro e w3 ⟨rfl, hb⟩
  have HB3 := Lib.hid (HB2.out.trans (hb.mono HB2.out.size))
  clear hb
  go_wp2_with fail
  refine (HAB.out w3 HB3.out).mono ?_; rintro e w4 ⟨rfl, hb⟩
  have HB4 := Lib.hid (HB3.out.trans (hb.mono HB3.out.size))
  clear hb
  cases p
  · go_wp2_with fail
    go_ret
    exact ⟨rfl, HB4.out⟩
  · go_wp2_with fail
    refine (HBC.out w4 HB4.out).mono ?_; rintro e w5 ⟨rfl, hb⟩
    have HB5 := Lib.hid (HB4.out.trans (hb.mono HB4.out.size))
    clear hb
    cases q
    · go_wp2_with fail
      go_ret
      exact ⟨rfl, HB5.out⟩
    · go_wp2_with fail
      refine (HAC.out w5 HB5.out).mono ?_; rintro e w6 ⟨rfl, hb⟩
      have HB6 := Lib.hid (HB5.out.trans (hb.mono HB5.out.size))
      clear hb
      have hr : r = true := by first | exact HT.out rfl rfl | exact HT.out trivial trivial
      subst hr
      go_wp2_with fail
      go_ret
      exact ⟨rfl, HB6.out⟩
end Go.Proofs.Ytdkclipjlleacaa.clauseParts
