/-
  The reference's Same: of one and the same circuit.
-/
import Derived.Test.YthdhlkcdbogcaaaOwnC
import Derived.Test.YthdhlkcdbogcaaaEqR
import Derived.Deep.DeepCutAuto
import Derived.BigQuiet
namespace Go.Proofs.Ythdhlkcdbogcaaa
open Go.RowKit Base
set_option linter.unusedVariables false
set_option linter.unusedSimpArgs false
namespace Circuit


set_option maxRecDepth 8000 in
set_option maxHeartbeats 16000000 in
theorem refSame_any (w : World) (x : Circ) (p q : At) (hin : InCirc w x p) (hiq : InCirc w x q) :
    Calls Try.prog 10 #[.agg (cells x p), .agg (cells x q)] w fun e w' => e = .returned (.bool true) ∧ Below w.heap.size w w' := by
  obtain ⟨a1, c1, a2, c2, a3, c3, a4, c4, a5, c5, a6, c6, a7, c7⟩ := p
  obtain ⟨b1, d1, b2, d2, b3, d3, b4, d4, b5, d5, b6, d6, b7, d7⟩ := q
  obtain ⟨mx, ins, lats, outs, bads, invs, ands, names⟩ := x
  obtain ⟨i1, i2, i3, i4, i5, i6, i7⟩ := hin
  obtain ⟨j1, j2, j3, j4, j5, j6, j7⟩ := hiq
  simp only [cells] at *
  obtain ⟨W1, hW1⟩ : ∃ W1, w.alloc (.cells #[.int .i64 mx, .slice a1 ins.length c1, .slice a2 lats.length c2, .slice a3 outs.length c3, .slice a4 bads.length c4, .slice a5 invs.length c5, .slice a6 ands.length c6, .slice a7 names.length c7] 27) = W1 := ⟨_, rfl⟩
  obtain ⟨W2, hW2⟩ : ∃ W2, W1.alloc (.cells #[.int .i64 mx, .slice b1 ins.length d1, .slice b2 lats.length d2, .slice b3 outs.length d3, .slice b4 bads.length d4, .slice b5 invs.length d5, .slice b6 ands.length d6, .slice b7 names.length d7] 27) = W2 := ⟨_, rfl⟩
  have h1 : Below w.heap.size w W1 := by rw [← hW1]; exact (Below.refl _ _).alloc (Nat.le_refl _) _
  have h2 : Below W1.heap.size W1 W2 := by rw [← hW2]; exact (Below.refl _ _).alloc (Nat.le_refl _) _
  have X1 : BoxN w.heap.size [.int .i64 mx, .slice a1 ins.length c1, .slice a2 lats.length c2, .slice a3 outs.length c3, .slice a4 bads.length c4, .slice a5 invs.length c5, .slice a6 ands.length c6, .slice a7 names.length c7] W2 := by
    have h := BoxN.new w #[.int .i64 mx, .slice a1 ins.length c1, .slice a2 lats.length c2, .slice a3 outs.length c3, .slice a4 bads.length c4, .slice a5 invs.length c5, .slice a6 ands.length c6, .slice a7 names.length c7] 27
    rw [hW1] at h
    exact h.next h2 h.lt
  have X2 : BoxN W1.heap.size [.int .i64 mx, .slice b1 ins.length d1, .slice b2 lats.length d2, .slice b3 outs.length d3, .slice b4 bads.length d4, .slice b5 invs.length d5, .slice b6 ands.length d6, .slice b7 names.length d7] W2 := by
    have h := BoxN.new W1 #[.int .i64 mx, .slice b1 ins.length d1, .slice b2 lats.length d2, .slice b3 outs.length d3, .slice b4 bads.length d4, .slice b5 invs.length d5, .slice b6 ands.length d6, .slice b7 names.length d7] 27
    rw [hW2] at h
    exact h
  have HB2 := Lib.hid (h1.trans (h2.mono h1.size))
  have HX1 := Lib.hid X1
  have HX2 := Lib.hid X2
  have HQ1 := Lib.hid (fun (U : World) (hU : Below W2.heap.size W2 U) => EqT.same U a1 b1 c1 d1 ins (i1.next (HB2.out.trans (hU.mono HB2.out.size))) (j1.next (HB2.out.trans (hU.mono HB2.out.size))))
  have HQ3 := Lib.hid (fun (U : World) (hU : Below W2.heap.size W2 U) => EqT.same U a3 b3 c3 d3 outs (i3.next (HB2.out.trans (hU.mono HB2.out.size))) (j3.next (HB2.out.trans (hU.mono HB2.out.size))))
  have HQ4 := Lib.hid (fun (U : World) (hU : Below W2.heap.size W2 U) => EqT.same U a4 b4 c4 d4 bads (i4.next (HB2.out.trans (hU.mono HB2.out.size))) (j4.next (HB2.out.trans (hU.mono HB2.out.size))))
  have HQ5 := Lib.hid (fun (U : World) (hU : Below W2.heap.size W2 U) => EqT.same U a5 b5 c5 d5 invs (i5.next (HB2.out.trans (hU.mono HB2.out.size))) (j5.next (HB2.out.trans (hU.mono HB2.out.size))))
  have S2 := Lib.hid (fun (U : World) (hU : Below w.heap.size w U) => i2.next hU)
  have R2 := Lib.hid (fun (U : World) (hU : Below w.heap.size w U) => j2.next hU)
  have l2 := i2.cap
  have g2 := i2.big
  have lq2 := j2.cap
  have gq2 := j2.big
  have S6 := Lib.hid (fun (U : World) (hU : Below w.heap.size w U) => i6.next hU)
  have R6 := Lib.hid (fun (U : World) (hU : Below w.heap.size w U) => j6.next hU)
  have l6 := i6.cap
  have g6 := i6.big
  have lq6 := j6.cap
  have gq6 := j6.big
  have S7 := Lib.hid (fun (U : World) (hU : Below w.heap.size w U) => i7.next hU)
  have R7 := Lib.hid (fun (U : World) (hU : Below w.heap.size w U) => j7.next hU)
  have l7 := i7.cap
  have g7 := i7.big
  have lq7 := j7.cap
  have gq7 := j7.big
  clear h1 h2 X1 X2 i1 i2 i3 i4 i5 i6 i7 j1 j2 j3 j4 j5 j6 j7
  go_enter Try.func10, Try.ntmps10
  go_upto_region 1 with fail
  clear hW1 hW2
  have HD0 : Hid (Below W2.heap.size W2 W2) := Below.refl _ _

  have HC1 := Lib.hid (HQ1.out W2 HD0.out)
  have m0 := (HX1.out.next HD0.out HX1.out.lt).at' 0 _ rfl
  have n0 := (HX2.out.next HD0.out HX2.out.lt).at' 0 _ rfl
  have m1 := (HX1.out.next HD0.out HX1.out.lt).at' 1 _ rfl
  have n1 := (HX2.out.next HD0.out HX2.out.lt).at' 1 _ rfl
  go_wp2_with fail
  with_reducible refine HC1.out.mono ?_
  rintro e w1 ⟨rfl, hd⟩
  have HD1 : Hid (Below W2.heap.size W2 w1) := by obtain ⟨m, rfl⟩ := hd; exact below_drewN HD0.out m
  clear m1 n1 hd m0 n0
  have HC2 := Lib.hid (HQ3.out w1 HD1.out)
  have m1 := (HX1.out.next HD1.out HX1.out.lt).at' 3 _ rfl
  have n1 := (HX2.out.next HD1.out HX2.out.lt).at' 3 _ rfl
  go_wp2_with fail
  with_reducible refine HC2.out.mono ?_
  rintro e w2 ⟨rfl, hd⟩
  have HD2 : Hid (Below W2.heap.size W2 w2) := by obtain ⟨m, rfl⟩ := hd; exact below_drewN HD1.out m
  clear m1 n1 hd
  have HC3 := Lib.hid (HQ4.out w2 HD2.out)
  have m1 := (HX1.out.next HD2.out HX1.out.lt).at' 4 _ rfl
  have n1 := (HX2.out.next HD2.out HX2.out.lt).at' 4 _ rfl
  go_wp2_with fail
  with_reducible refine HC3.out.mono ?_
  rintro e w3 ⟨rfl, hd⟩
  have HD3 : Hid (Below W2.heap.size W2 w3) := by obtain ⟨m, rfl⟩ := hd; exact below_drewN HD2.out m
  clear m1 n1 hd
  have HC4 := Lib.hid (HQ5.out w3 HD3.out)
  have m1 := (HX1.out.next HD3.out HX1.out.lt).at' 5 _ rfl
  have n1 := (HX2.out.next HD3.out HX2.out.lt).at' 5 _ rfl
  go_wp2_with fail
  with_reducible refine HC4.out.mono ?_
  rintro e w4 ⟨rfl, hd⟩
  have HD4 : Hid (Below W2.heap.size W2 w4) := by obtain ⟨m, rfl⟩ := hd; exact below_drewN HD3.out m
  clear m1 n1 hd
  have m2 := (HX1.out.next HD4.out HX1.out.lt).at' 2 _ rfl
  have n2 := (HX2.out.next HD4.out HX2.out.lt).at' 2 _ rfl
  have m6 := (HX1.out.next HD4.out HX1.out.lt).at' 6 _ rfl
  have n6 := (HX2.out.next HD4.out HX2.out.lt).at' 6 _ rfl
  have m7 := (HX1.out.next HD4.out HX1.out.lt).at' 7 _ rfl
  have n7 := (HX2.out.next HD4.out HX2.out.lt).at' 7 _ rfl
  go_wp2_with fail
  clear m2 n2 m6 n6 m7 n7
  go_loopw [5] (fun s wr => ∃ k : Nat, k ≤ lats.length ∧ s = .int .i64 k ∧ Hid (Below W2.heap.size W2 wr)) (fun s _ => lats.length - (intOf s).toNat)
  case atStart => exact ⟨0, Nat.zero_le _, rfl, HD4⟩
  case round =>
    obtain ⟨k, hk, rfl, hb⟩ := hrel
    have mj := (HX1.out.next hb.out HX1.out.lt).at' 2 _ rfl
    have nj := (HX2.out.next hb.out HX2.out.lt).at' 2 _ rfl
    by_cases hlt : k < lats.length
    · obtain ⟨b, o, hx, hae, hbs, e0, e1, e2⟩ := SlT.tri (S2.out wr (HB2.out.trans (hb.out.mono HB2.out.size))) hlt
      obtain ⟨b', o', hy, hae', hbs', f0, f1, f2⟩ := SlT.tri (R2.out wr (HB2.out.trans (hb.out.mono HB2.out.size))) hlt
      subst hae hae'
      generalize lats[k] = t at *
      obtain ⟨t0, t1, t2⟩ := t
      simp only at e0 e1 e2 f0 f1 f2
      clear hx hy hbs hbs'
      go_wp2_with fail
      go_quiet (fail)
      go_wp2_with fail
      go_roundw
      case rel => exact ⟨k + 1, by omega, by go_num, below_drewN hb.out _⟩
      case measure => simp [intOf]; omega
    · have HL1 := hb
      generalize wr = v1 at *
      clear hb
      go_wp2_with fail
      clear hk hlt mj nj
      go_loopw [6] (fun s wr => ∃ k : Nat, k ≤ ands.length ∧ s = .int .i64 k ∧ Hid (Below W2.heap.size W2 wr)) (fun s _ => ands.length - (intOf s).toNat)
      case atStart => exact ⟨0, Nat.zero_le _, rfl, HL1⟩
      case round =>
        obtain ⟨k, hk, rfl, hb⟩ := hrel
        have mj := (HX1.out.next hb.out HX1.out.lt).at' 6 _ rfl
        have nj := (HX2.out.next hb.out HX2.out.lt).at' 6 _ rfl
        by_cases hlt : k < ands.length
        · obtain ⟨b, o, hx, hae, hbs, e0, e1, e2⟩ := SlT.tri (S6.out wr (HB2.out.trans (hb.out.mono HB2.out.size))) hlt
          obtain ⟨b', o', hy, hae', hbs', f0, f1, f2⟩ := SlT.tri (R6.out wr (HB2.out.trans (hb.out.mono HB2.out.size))) hlt
          subst hae hae'
          generalize ands[k] = t at *
          obtain ⟨t0, t1, t2⟩ := t
          simp only at e0 e1 e2 f0 f1 f2
          clear hx hy hbs hbs'
          go_wp2_with fail
          go_quiet (fail)
          go_wp2_with fail
          go_roundw
          case rel => exact ⟨k + 1, by omega, by go_num, below_drewN hb.out _⟩
          case measure => simp [intOf]; omega
        · have HL2 := hb
          generalize wr = v2 at *
          clear hb
          go_wp2_with fail
          clear hk hlt mj nj
          go_loopw [7] (fun s wr => ∃ k : Nat, k ≤ names.length ∧ s = .int .i64 k ∧ Hid (Below W2.heap.size W2 wr)) (fun s _ => names.length - (intOf s).toNat)
          case atStart => exact ⟨0, Nat.zero_le _, rfl, HL2⟩
          case round =>
            obtain ⟨k, hk, rfl, hb⟩ := hrel
            have mj := (HX1.out.next hb.out HX1.out.lt).at' 7 _ rfl
            have nj := (HX2.out.next hb.out HX2.out.lt).at' 7 _ rfl
            by_cases hlt : k < names.length
            · obtain ⟨b, o, hx, hae, hbs, e0, e1, e2⟩ := Circuit.SlT.name (S7.out wr (HB2.out.trans (hb.out.mono HB2.out.size))) hlt
              obtain ⟨b', o', hy, hae', hbs', f0, f1, f2⟩ := Circuit.SlT.name (R7.out wr (HB2.out.trans (hb.out.mono HB2.out.size))) hlt
              subst hae hae'
              generalize names[k] = t at *
              obtain ⟨t0, t1, t2⟩ := t
              simp only at e0 e1 e2 f0 f1 f2
              clear hx hy hbs hbs'
              go_wp2_with fail
              go_quiet (fail)
              go_wp2_with fail
              go_roundw
              case rel => exact ⟨k + 1, by omega, by go_num, below_drewN hb.out _⟩
              case measure => simp [intOf]; omega
            · have HL3 := hb
              generalize wr = v3 at *
              clear hb
              go_wp2_with fail
              go_ret
              exact ⟨rfl, HB2.out.trans (HL3.out.mono HB2.out.size)⟩
end Circuit
end Go.Proofs.Ythdhlkcdbogcaaa