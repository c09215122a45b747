/-
  interlockplain.Own: a circuit in memory of its own.
-/
import Derived.Test.YtpejpjiipcolbaaOwnC
import Derived.Test.YtpejpjiipcolbaaCloneT
import Derived.Test.YtpejpjiipcolbaaCloneI
import Derived.Test.YtpejpjiipcolbaaHeldTo
import Derived.Deep.DeepCutAuto
import Derived.BigQuiet
namespace Go.Proofs.Ytpejpjiipcolbaa
open Go.RowKit Base
set_option linter.unusedVariables false
set_option linter.unusedSimpArgs false
namespace Circuit

set_option maxRecDepth 8000 in
set_option maxHeartbeats 16000000 in
theorem own_any (w : World) (x : Circ) (p : At) (hin : InCirc w x p) (hfit : Fits x) :
    Calls Try.prog 14 #[.agg (cells x p)] w fun e w' => ∃ p', e = .returned (.agg (cells x p')) ∧ OwnC w' w.heap.size x p' ∧ Below w.heap.size w w' := by
  obtain ⟨a1, c1, a2, c2, a3, c3, a4, c4, a5, c5, a6, c6, a7, c7⟩ := p
  obtain ⟨mx, ins, lats, outs, bads, invs, ands, names⟩ := x
  obtain ⟨i1, i2, i3, i4, i5, i6, i7⟩ := hin
  obtain ⟨z1, z2, z3, z4, z5, z6, z7⟩ := hfit
  simp only [cells] at *
  obtain ⟨W1, hW1⟩ : ∃ W1, w.alloc (.cells #[.int .i64 mx, .slice a1 ins.length c1, .slice a2 lats.length c2, .slice a3 outs.length c3, .slice a4 bads.length c4, .slice a5 invs.length c5, .slice a6 ands.length c6, .slice a7 names.length c7] 27) = W1 := ⟨_, rfl⟩
  obtain ⟨W2, hW2⟩ : ∃ W2, W1.alloc (.cells #[.int .i64 0, .slice none 0 0, .slice none 0 0, .slice none 0 0, .slice none 0 0, .slice none 0 0, .slice none 0 0, .slice none 0 0] 27) = W2 := ⟨_, rfl⟩
  have h1 : Below w.heap.size w W1 := by rw [← hW1]; exact (Below.refl _ _).alloc (Nat.le_refl _) _
  have h2 : Below W1.heap.size W1 W2 := by rw [← hW2]; exact (Below.refl _ _).alloc (Nat.le_refl _) _
  have e1 : W1.heap.size = w.heap.size + 1 := by rw [← hW1]; simp
  have e2 : W2.heap.size = w.heap.size + 2 := by rw [← hW2]; simp [e1]
  have X1 : BoxN w.heap.size [.int .i64 mx, .slice a1 ins.length c1, .slice a2 lats.length c2, .slice a3 outs.length c3, .slice a4 bads.length c4, .slice a5 invs.length c5, .slice a6 ands.length c6, .slice a7 names.length c7] W2 := by
    have h := BoxN.new w #[.int .i64 mx, .slice a1 ins.length c1, .slice a2 lats.length c2, .slice a3 outs.length c3, .slice a4 bads.length c4, .slice a5 invs.length c5, .slice a6 ands.length c6, .slice a7 names.length c7] 27
    rw [hW1] at h
    exact h.next h2 h.lt
  have X2 : BoxN W1.heap.size [.int .i64 0, .slice none 0 0, .slice none 0 0, .slice none 0 0, .slice none 0 0, .slice none 0 0, .slice none 0 0, .slice none 0 0] W2 := by
    have h := BoxN.new W1 #[.int .i64 0, .slice none 0 0, .slice none 0 0, .slice none 0 0, .slice none 0 0, .slice none 0 0, .slice none 0 0, .slice none 0 0] 27
    rw [hW2] at h
    exact h
  have h12 := h1.trans (h2.mono h1.size)
  have HI1 := Lib.hid i1
  have HI2 := Lib.hid i2
  have HI3 := Lib.hid i3
  have HI4 := Lib.hid i4
  have HI5 := Lib.hid i5
  have HI6 := Lib.hid i6
  have HI7 := Lib.hid i7
  have HB2 := Lib.hid h12
  have HE1 := Lib.hid e1
  have HE2 := Lib.hid e2
  have HX1 := Lib.hid X1
  have HX2 := Lib.hid X2
  have Z1 := Lib.hid z1
  have Z2 := Lib.hid z2
  have Z3 := Lib.hid z3
  have Z4 := Lib.hid z4
  have Z5 := Lib.hid z5
  have Z6 := Lib.hid z6
  have Z7 := Lib.hid z7
  clear i1 i2 i3 i4 i5 i6 i7 h1 h2 e1 e2 X1 X2 h12 z1 z2 z3 z4 z5 z6 z7
  go_enter Try.func14, Try.ntmps14
  go_upto_region 1 with fail
  clear hW1 hW2

  have BV0 := HB2
  have X0 := HX1
  have Y0 := HX2
  have ZV0 : Hid (W2.heap.size ≤ W2.heap.size) := Nat.le_refl _
  have HL0 := Lib.hid HX1.out.lt
  have HL1 := Lib.hid HX2.out.lt
  have HNE : Hid (w.heap.size ≠ W1.heap.size) := by show _ ≠ _; have := HE1.out; omega
  obtain ⟨U1, hU1⟩ : ∃ U, W2.alloc (.cells #[] 3) = U := ⟨_, rfl⟩
  have hbU1 : Below W2.heap.size W2 U1 := by rw [← hU1]; exact (Below.refl _ _).alloc (Nat.le_refl _) _
  have hoU1 : U1.ownsRow W2.heap.size 3 1 (.slice (some ⟨W2.heap.size, 0, none⟩) 0 0) 0 [] := by rw [← hU1]; exact World.ownsRow_lit W2 #[] 0 (Nat.le_refl _) (by unfold maxLen; omega) rfl
  have HOU1 := Lib.hid hoU1
  have HSU1 := Lib.hid (HI1.out.next (BV0.out.trans (hbU1.mono BV0.out.size)))
  have XU1 := X0.out.next hbU1 X0.out.lt
  have q1 := XU1.at' 1 _ rfl
  have HXU1 := Lib.hid XU1
  have HBU1 := Lib.hid hbU1
  clear hoU1 XU1 hbU1
  go_upto_region 2 with ((with_reducible refine wpL_app (B := W2.heap.size) (W := U1) _ 0 [] _ ins.length c1 (ints ins) CloneI.info Try.underlying22 ?_ ?_ ?_ (ints_one ins) HOU1.out HSU1.out HBU1.out.size ?_ ?_ (Below.refl _ _) ?_); rfl; rfl; rfl; (have := Z1.out; omega); (have := Z1.out; omega); (rw [Nat.zero_add, List.nil_append]; intro b1 d1 T1 hoT1 hbT1 hzT1; have f1 := (HXU1.out.next hbT1 (Nat.lt_of_lt_of_le HL0.out ZV0.out)).fz 1; have g1 := (HXU1.out.next hbT1 (Nat.lt_of_lt_of_le HL0.out ZV0.out)).at' 1 _ rfl))
  obtain ⟨V1, hV1⟩ : ∃ U, T1.setCell ⟨w.heap.size, 1, none⟩ (.slice b1 ins.length d1) = U := ⟨_, rfl⟩
  rw [hV1]
  have XT1 := HXU1.out.next hbT1 (Nat.lt_of_lt_of_le HL0.out ZV0.out)
  have xs1 := XT1.set 1 (.slice b1 ins.length d1)
  rw [hV1] at xs1
  have X1 := Lib.hid xs1
  have ys1 := ((Y0.out.next HBU1.out Y0.out.lt).next hbT1 (Nat.lt_of_lt_of_le HL1.out ZV0.out)).other (a := ⟨w.heap.size, 1, none⟩) HNE.out (.slice b1 ins.length d1)
  rw [hV1] at ys1
  have Y1 := Lib.hid ys1
  have bb1 : Below W2.heap.size W2 T1 := HBU1.out.trans (hbT1.mono (Nat.le_refl _))
  have bv1 := (BV0.out.trans (bb1.mono BV0.out.size)).setCell (p := ⟨w.heap.size, 1, none⟩) (Nat.le_refl _) (.slice b1 ins.length d1)
  rw [hV1] at bv1
  have BV1 := Lib.hid bv1
  have ZV1 : Hid (W2.heap.size ≤ V1.heap.size) := by show _ ≤ _; rw [← hV1]; simp only [World.setCell, Array.size_modify]; exact Nat.le_trans ZV0.out bb1.size
  have ow1_1 := ownsRow_setCell_below (own_mono hoT1 ZV0.out) (a := ⟨w.heap.size, 1, none⟩) HL0.out (.slice b1 ins.length d1)
  rw [hV1] at ow1_1
  have O1_1 := Lib.hid ow1_1
  clear hU1 hV1 XT1 xs1 ys1 bb1 bv1 hoT1 hbT1 hzT1 f1 g1 q1 ow1_1 X0 Y0 BV0 HXU1 HSU1 HOU1 HBU1
  obtain ⟨U2, hU2⟩ : ∃ U, V1.alloc (.cells #[] 47) = U := ⟨_, rfl⟩
  have hbU2 : Below V1.heap.size V1 U2 := by rw [← hU2]; exact (Below.refl _ _).alloc (Nat.le_refl _) _
  have hoU2 : U2.ownsRow V1.heap.size 47 3 (.slice (some ⟨V1.heap.size, 0, none⟩) 0 0) 0 ([] : List (List Value)).flatten := by rw [← hU2]; exact World.ownsRow_lit V1 #[] 0 (Nat.le_refl _) (by unfold maxLen; omega) rfl
  have HOU2 := Lib.hid hoU2
  have HSU2 := Lib.hid (HI2.out.next (BV1.out.trans (hbU2.mono BV1.out.size)))
  have XU2 := X1.out.next hbU2 X1.out.lt
  have q2 := XU2.at' 2 _ rfl
  have HXU2 := Lib.hid XU2
  have HBU2 := Lib.hid hbU2
  clear hoU2 XU2 hbU2
  go_upto_region 3 with ((with_reducible refine wpL_appK (k := 3) (by decide) (B := V1.heap.size) (W := U2) _ 0 [] _ lats.length c2 (tris lats) CloneT.info_latch Try.underlying23 ?_ ?_ ?_ (tris_one lats) (tris_row lats) HOU2.out HSU2.out HBU2.out.size ?_ ?_ (Below.refl _ _) ?_); rfl; rfl; rfl; (have := Z2.out; omega); (have := Z2.out; omega); (rw [Nat.zero_add, List.nil_append]; intro b2 d2 T2 hoT2 hbT2 hzT2; have f2 := (HXU2.out.next hbT2 (Nat.lt_of_lt_of_le HL0.out ZV1.out)).fz 2; have g2 := (HXU2.out.next hbT2 (Nat.lt_of_lt_of_le HL0.out ZV1.out)).at' 2 _ rfl))
  obtain ⟨V2, hV2⟩ : ∃ U, T2.setCell ⟨w.heap.size, 2, none⟩ (.slice b2 lats.length d2) = U := ⟨_, rfl⟩
  rw [hV2]
  have XT2 := HXU2.out.next hbT2 (Nat.lt_of_lt_of_le HL0.out ZV1.out)
  have xs2 := XT2.set 2 (.slice b2 lats.length d2)
  rw [hV2] at xs2
  have X2 := Lib.hid xs2
  have ys2 := ((Y1.out.next HBU2.out Y1.out.lt).next hbT2 (Nat.lt_of_lt_of_le HL1.out ZV1.out)).other (a := ⟨w.heap.size, 2, none⟩) HNE.out (.slice b2 lats.length d2)
  rw [hV2] at ys2
  have Y2 := Lib.hid ys2
  have bb2 : Below V1.heap.size V1 T2 := HBU2.out.trans (hbT2.mono (Nat.le_refl _))
  have bv2 := (BV1.out.trans (bb2.mono BV1.out.size)).setCell (p := ⟨w.heap.size, 2, none⟩) (Nat.le_refl _) (.slice b2 lats.length d2)
  rw [hV2] at bv2
  have BV2 := Lib.hid bv2
  have ZV2 : Hid (W2.heap.size ≤ V2.heap.size) := by show _ ≤ _; rw [← hV2]; simp only [World.setCell, Array.size_modify]; exact Nat.le_trans ZV1.out bb2.size
  have ow2_1 := ownsRow_setCell_below (own_next O1_1.out bb2) (a := ⟨w.heap.size, 2, none⟩) HL0.out (.slice b2 lats.length d2)
  rw [hV2] at ow2_1
  have O2_1 := Lib.hid ow2_1
  have ow2_2 := ownsRow_setCell_below (own_mono hoT2 ZV1.out) (a := ⟨w.heap.size, 2, none⟩) HL0.out (.slice b2 lats.length d2)
  rw [hV2] at ow2_2
  have O2_2 := Lib.hid ow2_2
  clear hU2 hV2 XT2 xs2 ys2 bb2 bv2 hoT2 hbT2 hzT2 f2 g2 q2 ow2_1 ow2_2 X1 Y1 BV1 O1_1 HXU2 HSU2 HOU2 HBU2
  obtain ⟨U3, hU3⟩ : ∃ U, V2.alloc (.cells #[] 33) = U := ⟨_, rfl⟩
  have hbU3 : Below V2.heap.size V2 U3 := by rw [← hU3]; exact (Below.refl _ _).alloc (Nat.le_refl _) _
  have hoU3 : U3.ownsRow V2.heap.size 33 3 (.slice (some ⟨V2.heap.size, 0, none⟩) 0 0) 0 ([] : List (List Value)).flatten := by rw [← hU3]; exact World.ownsRow_lit V2 #[] 0 (Nat.le_refl _) (by unfold maxLen; omega) rfl
  have HOU3 := Lib.hid hoU3
  have HSU3 := Lib.hid (HI6.out.next (BV2.out.trans (hbU3.mono BV2.out.size)))
  have XU3 := X2.out.next hbU3 X2.out.lt
  have q3 := XU3.at' 6 _ rfl
  have HXU3 := Lib.hid XU3
  have HBU3 := Lib.hid hbU3
  clear hoU3 XU3 hbU3
  go_upto_region 4 with ((with_reducible refine wpL_appK (k := 3) (by decide) (B := V2.heap.size) (W := U3) _ 0 [] _ ands.length c6 (tris ands) CloneT.info_and Try.underlying24 ?_ ?_ ?_ (tris_one ands) (tris_row ands) HOU3.out HSU3.out HBU3.out.size ?_ ?_ (Below.refl _ _) ?_); rfl; rfl; rfl; (have := Z6.out; omega); (have := Z6.out; omega); (rw [Nat.zero_add, List.nil_append]; intro b6 d6 T3 hoT3 hbT3 hzT3; have f3 := (HXU3.out.next hbT3 (Nat.lt_of_lt_of_le HL0.out ZV2.out)).fz 6; have g3 := (HXU3.out.next hbT3 (Nat.lt_of_lt_of_le HL0.out ZV2.out)).at' 6 _ rfl))
  obtain ⟨V3, hV3⟩ : ∃ U, T3.setCell ⟨w.heap.size, 6, none⟩ (.slice b6 ands.length d6) = U := ⟨_, rfl⟩
  rw [hV3]
  have XT3 := HXU3.out.next hbT3 (Nat.lt_of_lt_of_le HL0.out ZV2.out)
  have xs3 := XT3.set 6 (.slice b6 ands.length d6)
  rw [hV3] at xs3
  have X3 := Lib.hid xs3
  have ys3 := ((Y2.out.next HBU3.out Y2.out.lt).next hbT3 (Nat.lt_of_lt_of_le HL1.out ZV2.out)).other (a := ⟨w.heap.size, 6, none⟩) HNE.out (.slice b6 ands.length d6)
  rw [hV3] at ys3
  have Y3 := Lib.hid ys3
  have bb3 : Below V2.heap.size V2 T3 := HBU3.out.trans (hbT3.mono (Nat.le_refl _))
  have bv3 := (BV2.out.trans (bb3.mono BV2.out.size)).setCell (p := ⟨w.heap.size, 6, none⟩) (Nat.le_refl _) (.slice b6 ands.length d6)
  rw [hV3] at bv3
  have BV3 := Lib.hid bv3
  have ZV3 : Hid (W2.heap.size ≤ V3.heap.size) := by show _ ≤ _; rw [← hV3]; simp only [World.setCell, Array.size_modify]; exact Nat.le_trans ZV2.out bb3.size
  have ow3_1 := ownsRow_setCell_below (own_next O2_1.out bb3) (a := ⟨w.heap.size, 6, none⟩) HL0.out (.slice b6 ands.length d6)
  rw [hV3] at ow3_1
  have O3_1 := Lib.hid ow3_1
  have ow3_2 := ownsRow_setCell_below (own_next O2_2.out bb3) (a := ⟨w.heap.size, 6, none⟩) HL0.out (.slice b6 ands.length d6)
  rw [hV3] at ow3_2
  have O3_2 := Lib.hid ow3_2
  have ow3_6 := ownsRow_setCell_below (own_mono hoT3 ZV2.out) (a := ⟨w.heap.size, 6, none⟩) HL0.out (.slice b6 ands.length d6)
  rw [hV3] at ow3_6
  have O3_6 := Lib.hid ow3_6
  clear hU3 hV3 XT3 xs3 ys3 bb3 bv3 hoT3 hbT3 hzT3 f3 g3 q3 ow3_1 ow3_2 ow3_6 X2 Y2 BV2 O2_1 O2_2 HXU3 HSU3 HOU3 HBU3
  obtain ⟨U4, hU4⟩ : ∃ U, V3.alloc (.cells #[] 3) = U := ⟨_, rfl⟩
  have hbU4 : Below V3.heap.size V3 U4 := by rw [← hU4]; exact (Below.refl _ _).alloc (Nat.le_refl _) _
  have hoU4 : U4.ownsRow V3.heap.size 3 1 (.slice (some ⟨V3.heap.size, 0, none⟩) 0 0) 0 [] := by rw [← hU4]; exact World.ownsRow_lit V3 #[] 0 (Nat.le_refl _) (by unfold maxLen; omega) rfl
  have HOU4 := Lib.hid hoU4
  have HSU4 := Lib.hid (HI4.out.next (BV3.out.trans (hbU4.mono BV3.out.size)))
  have XU4 := X3.out.next hbU4 X3.out.lt
  have q4 := XU4.at' 4 _ rfl
  have HXU4 := Lib.hid XU4
  have HBU4 := Lib.hid hbU4
  clear hoU4 XU4 hbU4
  go_upto_region 5 with ((with_reducible refine wpL_app (B := V3.heap.size) (W := U4) _ 0 [] _ bads.length c4 (ints bads) CloneI.info Try.underlying22 ?_ ?_ ?_ (ints_one bads) HOU4.out HSU4.out HBU4.out.size ?_ ?_ (Below.refl _ _) ?_); rfl; rfl; rfl; (have := Z4.out; omega); (have := Z4.out; omega); (rw [Nat.zero_add, List.nil_append]; intro b4 d4 T4 hoT4 hbT4 hzT4; have f4 := (HXU4.out.next hbT4 (Nat.lt_of_lt_of_le HL0.out ZV3.out)).fz 4; have g4 := (HXU4.out.next hbT4 (Nat.lt_of_lt_of_le HL0.out ZV3.out)).at' 4 _ rfl))
  obtain ⟨V4, hV4⟩ : ∃ U, T4.setCell ⟨w.heap.size, 4, none⟩ (.slice b4 bads.length d4) = U := ⟨_, rfl⟩
  rw [hV4]
  have XT4 := HXU4.out.next hbT4 (Nat.lt_of_lt_of_le HL0.out ZV3.out)
  have xs4 := XT4.set 4 (.slice b4 bads.length d4)
  rw [hV4] at xs4
  have X4 := Lib.hid xs4
  have ys4 := ((Y3.out.next HBU4.out Y3.out.lt).next hbT4 (Nat.lt_of_lt_of_le HL1.out ZV3.out)).other (a := ⟨w.heap.size, 4, none⟩) HNE.out (.slice b4 bads.length d4)
  rw [hV4] at ys4
  have Y4 := Lib.hid ys4
  have bb4 : Below V3.heap.size V3 T4 := HBU4.out.trans (hbT4.mono (Nat.le_refl _))
  have bv4 := (BV3.out.trans (bb4.mono BV3.out.size)).setCell (p := ⟨w.heap.size, 4, none⟩) (Nat.le_refl _) (.slice b4 bads.length d4)
  rw [hV4] at bv4
  have BV4 := Lib.hid bv4
  have ZV4 : Hid (W2.heap.size ≤ V4.heap.size) := by show _ ≤ _; rw [← hV4]; simp only [World.setCell, Array.size_modify]; exact Nat.le_trans ZV3.out bb4.size
  have ow4_1 := ownsRow_setCell_below (own_next O3_1.out bb4) (a := ⟨w.heap.size, 4, none⟩) HL0.out (.slice b4 bads.length d4)
  rw [hV4] at ow4_1
  have O4_1 := Lib.hid ow4_1
  have ow4_2 := ownsRow_setCell_below (own_next O3_2.out bb4) (a := ⟨w.heap.size, 4, none⟩) HL0.out (.slice b4 bads.length d4)
  rw [hV4] at ow4_2
  have O4_2 := Lib.hid ow4_2
  have ow4_6 := ownsRow_setCell_below (own_next O3_6.out bb4) (a := ⟨w.heap.size, 4, none⟩) HL0.out (.slice b4 bads.length d4)
  rw [hV4] at ow4_6
  have O4_6 := Lib.hid ow4_6
  have ow4_4 := ownsRow_setCell_below (own_mono hoT4 ZV3.out) (a := ⟨w.heap.size, 4, none⟩) HL0.out (.slice b4 bads.length d4)
  rw [hV4] at ow4_4
  have O4_4 := Lib.hid ow4_4
  clear hU4 hV4 XT4 xs4 ys4 bb4 bv4 hoT4 hbT4 hzT4 f4 g4 q4 ow4_1 ow4_2 ow4_6 ow4_4 X3 Y3 BV3 O3_1 O3_2 O3_6 HXU4 HSU4 HOU4 HBU4
  obtain ⟨U5, hU5⟩ : ∃ U, V4.alloc (.cells #[] 3) = U := ⟨_, rfl⟩
  have hbU5 : Below V4.heap.size V4 U5 := by rw [← hU5]; exact (Below.refl _ _).alloc (Nat.le_refl _) _
  have hoU5 : U5.ownsRow V4.heap.size 3 1 (.slice (some ⟨V4.heap.size, 0, none⟩) 0 0) 0 [] := by rw [← hU5]; exact World.ownsRow_lit V4 #[] 0 (Nat.le_refl _) (by unfold maxLen; omega) rfl
  have HOU5 := Lib.hid hoU5
  have HSU5 := Lib.hid (HI3.out.next (BV4.out.trans (hbU5.mono BV4.out.size)))
  have XU5 := X4.out.next hbU5 X4.out.lt
  have q5 := XU5.at' 3 _ rfl
  have HXU5 := Lib.hid XU5
  have HBU5 := Lib.hid hbU5
  clear hoU5 XU5 hbU5
  go_upto_region 6 with ((with_reducible refine wpL_app (B := V4.heap.size) (W := U5) _ 0 [] _ outs.length c3 (ints outs) CloneI.info Try.underlying22 ?_ ?_ ?_ (ints_one outs) HOU5.out HSU5.out HBU5.out.size ?_ ?_ (Below.refl _ _) ?_); rfl; rfl; rfl; (have := Z3.out; omega); (have := Z3.out; omega); (rw [Nat.zero_add, List.nil_append]; intro b3 d3 T5 hoT5 hbT5 hzT5; have f5 := (HXU5.out.next hbT5 (Nat.lt_of_lt_of_le HL0.out ZV4.out)).fz 3; have g5 := (HXU5.out.next hbT5 (Nat.lt_of_lt_of_le HL0.out ZV4.out)).at' 3 _ rfl))
  obtain ⟨V5, hV5⟩ : ∃ U, T5.setCell ⟨w.heap.size, 3, none⟩ (.slice b3 outs.length d3) = U := ⟨_, rfl⟩
  rw [hV5]
  have XT5 := HXU5.out.next hbT5 (Nat.lt_of_lt_of_le HL0.out ZV4.out)
  have xs5 := XT5.set 3 (.slice b3 outs.length d3)
  rw [hV5] at xs5
  have X5 := Lib.hid xs5
  have ys5 := ((Y4.out.next HBU5.out Y4.out.lt).next hbT5 (Nat.lt_of_lt_of_le HL1.out ZV4.out)).other (a := ⟨w.heap.size, 3, none⟩) HNE.out (.slice b3 outs.length d3)
  rw [hV5] at ys5
  have Y5 := Lib.hid ys5
  have bb5 : Below V4.heap.size V4 T5 := HBU5.out.trans (hbT5.mono (Nat.le_refl _))
  have bv5 := (BV4.out.trans (bb5.mono BV4.out.size)).setCell (p := ⟨w.heap.size, 3, none⟩) (Nat.le_refl _) (.slice b3 outs.length d3)
  rw [hV5] at bv5
  have BV5 := Lib.hid bv5
  have ZV5 : Hid (W2.heap.size ≤ V5.heap.size) := by show _ ≤ _; rw [← hV5]; simp only [World.setCell, Array.size_modify]; exact Nat.le_trans ZV4.out bb5.size
  have ow5_1 := ownsRow_setCell_below (own_next O4_1.out bb5) (a := ⟨w.heap.size, 3, none⟩) HL0.out (.slice b3 outs.length d3)
  rw [hV5] at ow5_1
  have O5_1 := Lib.hid ow5_1
  have ow5_2 := ownsRow_setCell_below (own_next O4_2.out bb5) (a := ⟨w.heap.size, 3, none⟩) HL0.out (.slice b3 outs.length d3)
  rw [hV5] at ow5_2
  have O5_2 := Lib.hid ow5_2
  have ow5_6 := ownsRow_setCell_below (own_next O4_6.out bb5) (a := ⟨w.heap.size, 3, none⟩) HL0.out (.slice b3 outs.length d3)
  rw [hV5] at ow5_6
  have O5_6 := Lib.hid ow5_6
  have ow5_4 := ownsRow_setCell_below (own_next O4_4.out bb5) (a := ⟨w.heap.size, 3, none⟩) HL0.out (.slice b3 outs.length d3)
  rw [hV5] at ow5_4
  have O5_4 := Lib.hid ow5_4
  have ow5_3 := ownsRow_setCell_below (own_mono hoT5 ZV4.out) (a := ⟨w.heap.size, 3, none⟩) HL0.out (.slice b3 outs.length d3)
  rw [hV5] at ow5_3
  have O5_3 := Lib.hid ow5_3
  clear hU5 hV5 XT5 xs5 ys5 bb5 bv5 hoT5 hbT5 hzT5 f5 g5 q5 ow5_1 ow5_2 ow5_6 ow5_4 ow5_3 X4 Y4 BV4 O4_1 O4_2 O4_6 O4_4 HXU5 HSU5 HOU5 HBU5
  obtain ⟨U6, hU6⟩ : ∃ U, V5.alloc (.cells #[] 3) = U := ⟨_, rfl⟩
  have hbU6 : Below V5.heap.size V5 U6 := by rw [← hU6]; exact (Below.refl _ _).alloc (Nat.le_refl _) _
  have hoU6 : U6.ownsRow V5.heap.size 3 1 (.slice (some ⟨V5.heap.size, 0, none⟩) 0 0) 0 [] := by rw [← hU6]; exact World.ownsRow_lit V5 #[] 0 (Nat.le_refl _) (by unfold maxLen; omega) rfl
  have HOU6 := Lib.hid hoU6
  have HSU6 := Lib.hid (HI5.out.next (BV5.out.trans (hbU6.mono BV5.out.size)))
  have XU6 := X5.out.next hbU6 X5.out.lt
  have q6 := XU6.at' 5 _ rfl
  have HXU6 := Lib.hid XU6
  have HBU6 := Lib.hid hbU6
  clear hoU6 XU6 hbU6
  go_upto_region 7 with ((with_reducible refine wpL_app (B := V5.heap.size) (W := U6) _ 0 [] _ invs.length c5 (ints invs) CloneI.info Try.underlying22 ?_ ?_ ?_ (ints_one invs) HOU6.out HSU6.out HBU6.out.size ?_ ?_ (Below.refl _ _) ?_); rfl; rfl; rfl; (have := Z5.out; omega); (have := Z5.out; omega); (rw [Nat.zero_add, List.nil_append]; intro b5 d5 T6 hoT6 hbT6 hzT6; have f6 := (HXU6.out.next hbT6 (Nat.lt_of_lt_of_le HL0.out ZV5.out)).fz 5; have g6 := (HXU6.out.next hbT6 (Nat.lt_of_lt_of_le HL0.out ZV5.out)).at' 5 _ rfl))
  obtain ⟨V6, hV6⟩ : ∃ U, T6.setCell ⟨w.heap.size, 5, none⟩ (.slice b5 invs.length d5) = U := ⟨_, rfl⟩
  rw [hV6]
  have XT6 := HXU6.out.next hbT6 (Nat.lt_of_lt_of_le HL0.out ZV5.out)
  have xs6 := XT6.set 5 (.slice b5 invs.length d5)
  rw [hV6] at xs6
  have X6 := Lib.hid xs6
  have ys6 := ((Y5.out.next HBU6.out Y5.out.lt).next hbT6 (Nat.lt_of_lt_of_le HL1.out ZV5.out)).other (a := ⟨w.heap.size, 5, none⟩) HNE.out (.slice b5 invs.length d5)
  rw [hV6] at ys6
  have Y6 := Lib.hid ys6
  have bb6 : Below V5.heap.size V5 T6 := HBU6.out.trans (hbT6.mono (Nat.le_refl _))
  have bv6 := (BV5.out.trans (bb6.mono BV5.out.size)).setCell (p := ⟨w.heap.size, 5, none⟩) (Nat.le_refl _) (.slice b5 invs.length d5)
  rw [hV6] at bv6
  have BV6 := Lib.hid bv6
  have ZV6 : Hid (W2.heap.size ≤ V6.heap.size) := by show _ ≤ _; rw [← hV6]; simp only [World.setCell, Array.size_modify]; exact Nat.le_trans ZV5.out bb6.size
  have ow6_1 := ownsRow_setCell_below (own_next O5_1.out bb6) (a := ⟨w.heap.size, 5, none⟩) HL0.out (.slice b5 invs.length d5)
  rw [hV6] at ow6_1
  have O6_1 := Lib.hid ow6_1
  have ow6_2 := ownsRow_setCell_below (own_next O5_2.out bb6) (a := ⟨w.heap.size, 5, none⟩) HL0.out (.slice b5 invs.length d5)
  rw [hV6] at ow6_2
  have O6_2 := Lib.hid ow6_2
  have ow6_6 := ownsRow_setCell_below (own_next O5_6.out bb6) (a := ⟨w.heap.size, 5, none⟩) HL0.out (.slice b5 invs.length d5)
  rw [hV6] at ow6_6
  have O6_6 := Lib.hid ow6_6
  have ow6_4 := ownsRow_setCell_below (own_next O5_4.out bb6) (a := ⟨w.heap.size, 5, none⟩) HL0.out (.slice b5 invs.length d5)
  rw [hV6] at ow6_4
  have O6_4 := Lib.hid ow6_4
  have ow6_3 := ownsRow_setCell_below (own_next O5_3.out bb6) (a := ⟨w.heap.size, 5, none⟩) HL0.out (.slice b5 invs.length d5)
  rw [hV6] at ow6_3
  have O6_3 := Lib.hid ow6_3
  have ow6_5 := ownsRow_setCell_below (own_mono hoT6 ZV5.out) (a := ⟨w.heap.size, 5, none⟩) HL0.out (.slice b5 invs.length d5)
  rw [hV6] at ow6_5
  have O6_5 := Lib.hid ow6_5
  clear hU6 hV6 XT6 xs6 ys6 bb6 bv6 hoT6 hbT6 hzT6 f6 g6 q6 ow6_1 ow6_2 ow6_6 ow6_4 ow6_3 ow6_5 X5 Y5 BV5 O5_1 O5_2 O5_6 O5_4 O5_3 HXU6 HSU6 HOU6 HBU6
  obtain ⟨U7, hU7⟩ : ∃ U, V6.alloc (.cells #[] 39) = U := ⟨_, rfl⟩
  have hbU7 : Below V6.heap.size V6 U7 := by rw [← hU7]; exact (Below.refl _ _).alloc (Nat.le_refl _) _
  have hoU7 : U7.ownsRow V6.heap.size 39 3 (.slice (some ⟨V6.heap.size, 0, none⟩) 0 0) 0 ([] : List (List Value)).flatten := by rw [← hU7]; exact World.ownsRow_lit V6 #[] 0 (Nat.le_refl _) (by unfold maxLen; omega) rfl
  have HOU7 := Lib.hid hoU7
  have HSU7 := Lib.hid (HI7.out.next (BV6.out.trans (hbU7.mono BV6.out.size)))
  have XU7 := X6.out.next hbU7 X6.out.lt
  have q7 := XU7.at' 7 _ rfl
  have HXU7 := Lib.hid XU7
  have HBU7 := Lib.hid hbU7
  clear hoU7 XU7 hbU7
  go_upto_region 8 with ((with_reducible refine wpL_appK (k := 3) (by decide) (B := V6.heap.size) (W := U7) _ 0 [] _ names.length c7 (namesV names) CloneT.info_name Try.underlying25 ?_ ?_ ?_ (names_one names) (names_row names) HOU7.out HSU7.out HBU7.out.size ?_ ?_ (Below.refl _ _) ?_); rfl; rfl; rfl; (have := Z7.out; omega); (have := Z7.out; omega); (rw [Nat.zero_add, List.nil_append]; intro b7 d7 T7 hoT7 hbT7 hzT7; have f7 := (HXU7.out.next hbT7 (Nat.lt_of_lt_of_le HL0.out ZV6.out)).fz 7; have g7 := (HXU7.out.next hbT7 (Nat.lt_of_lt_of_le HL0.out ZV6.out)).at' 7 _ rfl))
  obtain ⟨V7, hV7⟩ : ∃ U, T7.setCell ⟨w.heap.size, 7, none⟩ (.slice b7 names.length d7) = U := ⟨_, rfl⟩
  rw [hV7]
  have XT7 := HXU7.out.next hbT7 (Nat.lt_of_lt_of_le HL0.out ZV6.out)
  have xs7 := XT7.set 7 (.slice b7 names.length d7)
  rw [hV7] at xs7
  have X7 := Lib.hid xs7
  have ys7 := ((Y6.out.next HBU7.out Y6.out.lt).next hbT7 (Nat.lt_of_lt_of_le HL1.out ZV6.out)).other (a := ⟨w.heap.size, 7, none⟩) HNE.out (.slice b7 names.length d7)
  rw [hV7] at ys7
  have Y7 := Lib.hid ys7
  have bb7 : Below V6.heap.size V6 T7 := HBU7.out.trans (hbT7.mono (Nat.le_refl _))
  have bv7 := (BV6.out.trans (bb7.mono BV6.out.size)).setCell (p := ⟨w.heap.size, 7, none⟩) (Nat.le_refl _) (.slice b7 names.length d7)
  rw [hV7] at bv7
  have BV7 := Lib.hid bv7
  have ZV7 : Hid (W2.heap.size ≤ V7.heap.size) := by show _ ≤ _; rw [← hV7]; simp only [World.setCell, Array.size_modify]; exact Nat.le_trans ZV6.out bb7.size
  have ow7_1 := ownsRow_setCell_below (own_next O6_1.out bb7) (a := ⟨w.heap.size, 7, none⟩) HL0.out (.slice b7 names.length d7)
  rw [hV7] at ow7_1
  have O7_1 := Lib.hid ow7_1
  have ow7_2 := ownsRow_setCell_below (own_next O6_2.out bb7) (a := ⟨w.heap.size, 7, none⟩) HL0.out (.slice b7 names.length d7)
  rw [hV7] at ow7_2
  have O7_2 := Lib.hid ow7_2
  have ow7_6 := ownsRow_setCell_below (own_next O6_6.out bb7) (a := ⟨w.heap.size, 7, none⟩) HL0.out (.slice b7 names.length d7)
  rw [hV7] at ow7_6
  have O7_6 := Lib.hid ow7_6
  have ow7_4 := ownsRow_setCell_below (own_next O6_4.out bb7) (a := ⟨w.heap.size, 7, none⟩) HL0.out (.slice b7 names.length d7)
  rw [hV7] at ow7_4
  have O7_4 := Lib.hid ow7_4
  have ow7_3 := ownsRow_setCell_below (own_next O6_3.out bb7) (a := ⟨w.heap.size, 7, none⟩) HL0.out (.slice b7 names.length d7)
  rw [hV7] at ow7_3
  have O7_3 := Lib.hid ow7_3
  have ow7_5 := ownsRow_setCell_below (own_next O6_5.out bb7) (a := ⟨w.heap.size, 7, none⟩) HL0.out (.slice b7 names.length d7)
  rw [hV7] at ow7_5
  have O7_5 := Lib.hid ow7_5
  have ow7_7 := ownsRow_setCell_below (own_mono hoT7 ZV6.out) (a := ⟨w.heap.size, 7, none⟩) HL0.out (.slice b7 names.length d7)
  rw [hV7] at ow7_7
  have O7_7 := Lib.hid ow7_7
  clear hU7 hV7 XT7 xs7 ys7 bb7 bv7 hoT7 hbT7 hzT7 f7 g7 q7 ow7_1 ow7_2 ow7_6 ow7_4 ow7_3 ow7_5 ow7_7 X6 Y6 BV6 O6_1 O6_2 O6_6 O6_4 O6_3 O6_5 HXU7 HSU7 HOU7 HBU7
  have X23 := X7.out
  have Y23 := Y7.out
  have HB23 := BV7
  have HQ : Hid (OwnC V7 W2.heap.size ⟨mx, ins, lats, outs, bads, invs, ands, names⟩ ⟨b1, d1, b2, d2, b3, d3, b4, d4, b5, d5, b6, d6, b7, d7⟩) := ⟨O7_1.out, O7_2.out, O7_3.out, O7_4.out, O7_5.out, O7_6.out, O7_7.out⟩
  have m0 := X23.at' 0 _ rfl
  have m1 := X23.at' 1 _ rfl
  have m2 := X23.at' 2 _ rfl
  have m3 := X23.at' 3 _ rfl
  have m4 := X23.at' 4 _ rfl
  have m5 := X23.at' 5 _ rfl
  have m6 := X23.at' 6 _ rfl
  have m7 := X23.at' 7 _ rfl
  have r0 := Y23.at' 0 _ rfl
  have r1 := Y23.at' 1 _ rfl
  have r2 := Y23.at' 2 _ rfl
  have r3 := Y23.at' 3 _ rfl
  have r4 := Y23.at' 4 _ rfl
  have r5 := Y23.at' 5 _ rfl
  have r6 := Y23.at' 6 _ rfl
  have r7 := Y23.at' 7 _ rfl
  have f0 := Y23.fz 0
  have f1 := Y23.fz 1
  have f2 := Y23.fz 2
  have f3 := Y23.fz 3
  have f4 := Y23.fz 4
  have f5 := Y23.fz 5
  have f6 := Y23.fz 6
  have f7 := Y23.fz 7
  clear X23 Y23 X7 Y7
  go_wp2_with fail
  refine bodyPost_ret (v := .agg #[.int .i64 mx, .slice b1 ins.length d1, .slice b2 lats.length d2, .slice b3 outs.length d3, .slice b4 bads.length d4, .slice b5 invs.length d5, .slice b6 ands.length d6, .slice b7 names.length d7]) (by simp [results, Try.results14, go_sem, r0, r1, r2, r3, r4, r5, r6, r7]) rfl ?_
  refine ⟨⟨b1, d1, b2, d2, b3, d3, b4, d4, b5, d5, b6, d6, b7, d7⟩, rfl, ?_, ?_⟩
  · exact ((((((((HQ.out.set HL1.out _).set HL1.out _).set HL1.out _).set HL1.out _).set HL1.out _).set HL1.out _).set HL1.out _).set HL1.out _).mono (by have := HE2.out; omega)
  · have hle : w.heap.size ≤ W1.heap.size := by have := HE1.out; omega
    exact (((((((HB23.out.setCell hle _).setCell hle _).setCell hle _).setCell hle _).setCell hle _).setCell hle _).setCell hle _).setCell hle _
end Circuit
end Go.Proofs.Ytpejpjiipcolbaa
