/-
  interlocklaw22.DeltaHolds: the walk: what holds at a level holds at those ahead; a clause that was added holds at its level, and what held holds still.
-/
import Derived.Test.YteamijldmhcicaaDeltaAgain
import Derived.Test.YteamijldmhcicaaDeltaH
namespace Go.Proofs.Yteamijldmhcicaa
open Go.RowKit Base Own3N
set_option linter.unusedVariables false
set_option linter.unusedSimpArgs false
namespace Delta
theorem wf_at {F : List (List (List Int))} (h : ∀ r ∈ F, ∀ l ∈ r, Clause.Wf l) (i : Nat) : ∀ l ∈ atL F i, Clause.Wf l := by
  intro l hl
  obtain ⟨k, hk, _, hy⟩ := mem_atL.1 hl
  exact h _ (List.getElem_mem hk) l hy

theorem wf_add {F : List (List (List Int))} (h : ∀ r ∈ F, ∀ l ∈ r, Clause.Wf l) {l : List Int} (hl : Clause.Wf l) (level : Int) : ∀ r ∈ (add F level l).1, ∀ y ∈ r, Clause.Wf y := by
  intro r hr y hy
  rcases (add_rows r hr).2 y hy with rfl | ⟨q, hq, hyq⟩
  · exact Clause.norm_wf hl
  · exact h q hq y hyq
end Delta

namespace deltaHolds
open Delta
set_option maxRecDepth 30000 in
set_option maxHeartbeats 16000000 in
theorem walk {w : World} (a0 : Option Addr) (c0 : Nat) (x0 : List (List (List Int))) (y0 : List Value) (s0 : Sl3 w a0 x0.length c0 y0 x0) (w0 : ∀ r ∈ x0, ∀ l ∈ r, Clause.Wf l) (z0 : Open.bulkFrames x0 ≤ 1048576) (a1 : Int) (w1 : -9223372036854775808 ≤ a1 ∧ a1 ≤ 9223372036854775807)
    (a2 : Option Addr) (c2 : Nat) (x2 : List Int) (s2 : Sl w a2 x2.length c2 (ints x2)) (w2 : Clause.Wf x2) (z2 : Open.bulkInts x2 ≤ 1048576) (a3 : ByteArray) (w3 : a3.size ≤ 1048576) (W : World) (hW : W = w) :
    Calls Try.prog 3 #[.agg #[.slice a0 x0.length c0], .int .i64 a1, .slice a2 x2.length c2, .string a3] W fun e w' => e = .returned (.bool true) ∧ Below W.heap.size W w' := by
  subst hW
  obtain ⟨V, hV⟩ : ∃ V, W.alloc (.cells #[.slice a0 x0.length c0] 24) = V := ⟨_, rfl⟩
  obtain ⟨hWV, k0, _, hzV⟩ := box_frames W a0 _ c0 V hV
  have HA := Lib.hid (alive_any V)
  have HF := Lib.hid (fits_of z0)
  have HG := Lib.hid (fits_add z0 z2 a1)
  have hx2 := Open.bulkInts_eq x2
  have HADD := Lib.hid (fun U (hU : Below V.heap.size V U) => add_any U a0 _ c0 y0 x0 ((s0.next hWV).next hU) HF.out.n HF.out.tot HF.out.lev HF.out.row a1 w1.1 w1.2 a2 _ c2 x2 ((s2.next hWV).next hU) w2 (by omega))
  have HX := Lib.hid (s2.next hWV)
  have HS0 := Lib.hid (s0.next hWV)
  have HWX := Lib.hid w2
  have HW0 := Lib.hid w0
  have HWG := Lib.hid (wf_add w0 w2 a1)
  have HM : Hid (a3.size ≤ 9223372036854775807) := by show _ ≤ _; omega
  have HLV := Lib.hid w1
  have HRES := Lib.hid (add_res x0 a1 x2)
  have HNL := Lib.hid (fun (h : (add x0 a1 x2).2 = 0) => add_len h)
  have HLAW := Lib.hid (fun (h : (add x0 a1 x2).2 = 0) (i : Nat) => holds_law (s := a3.data.toList) h i)
  have HWV := Lib.hid hWV
  have HX0 : Hid (x0.length ≤ 1048576) := by show _ ≤ _; have := (Open.bulkFrames_len x0).1; omega
  clear s0 w0 z0 s2 w2 z2 w1 w3 hx2 hWV
  generalize hR : add x0 a1 x2 = R at *
  obtain ⟨G, r⟩ := R
  clear hR
  simp only at HRES HLAW HADD HG HNL HWG
  go_enter Try.func3, Try.ntmps3
  go_wp2_with fail
  refine HA.out.mono ?_; rintro e w1 ⟨rfl, hb1⟩
  have d0 := (hb1.cell (p := ⟨W.heap.size, 0, none⟩) (by show W.heap.size < V.heap.size; omega)).trans k0
  have hz1 : W.heap.size < w1.heap.size := by have := hb1.size; omega
  have HB1 := Lib.hid hb1
  clear hb1 k0 hV
  go_wp2_with fail
  refine (HADD.out w1 HB1.out).mono ?_
  rintro e w2 ⟨a', c', vs', rfl, hs2, hb2⟩
  obtain ⟨U2, hU2⟩ : ∃ U2, w2.alloc (.cells #[.slice a' G.length c'] 24) = U2 := ⟨_, rfl⟩
  obtain ⟨hn2, g0, gf, hzU⟩ := box_frames w2 a' _ c' U2 hU2
  have hb12 := hb2.trans (hn2.mono hb2.size)
  have e0 := (hb12.cell (p := ⟨W.heap.size, 0, none⟩) hz1).trans d0
  have hz2 : W.heap.size < U2.heap.size := Nat.lt_of_lt_of_le hz1 hb12.size
  have HB2 := Lib.hid (HB1.out.trans (hb12.mono HB1.out.size))
  have HS2 := Lib.hid ((hs2 w2 (Keeps.refl _ _)).next hn2)
  have hcapG := (HS2.out).sl.cap
  have hbigG := (HS2.out).sl.big
  clear hs2 hb2 hn2 d0 hb12
  rcases HRES.out with ⟨rfl, h4⟩ | ⟨h0, h1, hal, hr0, hGG⟩
  · have hU2' : w2.alloc (.cells #[.slice a' 0 c'] 24) = U2 := hU2
    rcases h4 with rfl | rfl
    all_goals
      go_wp2_with fail
      go_ret
      exact ⟨ret_bool (by simp), HWV.out.trans (HB2.out.mono HWV.out.size)⟩
  · subst hr0
    have HLW := Lib.hid (HLAW.out rfl)
    have hnl := HNL.out rfl
    have HSX := Lib.hid (HX.out.next HB2.out)
    have HSF := Lib.hid (HS0.out.next HB2.out)
    have HGL : Hid (G.length ≤ 1048576) := by show _ ≤ _; rw [hnl]; exact HX0.out
    have HAT := Lib.hid (fun U (hU : Below U2.heap.size U2 U) (i : Int) => at_any U a' _ c' vs' G (HS2.out.next hU) HG.out.tot HG.out.row i)
    have HLA := Lib.hid (fun U (hU : Below U2.heap.size U2 U) (i : Nat) (hi : i ≤ 1048576) => lawAt_any U a0 _ c0 y0 x0 (HSF.out.next hU) HF.out.tot (i : Int) (by omega) (by omega))
    have HONE := Lib.hid (fun U (hU : Below U2.heap.size U2 U) => True.refOne_any U a3 HM.out a2 _ c2 x2 (HSX.out.next hU) HWX.out)
    have HIN := Lib.hid (fun U a n c vs L h hw => in_any U a n c vs L h hw a3 HM.out)
    unfold True.one at HONE
    clear gf h0 h1 hal hnl hGG
    generalize x2.any (CubeP.is a3.data.toList) = one at *
    go_wp2_with fail
    go_loopw [11] (fun s wr => ∃ i : Nat, i ≤ G.length ∧ s = .int .i64 i ∧ Hid (Below U2.heap.size U2 wr)) (fun s _ => G.length - (intOf s).toNat)
    case atStart => exact ⟨0, by omega, rfl, Below.refl _ _⟩
    case round =>
      obtain ⟨i, hi, rfl, hbr⟩ := hrel
      have gr := (hbr.out.cell (p := ⟨w2.heap.size, 0, none⟩) (by show w2.heap.size < U2.heap.size; omega)).trans g0
      have er := (hbr.out.cell (p := ⟨W.heap.size, 0, none⟩) hz2).trans e0
      by_cases hlt : i < G.length
      · have hzr : W.heap.size < wr.heap.size ∧ w2.heap.size < wr.heap.size := by have := hbr.out.size; omega
        have HI : Hid (i ≤ 1048576) := Nat.le_trans hi HGL.out
        have L := HLW.out i
        have HL := Lib.hid L
        have HA1 := HAT.out wr hbr.out (i : Int)
        rw [Int.toNat_natCast] at HA1
        have HA1 := Lib.hid HA1
        clear L
        go_wp2_with fail
        refine HA1.out.mono ?_
        rintro e w4 ⟨a4, c4, v4, rfl, ho4, hb4⟩
        have g4 := (hb4.cell (p := ⟨w2.heap.size, 0, none⟩) hzr.2).trans gr
        have e4 := (hb4.cell (p := ⟨W.heap.size, 0, none⟩) hzr.1).trans er
        have HB4 := Lib.hid (hbr.out.trans (hb4.mono hbr.out.size))
        have HI4 := Lib.hid (HIN.out w4 a4 _ c4 v4 _ ho4.sl2' (wf_at HWG.out i))
        have hz4 : W.heap.size < w4.heap.size ∧ w2.heap.size < w4.heap.size := by have := hb4.size; omega
        have HLA4 := HLA.out w4 HB4.out i HI.out
        rw [Int.toNat_natCast] at HLA4
        have HLA4 := Lib.hid HLA4
        clear ho4 hb4 gr er hzr hbr
        generalize inM a3.data.toList (atL G i) = now at *
        go_wp2_with fail
        refine HI4.out.mono ?_
        rintro e w4 ⟨rfl, rfl⟩
        go_wp2_with fail
        refine HLA4.out.mono ?_
        rintro e w5 ⟨a5, c5, v5, rfl, hs5, hb5⟩
        have g5 := (hb5.cell (p := ⟨w2.heap.size, 0, none⟩) hz4.2).trans g4
        have HB5 := Lib.hid (HB4.out.trans (hb5.mono HB4.out.size))
        have HI5 := Lib.hid (HIN.out w5 a5 _ c5 v5 _ hs5 (wf_at HW0.out i))
        have hz5 : w2.heap.size < w5.heap.size := by have := hb5.size; omega
        have HA5 := HAT.out w5 HB5.out ((i : Int) + 1)
        rw [show ((i : Int) + 1).toNat = i + 1 by omega] at HA5
        have HA5 := Lib.hid HA5
        have hi1 : (i : Int) + 1 ≤ 9223372036854775807 := by have := HI.out; omega
        clear hs5 hb5 g4 e4 hz4
        generalize inM a3.data.toList (atL x0 i) = was at *
        go_wp2_with fail
        refine HI5.out.mono ?_
        rintro e w5 ⟨rfl, rfl⟩
        go_wp2_with fail
        refine HA5.out.mono ?_
        rintro e w6 ⟨a6, c6, v6, rfl, ho6, hb6⟩
        have HB6 := Lib.hid (HB5.out.trans (hb6.mono HB5.out.size))
        have HI6 := Lib.hid (HIN.out w6 a6 _ c6 v6 _ ho6.sl2' (wf_at HWG.out (i + 1)))
        have HO6 := Lib.hid (HONE.out w6 HB6.out)
        clear ho6 hb6 g5 hz5 hi1
        generalize inM a3.data.toList (atL G (i + 1)) = next at *
        obtain ⟨L1, L2, L3, L4⟩ := HL.out
        by_cases hil : (i : Int) ≤ a1
        · have L4' := L4 hil
          subst L4'
          have hil2 : ¬ a1 < (i : Int) := by omega
          clear L3 L4 L2 HL
          cases was <;> cases one <;> cases next
          all_goals (first | (exfalso; simp at L1; done) | clear L1)
          all_goals
            simp only [Bool.and_true, Bool.and_false, Bool.true_and, Bool.false_and] at *
            go_wp2_with fail
            refine HI6.out.mono ?_
            rintro e w6 ⟨rfl, rfl⟩
            go_wp2_with fail
            try (refine HO6.out.mono ?_; rintro e w6 ⟨rfl, rfl⟩; go_wp2_with fail)
            go_roundw
            case rel => exact ⟨i + 1, by omega, by go_num, HB6.out⟩
            case measure => simp [intOf]; omega
        · have L3' := L3 (by omega)
          subst L3'
          have hil2 : a1 < (i : Int) := by omega
          clear L3 L4 L2 HL
          cases was <;> cases next
          all_goals (first | (exfalso; simp at L1; done) | clear L1)
          all_goals
            go_wp2_with fail
            refine HI6.out.mono ?_
            rintro e w6 ⟨rfl, rfl⟩
            go_wp2_with fail
            go_roundw
            case rel => exact ⟨i + 1, by omega, by go_num, HB6.out⟩
            case measure => simp [intOf]; omega
      · go_wp2_with fail
        go_ret
        exact ⟨rfl, HWV.out.trans ((HB2.out.trans (hbr.out.mono HB2.out.size)).mono HWV.out.size)⟩
end deltaHolds
end Go.Proofs.Yteamijldmhcicaa
