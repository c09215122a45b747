/-
  interlocklaw22.DeltaAgain: the walk: what was added is covered there and at all levels ahead; added again it changes nothing.
-/
import Derived.Test.YteamijldmhcicaaDeltaAlive
import Derived.Test.YteamijldmhcicaaDeltaQ
import Derived.Test.YteamijldmhcicaaDeltaSame
import Derived.Test.YteamijldmhcicaaNorm
import Derived.Test.YteamijldmhcicaaOpenFrames
namespace Go.Proofs.Yteamijldmhcicaa
open Go.RowKit Base Own3N
set_option linter.unusedVariables false
set_option linter.unusedSimpArgs false
namespace Delta

/-- Frames that are small enough. -/
structure Fits (F : List (List (List Int))) : Prop where
  n : F.length * 24 ≤ 140737488355328
  tot : F.flatten.length * 24 ≤ 140737488355328
  lev : ∀ r ∈ F, (r.length + 1) * 24 ≤ 140737488355328
  row : ∀ r ∈ F, ∀ l ∈ r, l.length * 8 ≤ 140737488355328

theorem fits_of {F : List (List (List Int))} (h : Open.bulkFrames F ≤ 1048576) : Fits F := by
  have hb := Open.bulkFrames_len F
  refine ⟨by omega, by omega, fun r hr => by have := (hb.2.2 r hr).1; omega, fun r hr l hl => by have := (hb.2.2 r hr).2 l hl; omega⟩

theorem fits_add {F : List (List (List Int))} (h : Open.bulkFrames F ≤ 1048576) {l : List Int} (hl : Open.bulkInts l ≤ 1048576) (level : Int) : Fits (add F level l).1 := by
  have hb := Open.bulkFrames_len F
  have hbl := Open.bulkInts_eq l
  refine ⟨?_, ?_, fun r hr => ?_, fun r hr y hy => ?_⟩
  · rcases add_res F level l with ⟨h, _⟩ | ⟨_, _, _, h0, _⟩
    · rw [h]; simp
    · rw [add_len h0]; omega
  · have := add_flat F level l; omega
  · obtain ⟨⟨k, hk, hle⟩, _⟩ := add_rows r hr
    have := (hb.2.2 _ (List.getElem_mem hk)).1
    omega
  · rcases (add_rows r hr).2 y hy with rfl | ⟨q, hq, hyq⟩
    · have := Clause.norm_len l; omega
    · have := (hb.2.2 q hq).2 y hyq; omega

theorem box_frames (w : World) (a : Option Addr) (n c : Nat) (W : World) (hW : w.alloc (.cells #[.slice a n c] 24) = W) :
    Below w.heap.size w W ∧ W.cell? ⟨w.heap.size, 0, none⟩ = some (.slice a n c) ∧ W.frozen? ⟨w.heap.size, 0, none⟩ = false ∧ W.heap.size = w.heap.size + 1 := by
  subst hW
  exact ⟨(Below.refl _ _).alloc (Nat.le_refl _) _, by simp [go_sem], by simp [go_sem], by simp⟩

/-- A box of no frames: the same stored again. -/
theorem box_none (w : World) (W : World) (hW : w.alloc (.cells #[.slice none 0 0] 24) = W) : W.setCell ⟨w.heap.size, 0, none⟩ (.slice none 0 0) = W :=
  setCell_same _ _ _ (box_frames w none 0 0 W hW).2.1

end Delta

namespace deltaAgain
open Delta
set_option maxRecDepth 4000 in
set_option maxHeartbeats 8000000 in
theorem walk {w : World} (a0 : Option Addr) (c0 : Nat) (x0 : List (List (List Int))) (y0 : List Value) (s0 : Sl3 w a0 x0.length c0 y0 x0) (w0 : ∀ r ∈ x0, ∀ l ∈ r, Clause.Wf l) (z0 : Open.bulkFrames x0 ≤ 1048576) (a1 : Int) (w1 : -9223372036854775808 ≤ a1 ∧ a1 ≤ 9223372036854775807)
    (a2 : Option Addr) (c2 : Nat) (x2 : List Int) (s2 : Sl w a2 x2.length c2 (ints x2)) (w2 : Clause.Wf x2) (z2 : Open.bulkInts x2 ≤ 1048576) (W : World) (hW : W = w) :
    Calls Try.prog 5 #[.agg #[.slice a0 x0.length c0], .int .i64 a1, .slice a2 x2.length c2] W fun e w' => e = .returned (.bool true) ∧ Below W.heap.size W w' := by
  subst hW
  obtain ⟨V, hV⟩ : ∃ V, W.alloc (.cells #[.slice a0 x0.length c0] 24) = V := ⟨_, rfl⟩
  obtain ⟨hWV, k0, _, hzV⟩ := box_frames W a0 _ c0 V hV
  have HA := Lib.hid (alive_any V)
  have HF := Lib.hid (fits_of z0)
  have HG := Lib.hid (fits_add z0 z2 a1)
  have hx2 := Open.bulkInts_eq x2
  have HADD := Lib.hid (fun U (hU : Below V.heap.size V U) => add_any U a0 _ c0 y0 x0 ((s0.next hWV).next hU) HF.out.n HF.out.tot HF.out.lev HF.out.row a1 w1.1 w1.2 a2 _ c2 x2 ((s2.next hWV).next hU) w2 (by omega))
  have HX := Lib.hid (s2.next hWV)
  have HWX := Lib.hid w2
  have HLX : Hid (x2.length ≤ 1048576) := by show _ ≤ _; omega
  have HLV := Lib.hid w1
  have HRES := Lib.hid (add_res x0 a1 x2)
  have HCOV := Lib.hid (fun (h : (add x0 a1 x2).2 = 0) (i : Nat) (hi : i ≤ a1.toNat) => again_cov h hi)
  have HSAME := Lib.hid (fun (h : (add x0 a1 x2).2 = 0) => again_same h)
  have HX0 : Hid (x0.length ≤ 1048576) := by show _ ≤ _; have := (Open.bulkFrames_len x0).1; omega
  have HWV := Lib.hid hWV
  clear s0 w0 z0 s2 w2 z2 w1 hx2 HF hWV
  generalize hR : add x0 a1 x2 = R at *
  obtain ⟨G, r⟩ := R
  clear hR
  simp only at HRES HCOV HSAME HADD HG
  go_enter Try.func5, Try.ntmps5
  go_wp2_with fail
  refine HA.out.mono ?_; rintro e w1 ⟨rfl, hb1⟩
  have d0 := (hb1.cell (p := ⟨W.heap.size, 0, none⟩) (by show W.heap.size < V.heap.size; omega)).trans k0
  have HB1 := Lib.hid hb1
  clear hb1 k0 hV
  go_wp2_with fail
  refine (HADD.out w1 HB1.out).mono ?_
  rintro e w2 ⟨a', c', vs', rfl, hs2, hb2⟩
  obtain ⟨U2, hU2⟩ : ∃ U2, w2.alloc (.cells #[.slice a' G.length c'] 24) = U2 := ⟨_, rfl⟩
  obtain ⟨hn2, g0, gf, hzU⟩ := box_frames w2 a' _ c' U2 hU2
  have HB2 := Lib.hid (HB1.out.trans ((hb2.trans (hn2.mono hb2.size)).mono HB1.out.size))
  have HS2 := Lib.hid ((hs2 w2 (Keeps.refl _ _)).next hn2)
  have hcapG := (HS2.out).sl.cap
  have hbigG := (HS2.out).sl.big
  clear hs2 hb2 hn2 d0
  rcases HRES.out with ⟨rfl, h4⟩ | ⟨h0, h1, hal, hr0, hGG⟩
  · have hU2' : w2.alloc (.cells #[.slice a' 0 c'] 24) = U2 := hU2
    rcases h4 with rfl | rfl
    all_goals
      go_wp2_with fail
      go_ret
      exact ⟨ret_bool (by simp), HWV.out.trans (HB2.out.mono HWV.out.size)⟩
  · subst hr0
    have HCV := Lib.hid (HCOV.out rfl)
    have HSM := Lib.hid (HSAME.out rfl)
    have h0' := h0
    obtain ⟨lev, rfl⟩ := Int.eq_ofNat_of_zero_le h0
    have HNM := Lib.hid (RefC.norm_any U2 a2 _ c2 x2 (HX.out.next HB2.out) HWX.out (by have := HLX.out; omega))
    have HAD2 := Lib.hid (fun U (hU : Below U2.heap.size U2 U) => add_any U a' _ c' vs' G (HS2.out.next hU) HG.out.n HG.out.tot HG.out.lev HG.out.row (lev : Int) HLV.out.1 HLV.out.2 a2 _ c2 x2 ((HX.out.next HB2.out).next hU) HWX.out (by have := HLX.out; omega))
    rw [HSM.out] at HAD2
    simp only at HAD2
    have hlev9 : (lev : Int) ≤ 1048576 := by have := HX0.out; omega
    clear hcapG hbigG gf h0 h1 hal hGG
    have hlev : (lev : Int) ≤ 9223372036854775807 := HLV.out.2
    generalize RefC.norm x2 = X at *
    go_wp2_with fail
    refine HNM.out.mono ?_
    rintro e w3 ⟨a3, c3, rfl, hox, hb3⟩
    have g3 := (hb3.cell (p := ⟨w2.heap.size, 0, none⟩) (by show w2.heap.size < U2.heap.size; omega)).trans g0
    have hz3 : w2.heap.size < w3.heap.size := by have := hb3.size; omega
    have HX3 := Lib.hid (Base.own_ints hox)
    have HB3 := Lib.hid hb3
    have HS3 := Lib.hid (HS2.out.next hb3)
    have HCV3 := Lib.hid (fun U (hU : Below w3.heap.size w3 U) (i : Nat) => covered_any U a' _ c' vs' G (HS3.out.next hU) HG.out.tot HG.out.row (i : Int) a3 _ c3 X (HX3.out.next hU))
    clear hox hb3 g0 hzU
    go_wp2_with fail
    go_loopw [11] (fun s wr => ∃ i : Nat, i ≤ lev + 1 ∧ s = .int .i64 i ∧ Hid (Below w3.heap.size w3 wr)) (fun s _ => lev + 1 - (intOf s).toNat)
    case atStart => exact ⟨0, by omega, rfl, Below.refl _ _⟩
    case round =>
      obtain ⟨i, hi, rfl, hbr⟩ := hrel
      have gr := (hbr.out.cell (p := ⟨w2.heap.size, 0, none⟩) hz3).trans g3
      by_cases hlt : i ≤ lev
      · have hI : (i : Int) ≤ (lev : Int) := by omega
        have C := HCV3.out wr hbr.out i
        rw [Int.toNat_natCast, HCV.out i (by rw [Int.toNat_natCast]; exact hlt)] at C
        have HC := Lib.hid C
        clear C
        go_wp2_with fail
        refine HC.out.mono ?_
        rintro e w4 ⟨rfl, hb4⟩
        have HB4 := Lib.hid (hbr.out.trans (hb4.mono hbr.out.size))
        clear hb4 hbr
        go_wp2_with fail
        go_roundw
        case rel => exact ⟨i + 1, by omega, by go_num, HB4.out⟩
        case measure => simp [intOf]; omega
      · have hI : ¬ (i : Int) ≤ (lev : Int) := by omega
        have hb2r : Below U2.heap.size U2 wr := HB3.out.trans (hbr.out.mono HB3.out.size)
        have HA2 := Lib.hid (HAD2.out wr hb2r)
        have HBR := Lib.hid hb2r
        have hzr : w2.heap.size < wr.heap.size := Nat.lt_of_lt_of_le hz3 hbr.out.size
        have HSR := Lib.hid (HS3.out.next hbr.out)
        clear hb2r hbr hi hlt
        go_wp2_with fail
        refine HA2.out.mono ?_
        rintro e w5 ⟨a5, c5, vs5, rfl, hs5, hb5⟩
        obtain ⟨U5, hU5⟩ : ∃ U5, w5.alloc (.cells #[.slice a5 G.length c5] 24) = U5 := ⟨_, rfl⟩
        obtain ⟨hn5, g5, gf5, hzU5⟩ := box_frames w5 a5 _ c5 U5 hU5
        have hbr5 : Below wr.heap.size wr U5 := hb5.trans (hn5.mono hb5.size)
        have gr5 := (hbr5.cell (p := ⟨w2.heap.size, 0, none⟩) hzr).trans gr
        have HS5 := Lib.hid ((hs5 w5 (Keeps.refl _ _)).next hn5)
        have HSR5 := Lib.hid (HSR.out.next hbr5)
        have SM := same_any U5 a' a5 _ _ c' c5 vs' vs5 G G HSR5.out HS5.out
        rw [decide_eq_true rfl] at SM
        have HSAM := Lib.hid SM
        have HBW := Lib.hid (HWV.out.trans ((HB2.out.trans ((HBR.out.trans (hbr5.mono HBR.out.size)).mono HB2.out.size)).mono HWV.out.size))
        clear hs5 hb5 hn5 hbr5 SM gr g3
        go_wp2_with fail
        refine HSAM.out.mono ?_
        rintro e w6 ⟨rfl, hb6⟩
        have HB6 := Lib.hid (HBW.out.trans (hb6.mono HBW.out.size))
        clear hb6
        go_wp2_with fail
        go_ret
        exact ⟨ret_bool (by simp), HB6.out⟩
end deltaAgain
end Go.Proofs.Yteamijldmhcicaa
