/-
  interlocklaw11.FormulaTells: the walk.
-/
import Derived.Test.YtpanpfbhdcanhaaAlive
import Derived.Test.YtpanpfbhdcanhaaAdd
import Derived.Test.YtpanpfbhdcanhaaFormulaTrue
import Derived.Test.YtpanpfbhdcanhaaRefUnits
import Derived.Test.YtpanpfbhdcanhaaPlainLists
import Derived.Deep.RegionHeld3
import Derived.Deep.DeepCutAuto
namespace Go.Proofs.Ytpanpfbhdcanhaa
open Go.RowKit Base
set_option linter.unusedVariables false
set_option linter.unusedSimpArgs false
namespace Tells

/-- What is held through the law's great condition. -/
structure Held (B N : Nat) (wq : World) (vars : Int) (a : Option Addr) (n c : Nat) (w' : World) : Prop where
  below : Below B wq w'
  c0 : w'.cell? ⟨N, 0, none⟩ = some (.int .i64 vars)
  c1 : w'.cell? ⟨N, 1, none⟩ = some (.slice a n c)

/-- The sum's and the wanted formula's boxes. -/
structure Facts (w3 : World) (vars gv : Int) (ga : Option Addr) (gn gc : Nat) (W : World) : Prop where
  g0 : W.cell? ⟨w3.heap.size, 0, none⟩ = some (.int .i64 gv)
  g1 : W.cell? ⟨w3.heap.size, 1, none⟩ = some (.slice ga gn gc)
  w0 : W.cell? ⟨w3.heap.size + 1, 0, none⟩ = some (.int .i64 vars)
  w1 : W.cell? ⟨w3.heap.size + 1, 1, none⟩ = some (.slice none 0 0)
  z1 : W.frozen? ⟨w3.heap.size + 1, 1, none⟩ = false
  size : w3.heap.size + 1 + 1 ≤ W.heap.size

theorem facts_new (w3 : World) (vars gv : Int) (ga : Option Addr) (gn gc : Nat) : Facts w3 vars gv ga gn gc ((w3.alloc (.cells #[.int .i64 gv, .slice ga gn gc] 24)).alloc (.cells #[.int .i64 vars, .slice none 0 0] 24)) := by
  refine ⟨?_, ?_, ?_, ?_, ?_, ?_⟩ <;> simp [go_sem]

theorem Facts.next {w3 W W' : World} {vars gv : Int} {ga : Option Addr} {gn gc : Nat} (h : Facts w3 vars gv ga gn gc W) (hb : Below (w3.heap.size + 1 + 1) W W') : Facts w3 vars gv ga gn gc W' :=
  ⟨(hb.cell (p := ⟨w3.heap.size, 0, none⟩) (by show w3.heap.size < _; omega)).trans h.g0, (hb.cell (p := ⟨w3.heap.size, 1, none⟩) (by show w3.heap.size < _; omega)).trans h.g1,
   (hb.cell (p := ⟨w3.heap.size + 1, 0, none⟩) (by show w3.heap.size + 1 < _; omega)).trans h.w0, (hb.cell (p := ⟨w3.heap.size + 1, 1, none⟩) (by show w3.heap.size + 1 < _; omega)).trans h.w1,
   (hb.frozen (p := ⟨w3.heap.size + 1, 1, none⟩) (by show w3.heap.size + 1 < _; omega)).trans h.z1, Nat.le_trans h.size hb.size⟩

theorem added {vars : Int} {all : List (List Int)} {e : Ending} {w' : World}
    (h : if Formula.check vars all = 0 then ∃ a c vals, e = .returned (.tuple #[.agg #[.int .i64 vars, .slice a all.length c], .int .i64 0]) ∧ Sl2 w' a all.length c vals all
      else e = .returned (.tuple #[.agg #[.int .i64 0, .slice none 0 0], .int .i64 9])) :
    ∃ gv ga gn gc ge, e = .returned (.tuple #[.agg #[.int .i64 gv, .slice ga gn gc], .int .i64 ge]) ∧
      ((Formula.check vars all = 0 ∧ gv = vars ∧ ge = 0 ∧ ∃ vals, Sl2 w' ga gn gc vals all) ∨ (Formula.check vars all = 9 ∧ gn = 0 ∧ ge = 9)) := by
  by_cases hq : Formula.check vars all = 0
  · rw [if_pos hq] at h
    obtain ⟨a, c, vals, rfl, hs⟩ := h
    exact ⟨_, _, _, _, _, rfl, .inl ⟨hq, rfl, rfl, vals, hs⟩⟩
  · rw [if_neg hq] at h
    refine ⟨_, _, _, _, _, h, .inr ⟨?_, rfl, rfl⟩⟩
    unfold Formula.check at hq ⊢
    split
    · rfl
    · rename_i hb; rw [if_neg hb] at hq; exact absurd rfl hq

abbrev HeldAll (B N : Nat) (wq : World) (vars : Int) (a : Option Addr) (n c : Nat) (w' : World) : Prop := Held B N wq vars a n c w' ∧ w'.cell? ⟨N, 0, none⟩ = some (.int .i64 vars) ∧ w'.cell? ⟨N, 1, none⟩ = some (.slice a n c)

theorem held_in {B N : Nat} {wq : World} {vars : Int} {a : Option Addr} {n c : Nat} {w' : World} (h : Held B N wq vars a n c w' ∧ w'.cell? ⟨N, 0, none⟩ = some (.int .i64 vars) ∧ w'.cell? ⟨N, 1, none⟩ = some (.slice a n c)) : Held B N wq vars a n c w' := h.1
theorem held_all {B N : Nat} {wq : World} {vars : Int} {a : Option Addr} {n c : Nat} {w' : World} (h : Held B N wq vars a n c w') : Held B N wq vars a n c w' ∧ w'.cell? ⟨N, 0, none⟩ = some (.int .i64 vars) ∧ w'.cell? ⟨N, 1, none⟩ = some (.slice a n c) := ⟨h, h.c0, h.c1⟩
theorem held_first {N : Nat} {wq : World} {vars : Int} {a : Option Addr} {n c : Nat} (c0 : wq.cell? ⟨N, 0, none⟩ = some (.int .i64 vars)) (c1 : wq.cell? ⟨N, 1, none⟩ = some (.slice a n c)) :
    Held wq.heap.size N wq vars a n c wq.drew ∧ wq.drew.cell? ⟨N, 0, none⟩ = some (.int .i64 vars) ∧ wq.drew.cell? ⟨N, 1, none⟩ = some (.slice a n c) := held_all ⟨(Below.refl _ _).drew, c0, c1⟩

set_option maxRecDepth 4000 in
set_option maxHeartbeats 8000000 in
theorem tells_any (w : World) (vars : Int) (a : Option Addr) (n c : Nat) (vs : List Value) (cls : List (List Int)) (hsl : Sl2 w a n c vs cls) (hw : Formula.Wf2 cls)
    (s : ByteArray) (hs : s.size ≤ 9223372036854775807) (al : Option Addr) (nl cl : Nat) (l : List Int) (hl : Sl w al nl cl (ints l)) (hlw : Clause.Wf l)
    (a1 : Option Addr) (n1 c1 : Nat) (vs1 : List Value) (more : List (List Int)) (hsl1 : Sl2 w a1 n1 c1 vs1 more) (hw1 : Formula.Wf2 more)
    (hn : n + n1 ≤ 1073741824) (hlen : ∀ l ∈ cls ++ more, l.length ≤ 1073741824) :
    Calls Try.prog 5 #[.agg #[.int .i64 vars, .slice a n c], .string s, .slice al nl cl, .slice a1 n1 c1] w fun e w' => e = .returned (.bool true) ∧ Below w.heap.size w w' := by
  have hal : Below w.heap.size w (w.alloc (.cells #[.int .i64 vars, .slice a n c] 24)) := (Below.refl _ _).alloc (Nat.le_refl _) _
  have hc0 : (w.alloc (.cells #[.int .i64 vars, .slice a n c] 24)).cell? ⟨w.heap.size, 0, none⟩ = some (.int .i64 vars) := by simp
  have hc1 : (w.alloc (.cells #[.int .i64 vars, .slice a n c] 24)).cell? ⟨w.heap.size, 1, none⟩ = some (.slice a n c) := by simp
  have HSL := Lib.hid (hsl.next hal)
  have HSL1 := Lib.hid (hsl1.next hal)
  have HSLL := Lib.hid (hl.next hal)
  have HC0 := Lib.hid hc0
  have HC1 := Lib.hid hc1
  have HAL := Lib.hid hal
  have HW := Lib.hid hw
  have HW1 := Lib.hid hw1
  have HLW := Lib.hid hlw
  have HLEN := Lib.hid hlen
  have hsz0 : (w.alloc (.cells #[.int .i64 vars, .slice a n c] 24)).heap.size = w.heap.size + 1 := by simp
  have HSZ0 := Lib.hid hsz0
  have hbig1 := hsl1.sl.big
  have hcap1 := hsl1.sl.cap
  have hbig := hsl.sl.big
  have hcap := hsl.sl.cap
  clear hc0 hc1 hal hsl hsl1 hw hw1 hlen hsz0 hl hlw
  go_enter Try.func5, Try.ntmps5
  go_wp2_with fail
  generalize w.alloc (.cells #[.int .i64 vars, .slice a n c] 24) = W at *
  have c0 := HC0.out
  have k1 := HC1.out
  have HU1 := Lib.hid (Units.units_any W vars a n c vs cls HSL.out HW.out al nl cl l HSLL.out HLW.out)
  have HU2 := Lib.hid (fun (U : World) (hU : Below W.heap.size W U) => RefU.units_any U vars a n c vs cls (HSL.out.next hU) HW.out al nl cl l (HSLL.out.next hU) HLW.out)
  generalize Units.spec vars cls l = sp at *
  obtain ⟨out, ok, er⟩ := sp
  refine HU1.out.mono ?_
  rintro e w1 ⟨ao, co, rfl, hso, hb1⟩
  have d0 := (hb1.cell (p := ⟨w.heap.size, 0, none⟩) (by rw [HSZ0.out]; exact Nat.lt_succ_self _)).trans c0
  have d1 := (hb1.cell (p := ⟨w.heap.size, 1, none⟩) (by rw [HSZ0.out]; exact Nat.lt_succ_self _)).trans k1
  clear c0 k1
  go_wp2_with fail
  refine (HU2.out w1 hb1).mono ?_
  rintro e w2 ⟨ao2, co2, rfl, hso2, hb2⟩
  have hlt1 : w.heap.size < w1.heap.size := by have := hb1.size; have := HSZ0.out; omega
  have c0 := (hb2.cell (p := ⟨w.heap.size, 0, none⟩) hlt1).trans d0
  have k1 := (hb2.cell (p := ⟨w.heap.size, 1, none⟩) hlt1).trans d1
  clear d0 d1
  have hbW2 : Below W.heap.size W w2 := hb1.trans (hb2.mono hb1.size)
  have hlt2 : w.heap.size < w2.heap.size := Nat.lt_of_lt_of_le hlt1 hb2.size
  have hcell : ∀ (U U' : World), Held w2.heap.size w.heap.size w2 vars a n c U → Below U.heap.size U U' → Held w2.heap.size w.heap.size w2 vars a n c U' := fun U U' hU hb =>
    ⟨hU.below.trans (hb.mono hU.below.size), (hb.cell (p := ⟨w.heap.size, 0, none⟩) (Nat.lt_of_lt_of_le hlt2 hU.below.size)).trans hU.c0, (hb.cell (p := ⟨w.heap.size, 1, none⟩) (Nat.lt_of_lt_of_le hlt2 hU.below.size)).trans hU.c1⟩
  have HINTS := Lib.hid (fun (U : World) (hU : Held w2.heap.size w.heap.size w2 vars a n c U) => (Plain.ints_any U ao ao2 out.length out.length co co2 out out ((hso.next hb2).next hU.below) (hso2.next hU.below)).mono (fun e w' h => (⟨h.1.trans (by rw [decide_eq_true rfl]), hcell _ _ hU h.2⟩ : e = .returned (.bool true) ∧ Held w2.heap.size w.heap.size w2 vars a n c w')))
  have HCHK := Lib.hid (fun (U : World) (hU : Held w2.heap.size w.heap.size w2 vars a n c U) => (Formula.check_any U vars a n c vs cls ((HSL.out.next hbW2).next hU.below) HW.out).mono (fun e w' h => (⟨h.1, hcell _ _ hU h.2⟩ : e = .returned (.int .i64 (Formula.check vars cls)) ∧ Held w2.heap.size w.heap.size w2 vars a n c w')))
  have HREF := Lib.hid (fun (U : World) (hU : Held w2.heap.size w.heap.size w2 vars a n c U) => (Formula.ref_any U vars a n c vs cls ((HSL.out.next hbW2).next hU.below) HW.out).mono (fun e w' h => (⟨h.1, hcell _ _ hU h.2⟩ : e = .returned (.int .i64 (Formula.check vars cls)) ∧ Held w2.heap.size w.heap.size w2 vars a n c w')))
  have HTRU := Lib.hid (fun (U : World) (hU : Held w2.heap.size w.heap.size w2 vars a n c U) => (True.true_any U vars a n c vs cls ((HSL.out.next hbW2).next hU.below) HW.out s hs).mono (fun e w' h => (⟨h.1, hcell _ _ hU h.2⟩ : e = .returned (.bool (True.tru vars cls s)) ∧ Held w2.heap.size w.heap.size w2 vars a n c w')))
  have HRTR := Lib.hid (fun (U : World) (hU : Held w2.heap.size w.heap.size w2 vars a n c U) => (True.refTrue_any U vars a n c vs cls ((HSL.out.next hbW2).next hU.below) HW.out s hs).mono (fun e w' h => (⟨h.1, hcell _ _ hU h.2⟩ : e = .returned (.bool (True.tru vars cls s)) ∧ Held w2.heap.size w.heap.size w2 vars a n c w')))
  have HNUM := Lib.hid (fun (U : World) (x : Int) (hU : Held w2.heap.size w.heap.size w2 vars a n c U) => (Alive.num_any U x).mono (fun e w' h => (⟨h.1, h.2 ▸ hU⟩ : e = .returned (.int .i64 x) ∧ Held w2.heap.size w.heap.size w2 vars a n c w')))
  clear hcell hso hso2
  generalize Formula.check vars cls = q at *
  generalize True.tru vars cls s = T at *
  generalize out.length = lo at *
  go_upto_region 3 with fail
  go_cut [63] (fun s63 wx => s63 = .bool false ∧ Below w2.heap.size w2 wx)
  case first =>
    go_region_held3 (fun w' => Held w2.heap.size w.heap.size w2 vars a n c w' ∧ w'.cell? ⟨w.heap.size, 0, none⟩ = some (.int .i64 vars) ∧ w'.cell? ⟨w.heap.size, 1, none⟩ = some (.slice a n c)) (first | exact held_all (by assumption) | exact held_first c0 k1)
      (first | (go_at_call 16; refine (HINTS.out _ (held_in (by assumption))).mono ?_; rintro e w' ⟨rfl, hS'⟩) | (go_at_call 9; refine (HNUM.out _ _ (held_in (by assumption))).mono ?_; rintro e w' ⟨rfl, hS'⟩) | (go_at_call 17; refine (HCHK.out _ (held_in (by assumption))).mono ?_; rintro e w' ⟨rfl, hS'⟩) | (go_at_call 13; refine (HREF.out _ (held_in (by assumption))).mono ?_; rintro e w' ⟨rfl, hS'⟩) | (go_at_call 18; refine (HTRU.out _ (held_in (by assumption))).mono ?_; rintro e w' ⟨rfl, hS'⟩) | (go_at_call 14; refine (HRTR.out _ (held_in (by assumption))).mono ?_; rintro e w' ⟨rfl, hS'⟩))
    all_goals (go_wp2_with fail; go_meet; exact ⟨rfl, (held_in (by assumption)).below⟩)
  case rest =>
    obtain ⟨rfl, hbc⟩ := hcut
    clear HINTS HCHK HREF HTRU HRTR HNUM HU1 HU2
    have d0 := (hbc.cell (p := ⟨w.heap.size, 0, none⟩) hlt2).trans c0
    have d1 := (hbc.cell (p := ⟨w.heap.size, 1, none⟩) hlt2).trans k1
    clear c0 k1
    have hltc : w.heap.size < wc.heap.size := Nat.lt_of_lt_of_le hlt2 hbc.size
    have hbWc : Below W.heap.size W wc := hbW2.trans (hbc.mono hbW2.size)
    go_wp2_with fail
    refine (Add.add_any wc vars a n c vs cls (HSL.out.next hbWc) HW.out a1 n1 c1 vs1 more (HSL1.out.next hbWc) HW1.out hn HLEN.out).mono ?_
    rintro e w3 ⟨hor, hb3⟩
    have hbW3 : Below W.heap.size W w3 := hbWc.trans (hb3.mono hbWc.size)
    have e0 := (hb3.cell (p := ⟨w.heap.size, 0, none⟩) hltc).trans d0
    have e1 := (hb3.cell (p := ⟨w.heap.size, 1, none⟩) hltc).trans d1
    have hlt3 : w.heap.size < w3.heap.size := Nat.lt_of_lt_of_le hltc hb3.size
    clear d0 d1
    obtain ⟨gv, ga, gn, gc, ge, rfl, hG⟩ := added hor
    have HG := Lib.hid hG
    clear hG hor
    have hs5 : Sl2 ((w3.alloc (.cells #[.int .i64 gv, .slice ga gn gc] 24)).alloc (.cells #[.int .i64 vars, .slice none 0 0] 24)) a n c vs cls := ((HSL.out.next hbW3).next ((Below.refl _ _).alloc (Nat.le_refl _) _)).next ((Below.refl _ _).alloc (Nat.le_refl _) _)
    have hs51 : Sl2 ((w3.alloc (.cells #[.int .i64 gv, .slice ga gn gc] 24)).alloc (.cells #[.int .i64 vars, .slice none 0 0] 24)) a1 n1 c1 vs1 more := ((HSL1.out.next hbW3).next ((Below.refl _ _).alloc (Nat.le_refl _) _)).next ((Below.refl _ _).alloc (Nat.le_refl _) _)
    have HS5 := Lib.hid hs5
    have HS51 := Lib.hid hs51
    have HF5 : Hid (Facts w3 vars gv ga gn gc ((w3.alloc (.cells #[.int .i64 gv, .slice ga gn gc] 24)).alloc (.cells #[.int .i64 vars, .slice none 0 0] 24))) := facts_new w3 vars gv ga gn gc
    clear hs5 hs51
    have hsz5 : ((w3.alloc (.cells #[.int .i64 gv, .slice ga gn gc] 24)).alloc (.cells #[.int .i64 vars, .slice none 0 0] 24)).heap.size = w3.heap.size + 1 + 1 := by simp
    have hb35 : Below w3.heap.size w3 ((w3.alloc (.cells #[.int .i64 gv, .slice ga gn gc] 24)).alloc (.cells #[.int .i64 vars, .slice none 0 0] 24)) := ((Below.refl _ _).alloc (Nat.le_refl _) _).alloc (by simp) _
    go_upto_region 7 with fail
    generalize (w3.alloc (.cells #[.int .i64 gv, .slice ga gn gc] 24)).alloc (.cells #[.int .i64 vars, .slice none 0 0] 24) = W5 at *
    have f0 := (hb35.cell (p := ⟨w.heap.size, 0, none⟩) hlt3).trans e0
    have f1 := (hb35.cell (p := ⟨w.heap.size, 1, none⟩) hlt3).trans e1
    have g0 := HF5.out.g0
    have g1 := HF5.out.g1
    have w0 := HF5.out.w0
    have w1 := HF5.out.w1
    clear e0 e1
    go_upto_region 8 with (first | ((with_reducible refine wpL_app0 a n c vs Add.info25 Try.underlying22 ?_ ?_ ?_ ?_ HS5.out.sl ?_ ?_ ?_); rfl; rfl; rfl; (exact Add.slices_one HS5.out); omega; omega; (intro a3 c3 w6 hown6 hb6; (have hs6 := (HS51.out.next hb6).sl); (have hsz6 := hb6.size))) | ((with_reducible refine wpL_app (B := W5.heap.size) (W := W5) (.slice a3 n c3) n vs a1 n1 c1 vs1 Add.info25 Try.underlying22 ?_ ?_ ?_ ?_ hown6 hs6 hsz6 ?_ ?_ hb6 ?_); rfl; rfl; rfl; (exact Add.slices_one HS51.out); omega; omega; (intro a4 c4 w7 hown7 hb7 hsz7; (have hf7 := HF5.out.next (hb7.mono (by omega))); (have hc7 := hf7.w1); (have hz7 := hf7.z1); (have hd7 := hf7.w0))))
    obtain ⟨a9, c9, e9, hs9⟩ := own_sl hown7
    simp only [Value.slice.injEq] at e9
    obtain ⟨rfl, _, rfl⟩ := e9
    have hb58 : Below (w3.heap.size + 1) W5 (w7.setCell ⟨w3.heap.size + 1, 1, none⟩ (.slice a4 (n + n1) c4)) := (hb7.mono (show w3.heap.size + 1 ≤ W5.heap.size by omega)).setCell (Nat.le_refl _) _
    have hs8 : Sl2 (w7.setCell ⟨w3.heap.size + 1, 1, none⟩ (.slice a4 (n + n1) c4)) a4 (n + n1) c4 (vs ++ vs1) (cls ++ more) := by
      have ho := ownsRow_setCell_below hown7 (a := ⟨w3.heap.size + 1, 1, none⟩) (by show w3.heap.size + 1 < W5.heap.size; omega) (.slice a4 (n + n1) c4)
      obtain ⟨a9, c9, e9, hs9'⟩ := own_sl ho
      simp only [Value.slice.injEq] at e9
      obtain ⟨rfl, _, rfl⟩ := e9
      have hW8 : Below W.heap.size W (w7.setCell ⟨w3.heap.size + 1, 1, none⟩ (.slice a4 (n + n1) c4)) := (hbW3.trans (hb35.mono hbW3.size)).trans (hb58.mono (by have := hbW3.size; omega))
      exact ⟨hs9', by have h1 := HSL.out.len; have h2 := HSL1.out.len; simp; omega, Add.rows_append (by rw [HSL.out.sl.len, HSL.out.len]) (HSL.out.next hW8).row (HSL1.out.next hW8).row⟩
    have q0 : (w7.setCell ⟨w3.heap.size + 1, 1, none⟩ (.slice a4 (n + n1) c4)).cell? ⟨w3.heap.size + 1, 0, none⟩ = some (.int .i64 vars) := (World.cell?_setCell_other _ _ _ _ (fun h => by simp at h)).trans hd7
    have q1 : (w7.setCell ⟨w3.heap.size + 1, 1, none⟩ (.slice a4 (n + n1) c4)).cell? ⟨w3.heap.size + 1, 1, none⟩ = some (.slice a4 (n + n1) c4) := World.cell?_setCell_same _ _ _ hc7
    have p0 := (hb58.cell (p := ⟨w.heap.size, 0, none⟩) (by show w.heap.size < _; omega)).trans f0
    have p1 := (hb58.cell (p := ⟨w.heap.size, 1, none⟩) (by show w.heap.size < _; omega)).trans f1
    have r0 := (hb58.cell (p := ⟨w3.heap.size, 0, none⟩) (by show w3.heap.size < _; omega)).trans g0
    have r1 := (hb58.cell (p := ⟨w3.heap.size, 1, none⟩) (by show w3.heap.size < _; omega)).trans g1
    have hsz8 : w3.heap.size + 1 + 1 ≤ (w7.setCell ⟨w3.heap.size + 1, 1, none⟩ (.slice a4 (n + n1) c4)).heap.size := by simp; omega
    have hb38 : Below w3.heap.size w3 (w7.setCell ⟨w3.heap.size + 1, 1, none⟩ (.slice a4 (n + n1) c4)) := hb35.trans (hb58.mono (by omega))
    generalize w7.setCell ⟨w3.heap.size + 1, 1, none⟩ (.slice a4 (n + n1) c4) = W8 at *
    clear hd7 hc7 hz7 hf7 f0 f1 g0 g1 w0 w1 hs6 hown6 hown7 hs9
    have hwa : Formula.Wf2 (cls ++ more) := by
      intro l hl
      rcases List.mem_append.1 hl with h | h
      · exact HW.out l h
      · exact HW1.out l h
    have HREF := Lib.hid (Formula.ref_any W8 vars a4 (n + n1) c4 _ _ hs8 hwa)
    have HS8 := Lib.hid hs8
    have HAL8 : Hid (Below w.heap.size w W8) := HAL.out.trans ((hbW3.trans (hb38.mono hbW3.size)).mono HAL.out.size)
    clear hs8 hwa
    rcases HG.out with ⟨hq, rfl, rfl, vals, hsG⟩ | ⟨hq, rfl, rfl⟩
    · rw [hq] at HREF
      have HSG := Lib.hid (hsG.next hb38)
      clear hsG hq HG
      go_wp2_with fail
      refine HREF.out.mono ?_
      rintro e w10 ⟨rfl, hb10⟩
      have t0 := (hb10.cell (p := ⟨w.heap.size, 0, none⟩) (by show w.heap.size < _; omega)).trans p0
      have t1 := (hb10.cell (p := ⟨w3.heap.size, 0, none⟩) (by show w3.heap.size < _; omega)).trans r0
      have t2 := (hb10.cell (p := ⟨w3.heap.size, 1, none⟩) (by show w3.heap.size < _; omega)).trans r1
      have t3 := (hb10.cell (p := ⟨w3.heap.size + 1, 1, none⟩) (by show w3.heap.size + 1 < _; omega)).trans q1
      have HLI := Lib.hid (Plain.lists_any w10 ga a4 gn (n + n1) gc c4 vals (vs ++ vs1) _ _ (HSG.out.next hb10) (HS8.out.next hb10))
      rw [decide_eq_true rfl] at HLI
      clear p0 p1 q0 q1 r0 r1
      go_wp2_with fail
      refine (Alive.num_any _ _).mono ?_
      rintro e w11 ⟨rfl, rfl⟩
      go_wp2_with fail
      refine HLI.out.mono ?_
      rintro e w11 ⟨rfl, m11, rfl⟩
      go_wp2_with fail
      refine (Alive.alive_any _).mono ?_
      rintro e w12 ⟨rfl, hb12⟩
      go_wp2_with fail
      go_ret
      refine ⟨by rfl, ?_⟩
      have h10 : Below w.heap.size w w10 := HAL8.out.trans (hb10.mono HAL8.out.size)
      exact (below_drewN h10 m11).trans (hb12.mono (by have := (below_drewN h10 m11).size; exact this))
    · rw [hq] at HREF
      clear hq HG
      go_wp2_with fail
      refine HREF.out.mono ?_
      rintro e w10 ⟨rfl, hb10⟩
      have t2 := (hb10.cell (p := ⟨w3.heap.size, 1, none⟩) (by show w3.heap.size < _; omega)).trans r1
      clear p0 p1 q0 q1 r0 r1
      go_wp2_with fail
      refine (Alive.num_any _ _).mono ?_
      rintro e w11 ⟨rfl, rfl⟩
      go_wp2_with fail
      refine (Alive.alive_any _).mono ?_
      rintro e w12 ⟨rfl, hb12⟩
      go_wp2_with fail
      go_ret
      refine ⟨by rfl, ?_⟩
      have h10 : Below w.heap.size w w10 := HAL8.out.trans (hb10.mono HAL8.out.size)
      exact h10.trans (hb12.mono h10.size)
end Tells
end Go.Proofs.Ytpanpfbhdcanhaa
