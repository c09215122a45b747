/-
  facts.Push, Pop.
-/
import Derived.Test.YtgbpoeidpldmkaaFactJ
namespace Go.Proofs.Ytgbpoeidpldmkaa
open Go.RowKit Base
set_option linter.unusedVariables false
set_option linter.unusedSimpArgs false
namespace Fact

def pushT (t : Tb) : Tb × Int := if tableOk t = true then if t.depth = 16 then (zero, 72) else (⟨t.next, t.depth + 1, t.facts⟩, 0) else (zero, 9)
def popT (t : Tb) : Tb × List Int × Int :=
  if tableOk t = true then if t.depth = 0 then (zero, [], 72) else (⟨t.next, t.depth - 1, rest t.facts (gids (fun f => decide (t.depth ≤ f.depth)) t.facts)⟩, gids (fun f => decide (t.depth ≤ f.depth)) t.facts, 0) else (zero, [], 9)

set_option maxRecDepth 8000 in
set_option maxHeartbeats 8000000 in
theorem push_any (w : World) (t : Tb) (a : Option Addr) (c : Nat) (vs : List (List Value)) (hs : SlF w a t.facts.length c vs t.facts) (hw : WfF t.facts) :
    Calls Try.prog 8 #[tagg t a c] w fun e w' => ∃ a' c' vs', e = .returned (.tuple #[tagg (pushT t).1 a' c', .int .i64 (pushT t).2]) ∧ FOwn w' w.heap.size a' (pushT t).1.facts.length c' vs' (pushT t).1.facts ∧ Below w.heap.size w w' := by
  have HTA := Lib.hid (fun (U : World) (hU : Below w.heap.size w U) => table_any U t a c vs (hs.next hU) hw)
  have HCO := Lib.hid (fun (hok : tableOk t = true) (U : World) (hU : Below w.heap.size w U) => copied_any U t a c vs (hs.next hU) (by have := (ok_of hok).len; omega) (WfF.fit hok hw))
  have hcap := hs.sl.cap
  clear hs hw
  unfold tagg at *
  obtain ⟨W1, hW1⟩ : ∃ U, w.alloc (.cells #[.int .i64 t.next, .int .i64 t.depth, .slice a t.facts.length c] 24) = U := ⟨_, rfl⟩
  obtain ⟨W3, hW3⟩ : ∃ U, W1.alloc (.cells #[.int .i64 0, .int .i64 0, .slice none 0 0] 24) = U := ⟨_, rfl⟩
  obtain ⟨hb1, x1⟩ := tbox _ _ _ _ _ _ _ hW1
  obtain ⟨hb3, x3⟩ := tbox _ _ _ _ _ _ _ hW3
  have x13 := x1.next hb3 x1.lt
  have hbw := hb1.trans (hb3.mono hb1.size)
  have q0 := x13.at' 0 _ rfl
  have q1 := x13.at' 1 _ rfl
  have q2 := x13.at' 2 _ rfl
  have HB := Lib.hid hbw
  have HX1 := Lib.hid x13
  have HX3 := Lib.hid x3
  have HLE : Hid (w.heap.size ≤ W1.heap.size) := hb1.size
  have HTW := Lib.hid (HTA.out W3 hbw)
  have HRR : Hid (pushT t = if tableOk t = true then if t.depth = 16 then (zero, 72) else (⟨t.next, t.depth + 1, t.facts⟩, 0) else (zero, 9)) := rfl
  clear hb1 hb3 x1 x3 x13 hbw HTA
  generalize pushT t = R at *
  by_cases hok : tableOk t = true
  · rw [if_pos hok] at HTW HRR
    have HOK := Lib.hid hok
    clear hok
    by_cases hd : t.depth = 16
    · have hv : (t.depth == 16) = true := by simp [hd]
      have HR : Hid (R = (zero, 72)) := by show _ = _; rw [HRR.out, if_pos hd]
      clear hd
      go_enter Try.func8, Try.ntmps8
      go_wp2_with fail
      with_reducible refine HTW.out.mono ?_
      rintro e w4 ⟨rfl, hb4⟩
      have HB4 := Lib.hid (HB.out.trans (hb4.mono HB.out.size))
      have r1 := (HX1.out.next hb4 HX1.out.lt).at' 1 _ rfl
      have x5 := HX3.out.next hb4 HX3.out.lt
      have s0 := x5.at' 0 _ rfl
      have s1 := x5.at' 1 _ rfl
      have s2 := x5.at' 2 _ rfl
      have f0 := x5.fz 0
      have f1 := x5.fz 1
      have f2 := x5.fz 2
      clear hb4 x5 q0 q1 q2
      go_wp2_with fail
      refine bodyPost_ret (v := .tuple #[.agg #[.int .i64 0, .int .i64 0, .slice none 0 0], .int .i64 72]) (by simp [results, Try.results8, go_sem, s0, s1, s2]) rfl ?_
      rw [HR.out]
      exact ⟨none, 0, [], rfl, FOwn.nil _ _, below_set3 HB4.out HLE.out _ _ _⟩
    · have hv : (t.depth == 16) = false := by simp [hd]
      have HR : Hid (R = (⟨t.next, t.depth + 1, t.facts⟩, 0)) := by show _ = _; rw [HRR.out, if_neg hd]
      have HD : IntKind.i64.wrap (t.depth + 1) = t.depth + 1 := by have h0 := (ok_of HOK.out).d0; have h1 := (ok_of HOK.out).d1; rw [IntKind.wrap_i64]; omega
      clear hd
      generalize hm : t.facts.length = m at *
      have HM := Lib.hid hm
      clear hm
      go_enter Try.func8, Try.ntmps8
      go_wp2_with fail
      with_reducible refine HTW.out.mono ?_
      rintro e w4 ⟨rfl, hb4⟩
      have HB4 := Lib.hid (HB.out.trans (hb4.mono HB.out.size))
      have x14 := HX1.out.next hb4 HX1.out.lt
      have HX4 := Lib.hid (HX3.out.next hb4 HX3.out.lt)
      have HC4 := Lib.hid (HCO.out HOK.out w4 HB4.out)
      have r0 := x14.at' 0 _ rfl
      have r1 := x14.at' 1 _ rfl
      have r2 := x14.at' 2 _ rfl
      clear hb4 x14 q0 q1 q2
      go_wp2_with fail
      with_reducible refine HC4.out.mono ?_
      rintro e w6 ⟨a6, c6, vs6, rfl, hk6, hb6⟩
      have HB6 := Lib.hid (HB4.out.trans (hb6.mono HB4.out.size))
      have x6 := HX4.out.next hb6 HX4.out.lt
      obtain ⟨W7, hW7⟩ : ∃ U, w6.alloc (.cells #[.int .i64 t.next, .int .i64 t.depth, .slice a6 m c6] 24) = U := ⟨_, rfl⟩
      obtain ⟨hb7, x7⟩ := tbox _ _ _ _ _ _ _ hW7
      have x67 := x6.next hb7 x6.lt
      have HK7 := Lib.hid (hk6.next hb7)
      have HB7 := Lib.hid (HB6.out.trans (hb7.mono HB6.out.size))
      have HL7 := Lib.hid HX4.out.lt
      have HWW := Lib.hid hW7
      have h8 : W7.heap[w6.heap.size]? = some (.cells #[.int .i64 t.next, .int .i64 t.depth, .slice a6 m c6] 24 (0, 0)) := by rw [← hW7]; show (w6.heap.push _)[w6.heap.size]? = _; simp
      obtain ⟨w9, hw9⟩ : ∃ U, W7.setCell ⟨w6.heap.size, 1, none⟩ (.int .i64 (t.depth + 1)) = U := ⟨_, rfl⟩
      have x9 := x7.set 1 (.int .i64 (t.depth + 1))
      rw [hw9] at x9
      have hne : w6.heap.size ≠ W1.heap.size := by
        have h1 := HX4.out.lt
        have h2 := hb6.size
        omega
      have r9 := x67.other (a := ⟨w6.heap.size, 1, none⟩) hne (.int .i64 (t.depth + 1))
      rw [hw9] at r9
      have k9 := (hk6.next hb7).setT (o := 1) (u := .int .i64 (t.depth + 1)) h8
      rw [hw9] at k9
      have b9 : Below w4.heap.size w4 w9 := by rw [← hw9]; exact (hb6.trans (hb7.mono hb6.size)).setCell (p := ⟨w6.heap.size, 1, none⟩) hb6.size _
      have HK9 := Lib.hid k9
      have HB9 := Lib.hid (HB4.out.trans (b9.mono HB4.out.size))
      have HZ4 := Lib.hid HB4.out.size
      have p1 := x7.at' 1 _ rfl
      have g1 := x7.fz 1
      have s0 := r9.at' 0 _ rfl
      have s1 := r9.at' 1 _ rfl
      have s2 := r9.at' 2 _ rfl
      have f0 := r9.fz 0
      have f1 := r9.fz 1
      have f2 := r9.fz 2
      have t0 := x9.at' 0 _ rfl
      have t1 := x9.at' 1 _ rfl
      have t2 := x9.at' 2 _ rfl
      clear hk6 hb6 hb7 x6 r0 r1 r2 hW7 x7 x67 x9 r9 k9 b9 h8
      go_upto_region 7 with fail
      rw [HWW.out]
      go_wp2_with fail
      refine bodyPost_ret (v := .tuple #[.agg #[.int .i64 t.next, .int .i64 (t.depth + 1), .slice a6 m c6], .int .i64 0]) (by simp [results, Try.results8, go_sem, s0, s1, s2]) rfl ?_
      rw [HR.out]
      have hm := HM.out
      subst hm
      exact ⟨a6, c6, vs6, rfl, (HK9.out.set3 HL7.out _ _ _).mono HZ4.out, below_set3 HB9.out HLE.out _ _ _⟩
  · rw [if_neg hok] at HTW HRR
    have HR : Hid (R = (zero, 9)) := HRR.out
    clear hok
    go_enter Try.func8, Try.ntmps8
    go_wp2_with fail
    with_reducible refine HTW.out.mono ?_
    rintro e w4 ⟨rfl, hb4⟩
    have HB4 := Lib.hid (HB.out.trans (hb4.mono HB.out.size))
    have x4 := HX3.out.next hb4 HX3.out.lt
    have s0 := x4.at' 0 _ rfl
    have s1 := x4.at' 1 _ rfl
    have s2 := x4.at' 2 _ rfl
    have f0 := x4.fz 0
    have f1 := x4.fz 1
    have f2 := x4.fz 2
    clear hb4 x4 q0 q1 q2
    go_wp2_with fail
    refine bodyPost_ret (v := .tuple #[.agg #[.int .i64 0, .int .i64 0, .slice none 0 0], .int .i64 9]) (by simp [results, Try.results8, go_sem, s0, s1, s2]) rfl ?_
    rw [HR.out]
    exact ⟨none, 0, [], rfl, FOwn.nil _ _, below_set3 HB4.out HLE.out _ _ _⟩
theorem eg_pop : Enters 21 := enters_of Try.func21 (by kernel_rfl) rfl

set_option maxHeartbeats 1000000 in
theorem deep_any (w : World) (Bx : Nat) (d : Int) (hlt : Bx < w.heap.size) (hc : w.cell? ⟨Bx, 1, none⟩ = some (.int .i64 d)) (f : Fc) (a1 : Option Addr) (c1 : Nat) (a2 : Option Addr) (c2 : Nat) :
    Calls Try.prog 21 #[fagg f a1 c1 a2 c2, .pointer (some ⟨Bx, 0, none⟩)] w fun e w' => e = .returned (.bool (decide (d ≤ f.depth))) ∧ Below w.heap.size w w' := by
  unfold fagg
  obtain ⟨U, hU⟩ : ∃ U, w.alloc (.cells #[.int .i64 f.id, .int .i64 f.kind, .int .i64 f.depth, .slice a1 f.lits.length c1, .slice a2 f.tags.length c2] 31) = U := ⟨_, rfl⟩
  have hb : Below w.heap.size w U := by rw [← hU]; exact (Below.refl _ _).alloc (Nat.le_refl _) _
  have u2 : U.cell? ⟨w.heap.size, 2, none⟩ = some (.int .i64 f.depth) := by rw [← hU]; simp [go_sem]
  have hc1 := (hb.cell (p := ⟨Bx, 1, none⟩) hlt).trans hc
  have HB := Lib.hid hb
  clear hc hb hlt
  generalize hq : decide (d ≤ f.depth) = q at *
  go_enter Try.func21, Try.ntmps21
  go_wp2_with fail
  go_ret
  exact ⟨rfl, HB.out⟩

set_option maxRecDepth 8000 in
set_option maxHeartbeats 16000000 in
theorem pop_any (w : World) (t : Tb) (a : Option Addr) (c : Nat) (vs : List (List Value)) (hs : SlF w a t.facts.length c vs t.facts) (hw : WfF t.facts) :
    Calls Try.prog 11 #[tagg t a c] w fun e w' => ∃ a' c' vs' ai ci, e = .returned (.tuple #[tagg (popT t).1 a' c', .slice ai (popT t).2.1.length ci, .int .i64 (popT t).2.2]) ∧ FOwn w' w.heap.size a' (popT t).1.facts.length c' vs' (popT t).1.facts ∧ w'.ownsRow w.heap.size 3 1 (.slice ai (popT t).2.1.length ci) (popT t).2.1.length (ints (popT t).2.1) ∧ Below w.heap.size w w' := by
  have HTA := Lib.hid (fun (U : World) (hU : Below w.heap.size w U) => table_any U t a c vs (hs.next hU) hw)
  have HWO := fun (hok : tableOk t = true) (U : World) (hU : Below w.heap.size w U) (Bx : Nat) (hlt : Bx < U.heap.size) (hc : U.cell? ⟨Bx, 1, none⟩ = some (.int .i64 t.depth)) => without_any U t a c vs (hs.next hU) (by have := (ok_of hok).len; omega) (WfF.fit hok hw) 21 #[] #[.pointer (some ⟨Bx, 0, none⟩)] (fun f => decide (t.depth ≤ f.depth)) eg_pop (fun V hV f a1 c1 a2 c2 => deep_any V Bx t.depth (Nat.lt_of_lt_of_le hlt hV.size) ((hV.cell (p := ⟨Bx, 1, none⟩) hlt).trans hc) f a1 c1 a2 c2)
  have HW := Lib.hid HWO
  have hcap := hs.sl.cap
  clear HWO hs hw
  unfold tagg at *
  obtain ⟨W1, hW1⟩ : ∃ U, w.alloc (.cells #[.int .i64 t.next, .int .i64 t.depth, .slice a t.facts.length c] 24) = U := ⟨_, rfl⟩
  obtain ⟨W3, hW3⟩ : ∃ U, W1.alloc (.cells #[.int .i64 0, .int .i64 0, .slice none 0 0] 24) = U := ⟨_, rfl⟩
  obtain ⟨hb1, x1⟩ := tbox _ _ _ _ _ _ _ hW1
  obtain ⟨hb3, x3⟩ := tbox _ _ _ _ _ _ _ hW3
  have x13 := x1.next hb3 x1.lt
  have hbw := hb1.trans (hb3.mono hb1.size)
  have q0 := x13.at' 0 _ rfl
  have q1 := x13.at' 1 _ rfl
  have q2 := x13.at' 2 _ rfl
  have HB := Lib.hid hbw
  have HX1 := Lib.hid x13
  have HX3 := Lib.hid x3
  have HLE : Hid (w.heap.size ≤ W1.heap.size) := hb1.size
  have HTW := Lib.hid (HTA.out W3 hbw)
  have HRR : Hid (popT t = if tableOk t = true then if t.depth = 0 then (zero, [], 72) else (⟨t.next, t.depth - 1, rest t.facts (gids (fun f => decide (t.depth ≤ f.depth)) t.facts)⟩, gids (fun f => decide (t.depth ≤ f.depth)) t.facts, 0) else (zero, [], 9)) := rfl
  clear hb1 hb3 x1 x3 x13 hbw HTA
  generalize popT t = R at *
  by_cases hok : tableOk t = true
  · rw [if_pos hok] at HTW HRR
    have HOK := Lib.hid hok
    clear hok
    by_cases hd : t.depth = 0
    · have hv : (t.depth == 0) = true := by simp [hd]
      have HR : Hid (R = (zero, [], 72)) := by show _ = _; rw [HRR.out, if_pos hd]
      clear hd
      go_enter Try.func11, Try.ntmps11
      go_wp2_with fail
      with_reducible refine HTW.out.mono ?_
      rintro e w4 ⟨rfl, hb4⟩
      have HB4 := Lib.hid (HB.out.trans (hb4.mono HB.out.size))
      have r1 := (HX1.out.next hb4 HX1.out.lt).at' 1 _ rfl
      have x5 := HX3.out.next hb4 HX3.out.lt
      have s0 := x5.at' 0 _ rfl
      have s1 := x5.at' 1 _ rfl
      have s2 := x5.at' 2 _ rfl
      have f0 := x5.fz 0
      have f1 := x5.fz 1
      have f2 := x5.fz 2
      clear hb4 x5 q0 q1 q2
      go_wp2_with fail
      refine bodyPost_ret (v := .tuple #[.agg #[.int .i64 0, .int .i64 0, .slice none 0 0], .slice none 0 0, .int .i64 72]) (by simp [results, Try.results11, go_sem, s0, s1, s2]) rfl ?_
      rw [HR.out]
      exact ⟨none, 0, [], none, 0, rfl, FOwn.nil _ _, World.ownsRow_nil _ _ _ _, below_set3 HB4.out HLE.out _ _ _⟩
    · have hv : (t.depth == 0) = false := by simp [hd]
      have HR : Hid (R = (⟨t.next, t.depth - 1, rest t.facts (gids (fun f => decide (t.depth ≤ f.depth)) t.facts)⟩, gids (fun f => decide (t.depth ≤ f.depth)) t.facts, 0)) := by show _ = _; rw [HRR.out, if_neg hd]
      have HD : IntKind.i64.wrap (t.depth - 1) = t.depth - 1 := by have h0 := (ok_of HOK.out).d0; have h1 := (ok_of HOK.out).d1; rw [IntKind.wrap_i64]; omega
      clear hd
      go_enter Try.func11, Try.ntmps11
      go_wp2_with fail
      with_reducible refine HTW.out.mono ?_
      rintro e w5 ⟨rfl, hb5⟩
      have HB5 := Lib.hid (HB.out.trans (hb5.mono HB.out.size))
      have x15 := HX1.out.next hb5 HX1.out.lt
      have HW5 := Lib.hid (HW.out HOK.out w5 HB5.out w.heap.size x15.lt (x15.at' 1 _ rfl))
      have HX5 := Lib.hid (HX3.out.next hb5 HX3.out.lt)
      have r0 := x15.at' 0 _ rfl
      have r1 := x15.at' 1 _ rfl
      have r2 := x15.at' 2 _ rfl
      clear hb5 x15 q0 q1 q2
      generalize hrst : rest t.facts (gids (fun f => decide (t.depth ≤ f.depth)) t.facts) = L at *
      generalize gids (fun f => decide (t.depth ≤ f.depth)) t.facts = I at *
      clear hrst
      go_wp2_with fail
      with_reducible refine HW5.out.mono ?_
      rintro e w6 ⟨a6, c6, vs6, ai, ci, rfl, hk6, ho6, hb6⟩
      have HB6 := Lib.hid (HB5.out.trans (hb6.mono HB5.out.size))
      have x6 := HX5.out.next hb6 HX5.out.lt
      obtain ⟨W7, hW7⟩ : ∃ U, w6.alloc (.cells #[.int .i64 t.next, .int .i64 t.depth, .slice a6 L.length c6] 24) = U := ⟨_, rfl⟩
      obtain ⟨hb7, x7⟩ := tbox _ _ _ _ _ _ _ hW7
      have x67 := x6.next hb7 x6.lt
      have HL7 := Lib.hid HX5.out.lt
      have HWW := Lib.hid hW7
      have h8 : W7.heap[w6.heap.size]? = some (.cells #[.int .i64 t.next, .int .i64 t.depth, .slice a6 L.length c6] 24 (0, 0)) := by rw [← hW7]; show (w6.heap.push _)[w6.heap.size]? = _; simp
      obtain ⟨w9, hw9⟩ : ∃ U, W7.setCell ⟨w6.heap.size, 1, none⟩ (.int .i64 (t.depth - 1)) = U := ⟨_, rfl⟩
      have x9 := x7.set 1 (.int .i64 (t.depth - 1))
      rw [hw9] at x9
      have hne : w6.heap.size ≠ W1.heap.size := by
        have h1 := HX5.out.lt
        have h2 := hb6.size
        omega
      have r9 := x67.other (a := ⟨w6.heap.size, 1, none⟩) hne (.int .i64 (t.depth - 1))
      rw [hw9] at r9
      have k9 := (hk6.next hb7).setT (o := 1) (u := .int .i64 (t.depth - 1)) h8
      rw [hw9] at k9
      have o9 := own_setT (o := 1) (u := .int .i64 (t.depth - 1)) (own_next ho6 hb7) h8 (by decide)
      rw [hw9] at o9
      have b9 : Below w5.heap.size w5 w9 := by rw [← hw9]; exact (hb6.trans (hb7.mono hb6.size)).setCell (p := ⟨w6.heap.size, 1, none⟩) hb6.size _
      have HK9 := Lib.hid k9
      have HO9 := Lib.hid o9
      have HB9 := Lib.hid (HB5.out.trans (b9.mono HB5.out.size))
      have HZ5 := Lib.hid HB5.out.size
      have p1 := x7.at' 1 _ rfl
      have g1 := x7.fz 1
      have s0 := r9.at' 0 _ rfl
      have s1 := r9.at' 1 _ rfl
      have s2 := r9.at' 2 _ rfl
      have f0 := r9.fz 0
      have f1 := r9.fz 1
      have f2 := r9.fz 2
      have t0 := x9.at' 0 _ rfl
      have t1 := x9.at' 1 _ rfl
      have t2 := x9.at' 2 _ rfl
      clear hk6 ho6 hb6 hb7 x6 r0 r1 r2 hW7 x7 x67 x9 r9 k9 o9 b9 h8
      go_upto_region 7 with fail
      rw [HWW.out]
      go_wp2_with fail
      refine bodyPost_ret (v := .tuple #[.agg #[.int .i64 t.next, .int .i64 (t.depth - 1), .slice a6 L.length c6], .slice ai I.length ci, .int .i64 0]) (by simp [results, Try.results11, go_sem, s0, s1, s2]) rfl ?_
      rw [HR.out]
      exact ⟨a6, c6, vs6, ai, ci, rfl, (HK9.out.set3 HL7.out _ _ _).mono HZ5.out, own_mono (own_set3 HO9.out HL7.out _ _ _) HZ5.out, below_set3 HB9.out HLE.out _ _ _⟩
  · rw [if_neg hok] at HTW HRR
    have HR : Hid (R = (zero, [], 9)) := HRR.out
    clear hok
    go_enter Try.func11, Try.ntmps11
    go_wp2_with fail
    with_reducible refine HTW.out.mono ?_
    rintro e w4 ⟨rfl, hb4⟩
    have HB4 := Lib.hid (HB.out.trans (hb4.mono HB.out.size))
    have x4 := HX3.out.next hb4 HX3.out.lt
    have s0 := x4.at' 0 _ rfl
    have s1 := x4.at' 1 _ rfl
    have s2 := x4.at' 2 _ rfl
    have f0 := x4.fz 0
    have f1 := x4.fz 1
    have f2 := x4.fz 2
    clear hb4 x4 q0 q1 q2
    go_wp2_with fail
    refine bodyPost_ret (v := .tuple #[.agg #[.int .i64 0, .int .i64 0, .slice none 0 0], .slice none 0 0, .int .i64 9]) (by simp [results, Try.results11, go_sem, s0, s1, s2]) rfl ?_
    rw [HR.out]
    exact ⟨none, 0, [], none, 0, rfl, FOwn.nil _ _, World.ownsRow_nil _ _ _ _, below_set3 HB4.out HLE.out _ _ _⟩
end Fact
end Go.Proofs.Ytgbpoeidpldmkaa
