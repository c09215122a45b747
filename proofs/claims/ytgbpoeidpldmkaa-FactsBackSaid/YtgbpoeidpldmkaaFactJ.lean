/-
  facts.New, Assume, Lemma; the law's alive.
-/
import Derived.Test.YtgbpoeidpldmkaaFactI
namespace Go.Proofs.Ytgbpoeidpldmkaa
open Go.RowKit Base
set_option linter.unusedVariables false
set_option linter.unusedSimpArgs false
namespace Fact
open Vals (srt srt_spec srt_one)

set_option maxHeartbeats 1000000 in
theorem new_any (w : World) : Calls Try.prog 14 #[] w fun e w' => e = .returned (.agg #[.int .i64 1, .int .i64 0, .slice none 0 0]) ∧ Below w.heap.size w w' := by
  obtain ⟨U, hU⟩ : ∃ U, w.alloc (.cells #[.int .i64 1, .int .i64 0, .slice none 0 0] 24) = U := ⟨_, rfl⟩
  obtain ⟨hb, x⟩ := tbox _ _ _ _ _ _ _ hU
  have s0 := x.at' 0 _ rfl
  have s1 := x.at' 1 _ rfl
  have s2 := x.at' 2 _ rfl
  have HB := Lib.hid hb
  have HU := Lib.hid hU
  clear hb x hU
  go_enter Try.func14, Try.ntmps14
  go_wp2_with fail
  refine bodyPost_ret (v := .agg #[.int .i64 1, .int .i64 0, .slice none 0 0]) (by simp [results, Try.results14, go_sem]) rfl ?_
  exact ⟨rfl, by rw [HU.out]; exact HB.out⟩

set_option maxHeartbeats 2000000 in
theorem assume_any (w : World) (t : Tb) (a : Option Addr) (c : Nat) (vs : List (List Value)) (hs : SlF w a t.facts.length c vs t.facts) (hw : WfF t.facts) (al : Option Addr) (nl cl : Nat) (l : List Int) (hl : Sl w al nl cl (ints l)) (hnl : nl * 8 ≤ 140737488355328) (hwl : Clause.Wf l) :
    Calls Try.prog 9 #[tagg t a c, .slice al nl cl] w fun e w' => ∃ a' c' vs', e = .returned (.tuple #[tagg (putT t 1 l).1 a' c', .int .i64 (putT t 1 l).2.1, .int .i64 (putT t 1 l).2.2]) ∧ FOwn w' w.heap.size a' (putT t 1 l).1.facts.length c' vs' (putT t 1 l).1.facts ∧ Below w.heap.size w w' := by
  have HPU := Lib.hid (fun (U : World) (hU : Below w.heap.size w U) => put_any U t a c vs (hs.next hU) hw 1 (by decide) al nl cl l (hl.next hU) hnl hwl)
  clear hs hw hl hnl hwl
  unfold tagg at *
  obtain ⟨W1, hW1⟩ : ∃ U, w.alloc (.cells #[.int .i64 t.next, .int .i64 t.depth, .slice a t.facts.length c] 24) = U := ⟨_, rfl⟩
  obtain ⟨W2, hW2⟩ : ∃ U, W1.alloc (.cells #[.int .i64 0, .int .i64 0, .slice none 0 0] 24) = U := ⟨_, rfl⟩
  obtain ⟨hb1, x1⟩ := tbox _ _ _ _ _ _ _ hW1
  obtain ⟨hb2, x2⟩ := tbox _ _ _ _ _ _ _ hW2
  have x12 := x1.next hb2 x1.lt
  have hbw := hb1.trans (hb2.mono hb1.size)
  have HB := Lib.hid hbw
  have HX2 := Lib.hid x2
  have HLE := Lib.hid hb1.size
  have q0 := x12.at' 0 _ rfl
  have q1 := x12.at' 1 _ rfl
  have q2 := x12.at' 2 _ rfl
  have HP2 := Lib.hid (HPU.out W2 hbw)
  clear hb1 hb2 x1 x2 x12 hbw HPU
  generalize putT t 1 l = R at *
  generalize hL : R.1.facts.length = n at *
  go_enter Try.func9, Try.ntmps9
  go_wp2_with fail
  with_reducible refine HP2.out.mono ?_
  rintro e w3 ⟨a3, c3, vs3, rfl, hk3, hb3⟩
  have x3 := HX2.out.next hb3 HX2.out.lt
  have HK3 := Lib.hid hk3
  have HB3 := Lib.hid (HB.out.trans (hb3.mono HB.out.size))
  have s0 := x3.at' 0 _ rfl
  have s1 := x3.at' 1 _ rfl
  have s2 := x3.at' 2 _ rfl
  have f0 := x3.fz 0
  have f1 := x3.fz 1
  have f2 := x3.fz 2
  clear hk3 hb3 x3 q0 q1 q2
  go_wp2_with fail
  refine bodyPost_ret (v := .tuple #[.agg #[.int .i64 R.1.next, .int .i64 R.1.depth, .slice a3 n c3], .int .i64 R.2.1, .int .i64 R.2.2]) (by simp [results, Try.results9, go_sem, s0, s1, s2]) rfl ?_
  exact ⟨a3, c3, vs3, rfl, (HK3.out.set3 HX2.out.lt _ _ _).mono HB.out.size, below_set3 HB3.out HLE.out _ _ _⟩

set_option maxHeartbeats 2000000 in
theorem lemma_any (w : World) (t : Tb) (a : Option Addr) (c : Nat) (vs : List (List Value)) (hs : SlF w a t.facts.length c vs t.facts) (hw : WfF t.facts) (al : Option Addr) (nl cl : Nat) (l : List Int) (hl : Sl w al nl cl (ints l)) (hnl : nl * 8 ≤ 140737488355328) (hwl : Clause.Wf l) :
    Calls Try.prog 10 #[tagg t a c, .slice al nl cl] w fun e w' => ∃ a' c' vs', e = .returned (.tuple #[tagg (putT t 2 l).1 a' c', .int .i64 (putT t 2 l).2.1, .int .i64 (putT t 2 l).2.2]) ∧ FOwn w' w.heap.size a' (putT t 2 l).1.facts.length c' vs' (putT t 2 l).1.facts ∧ Below w.heap.size w w' := by
  have HPU := Lib.hid (fun (U : World) (hU : Below w.heap.size w U) => put_any U t a c vs (hs.next hU) hw 2 (by decide) al nl cl l (hl.next hU) hnl hwl)
  clear hs hw hl hnl hwl
  unfold tagg at *
  obtain ⟨W1, hW1⟩ : ∃ U, w.alloc (.cells #[.int .i64 t.next, .int .i64 t.depth, .slice a t.facts.length c] 24) = U := ⟨_, rfl⟩
  obtain ⟨W2, hW2⟩ : ∃ U, W1.alloc (.cells #[.int .i64 0, .int .i64 0, .slice none 0 0] 24) = U := ⟨_, rfl⟩
  obtain ⟨hb1, x1⟩ := tbox _ _ _ _ _ _ _ hW1
  obtain ⟨hb2, x2⟩ := tbox _ _ _ _ _ _ _ hW2
  have x12 := x1.next hb2 x1.lt
  have hbw := hb1.trans (hb2.mono hb1.size)
  have HB := Lib.hid hbw
  have HX2 := Lib.hid x2
  have HLE := Lib.hid hb1.size
  have q0 := x12.at' 0 _ rfl
  have q1 := x12.at' 1 _ rfl
  have q2 := x12.at' 2 _ rfl
  have HP2 := Lib.hid (HPU.out W2 hbw)
  clear hb1 hb2 x1 x2 x12 hbw HPU
  generalize putT t 2 l = R at *
  generalize hL : R.1.facts.length = n at *
  go_enter Try.func10, Try.ntmps10
  go_wp2_with fail
  with_reducible refine HP2.out.mono ?_
  rintro e w3 ⟨a3, c3, vs3, rfl, hk3, hb3⟩
  have x3 := HX2.out.next hb3 HX2.out.lt
  have HK3 := Lib.hid hk3
  have HB3 := Lib.hid (HB.out.trans (hb3.mono HB.out.size))
  have s0 := x3.at' 0 _ rfl
  have s1 := x3.at' 1 _ rfl
  have s2 := x3.at' 2 _ rfl
  have f0 := x3.fz 0
  have f1 := x3.fz 1
  have f2 := x3.fz 2
  clear hk3 hb3 x3 q0 q1 q2
  go_wp2_with fail
  refine bodyPost_ret (v := .tuple #[.agg #[.int .i64 R.1.next, .int .i64 R.1.depth, .slice a3 n c3], .int .i64 R.2.1, .int .i64 R.2.2]) (by simp [results, Try.results10, go_sem, s0, s1, s2]) rfl ?_
  exact ⟨a3, c3, vs3, rfl, (HK3.out.set3 HX2.out.lt _ _ _).mono HB.out.size, below_set3 HB3.out HLE.out _ _ _⟩

theorem srt_single (x : Int) : srt [x] = [x] := (srt_self (by simp)).symm
theorem lits_single {x : Int} (h0 : 0 ≤ x) (h1 : x ≤ 4096) : litsOk (srt [x]) = true := by
  rw [srt_single]
  unfold litsOk odd
  rw [srt_single]
  have e1 : decide (x < 0) = false := decide_eq_false (by omega)
  have e2 : decide (2048 < max x 0 / 2) = false := decide_eq_false (by omega)
  simp [e1, e2]

def t0 : Tb := ⟨1, 0, []⟩
def t1 : Tb := ⟨2, 0, [⟨1, 1, 0, [2], []⟩]⟩
def t2 : Tb := ⟨3, 0, [⟨1, 1, 0, [2], []⟩, ⟨2, 2, 0, [4], [1]⟩]⟩

theorem ok0 : tableOk t0 = true := ok_to ⟨by decide, by decide, by decide, by decide, by decide, (by intro x hx; cases hx), (by simp [t0]), (by intro pre x post he; simp [t0] at he)⟩
theorem put0 : putT t0 1 [2] = (t1, 1, 0) := by
  unfold putT
  rw [if_pos ok0, if_pos (lits_single (by decide) (by decide)), if_neg (by decide), if_neg (by decide), srt_single]
  rfl
theorem ok1 : tableOk t1 = true := by
  have h := ok_put (ok_of ok0) (kind := 1) (.inl rfl) (lits_single (x := 2) (by decide) (by decide)) (by decide) (by decide)
  rw [srt_single] at h
  exact ok_to h
theorem put1 : putT t1 2 [4] = (t2, 2, 0) := by
  unfold putT
  rw [if_pos ok1, if_pos (lits_single (by decide) (by decide)), if_neg (by decide), if_neg (by decide), srt_single]
  rfl
theorem ok2 : tableOk t2 = true := by
  have h := ok_put (ok_of ok1) (kind := 2) (.inr rfl) (lits_single (x := 4) (by decide) (by decide)) (by decide) (by decide)
  rw [srt_single] at h
  exact ok_to h
theorem ret2 : retract t2 1 = (⟨3, 0, []⟩, [1, 2], 0) := by
  unfold retract
  rw [if_pos ok2, if_pos (by decide)]
  rfl

theorem sl_one (w : World) (x : Int) : Sl (w.alloc (.cells #[.int .i64 x] 3)) (some ⟨w.heap.size, 0, none⟩) 1 1 (ints [x]) := sl_new w #[.int .i64 x] 3 1 rfl (by omega)
theorem wf_t1 : WfF t1.facts := ⟨(by intro f hf; simp [t1] at hf; subst hf; intro x hx; simp at hx; subst hx; decide), (by intro f hf; simp [t1] at hf; subst hf; decide)⟩
theorem wf_t2 : WfF t2.facts := ⟨(by intro f hf; simp [t2] at hf; rcases hf with rfl | rfl <;> (intro x hx; simp at hx; subst hx; decide)), (by intro f hf; simp [t2] at hf; rcases hf with rfl | rfl <;> decide)⟩

set_option maxRecDepth 4000 in
set_option maxHeartbeats 4000000 in
theorem alive_any (w : World) : Calls Try.prog 5 #[] w fun e w' => e = .returned (.bool true) ∧ Below w.heap.size w w' := by
  have HNW := Lib.hid (new_any w)
  go_enter Try.func5, Try.ntmps5
  go_wp2_with fail
  with_reducible refine HNW.out.mono ?_
  rintro e w1 ⟨rfl, hb1⟩
  obtain ⟨W2, hW2⟩ : ∃ U, w1.alloc (.cells #[.int .i64 2] 3) = U := ⟨_, rfl⟩
  have hb2 : Below w1.heap.size w1 W2 := by rw [← hW2]; exact (Below.refl _ _).alloc (Nat.le_refl _) _
  have HB2 := Lib.hid (hb1.trans (hb2.mono hb1.size))
  have HA := assume_any W2 t0 none 0 [] (SlF.nil W2) ⟨(by intro f hf; cases hf), (by intro f hf; cases hf)⟩ (some ⟨w1.heap.size, 0, none⟩) 1 1 [2] (by rw [← hW2]; exact sl_one w1 2) (by decide) (by intro x hx; simp at hx; subst hx; decide)
  rw [put0] at HA
  have HA := Lib.hid HA
  clear hb1 hb2
  simp only [tagg, t0, t1, List.length_nil, List.length_cons, Nat.zero_add] at HA
  go_wp2_with fail
  with_reducible refine HA.out.mono ?_
  rintro e w3 ⟨a3, c3, vs3, rfl, hk3, hb3⟩
  obtain ⟨W4, hW4⟩ : ∃ U, w3.alloc (.cells #[.int .i64 2, .int .i64 0, .slice a3 1 c3] 24) = U := ⟨_, rfl⟩
  obtain ⟨hb4, x4⟩ := tbox _ _ _ _ _ _ _ hW4
  obtain ⟨W5, hW5⟩ : ∃ U, W4.alloc (.cells #[.int .i64 4] 3) = U := ⟨_, rfl⟩
  have hb5 : Below W4.heap.size W4 W5 := by rw [← hW5]; exact (Below.refl _ _).alloc (Nat.le_refl _) _
  have hk5 := (hk3.next hb4).next hb5
  have x45 := x4.next hb5 x4.lt
  have HL := lemma_any W5 t1 a3 c3 vs3 hk5.slF wf_t1 (some ⟨W4.heap.size, 0, none⟩) 1 1 [4] (by rw [← hW5]; exact sl_one W4 4) (by decide) (by intro x hx; simp at hx; subst hx; decide)
  rw [put1] at HL
  have HL := Lib.hid HL
  simp only [tagg, t1, t2, List.length_nil, List.length_cons, Nat.zero_add, Nat.reduceAdd] at HL
  have HB3 := Lib.hid (HB2.out.trans (hb3.mono HB2.out.size))
  have HB5 := Lib.hid (HB3.out.trans ((hb4.trans (hb5.mono hb4.size)).mono HB3.out.size))
  have HX45 := Lib.hid x45
  have HZ3 := Lib.hid HB3.out.size
  have p0 := x4.at' 0 _ rfl
  have p1 := x4.at' 1 _ rfl
  have p2 := x4.at' 2 _ rfl
  clear hk3 hb3 hb4 hb5 x4 hk5 x45 hW2
  go_wp2_with fail
  with_reducible refine HL.out.mono ?_
  rintro e w6 ⟨a6, c6, vs6, rfl, hk6, hb6⟩
  have x6 := HX45.out.next hb6 HX45.out.lt
  have s0 := x6.at' 0 _ rfl
  have s1 := x6.at' 1 _ rfl
  have s2 := x6.at' 2 _ rfl
  have f0 := x6.fz 0
  have f1 := x6.fz 1
  have f2 := x6.fz 2
  obtain ⟨w7, hw7⟩ : ∃ U, w6.setCell ⟨w3.heap.size, 0, none⟩ (.int .i64 3) = U := ⟨_, rfl⟩
  obtain ⟨w8, hw8⟩ : ∃ U, w7.setCell ⟨w3.heap.size, 1, none⟩ (.int .i64 0) = U := ⟨_, rfl⟩
  obtain ⟨w9, hw9⟩ : ∃ U, w8.setCell ⟨w3.heap.size, 2, none⟩ (.slice a6 2 c6) = U := ⟨_, rfl⟩
  have x7 := x6.set 0 (.int .i64 3)
  rw [hw7] at x7
  have x8 := x7.set 1 (.int .i64 0)
  rw [hw8] at x8
  have x9 := x8.set 2 (.slice a6 2 c6)
  rw [hw9] at x9
  have hk9 := hk6.set3 (N := w3.heap.size) HX45.out.lt (.int .i64 3) (.int .i64 0) (.slice a6 2 c6)
  rw [hw7, hw8, hw9] at hk9
  have hb9 := below_set3 (HB5.out.trans (hb6.mono HB5.out.size)) (N := w3.heap.size) HZ3.out (.int .i64 3) (.int .i64 0) (.slice a6 2 c6)
  rw [hw7, hw8, hw9] at hb9
  have u1 := x7.at' 1 _ rfl
  have v1 := x7.fz 1
  have u2 := x8.at' 2 _ rfl
  have v2 := x8.fz 2
  have y0 := x9.at' 0 _ rfl
  have y1 := x9.at' 1 _ rfl
  have y2 := x9.at' 2 _ rfl
  have HR := retract_any w9 t2 a6 c6 vs6 hk9.slF wf_t2 1
  rw [ret2] at HR
  have HR := Lib.hid HR
  simp only [tagg, t2, List.length_nil, List.length_cons, Nat.zero_add, Nat.reduceAdd] at HR
  have HB9 := Lib.hid hb9
  clear hk6 hb6 x6 x7 x8 x9 hk9 hb9 p0 p1 p2 hW4 hW5
  go_wp2_with fail
  with_reducible refine HR.out.mono ?_
  rintro e w10 ⟨a10, c10, vs10, ai, ci, rfl, hk10, ho10, hb10⟩
  obtain ⟨W11, hW11⟩ : ∃ U, w10.alloc (.cells #[.int .i64 3, .int .i64 0, .slice a10 0 c10] 24) = U := ⟨_, rfl⟩
  obtain ⟨hb11, x11⟩ := tbox _ _ _ _ _ _ _ hW11
  have HB11 := Lib.hid (HB9.out.trans ((hb10.trans (hb11.mono hb10.size)).mono HB9.out.size))
  have z2 := x11.at' 2 _ rfl
  clear hk10 ho10 hb10 hb11 x11 s0 s1 s2 f0 f1 f2 u1 v1 u2 v2 y0 y1 y2 hw7 hw8 hw9
  go_wp2_with fail
  go_ret
  exact ⟨rfl, HB11.out⟩
end Fact
end Go.Proofs.Ytgbpoeidpldmkaa
