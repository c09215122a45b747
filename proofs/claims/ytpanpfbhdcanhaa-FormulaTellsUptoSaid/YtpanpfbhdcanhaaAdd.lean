/-
  formula.Add: a formula with clauses more, in memory of its own.
-/
import Derived.Test.YtpanpfbhdcanhaaFormulaCheck
import Derived.Test.YtpanpfbhdcanhaaCloneI
import Derived.Test.YtpanpfbhdcanhaaConcatR
import Derived.Deep.RegionHeld3
import Derived.Deep.RegionLaw
import Derived.Deep.AppendLies
namespace Go.Proofs.Ytpanpfbhdcanhaa
open Go.RowKit Base
set_option linter.unusedVariables false
set_option linter.unusedSimpArgs false
namespace Add

theorem info25 : (Try.prog.info? 25).map (fun i => (i.zero, i.size, i.bytes)) = some (some (.slice none 0 0), 1, 24) := by kernel_rfl

/-- The world behind Add's first rows: the formula's box, the result, the new formula, the two slices of clauses. -/
def W4 (w : World) (vars : Int) (a : Option Addr) (n c : Nat) (a1 : Option Addr) (n1 c1 : Nat) : World :=
  (((w.alloc (.cells #[.int .i64 vars, .slice a n c] 24)).alloc (.cells #[.int .i64 0, .slice none 0 0] 24)).alloc (.cells #[.int .i64 vars, .slice none 0 0] 24)).alloc (.cells #[.slice a n c, .slice a1 n1 c1] 22)

/-- What is known of Add's own blocks. -/
structure Own (N : Nat) (vars : Int) (W : World) : Prop where
  r0 : W.cell? ⟨N + 1, 0, none⟩ = some (.int .i64 0)
  r1 : W.cell? ⟨N + 1, 1, none⟩ = some (.slice none 0 0)
  o0 : W.cell? ⟨N + 1 + 1, 0, none⟩ = some (.int .i64 vars)
  z0 : W.frozen? ⟨N + 1, 0, none⟩ = false
  z1 : W.frozen? ⟨N + 1, 1, none⟩ = false
  y1 : W.frozen? ⟨N + 1 + 1, 1, none⟩ = false
  size : N + 4 ≤ W.heap.size

theorem own4 (w : World) (vars : Int) (a : Option Addr) (n c : Nat) (a1 : Option Addr) (n1 c1 : Nat) :
    Own w.heap.size vars (W4 w vars a n c a1 n1 c1) ∧ (W4 w vars a n c a1 n1 c1).cell? ⟨w.heap.size + 1 + 1, 1, none⟩ = some (.slice none 0 0) ∧ Below w.heap.size w (W4 w vars a n c a1 n1 c1) ∧ (W4 w vars a n c a1 n1 c1).heap.size = w.heap.size + 4 ∧
    Sl (W4 w vars a n c a1 n1 c1) (some ⟨w.heap.size + 1 + 1 + 1, 0, none⟩) 2 2 [.slice a n c, .slice a1 n1 c1] := by
  unfold W4
  refine ⟨⟨?_, ?_, ?_, ?_, ?_, ?_, ?_⟩, ?_, ?_, ?_, ?_⟩
  · simp [go_sem]
  · simp [go_sem]
  · simp [go_sem]
  · simp [go_sem]
  · simp [go_sem]
  · simp [go_sem]
  · simp
  · simp [go_sem]
  · exact ((((Below.refl _ _).alloc (Nat.le_refl _) _).alloc (by simp) _).alloc (by simp; omega) _).alloc (by simp; omega) _
  · simp
  · have := sl_new (((w.alloc (.cells #[.int .i64 vars, .slice a n c] 24)).alloc (.cells #[.int .i64 0, .slice none 0 0] 24)).alloc (.cells #[.int .i64 vars, .slice none 0 0] 24)) #[.slice a n c, .slice a1 n1 c1] 22 2 rfl (by decide)
    simpa using this

theorem Own.next {N : Nat} {vars : Int} {W W' : World} (h : Own N vars W) (hb : Below (N + 4) W W') : Own N vars W' :=
  ⟨(hb.cell (p := ⟨N + 1, 0, none⟩) (by show N + 1 < N + 4; omega)).trans h.r0, (hb.cell (p := ⟨N + 1, 1, none⟩) (by show N + 1 < N + 4; omega)).trans h.r1,
   (hb.cell (p := ⟨N + 1 + 1, 0, none⟩) (by show N + 1 + 1 < N + 4; omega)).trans h.o0,
   (hb.frozen (p := ⟨N + 1, 0, none⟩) (by show N + 1 < N + 4; omega)).trans h.z0, (hb.frozen (p := ⟨N + 1, 1, none⟩) (by show N + 1 < N + 4; omega)).trans h.z1,
   (hb.frozen (p := ⟨N + 1 + 1, 1, none⟩) (by show N + 1 + 1 < N + 4; omega)).trans h.y1, Nat.le_trans h.size hb.size⟩

theorem rows_append {w : World} {v1 v2 : List Value} {x1 x2 : List (List Int)} (hl : v1.length = x1.length) (h1 : ∀ (k : Nat) (v : Value) (xs : List Int), v1[k]? = some v → x1[k]? = some xs → IntsV w v xs)
    (h2 : ∀ (k : Nat) (v : Value) (xs : List Int), v2[k]? = some v → x2[k]? = some xs → IntsV w v xs) :
    ∀ (k : Nat) (v : Value) (xs : List Int), (v1 ++ v2)[k]? = some v → (x1 ++ x2)[k]? = some xs → IntsV w v xs := by
  intro k v xs hv hx
  by_cases hk : k < v1.length
  · rw [List.getElem?_append_left hk] at hv
    rw [List.getElem?_append_left (by omega)] at hx
    exact h1 k v xs hv hx
  · rw [List.getElem?_append_right (by omega)] at hv
    rw [List.getElem?_append_right (by omega)] at hx
    rw [← hl] at hx
    exact h2 _ v xs hv hx

/-- From behind a draw. -/
theorem undrew {B : Nat} {w w' : World} (h : Below B w.drew w') : Below B w w' := ⟨h.os, h.tape, h.output, h.size, h.block⟩

/-- Behind an append to a row of the call's own: a cell below its base stands. -/
theorem grown_keeps {w w1 : World} {o : Obj} {B b i : Nat} {e : TypeId} {size : Nat} {v : Value} {n : Nat} {vs : List Value} (h : w.ownsRow B e size v n vs) (hg : (w.alloc o).grownBy w1 v.ownBlock) (hb : b < B) (hw : b < w.heap.size) :
    w1.cell? ⟨b, i, none⟩ = w.cell? ⟨b, i, none⟩ ∧ w1.frozen? ⟨b, i, none⟩ = w.frozen? ⟨b, i, none⟩ := by
  have hblk : w1.heap[b]? = w.heap[b]? := by
    rw [hg.block b (by simp; omega) (fun e => by have := (h.lt b e.symm).1; omega)]
    exact Below.heap_alloc w o b hw
  exact ⟨World.cell?_of_block (w := w) (a := ⟨b, i, none⟩) hblk, World.frozen?_of_block (w := w) (a := ⟨b, i, none⟩) hblk⟩

theorem slices_one {w : World} {a : Option Addr} {n c : Nat} {vs : List Value} {xss : List (List Int)} (h : Sl2 w a n c vs xss) : ∀ v ∈ vs, v.oneCell' = true := by
  intro v hv
  obtain ⟨k, hk, rfl⟩ := List.mem_iff_getElem.1 hv
  have hl := h.sl.len
  have hx : k < xss.length := by have := h.len; omega
  obtain ⟨a', c', e, _⟩ := h.row k _ xss[k] (List.getElem?_eq_getElem hk) (List.getElem?_eq_getElem hx)
  rw [e]; rfl

/-- What Add hands back. -/
def Out (w : World) (vars : Int) (all : List (List Int)) (e : Ending) (w' : World) : Prop :=
  (if Formula.check vars all = 0 then ∃ a c vals, e = .returned (.tuple #[.agg #[.int .i64 vars, .slice a all.length c], .int .i64 0]) ∧ Sl2 w' a all.length c vals all
    else e = .returned (.tuple #[.agg #[.int .i64 0, .slice none 0 0], .int .i64 9])) ∧ Below w.heap.size w w'

set_option maxHeartbeats 4000000 in
theorem add_any (w : World) (vars : Int) (a : Option Addr) (n c : Nat) (vs : List Value) (cls : List (List Int)) (hsl : Sl2 w a n c vs cls) (hw : Formula.Wf2 cls)
    (a1 : Option Addr) (n1 c1 : Nat) (vs1 : List Value) (more : List (List Int)) (hsl1 : Sl2 w a1 n1 c1 vs1 more) (hw1 : Formula.Wf2 more)
    (hn : n + n1 ≤ 1073741824) (hlen : ∀ l ∈ cls ++ more, l.length ≤ 1073741824) :
    Calls Try.prog 19 #[.agg #[.int .i64 vars, .slice a n c], .slice a1 n1 c1] w (Out w vars (cls ++ more)) := by
  obtain ⟨h4, hout, hb4, hz4, hs4⟩ := own4 w vars a n c a1 n1 c1
  obtain ⟨W, hW⟩ : ∃ W, W = W4 w vars a n c a1 n1 c1 := ⟨_, rfl⟩
  rw [← hW] at h4 hout hb4 hz4 hs4
  obtain ⟨N, hN⟩ : ∃ N, N = w.heap.size := ⟨_, rfl⟩
  have hv0 : vs.length = n := hsl.sl.len
  have hv1 : vs1.length = n1 := hsl1.sl.len
  have htot : ConcatR.tot [vs, vs1] = n + n1 := by simp [ConcatR.tot, hv0, hv1]
  have hparts : ConcatR.Parts W [.slice a n c, .slice a1 n1 c1] [vs, vs1] := by
    refine ⟨rfl, fun k v u hv hu => ?_⟩
    match k, hv, hu with
    | 0, hv, hu =>
      simp at hv hu; subst hv; subst hu
      exact ⟨a, c, by rw [hv0], by rw [hv0]; exact (hsl.next hb4).sl⟩
    | 1, hv, hu =>
      simp at hv hu; subst hv; subst hu
      exact ⟨a1, c1, by rw [hv1], by rw [hv1]; exact (hsl1.next hb4).sl⟩
  have HCON := Lib.hid (ConcatR.concat W _ 2 2 _ [vs, vs1] hs4 hparts (by intro u hu; simp at hu; rcases hu with rfl | rfl; exact slices_one hsl; exact slices_one hsl1) (by rw [htot]; omega) (by rw [htot]; omega))
  rw [htot] at HCON
  rw [← hN] at hs4 HCON
  have HW := Lib.hid hW
  have H4 := Lib.hid h4
  have HOUT := Lib.hid hout
  have HB4 := Lib.hid hb4
  have HZ4 := Lib.hid hz4
  have HN := Lib.hid hN
  clear hW h4 hout hb4 hz4 hN hs4 hparts htot hv0 hv1
  go_enter Try.func19, Try.ntmps19
  go_wp2_with fail
  have e : (((w.alloc (.cells #[.int .i64 vars, .slice a n c] 24)).alloc (.cells #[.int .i64 0, .slice none 0 0] 24)).alloc (.cells #[.int .i64 vars, .slice none 0 0] 24)).alloc (.cells #[.slice a n c, .slice a1 n1 c1] 22) = W := HW.out.symm
  rw [e]
  clear e
  rw [← HN.out] at HOUT H4 ⊢
  refine HCON.out.mono ?_
  rintro e w5 ⟨a5, c5, rfl, hown5, hb5⟩
  obtain ⟨a5', c5', ev5, hsl5⟩ := own_sl hown5
  simp only [Value.slice.injEq] at ev5
  obtain ⟨rfl, _, rfl⟩ := ev5
  have hfl : [vs, vs1].flatten = vs ++ vs1 := by simp
  rw [hfl] at hsl5
  have H45 := Lib.hid (H4.out.next (hb5.mono H4.out.size))
  have ho5 : w5.cell? ⟨N + 1 + 1, 1, none⟩ = some (.slice none 0 0) := (hb5.cell (p := ⟨N + 1 + 1, 1, none⟩) (by have := H4.out.size; show N + 1 + 1 < W.heap.size; omega)).trans HOUT.out
  have hbw5 : Below w.heap.size w w5 := HB4.out.trans (hb5.mono HB4.out.size)
  have hall : Sl2 w5 a5 (n + n1) c5 (vs ++ vs1) (cls ++ more) :=
    ⟨hsl5, by have h1 := hsl.len; have h2 := hsl1.len; simp; omega, rows_append (by rw [hsl.sl.len, hsl.len]) (hsl.next hbw5).row (hsl1.next hbw5).row⟩
  have hNsz : N + 4 ≤ w5.heap.size := H45.out.size
  have HO5 := Lib.hid ho5
  have HROW := Lib.hid (rows_append (by rw [hsl.sl.len, hsl.len]) hsl.row hsl1.row)
  have HOWN5 := Lib.hid hown5
  have hWN : W.heap.size = N + 4 := by rw [HZ4.out, ← HN.out]
  have HWN := Lib.hid hWN
  clear hWN
  generalize hal : cls ++ more = all at *
  have HAL := Lib.hid hal
  have HLEN := Lib.hid hlen
  clear hown5 hsl5 hfl ho5 hal hlen
  go_wp2_with fail
  go_loopw [19] (fun i wr => ∃ k : Nat, k ≤ n + n1 ∧ i = .int .i64 k ∧ (∃ a' c' vals, wr.cell? ⟨N + 1 + 1, 1, none⟩ = some (.slice a' k c') ∧
      Own2 wr w5.heap.size 25 3 (.slice a' k c') k vals (all.take k) ∧ Below w5.heap.size (w5.setCell ⟨N + 1 + 1, 1, none⟩ (.slice a' k c')) wr)) (fun i _ => n + n1 - (intOf i).toNat)
  case atStart =>
    refine ⟨0, Nat.zero_le _, rfl, none, 0, [], HO5.out, Own2.nil _ _ _ _, ?_⟩
    rw [setCell_same w5 _ _ HO5.out]
    exact Below.refl _ _
  case round =>
    obtain ⟨k, hk, rfl, a', c', vals, hc1, hown, hbr⟩ := hrel
    have hy1 : wr.frozen? ⟨N + 1 + 1, 1, none⟩ = false := (hbr.frozen (p := ⟨N + 1 + 1, 1, none⟩) (by show N + 1 + 1 < w5.heap.size; omega)).trans (by rw [World.frozen?_setCell]; exact H45.out.y1)
    by_cases hlt : k < n + n1
    · obtain ⟨g5, hg5, hgW, hg5'⟩ := own_addr HOWN5.out (by omega)
      obtain ⟨b, o, a6, c6, hx, hab, hbs, hc, _, hvk⟩ := hall.at hlt
      obtain ⟨a7, c7, e7, hrow⟩ := HROW.out k _ _ hvk (List.getElem?_eq_getElem hx)
      simp only [Value.slice.injEq] at e7
      obtain ⟨rfl, _, rfl⟩ := e7
      subst hg5
      simp only [Option.some.injEq, Addr.mk.injEq] at hab
      obtain ⟨rfl, rfl, _⟩ := hab
      rw [HWN.out] at hgW
      have hbwr : Below w.heap.size w wr := (hbw5.setCell (by show w.heap.size ≤ N + 1 + 1; rw [← HN.out]; omega) _).trans (hbr.mono hbw5.size)
      have hcr : wr.cell? ⟨g5, k, none⟩ = some (.slice a6 all[k].length c6) := by
        refine (hbr.cell (p := ⟨g5, k, none⟩) hbs).trans ((World.cell?_setCell_other _ _ _ _ (fun h => by simp only [Addr.mk.injEq] at h; omega)).trans ?_)
        rw [Nat.zero_add] at hc
        exact hc
      have hsz : w5.heap.size ≤ wr.heap.size := by have := hbr.size; simpa using this
      have HCL := Lib.hid (fun (U : World) (hU : Below wr.heap.size wr U) => CloneI.clone U a6 all[k].length c6 (ints all[k]) ((hrow.next hbwr).next hU) (ints_one _) (by have := HLEN.out _ (List.getElem_mem hx); omega))
      have HX := Lib.hid hx
      have HT : Hid (all.take (k + 1) = all.take k ++ [all[k]]) := List.take_succ_eq_append_getElem hx
      clear hc hvk hrow
      generalize all[k] = xs at *
      generalize hm : xs.length = m at *
      have HM := Lib.hid hm
      clear hm
      obtain ⟨i0, hi0, hz0, hz1, hz2⟩ := info_parts info25
      go_wp2_with fail
      have hone : ∀ u ∈ [Value.slice a6 m c6], u.oneCell' = true := by intro u hu; simp at hu; subst hu; rfl
      go_region_law (first | (go_simp; go_at_call 40; refine (HCL.out _ (by exact (Below.refl _ _).drew)).mono ?_; rintro e w6 ⟨a8, c8, rfl, hown8, hb8'⟩; (have hb8 : Below wr.heap.size wr w6 := undrew hb8'); (have hc6 : w6.cell? ⟨N + 1 + 1, 1, none⟩ = some (.slice a' k c') := (hb8.cell (p := ⟨N + 1 + 1, 1, none⟩) (by show N + 1 + 1 < wr.heap.size; omega)).trans hc1); (have hf6 : w6.frozen? ⟨N + 1 + 1, 1, none⟩ = false := (hb8.frozen (p := ⟨N + 1 + 1, 1, none⟩) (by show N + 1 + 1 < wr.heap.size; omega)).trans hy1); (have hown6 : Own2 w6 w5.heap.size 25 3 (.slice a' k c') k vals (all.take k) := hown.next hb8); (have hsz6 : wr.heap.size ≤ w6.heap.size := hb8.size); (have hc6a : (w6.alloc (.cells #[.slice a8 m c8] 25)).cell? ⟨N + 1 + 1, 1, none⟩ = some (.slice a' k c') := (World.cell?_alloc_past _ _ _ (by omega)).trans hc6)) | (refine step_append_lies _ (by rfl) _ _ _ (by rfl) w5.heap.size 25 i0 (.slice none 0 0) 1 24 Try.underlying22 hi0 hz0 hz1 hz2 rfl (by omega) (.slice a' k c') k vals (by rfl) (hown6.outer.alloc _) ⟨w6.heap.size, 0, none⟩ 1 1 [.slice a8 m c8] (by rfl) (by rfl) (cell_one_new _ _ _) ?_ (by omega) (by unfold maxLen; omega) (by omega) (by simp; omega) (w6.heap.size + 1) (by simp) ?_; (intro u hu; simp at hu; subst hu; rfl); intro g9 cap9 w9 hown9 hgrow9 hat9 hlt9; (have hkeep9 := grown_keeps (b := N + 1 + 1) (i := 1) hown6.outer hgrow9 (by omega) (by omega)); (have hc9 : w9.cell? ⟨N + 1 + 1, 1, none⟩ = some (.slice a' k c') := hkeep9.1.trans hc6); (have hf9 : w9.frozen? ⟨N + 1 + 1, 1, none⟩ = false := hkeep9.2.trans hf6)))
      all_goals
        go_wp2_with fail
        go_roundw
        case measure => simp [intOf]; omega
        case rel =>
          have HM' := HM.out
          have hb6 : Below w5.heap.size (w5.setCell ⟨N + 1 + 1, 1, none⟩ (.slice a' k c')) w6 := hbr.trans (hb8.mono hsz)
          have hb6a := hb6.alloc (by omega) (.cells #[.slice a8 m c8] 25)
          have hb9 : Below w5.heap.size (w5.setCell ⟨N + 1 + 1, 1, none⟩ (.slice a' k c')) w9 := below_own (hown6.outer.alloc _) hgrow9 hb6a (by simp; omega)
          have hb9' := below_set hb9 ⟨N + 1 + 1, 1, none⟩ (.slice (some ⟨g9, 0, none⟩) (k + 1) cap9)
          rw [set_twice] at hb9'
          have ho6a : Own2 (w6.alloc (.cells #[.slice a8 m c8] 25)) w5.heap.size 25 3 (.slice a' k c') k vals (all.take k) := hown6.next ((Below.refl _ _).alloc (Nat.le_refl _) _)
          have ho8a : (w6.alloc (.cells #[.slice a8 m c8] 25)).ownsRow w5.heap.size 3 1 (.slice a8 xs.length c8) xs.length (ints xs) := by
            rw [HM']
            exact (own_mono (B' := w5.heap.size) hown8 (by show w5.heap.size ≤ wr.heap.size; exact hsz)).alloc _
          have ho9 : Own2 w9 w5.heap.size 25 3 (.slice (some ⟨g9, 0, none⟩) (k + 1) cap9) (k + 1) (vals ++ [.slice a8 xs.length c8]) (all.take k ++ [xs]) :=
            ho6a.push (by decide) ho8a (by rw [HM']; exact hown9) hgrow9
          refine ⟨k + 1, by omega, by go_num, some ⟨g9, 0, none⟩, cap9, vals ++ [.slice a8 xs.length c8], World.cell?_setCell_same _ _ _ hc9, ?_, hb9'⟩
          rw [HT.out]
          exact ho9.set (by show N + 1 + 1 < w5.heap.size; omega) _
    · have hkn : k = n + n1 := by omega
      have hall' : all.take k = all := List.take_of_length_le (by have := hall.len; omega)
      rw [hall'] at hown
      have hlenall : all.length = n + n1 := hall.len
      obtain ⟨a9, c9, e9, hs9⟩ := hown.sl2
      simp only [Value.slice.injEq] at e9
      obtain ⟨rfl, _, rfl⟩ := e9
      have hwa : Formula.Wf2 all := by
        rw [← HAL.out]
        intro l hl
        rcases List.mem_append.1 hl with h | h
        · exact hw l h
        · exact hw1 l h
      have HCH := Lib.hid (Formula.check_any wr vars a' k c' vals all hs9 hwa)
      have hbwr : Below w.heap.size w wr := (hbw5.setCell (by show w.heap.size ≤ N + 1 + 1; rw [← HN.out]; omega) _).trans (hbr.mono hbw5.size)
      have hbN : Below (N + 4) (w5.setCell ⟨N + 1 + 1, 1, none⟩ (.slice a' k c')) wr := hbr.mono hNsz
      have o0 : wr.cell? ⟨N + 1 + 1, 0, none⟩ = some (.int .i64 vars) := (hbr.cell (p := ⟨N + 1 + 1, 0, none⟩) (by show N + 1 + 1 < w5.heap.size; omega)).trans ((World.cell?_setCell_other _ _ _ _ (fun h => by simp at h)).trans H45.out.o0)
      have q0 : wr.cell? ⟨N + 1, 0, none⟩ = some (.int .i64 0) := (hbr.cell (p := ⟨N + 1, 0, none⟩) (by show N + 1 < w5.heap.size; omega)).trans ((World.cell?_setCell_other _ _ _ _ (fun h => by simp at h)).trans H45.out.r0)
      have q1 : wr.cell? ⟨N + 1, 1, none⟩ = some (.slice none 0 0) := (hbr.cell (p := ⟨N + 1, 1, none⟩) (by show N + 1 < w5.heap.size; omega)).trans ((World.cell?_setCell_other _ _ _ _ (fun h => by simp at h)).trans H45.out.r1)
      have x0 : wr.frozen? ⟨N + 1, 0, none⟩ = false := (hbr.frozen (p := ⟨N + 1, 0, none⟩) (by show N + 1 < w5.heap.size; omega)).trans (by rw [World.frozen?_setCell]; exact H45.out.z0)
      have x1 : wr.frozen? ⟨N + 1, 1, none⟩ = false := (hbr.frozen (p := ⟨N + 1, 1, none⟩) (by show N + 1 < w5.heap.size; omega)).trans (by rw [World.frozen?_setCell]; exact H45.out.z1)
      have hszr : w5.heap.size ≤ wr.heap.size := by have := hbr.size; simpa using this
      have HKN := Lib.hid hkn
      have HLA := Lib.hid hlenall
      have HWA := Lib.hid hwa
      have HA' := Lib.hid hall'
      have HHO := Lib.hid hown
      have HHA := Lib.hid hall
      have HSN := Lib.hid hs9
      have hlt2 : ¬ ((k : Int) < (n : Int) + n1) := by omega
      clear hkn hlenall hall' hwa hown hall hs9 hlt hk hw hw1 hsl hsl1
      go_wp2_with fail
      refine HCH.out.mono ?_
      rintro e w6 ⟨rfl, hb6⟩
      have hbw6 : Below w.heap.size w w6 := hbwr.trans (hb6.mono hbwr.size)
      have hs6 := HSN.out.next hb6
      have p0 : w6.cell? ⟨N + 1 + 1, 0, none⟩ = some (.int .i64 vars) := (hb6.cell (p := ⟨N + 1 + 1, 0, none⟩) (by show N + 1 + 1 < wr.heap.size; omega)).trans o0
      have p1 : w6.cell? ⟨N + 1 + 1, 1, none⟩ = some (.slice a' k c') := (hb6.cell (p := ⟨N + 1 + 1, 1, none⟩) (by show N + 1 + 1 < wr.heap.size; omega)).trans hc1
      have t0 : w6.cell? ⟨N + 1, 0, none⟩ = some (.int .i64 0) := (hb6.cell (p := ⟨N + 1, 0, none⟩) (by show N + 1 < wr.heap.size; omega)).trans q0
      have t1 : w6.cell? ⟨N + 1, 1, none⟩ = some (.slice none 0 0) := (hb6.cell (p := ⟨N + 1, 1, none⟩) (by show N + 1 < wr.heap.size; omega)).trans q1
      have s0 : w6.frozen? ⟨N + 1, 0, none⟩ = false := (hb6.frozen (p := ⟨N + 1, 0, none⟩) (by show N + 1 < wr.heap.size; omega)).trans x0
      have s1 : w6.frozen? ⟨N + 1, 1, none⟩ = false := (hb6.frozen (p := ⟨N + 1, 1, none⟩) (by show N + 1 < wr.heap.size; omega)).trans x1
      clear hc1 o0 q0 q1 x0 x1 hy1
      have H9 : Hid (Formula.check vars all = 0 ∨ Formula.check vars all = 9) := by show _ ∨ _; unfold Formula.check; split <;> simp
      generalize hq : Formula.check vars all = q at *
      have HQ := Lib.hid hq
      clear hq
      by_cases hc0 : q = 0
      · have u0 : (q != 0) = false := by rw [bne, beq_iff_eq.2 hc0]; rfl
        have HC0 := Lib.hid hc0
        clear hc0
        go_wp2_with fail
        refine bodyPost_ret (v := .tuple #[.agg #[.int .i64 vars, .slice a' k c'], .int .i64 0]) (by simp [results, Try.results19, go_sem, t0, t1]) rfl ⟨?_, ?_⟩
        · rw [if_pos (HQ.out.trans HC0.out)]
          refine ⟨a', c', vals, by rw [HLA.out, HKN.out], ?_⟩
          rw [HLA.out, ← HKN.out]
          have hx := ((HHO.out.next hb6).set (a := ⟨N + 1, 0, none⟩) (by show N + 1 < w5.heap.size; omega) (.int .i64 vars)).set (a := ⟨N + 1, 1, none⟩) (by show N + 1 < w5.heap.size; omega) (.slice a' k c')
          obtain ⟨a9, c9, e9, h9⟩ := hx.sl2
          simp only [Value.slice.injEq] at e9
          obtain ⟨rfl, _, rfl⟩ := e9
          exact h9
        · exact (hbw6.setCell (by show w.heap.size ≤ N + 1; rw [← HN.out]; omega) _).setCell (by show w.heap.size ≤ N + 1; rw [← HN.out]; omega) _
      · have u0 : (q != 0) = true := by rw [bne, beq_eq_false_iff_ne.2 hc0]; rfl
        have H9' : Hid (q = 9) := by rcases H9.out with h | h; exact absurd h hc0; exact h
        have HC9 := Lib.hid hc0
        clear hc0
        go_wp2_with fail
        refine bodyPost_ret (v := .tuple #[.agg #[.int .i64 0, .slice none 0 0], .int .i64 q]) (by simp [results, Try.results19, go_sem, t0, t1]) rfl ⟨?_, ?_⟩
        · rw [if_neg (by rw [HQ.out]; exact HC9.out), H9'.out]
        · exact (hbw6.setCell (by show w.heap.size ≤ N + 1; rw [← HN.out]; omega) _).setCell (by show w.heap.size ≤ N + 1; rw [← HN.out]; omega) _
end Add
end Go.Proofs.Ytpanpfbhdcanhaa
