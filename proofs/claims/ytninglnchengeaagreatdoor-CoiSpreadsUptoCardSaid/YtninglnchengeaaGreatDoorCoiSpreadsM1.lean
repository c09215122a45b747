/-
  Several texts in one (written by merge2.py): XConeP XGate XSetI XSortedKeys XCloneI XCone XGetI XStrashP XStrashQ XCoiP XCoiSet XTrip XOwnC XOffB XCoiAdd XCloneR XConcatI XApp2 XHeldAll XCoiCnt
-/
import Derived.Test.YtninglnchengeaaGreatDoorGateP
import Derived.Test.YtninglnchengeaaGreatDoorLaws
import Derived.Maps.OwnOps
import Derived.Maps.Views
import Derived.Lib.SlKeysI
import Derived.Test.YtninglnchengeaaGreatDoorBase
import Derived.Shelf.SlIterI.Nil
import Derived.Shelf.SortM.Plain
import Derived.Shelf.SortM.SortNone
import Derived.Ground.GgzProg
import Derived.Ground.SlgmProg
import Derived.Test.YtninglnchengeaaGreatDoorCBox
import Derived.WalkSmall
import Derived.Deep.DeepCutAuto
import Derived.BigQuiet
import Derived.Lib.AppendZeros
import Derived.Test.YtninglnchengeaaGreatDoorDefine
import Derived.Test.YtninglnchengeaaGreatDoorCheckC
import Derived.Test.YtninglnchengeaaGreatDoorWfC
import Derived.Maps.OwnSet
import Derived.Test.YtninglnchengeaaGreatDoorCirc
import Derived.Lib.AppendZerosOnto
import Derived.Laws.AppendOwn
import Derived.Laws.OwnMore
import Derived.Maps.AppendAt
import Derived.OrdersHeld
import Derived.Tactics
/-
  Plain: what literals hang on. No program's function.
-/
namespace Go.Proofs.YtninglnchengeaaGreatDoor
open Go.RowKit Base
set_option linter.unusedVariables false
set_option linter.unusedSimpArgs false
namespace Circuit

/-- A variable that literals hang on (0 among them). -/
inductive Rch (ands : List Tri) (l : List Int) : Int → Prop
  | lit {t : Int} : t ∈ l → Rch ands l (var t)
  | left {v : Int} {g : Tri} : Rch ands l v → v ≠ 0 → gate ands v = some g → Rch ands l (var g.2.1)
  | right {v : Int} {g : Tri} : Rch ands l v → v ≠ 0 → gate ands v = some g → Rch ands l (var g.2.2)

/-- What is waited for: of variable 0, met, or in the list. -/
def Waits (T M : List Int) (o : Int) : Prop := var o = 0 ∨ var o ∈ M ∨ ∃ t ∈ T, var t = var o

structure ConeInv (ands : List Tri) (l T M : List Int) : Prop where
  nodup : M.Nodup
  met : ∀ v ∈ M, v ≠ 0 ∧ Rch ands l v
  todo : ∀ t ∈ T, Rch ands l (var t)
  lits : ∀ a ∈ l, Waits T M a
  gates : ∀ v ∈ M, ∀ g, gate ands v = some g → Waits T M g.2.1 ∧ Waits T M g.2.2
  few : T.length ≤ l.length + M.length

theorem cone_start (ands : List Tri) (l : List Int) : ConeInv ands l l [] :=
  ⟨List.nodup_nil, fun v h => by simp at h, fun t ht => .lit ht, fun a ha => Or.inr (Or.inr ⟨a, ha, rfl⟩), fun v h => by simp at h, by simp⟩

theorem waits_skip {T M : List Int} {t o : Int} (h : Waits (T ++ [t]) M o) (ht : var t = 0 ∨ var t ∈ M) : Waits T M o := by
  rcases h with h | h | ⟨u, hu, he⟩
  · exact Or.inl h
  · exact Or.inr (Or.inl h)
  · rw [List.mem_append, List.mem_singleton] at hu
    rcases hu with hu | rfl
    · exact Or.inr (Or.inr ⟨u, hu, he⟩)
    · rcases ht with h0 | hm
      · exact Or.inl (by rw [← he]; exact h0)
      · exact Or.inr (Or.inl (by rw [← he]; exact hm))

theorem cone_skip {ands : List Tri} {l T M : List Int} {t : Int} (h : ConeInv ands l (T ++ [t]) M) (ht : var t = 0 ∨ var t ∈ M) : ConeInv ands l T M :=
  ⟨h.nodup, h.met, fun u hu => h.todo u (List.mem_append_left _ hu), fun a ha => waits_skip (h.lits a ha) ht, fun v hv g hg => ⟨waits_skip (h.gates v hv g hg).1 ht, waits_skip (h.gates v hv g hg).2 ht⟩, by have := h.few; rw [List.length_append] at this; omega⟩

theorem waits_meet {T M : List Int} {t o : Int} (h : Waits (T ++ [t]) M o) (E : List Int) : Waits (T ++ E) (M ++ [var t]) o := by
  rcases h with h | h | ⟨u, hu, he⟩
  · exact Or.inl h
  · exact Or.inr (Or.inl (List.mem_append_left _ h))
  · rw [List.mem_append, List.mem_singleton] at hu
    rcases hu with hu | rfl
    · exact Or.inr (Or.inr ⟨u, List.mem_append_left _ hu, he⟩)
    · exact Or.inr (Or.inl (by rw [← he]; simp))

theorem cone_meet_none {ands : List Tri} {l T M : List Int} {t : Int} (h : ConeInv ands l (T ++ [t]) M) (h0 : var t ≠ 0) (hm : var t ∉ M) (hg : gate ands (var t) = none) : ConeInv ands l T (M ++ [var t]) := by
  have ht := h.todo t (by simp)
  have wm : ∀ o, Waits (T ++ [t]) M o → Waits T (M ++ [var t]) o := fun o ho => by
    have := waits_meet ho []
    rwa [List.append_nil] at this
  refine ⟨?_, fun v hv => ?_, fun u hu => h.todo u (List.mem_append_left _ hu), fun a ha => wm a (h.lits a ha), fun v hv g hgv => ?_, ?_⟩
  · rw [List.nodup_append]
    exact ⟨h.nodup, by simp, fun a ha b hb e => by rw [List.mem_singleton] at hb; subst hb; exact hm (e ▸ ha)⟩
  · rw [List.mem_append, List.mem_singleton] at hv
    rcases hv with hv | rfl
    · exact h.met v hv
    · exact ⟨h0, ht⟩
  · rw [List.mem_append, List.mem_singleton] at hv
    rcases hv with hv | rfl
    · exact ⟨wm _ (h.gates v hv g hgv).1, wm _ (h.gates v hv g hgv).2⟩
    · rw [hg] at hgv; cases hgv
  · have := h.few
    rw [List.length_append] at *
    simp only [List.length_singleton, List.length_cons, List.length_nil] at *
    omega

theorem cone_meet_some {ands : List Tri} {l T M : List Int} {t : Int} {g : Tri} (h : ConeInv ands l (T ++ [t]) M) (h0 : var t ≠ 0) (hm : var t ∉ M) (hg : gate ands (var t) = some g) : ConeInv ands l (T ++ [g.2.1, g.2.2]) (M ++ [var t]) := by
  have ht := h.todo t (by simp)
  refine ⟨?_, fun v hv => ?_, fun u hu => ?_, fun a ha => waits_meet (h.lits a ha) _, fun v hv g' hgv => ?_, ?_⟩
  · rw [List.nodup_append]
    exact ⟨h.nodup, by simp, fun a ha b hb e => by rw [List.mem_singleton] at hb; subst hb; exact hm (e ▸ ha)⟩
  · rw [List.mem_append, List.mem_singleton] at hv
    rcases hv with hv | rfl
    · exact h.met v hv
    · exact ⟨h0, ht⟩
  · rw [List.mem_append] at hu
    rcases hu with hu | hu
    · exact h.todo u (List.mem_append_left _ hu)
    · simp only [List.mem_cons, List.not_mem_nil, or_false] at hu
      rcases hu with rfl | rfl
      · exact .left ht h0 hg
      · exact .right ht h0 hg
  · rw [List.mem_append, List.mem_singleton] at hv
    rcases hv with hv | rfl
    · exact ⟨waits_meet (h.gates v hv g' hgv).1 _, waits_meet (h.gates v hv g' hgv).2 _⟩
    · rw [hg] at hgv
      simp only [Option.some.injEq] at hgv
      subst hgv
      exact ⟨Or.inr (Or.inr ⟨g.2.1, by simp, rfl⟩), Or.inr (Or.inr ⟨g.2.2, by simp, rfl⟩)⟩
  · have := h.few
    simp only [List.length_append, List.length_cons, List.length_nil] at *
    omega

/-- At the end what is met is what literals hang on. -/
theorem cone_end {ands : List Tri} {l M : List Int} (h : ConeInv ands l [] M) (v : Int) : v ∈ M ↔ v ≠ 0 ∧ Rch ands l v := by
  have hw : ∀ o, Waits [] M o → var o ≠ 0 → var o ∈ M := fun o ho h0 => by
    rcases ho with hz | hm | ⟨u, hu, _⟩
    · exact absurd hz h0
    · exact hm
    · simp at hu
  constructor
  · exact h.met v
  · rintro ⟨h0, hr⟩
    induction hr with
    | lit ht => exact hw _ (h.lits _ ht) h0
    | left hr' hv hg ih => exact hw _ (h.gates _ (ih hv) _ hg).1 h0
    | right hr' hv hg ih => exact hw _ (h.gates _ (ih hv) _ hg).2 h0

theorem nodup_len {M C : List Int} (hn : M.Nodup) (hs : ∀ v ∈ M, v ∈ C) : M.length ≤ C.length := by
  induction M generalizing C with
  | nil => simp
  | cons x r ih =>
    rw [List.nodup_cons] at hn
    have hx := hs x List.mem_cons_self
    have := ih hn.2 (C := C.erase x) (fun v hv => (List.mem_erase_of_ne (fun e => hn.1 (by rw [← e]; exact hv))).2 (hs v (List.mem_cons_of_mem _ hv)))
    rw [List.length_erase_of_mem hx] at this
    have hc : 0 < C.length := List.length_pos_of_mem hx
    rw [List.length_cons]
    omega

/-- All that may be met. -/
def cands (ands : List Tri) (l : List Int) : List Int := l.map var ++ ands.map (fun t => var t.2.1) ++ ands.map (fun t => var t.2.2)

theorem gate_mem {ands : List Tri} {v : Int} {g : Tri} (h : gate ands v = some g) : g ∈ ands := List.mem_of_find?_eq_some h

theorem rch_cand {ands : List Tri} {l : List Int} {v : Int} (h : Rch ands l v) : v ∈ cands ands l := by
  unfold cands
  rw [List.mem_append, List.mem_append]
  cases h with
  | lit ht => exact Or.inl (Or.inl (List.mem_map.2 ⟨_, ht, rfl⟩))
  | left hr hv hg => exact Or.inl (Or.inr (List.mem_map.2 ⟨_, gate_mem hg, rfl⟩))
  | right hr hv hg => exact Or.inr (List.mem_map.2 ⟨_, gate_mem hg, rfl⟩)

theorem cone_few {ands : List Tri} {l T M : List Int} (h : ConeInv ands l T M) : M.length ≤ l.length + 2 * ands.length := by
  have := nodup_len h.nodup (fun v hv => rch_cand (h.met v hv).2)
  unfold cands at this
  simp only [List.length_append, List.length_map] at this
  omega

/-- What hangs on it hangs on no more. -/
theorem rch_again {ands : List Tri} {l vs : List Int} (h : ∀ v, v ∈ vs ↔ v ≠ 0 ∧ Rch ands l v) (hv : ∀ v ∈ vs, 0 ≤ v) (v : Int) : (v ≠ 0 ∧ Rch ands (vs.map (2 * ·)) v) ↔ v ∈ vs := by
  have hvar : ∀ u ∈ vs, var (2 * u) = u := fun u hu => by have := hv u hu; unfold var; omega
  constructor
  · rintro ⟨h0, hr⟩
    induction hr with
    | lit ht =>
      obtain ⟨u, hu, rfl⟩ := List.mem_map.1 ht
      rw [hvar u hu]
      exact hu
    | left hr' hv' hg ih => exact (h _).2 ⟨h0, .left ((h _).1 (ih hv')).2 hv' hg⟩
    | right hr' hv' hg ih => exact (h _).2 ⟨h0, .right ((h _).1 (ih hv')).2 hv' hg⟩
  · intro hm
    refine ⟨((h v).1 hm).1, ?_⟩
    rw [← hvar v hm]
    exact .lit (List.mem_map.2 ⟨v, hm, rfl⟩)

end Circuit
end Go.Proofs.YtninglnchengeaaGreatDoor

/-
  circuit.gate: a variable's and.
-/
namespace Go.Proofs.YtninglnchengeaaGreatDoor
open Go.RowKit Base
set_option linter.unusedVariables false
set_option linter.unusedSimpArgs false
namespace Circuit

set_option maxRecDepth 8000 in
set_option maxHeartbeats 8000000 in
theorem gate_any (w : World) (x : Circ) (p : At) (hin : InCirc w x p) (hw : WfT x.ands) (v : Int) :
    Calls Tryz.prog 105 #[.agg (cells x p), .int .i64 v] w (GateOut w (gate x.ands v)) := by
  have hand := hin.ands
  obtain ⟨mx, ins, lats, outs, bads, invs, ands, names⟩ := x
  obtain ⟨a1, c1, a2, c2, a3, c3, a4, c4, a5, c5, a6, c6, a7, c7⟩ := p
  simp only [cells] at *
  obtain ⟨W1, hW1⟩ : ∃ W1, w.alloc (.cells #[.int .i64 mx, .slice a1 ins.length c1, .slice a2 lats.length c2, .slice a3 outs.length c3, .slice a4 bads.length c4, .slice a5 invs.length c5, .slice a6 ands.length c6, .slice a7 names.length c7] 27) = W1 := ⟨_, rfl⟩
  obtain ⟨W2, hW2⟩ : ∃ W2, W1.alloc (.cells #[.int .i64 0, .int .i64 0, .int .i64 0] 62) = W2 := ⟨_, rfl⟩
  have h1 : Below w.heap.size w W1 := by rw [← hW1]; exact (Below.refl _ _).alloc (Nat.le_refl _) _
  have h2 : Below W1.heap.size W1 W2 := by rw [← hW2]; exact (Below.refl _ _).alloc (Nat.le_refl _) _
  have z1 : W1.heap.size = w.heap.size + 1 := by rw [← hW1]; simp
  have z2 : W2.heap.size = w.heap.size + 2 := by rw [← hW2]; simp [z1]
  have k6 : W2.cell? ⟨w.heap.size, 6, none⟩ = some (.slice a6 ands.length c6) := by rw [← hW2, ← hW1]; simp [go_sem]
  have q0 : W2.cell? ⟨w.heap.size + 1, 0, none⟩ = some (.int .i64 0) := by rw [← z1, ← hW2]; simp [go_sem]
  have q1 : W2.cell? ⟨w.heap.size + 1, 1, none⟩ = some (.int .i64 0) := by rw [← z1, ← hW2]; simp [go_sem]
  have q2 : W2.cell? ⟨w.heap.size + 1, 2, none⟩ = some (.int .i64 0) := by rw [← z1, ← hW2]; simp [go_sem]
  have f0 : W2.frozen? ⟨w.heap.size + 1, 0, none⟩ = false := by rw [← z1, ← hW2]; simp [go_sem]
  have f1 : W2.frozen? ⟨w.heap.size + 1, 1, none⟩ = false := by rw [← z1, ← hW2]; simp [go_sem]
  have f2 : W2.frozen? ⟨w.heap.size + 1, 2, none⟩ = false := by rw [← z1, ← hW2]; simp [go_sem]
  have HB2 := Lib.hid (h1.trans (h2.mono h1.size))
  have HS := Lib.hid (hand.next (h1.trans (h2.mono h1.size)))
  have hcap := hand.cap
  have hbig := hand.big
  have HW := Lib.hid hw
  clear hin hand hw h1 h2
  go_enter Tryz.func105, Tryz.ntmps105
  go_wp2_with fail
  clear hW1 hW2
  go_loopw [11] (fun s wr => ∃ k : Nat, k ≤ ands.length ∧ s = .int .i64 k ∧ Hid (gate (ands.take k) v = none) ∧ Hid (Below W2.heap.size W2 wr)) (fun s _ => ands.length - (intOf s).toNat)
  case atStart => exact ⟨0, Nat.zero_le _, rfl, rfl, Below.refl _ _⟩
  case round =>
    obtain ⟨k, hk, rfl, hI, hbr⟩ := hrel
    by_cases hlt : k < ands.length
    · obtain ⟨b, o, hx, rfl, hbs, hc0, hc1, hc2⟩ := HS.out.tri hlt
      have d0 := (hbr.out.cell (p := ⟨b, o + k * 3, none⟩) hbs).trans hc0
      have d1 := (hbr.out.cell (p := ⟨b, o + k * 3 + 1, none⟩) hbs).trans hc1
      have d2 := (hbr.out.cell (p := ⟨b, o + k * 3 + 2, none⟩) hbs).trans hc2
      have VA := Lib.hid (fun U => var_any ands[k].1 (HW.out _ (List.getElem_mem hx)).1.1 (HW.out _ (List.getElem_mem hx)).1.2 U)
      clear hc0 hc1 hc2
      have HGM := Lib.hid (fun hn => gate_more (v := v) hx hI.out hn)
      have HGH := Lib.hid (fun h0 h1 => gate_hit (v := v) hx hI.out h0 h1)
      generalize ands[k] = t at *
      obtain ⟨t0, t1, t2⟩ := t
      simp only at d0 d1 d2 VA HGM HGH
      obtain ⟨U, hU⟩ : ∃ U, wr.alloc (.cells #[.int .i64 t0, .int .i64 t1, .int .i64 t2] 62) = U := ⟨_, rfl⟩
      have hbU : Below wr.heap.size wr U := by rw [← hU]; exact (Below.refl _ _).alloc (Nat.le_refl _) _
      have u0 : U.cell? ⟨wr.heap.size, 0, none⟩ = some (.int .i64 t0) := by rw [← hU]; simp [go_sem]
      have u1 : U.cell? ⟨wr.heap.size, 1, none⟩ = some (.int .i64 t1) := by rw [← hU]; simp [go_sem]
      have u2 : U.cell? ⟨wr.heap.size, 2, none⟩ = some (.int .i64 t2) := by rw [← hU]; simp [go_sem]
      have hbW : Below W2.heap.size W2 U := hbr.out.trans (hbU.mono hbr.out.size)
      have r0 := (hbW.cell (p := ⟨w.heap.size + 1, 0, none⟩) (by show w.heap.size + 1 < W2.heap.size; omega)).trans q0
      have r1 := (hbW.cell (p := ⟨w.heap.size + 1, 1, none⟩) (by show w.heap.size + 1 < W2.heap.size; omega)).trans q1
      have r2 := (hbW.cell (p := ⟨w.heap.size + 1, 2, none⟩) (by show w.heap.size + 1 < W2.heap.size; omega)).trans q2
      have s0 := (hbW.frozen (p := ⟨w.heap.size + 1, 0, none⟩) (by show w.heap.size + 1 < W2.heap.size; omega)).trans f0
      have s1 := (hbW.frozen (p := ⟨w.heap.size + 1, 1, none⟩) (by show w.heap.size + 1 < W2.heap.size; omega)).trans f1
      have s2 := (hbW.frozen (p := ⟨w.heap.size + 1, 2, none⟩) (by show w.heap.size + 1 < W2.heap.size; omega)).trans f2
      have HBU := Lib.hid hbW
      clear hbU hbW
      by_cases hg : 0 ≤ t0
      · by_cases hv : var t0 = v
        · have HG := Lib.hid (HGH.out hg hv)
          clear HGM HGH
          subst hv
          go_wp2_with fail
          refine (VA.out U).mono ?_
          rintro e w5 ⟨rfl, rfl⟩
          go_wp2_with fail
          refine bodyPost_ret (v := .tuple #[.agg #[.int .i64 t0, .int .i64 t1, .int .i64 t2], .bool true]) (by simp [results, Tryz.results105, go_sem, r0, r1, r2]) rfl ?_
          refine ⟨?_, (((HB2.out.trans (HBU.out.mono HB2.out.size)).setCell (by show w.heap.size ≤ w.heap.size + 1; omega) _).setCell (by show w.heap.size ≤ w.heap.size + 1; omega) _).setCell (by show w.heap.size ≤ w.heap.size + 1; omega) _⟩
          rw [HG.out]
          rfl
        · have HG := Lib.hid (HGM.out (fun h => hv h.2))
          clear HGM HGH
          go_wp2_with fail
          refine (VA.out U).mono ?_
          rintro e w5 ⟨rfl, rfl⟩
          go_wp2_with fail
          go_roundw
          case rel => exact ⟨k + 1, by omega, by go_num, HG.out, HBU.out⟩
          case measure => simp [intOf]; omega
      · have HG := Lib.hid (HGM.out (fun h => hg h.1))
        clear HGM HGH
        go_wp2_with fail
        go_roundw
        case rel => exact ⟨k + 1, by omega, by go_num, HG.out, HBU.out⟩
        case measure => simp [intOf]; omega
    · have HG : Hid (gate ands v = none) := by
        have h := hI.out
        rw [List.take_of_length_le (by omega)] at h
        exact h
      have r0 := (hbr.out.cell (p := ⟨w.heap.size + 1, 0, none⟩) (by show w.heap.size + 1 < W2.heap.size; omega)).trans q0
      have r1 := (hbr.out.cell (p := ⟨w.heap.size + 1, 1, none⟩) (by show w.heap.size + 1 < W2.heap.size; omega)).trans q1
      have r2 := (hbr.out.cell (p := ⟨w.heap.size + 1, 2, none⟩) (by show w.heap.size + 1 < W2.heap.size; omega)).trans q2
      have s0 := (hbr.out.frozen (p := ⟨w.heap.size + 1, 0, none⟩) (by show w.heap.size + 1 < W2.heap.size; omega)).trans f0
      have s1 := (hbr.out.frozen (p := ⟨w.heap.size + 1, 1, none⟩) (by show w.heap.size + 1 < W2.heap.size; omega)).trans f1
      have s2 := (hbr.out.frozen (p := ⟨w.heap.size + 1, 2, none⟩) (by show w.heap.size + 1 < W2.heap.size; omega)).trans f2
      go_wp2_with fail
      refine bodyPost_ret (v := .tuple #[.agg #[.int .i64 0, .int .i64 0, .int .i64 0], .bool false]) (by simp [results, Tryz.results105, go_sem, r0, r1, r2]) rfl ?_
      refine ⟨?_, (((HB2.out.trans (hbr.out.mono HB2.out.size)).setCell (by show w.heap.size ≤ w.heap.size + 1; omega) _).setCell (by show w.heap.size ≤ w.heap.size + 1; omega) _).setCell (by show w.heap.size ≤ w.heap.size + 1; omega) _⟩
      rw [HG.out]
      rfl

end Circuit
end Go.Proofs.YtninglnchengeaaGreatDoor

/-
  A map[int]bool of the call's own that says true at just some integers.
-/
namespace Go.Proofs.YtninglnchengeaaGreatDoor
open Go.RowKit Base Go.Maps
set_option linter.unusedVariables false
set_option linter.unusedSimpArgs false
namespace SetI

theorem law : Keyed Tryz.prog 3 := int_keyed Tryz.underlying3
theorem zeroE (w : World) : (zeroValue 4).run Tryz.prog w = .ok (.bool false) w := by kernel_rfl

def I64 (x : Int) : Prop := -9223372036854775808 ≤ x ∧ x ≤ 9223372036854775807

theorem wf_lit {x : Int} (h : I64 x) : (Lit.int .i64 x).wf = true := by
  unfold I64 at h
  simp [Lit.wf, IntKind.min, IntKind.max, IntKind.signed, IntKind.bits]
  omega

/-- Is an integer one of some? -/
def inX (X : List Int) (x : Int) : Bool := X.any fun y => y == x

theorem inX_iff {X : List Int} {x : Int} : inX X x = true ↔ x ∈ X := by
  unfold inX
  rw [List.any_eq_true]
  constructor
  · rintro ⟨y, hy, he⟩
    rw [beq_iff_eq] at he
    rw [← he]
    exact hy
  · intro h
    exact ⟨x, h, by simp⟩

/-- A map of the call's own that says true at just these; its keys are these, each once. -/
def SetIs (w : World) (b n : Nat) (X : List Int) : Prop :=
  ∃ D : DataW Unit, w.ownsMap Tryz.prog 3 (plainElem Tryz.prog 4) b n D ∧ IsMap D ∧ ∀ x, I64 x → D.atKey (.int .i64 x) (.lit (.bool false)) = .lit (.bool (inX X x))

theorem bool_inv {e : TypeId} (he : Tryz.prog.underlying e = some .bool) {v : Value} {z : DataW Unit × List MemPlace} (h : plainElem Tryz.prog e v = some z) : ∃ y, v = .bool y ∧ z = (.lit (.bool y), []) := by
  unfold plainElem at h
  rw [he] at h
  cases v <;> simp at h
  exact ⟨_, rfl, h.symm⟩

theorem set_look {w : World} {b n : Nat} {X : List Int} (h : SetIs w b n X) {x : Int} (hx : I64 x) :
    (Instr.lookup 65 (.map (some b)) (.int .i64 x) false).run Tryz.prog w = .ok (.bool (inX X x)) w := by
  obtain ⟨D, ho, _, hat⟩ := h
  obtain ⟨v, ps, hrun, hv⟩ := ho.lookup law Tryz.underlying65 (zeroE w) (plainElem_bool Tryz.underlying4 false) (keyOf_int_mk Tryz.underlying3 (wf_lit hx))
  obtain ⟨y, rfl, hz⟩ := bool_inv Tryz.underlying4 hv
  simp only [Prod.mk.injEq] at hz
  have := hz.1.symm.trans (hat x hx)
  simp only [DataW.lit.injEq, Lit.bool.injEq] at this
  rw [hrun, this]

theorem SetIs.next {w w' : World} {b n : Nat} {X : List Int} (h : SetIs w b n X) (hb : Below w.heap.size w w') : SetIs w' b n X := by
  obtain ⟨D, ⟨es, cl, hh, r⟩, hm, hat⟩ := h
  exact ⟨D, ⟨es, cl, (hb.block b (Array.getElem?_eq_some_iff.1 hh).1).trans hh, r⟩, hm, hat⟩

theorem set_made (w : World) : SetIs (w.alloc (.map #[] 0)) w.heap.size 0 [] :=
  ⟨.map [], World.ownsMap_made _ _ _ _, ⟨_, rfl⟩, fun x _ => by simp [DataW.atKey, inX]⟩

theorem set_put {D : DataW Unit} {X : List Int} (hm : IsMap D) (hat : ∀ x, I64 x → D.atKey (.int .i64 x) (.lit (.bool false)) = .lit (.bool (inX X x))) (y : Int) :
    IsMap (D.put (.int .i64 y) (.lit (.bool true))) ∧ ∀ x, I64 x → (D.put (.int .i64 y) (.lit (.bool true))).atKey (.int .i64 x) (.lit (.bool false)) = .lit (.bool (inX (X ++ [y]) x)) := by
  refine ⟨hm.put _ _, fun x hx => ?_⟩
  unfold inX
  rw [List.any_append]
  by_cases hxy : x = y
  · subst hxy
    rw [atKey_put_same hm (by trivial)]
    simp
  · rw [atKey_put_other (by intro e; simp at e; exact hxy e), hat x hx]
    have : (y == x) = false := by simp; exact fun e => hxy e.symm
    simp [inX, this]

/-- The keys of a map are these. -/
def KeysAre (D : DataW Unit) (X : List Int) : Prop := ∃ es : List (Lit × DataW Unit), D = .map es ∧ (∀ p ∈ es, ∃ x, p.1 = .int .i64 x) ∧ (Go.intKeys D).Perm X

theorem insert_perm (x : Lit × DataW Unit) (l : List (Lit × DataW Unit)) : (DataW.insert x l).Perm (x :: l) := by
  induction l with
  | nil => exact List.Perm.refl _
  | cons y r ih =>
    unfold DataW.insert
    split
    · exact List.Perm.refl _
    · exact (List.Perm.cons y ih).trans (List.Perm.swap x y r)

theorem keys_nil : KeysAre (.map []) [] := ⟨[], rfl, fun p h => by simp at h, List.Perm.refl _⟩

theorem keys_put {D : DataW Unit} {X : List Int} (h : KeysAre D X) {y : Int} (hy : y ∉ X) (d : DataW Unit) : KeysAre (D.put (.int .i64 y) d) (X ++ [y]) := by
  obtain ⟨es, rfl, hk, hp⟩ := h
  have hf : es.filter (fun p => !p.1.sameKey (.int .i64 y)) = es := by
    rw [List.filter_eq_self]
    intro p hpm
    obtain ⟨x, hx⟩ := hk p hpm
    rw [hx]
    have hne : x ≠ y := fun e => by
      apply hy
      rw [← e]
      apply hp.subset
      unfold Go.intKeys
      exact List.mem_map.2 ⟨p, hpm, by rw [hx]; rfl⟩
    simp [Lit.sameKey, hne]
  unfold DataW.put
  simp only [hf]
  refine ⟨_, rfl, fun p hpm => ?_, ?_⟩
  · have := (insert_perm _ _).subset hpm
    rw [List.mem_cons] at this
    rcases this with rfl | hm
    · exact ⟨y, rfl⟩
    · exact hk p hm
  · unfold Go.intKeys at *
    refine ((insert_perm (.int .i64 y, d) es).map _).trans ?_
    rw [List.map_cons]
    exact (List.Perm.cons _ hp).trans (List.perm_append_comm (l₁ := [y]) (l₂ := X))

end SetI
end Go.Proofs.YtninglnchengeaaGreatDoor

/-
  slices.Sorted(maps.Keys(m)) at map[int]bool: the keys, sorted.
-/
namespace Go.Proofs.YtninglnchengeaaGreatDoor
open Go.RowKit Base
set_option linter.unusedVariables false
namespace SortedK
open Go.Maps Go.Sort Go.Shelf

def keysA_ren : Go.Shelf.Ren := ⟨fun | 7 => 106 | 10 => 126 | n => n, fun | 23 => 65 | 26 => 3 | 3 => 4 | 28 => 84 | 0 => 0 | 27 => 83 | 33 => 70 | 4 => 4 | n => n, fun | n => n⟩
theorem keysA : Go.Proofs.SlLaysZI.n7 Tryz.prog keysA_ren := {
  mixed := by kernel_rfl
  f7 := ⟨Tryz.f106.name, by decide, Tryz.func106.trans (congrArg some (by kernel_rfl))⟩
  f10 := ⟨Tryz.f126.name, by decide, Tryz.func126.trans (congrArg some (by kernel_rfl))⟩
  t0 := Tryz.underlying0
  a0 := Tryz.isAgg0
  z0 := Tryz.sizeOf0
  v0 := Tryz.zeroValue0
  t4 := Tryz.underlying4
  a4 := Tryz.isAgg4
  z4 := Tryz.sizeOf4
  v4 := Tryz.zeroValue4
  t23 := Tryz.underlying65
  a23 := Tryz.isAgg65
  z23 := Tryz.sizeOf65
  v23 := Tryz.zeroValue65
  t26 := Tryz.underlying3
  a26 := Tryz.isAgg3
  z26 := Tryz.sizeOf3
  v26 := Tryz.zeroValue3
  t27 := Tryz.underlying83
  a27 := Tryz.isAgg83
  z27 := Tryz.sizeOf83
  v27 := Tryz.zeroValue83
  t28 := Tryz.underlying84
  a28 := Tryz.isAgg84
  z28 := Tryz.sizeOf84
  v28 := Tryz.zeroValue84
  t33 := Tryz.underlying70
  a33 := Tryz.isAgg70
  z33 := Tryz.sizeOf70
  v33 := Tryz.zeroValue70 }
def sortedA_ren : Go.Shelf.Ren := ⟨fun | 6 => 41 | 8 => 68 | 9 => 69 | 11 => 87 | 13 => 89 | 12 => 88 | 23 => 116 | 24 => 117 | 14 => 107 | 15 => 108 | 16 => 109 | 17 => 110 | 18 => 111 | 19 => 112 | 20 => 113 | 21 => 114 | 22 => 115 | 25 => 127 | 26 => 128 | 27 => 129 | 28 => 130 | 29 => 131 | 30 => 132 | 31 => 138 | n => n, fun | 26 => 3 | 28 => 84 | 24 => 22 | 0 => 0 | 3 => 3 | 37 => 48 | 48 => 137 | 50 => 42 | 4 => 4 | 40 => 147 | 39 => 146 | 45 => 152 | 5 => 5 | 9 => 9 | 51 => 162 | 55 => 166 | 57 => 170 | 58 => 171 | 33 => 70 | n => n, fun | n => n⟩
theorem sortedA : Go.Proofs.SlLaysZI.n6 Tryz.prog sortedA_ren := {
  mixed := by kernel_rfl
  f6 := ⟨Tryz.f41.name, by decide, Tryz.func41.trans (congrArg some (by kernel_rfl))⟩
  f8 := ⟨Tryz.f68.name, by decide, Tryz.func68.trans (congrArg some (by kernel_rfl))⟩
  f11 := ⟨Tryz.f87.name, by decide, Tryz.func87.trans (congrArg some (by kernel_rfl))⟩
  t0 := Tryz.underlying0
  a0 := Tryz.isAgg0
  z0 := Tryz.sizeOf0
  v0 := Tryz.zeroValue0
  t24 := Tryz.underlying22
  a24 := Tryz.isAgg22
  z24 := Tryz.sizeOf22
  v24 := Tryz.zeroValue22
  t26 := Tryz.underlying3
  a26 := Tryz.isAgg3
  z26 := Tryz.sizeOf3
  v26 := Tryz.zeroValue3
  t28 := Tryz.underlying84
  a28 := Tryz.isAgg84
  z28 := Tryz.sizeOf84
  v28 := Tryz.zeroValue84
  i26 := by kernel_rfl }
def sortA_ren : Go.Shelf.Ren := ⟨fun | 5 => 69 | 8 => 89 | 7 => 88 | 19 => 116 | 20 => 117 | 10 => 107 | 11 => 108 | 12 => 109 | 13 => 110 | 14 => 111 | 15 => 112 | 16 => 113 | 17 => 114 | 18 => 115 | 30 => 127 | 31 => 128 | 32 => 129 | 33 => 130 | 34 => 131 | 35 => 132 | 40 => 138 | n => n, fun | 23 => 22 | 25 => 3 | 3 => 3 | 32 => 48 | 22 => 22 | 0 => 0 | 44 => 137 | 46 => 42 | 4 => 4 | 36 => 147 | 35 => 146 | 41 => 152 | 5 => 5 | 9 => 9 | 53 => 162 | 57 => 166 | 63 => 170 | 64 => 171 | n => n, fun | n => n⟩
theorem sortA : Go.Proofs.SlLaysM.n5 Tryz.prog sortA_ren := {
  mixed := by kernel_rfl
  f5 := ⟨Tryz.f69.name, by decide, Tryz.func69.trans (congrArg some (by kernel_rfl))⟩
  f7 := ⟨Tryz.f88.name, by decide, Tryz.func88.trans (congrArg some (by kernel_rfl))⟩
  f8 := Tryz.func89.trans (congrArg some (by kernel_rfl))
  f10 := ⟨Tryz.f107.name, by decide, Tryz.func107.trans (congrArg some (by kernel_rfl))⟩
  f11 := ⟨Tryz.f108.name, by decide, Tryz.func108.trans (congrArg some (by kernel_rfl))⟩
  f12 := ⟨Tryz.f109.name, by decide, Tryz.func109.trans (congrArg some (by kernel_rfl))⟩
  f13 := ⟨Tryz.f110.name, by decide, Tryz.func110.trans (congrArg some (by kernel_rfl))⟩
  f14 := ⟨Tryz.f111.name, by decide, Tryz.func111.trans (congrArg some (by kernel_rfl))⟩
  f15 := ⟨Tryz.f112.name, by decide, Tryz.func112.trans (congrArg some (by kernel_rfl))⟩
  f16 := ⟨Tryz.f113.name, by decide, Tryz.func113.trans (congrArg some (by kernel_rfl))⟩
  f17 := ⟨Tryz.f114.name, by decide, Tryz.func114.trans (congrArg some (by kernel_rfl))⟩
  f18 := ⟨Tryz.f115.name, by decide, Tryz.func115.trans (congrArg some (by kernel_rfl))⟩
  f19 := Tryz.func116.trans (congrArg some (by kernel_rfl))
  f20 := Tryz.func117.trans (congrArg some (by kernel_rfl))
  f30 := ⟨Tryz.f127.name, by decide, Tryz.func127.trans (congrArg some (by kernel_rfl))⟩
  f31 := Tryz.func128.trans (congrArg some (by kernel_rfl))
  f32 := Tryz.func129.trans (congrArg some (by kernel_rfl))
  f33 := ⟨Tryz.f130.name, by decide, Tryz.func130.trans (congrArg some (by kernel_rfl))⟩
  f34 := ⟨Tryz.f131.name, by decide, Tryz.func131.trans (congrArg some (by kernel_rfl))⟩
  f35 := ⟨Tryz.f132.name, by decide, Tryz.func132.trans (congrArg some (by kernel_rfl))⟩
  f40 := ⟨Tryz.f138.name, by decide, Tryz.func138.trans (congrArg some (by kernel_rfl))⟩
  t0 := Tryz.underlying0
  a0 := Tryz.isAgg0
  z0 := Tryz.sizeOf0
  v0 := Tryz.zeroValue0
  t3 := Tryz.underlying3
  a3 := Tryz.isAgg3
  z3 := Tryz.sizeOf3
  v3 := Tryz.zeroValue3
  t4 := Tryz.underlying4
  a4 := Tryz.isAgg4
  z4 := Tryz.sizeOf4
  v4 := Tryz.zeroValue4
  t5 := Tryz.underlying5
  a5 := Tryz.isAgg5
  z5 := Tryz.sizeOf5
  v5 := Tryz.zeroValue5
  t9 := Tryz.underlying9
  a9 := Tryz.isAgg9
  z9 := Tryz.sizeOf9
  v9 := Tryz.zeroValue9
  t22 := Tryz.underlying22
  a22 := Tryz.isAgg22
  z22 := Tryz.sizeOf22
  v22 := Tryz.zeroValue22
  t23 := Tryz.underlying22
  a23 := Tryz.isAgg22
  z23 := Tryz.sizeOf22
  v23 := Tryz.zeroValue22
  t25 := Tryz.underlying3
  a25 := Tryz.isAgg3
  z25 := Tryz.sizeOf3
  v25 := Tryz.zeroValue3
  t32 := Tryz.underlying48
  a32 := Tryz.isAgg48
  z32 := Tryz.sizeOf48
  v32 := Tryz.zeroValue48
  t35 := Tryz.underlying146
  a35 := Tryz.isAgg146
  z35 := Tryz.sizeOf146
  v35 := Tryz.zeroValue146
  t36 := Tryz.underlying147
  a36 := Tryz.isAgg147
  z36 := Tryz.sizeOf147
  v36 := Tryz.zeroValue147
  t41 := Tryz.underlying152
  a41 := Tryz.isAgg152
  z41 := Tryz.sizeOf152
  v41 := Tryz.zeroValue152
  t44 := Tryz.underlying137
  a44 := Tryz.isAgg137
  z44 := Tryz.sizeOf137
  v44 := Tryz.zeroValue137
  t46 := Tryz.underlying42
  a46 := Tryz.isAgg42
  z46 := Tryz.sizeOf42
  v46 := Tryz.zeroValue42
  t53 := Tryz.underlying162
  a53 := Tryz.isAgg162
  z53 := Tryz.sizeOf162
  v53 := Tryz.zeroValue162
  t57 := Tryz.underlying166
  a57 := Tryz.isAgg166
  z57 := Tryz.sizeOf166
  v57 := Tryz.zeroValue166
  t63 := Tryz.underlying170
  a63 := Tryz.isAgg170
  z63 := Tryz.sizeOf170
  v63 := Tryz.zeroValue170
  t64 := Tryz.underlying171
  a64 := Tryz.isAgg171
  z64 := Tryz.sizeOf171
  v64 := Tryz.zeroValue171 }

theorem sortsA (m : Nat) : AnyZI.SortsIn Tryz.prog sortedA_ren Fence.wide m :=
  ⟨fun blk off cap ss W hH hblk hsz => callsIn_wide.2 (AnyM.slices_Sort_int sortA blk off cap ss W hH hblk hsz),
   fun p cap W => callsIn_wide.2 (AnyM.slices_Sort_int_none sortA p cap W)⟩

theorem keys_any (mb : Option Nat) (w : World) : Calls Tryz.prog 106 #[.map mb] w fun e w' => e = .returned (.func (.func 126) #[] #[.pointer (some ⟨w.heap.size, 0, none⟩)]) ∧ w' = w.alloc (.cells #[.map mb] 65) :=
  (callsIn_wide (n := 5)).1 (AnyZI.keys_in keysA Fence.wide 5 trivial rfl mb w)

set_option maxHeartbeats 1000000 in
theorem sorted_any {H : Type} (b nn : Nat) (D0 : DataW H) (R : Value → Option (DataW H × List MemPlace)) (w : World) (hown : w.ownsMap Tryz.prog 3 R b nn D0) (hmax : Maps.size D0 ≤ maxLen) (hbytes : Maps.size D0 * 8 ≤ 140737488355328) :
    Calls Tryz.prog 41 #[.func (.func 126) #[] #[.pointer (some ⟨w.heap.size, 0, none⟩)]] (w.alloc (.cells #[.map (some b)] 65)) fun e w' => ∃ (v : Value) (ss : List Int), e = .returned v ∧ ss.Perm (intKeys D0) ∧
      w'.ownsRow w.heap.size 3 1 v ss.length ((ss.mergeSort (fun x y => decide (x ≤ y))).map encZ) ∧ (v = .slice none 0 0 ↔ ss = []) ∧ Below w.heap.size w w' := by
  refine (callsIn_wide (n := 5)).1 ?_
  have hbl := hown.lt
  have hseq : SeqGives Fence.wide 2 Tryz.prog 126 #[.pointer (some ⟨w.heap.size, 0, none⟩)] encZ (fun ss => ss.Perm (intKeys D0)) (Maps.size D0) (w.alloc (.cells #[.map (some b)] 65)) :=
    AnyZI.keys_gives (ρ := keysA_ren) { keysA with } Fence.wide _ trivial rfl (by omega) w.heap.size b nn D0 _ (by simp) (by simp) (by
      obtain ⟨es, clock, hb, Ft, hs, hD⟩ := hown
      exact ⟨es, clock, (Below.heap_alloc _ _ b hbl).trans hb, Ft, hs, hD⟩)
  have cS := AnyZI.sorted_in sortedA Fence.wide 5 trivial trivial trivial trivial rfl (by omega) (sortsA _) (enters_of Tryz.func69 (by kernel_rfl) rfl) 126 #[.pointer (some ⟨w.heap.size, 0, none⟩)] trivial (enters_of Tryz.func126 (by kernel_rfl) rfl) _ _ hmax hbytes _ hseq
  refine cS.mono ?_
  rintro e w' ⟨v, ss, he, hS, hrow, hnil, hb⟩
  exact ⟨v, ss, he, hS, ownsRow_base_a hrow (by simp), hnil, ((Below.refl _ w).alloc (Nat.le_refl _) _).trans (hb.mono (by simp))⟩

end SortedK
end Go.Proofs.YtninglnchengeaaGreatDoor

/-
  slices.Clone at one instance (elements of one cell): a slice of its own with the same elements; of nil nil.
-/
namespace Go.Proofs.YtninglnchengeaaGreatDoor
open Go.RowKit Base
set_option linter.unusedVariables false
namespace CloneI

theorem info : (Tryz.prog.info? 3).map (fun i => (i.zero, i.size, i.bytes)) = some (some (.int .i64 0), 1, 8) := by kernel_rfl

set_option maxHeartbeats 1000000 in
theorem clone (w : World) (a : Option Addr) (n c : Nat) (vs : List Value) (hsl : Sl w a n c vs) (h1 : ∀ u ∈ vs, u.oneCell' = true) (hn : n * 8 ≤ 140737488355328) :
    Calls Tryz.prog 25 #[.slice a n c] w fun e w' => ∃ a' c', e = .returned (.slice a' n c') ∧ w'.ownsRow w.heap.size 3 1 (.slice a' n c') n vs ∧ Below w.heap.size w w' := by
  have heq := fun (W : World) (x : Option Addr) => Lib.run_eql_slice_nil (P := Tryz.prog) W 22 3 x n c 0 0 Tryz.underlying22
  cases a with
  | none =>
    obtain ⟨rfl, rfl⟩ := hsl.bare rfl
    have hv : vs = [] := List.eq_nil_of_length_eq_zero hsl.len
    subst hv
    go_enter Tryz.func25, Tryz.ntmps25
    go_wp2_with fail
    go_ret
    exact ⟨none, 0, rfl, World.ownsRow_nil _ _ _ _, Below.refl _ _⟩
  | some ad =>
    have hal : Below w.heap.size w (w.alloc (.cells #[] 3)) := (Below.refl _ _).alloc (Nat.le_refl _) _
    have hsl' := hsl.next hal
    have hown : (w.alloc (.cells #[] 3)).ownsRow w.heap.size 3 1 (.slice (some ⟨w.heap.size, 0, none⟩) 0 0) 0 [] := World.ownsRow_lit w #[] 0 (Nat.le_refl _) (by unfold maxLen; omega) rfl
    have H1 := Lib.hid h1
    clear h1 hsl
    go_enter Tryz.func25, Tryz.ntmps25
    go_wp2_with ((with_reducible refine wpL_app (B := w.heap.size) (W := w) _ 0 [] _ n c vs info Tryz.underlying22 ?_ ?_ ?_ H1.out hown hsl' ?_ ?_ ?_ hal ?_); rfl; rfl; rfl; exact hal.size; omega; omega; (rw [Nat.zero_add, List.nil_append]; intro a2 c2 w2 hown2 hb2 _))
    go_ret
    exact ⟨a2, c2, rfl, hown2, hb2⟩
end CloneI
end Go.Proofs.YtninglnchengeaaGreatDoor

/-
  circuit.Cone: what literals hang on.
-/
namespace Go.Proofs.YtninglnchengeaaGreatDoor
open Go.RowKit Base Go.Maps
set_option linter.unusedVariables false
set_option linter.unusedSimpArgs false
namespace Circuit

theorem info_intC : (Tryz.prog.info? 3).map (fun i => (i.zero, i.size, i.bytes)) = some (some (.int .i64 0), 1, 8) := by kernel_rfl

/-- The set of what is met, and its keys. -/
def SetK (w : World) (b n : Nat) (M : List Int) : Prop :=
  ∃ D : DataW Unit, w.ownsMap Tryz.prog 3 (plainElem Tryz.prog 4) b n D ∧ IsMap D ∧ (∀ x, SetI.I64 x → D.atKey (.int .i64 x) (.lit (.bool false)) = .lit (.bool (SetI.inX M x))) ∧ SetI.KeysAre D M

theorem SetK.set {w : World} {b n : Nat} {M : List Int} (h : SetK w b n M) : SetI.SetIs w b n M := by
  obtain ⟨D, h1, h2, h3, _⟩ := h
  exact ⟨D, h1, h2, h3⟩
theorem SetK.next {w w' : World} {b n : Nat} {M : List Int} (h : SetK w b n M) (hb : Below w.heap.size w w') : SetK w' b n M := by
  obtain ⟨D, ⟨es, cl, hh, r⟩, hm, hat, hk⟩ := h
  exact ⟨D, ⟨es, cl, (hb.block b (Array.getElem?_eq_some_iff.1 hh).1).trans hh, r⟩, hm, hat, hk⟩

theorem _root_.Go.Proofs.YtninglnchengeaaGreatDoor.SetI.keys_size {D : DataW Unit} {X : List Int} (h : SetI.KeysAre D X) : Maps.size D = X.length := by
  obtain ⟨es, rfl, _, hp⟩ := h
  have := hp.length_eq
  unfold Go.intKeys at this
  rw [List.length_map] at this
  exact this

theorem sorted_strict {ss M : List Int} (hp : ss.Perm M) (hn : M.Nodup) : (ss.mergeSort (fun x y => decide (x ≤ y))).Pairwise (· < ·) ∧ (∀ v, v ∈ ss.mergeSort (fun x y => decide (x ≤ y)) ↔ v ∈ M) ∧ (ss.mergeSort (fun x y => decide (x ≤ y))).length = ss.length := by
  have hperm : (ss.mergeSort (fun x y => decide (x ≤ y))).Perm M := (List.mergeSort_perm _ _).trans hp
  have h1 : (ss.mergeSort (fun x y => decide (x ≤ y))).Pairwise (fun x y => decide (x ≤ y) = true) :=
    List.pairwise_mergeSort (fun a b c h1 h2 => by simp only [decide_eq_true_eq] at *; omega) (fun a b => by simp only [Bool.or_eq_true, decide_eq_true_eq]; omega) ss
  have h2 : (ss.mergeSort (fun x y => decide (x ≤ y))).Nodup := hperm.nodup_iff.2 hn
  refine ⟨?_, fun v => hperm.mem_iff, by simp⟩
  refine (h1.and h2).imp ?_
  intro a b h
  simp only [decide_eq_true_eq] at h
  omega

theorem SetK.keep {w w' : World} {b n : Nat} {M : List Int} (h : SetK w b n M) {B : Nat} (hb : Below B w w') (hB : b < B) : SetK w' b n M := by
  obtain ⟨D, ⟨es, cl, hh, r⟩, hm, hat, hk⟩ := h
  exact ⟨D, ⟨es, cl, (hb.block b hB).trans hh, r⟩, hm, hat, hk⟩

theorem pop_last {T : List Int} (h : 0 < T.length) : ∃ T' t, T = T' ++ [t] ∧ T'.length + 1 = T.length := by
  refine ⟨T.dropLast, T.getLast (by intro e; rw [e] at h; simp at h), (List.dropLast_concat_getLast _).symm, ?_⟩
  rw [List.length_dropLast]
  omega

set_option maxRecDepth 8000 in
set_option maxHeartbeats 16000000 in
theorem cone_any (w : World) (x : Circ) (p : At) (hin : InCirc w x p) (hwa : WfT x.ands) (a : Option Addr) (c : Nat) (l : List Int) (hsl : Sl w a l.length c (ints l)) (hl : ∀ y ∈ l, I64 y) (hsz : (2 * l.length + 2 * x.ands.length + 2) * 8 ≤ 140737488355328) :
    Calls Tryz.prog 85 #[.agg (cells x p), .slice a l.length c] w fun e w' => ∃ a' c' vs, e = .returned (.slice a' vs.length c') ∧ w'.ownsRow w.heap.size 3 1 (.slice a' vs.length c') vs.length (ints vs) ∧ (vs.Pairwise (· < ·)) ∧ (∀ v, v ∈ vs ↔ v ≠ 0 ∧ Rch x.ands l v) ∧ Below w.heap.size w w' := by
  obtain ⟨W1, hW1⟩ : ∃ W1, w.alloc (.cells (cells x p) 27) = W1 := ⟨_, rfl⟩
  obtain ⟨hb1, hcb⟩ := cbox_new w x p W1 hW1
  obtain ⟨W2, hW2⟩ : ∃ W2, W1.alloc (.map #[] 0) = W2 := ⟨_, rfl⟩
  have hb2 : Below W1.heap.size W1 W2 := by rw [← hW2]; exact (Below.refl _ _).alloc (Nat.le_refl _) _
  have z2 : W2.heap.size = W1.heap.size + 1 := by rw [← hW2]; simp
  have hset : SetK W2 W1.heap.size 0 [] := by rw [← hW2]; exact ⟨.map [], World.ownsMap_made _ _ _ _, ⟨_, rfl⟩, fun x _ => by simp [DataW.atKey, SetI.inX], SetI.keys_nil⟩
  have CL := CloneI.clone W2 a l.length c (ints l) (hsl.next (hb1.trans (hb2.mono hb1.size))) (fun u hu => by unfold ints at hu; obtain ⟨y, _, rfl⟩ := List.mem_map.1 hu; rfl) (by omega)
  have HCL := Lib.hid CL
  have HB1 := Lib.hid hb1
  have HB2 := Lib.hid hb2
  have HZ2 := Lib.hid z2
  have HSET := Lib.hid hset
  have KB := Lib.hid (fun (U : World) (hU : Below W1.heap.size W1 U) => hcb.next hU (Nat.le_refl _))
  have HGA := fun (U : World) (hU : Below W1.heap.size W1 U) (v : Int) => gate_any U x p ((hin.next hb1).next hU) hwa v
  have HSZ := Lib.hid hsz
  have HWA := Lib.hid hwa
  have HL := Lib.hid hl
  obtain ⟨a1, c1, a2, c2, a3, c3, a4, c4, a5, c5, a6, c6, a7, c7⟩ := p
  simp only [cells] at hW1 HGA ⊢
  have HG := Lib.hid HGA
  have hmm := @run_makeMap Tryz.prog
  clear hin hwa hsl hl hsz hb1 hcb hb2 z2 hset CL HGA
  go_enter Tryz.func85, Tryz.ntmps85
  go_wp2_with fail
  with_reducible refine HCL.out.mono ?_
  rintro e w3 ⟨a3', c3', rfl, hown3, hb3⟩
  have hset3 := HSET.out.next hb3
  have hb13 := HB2.out.trans (hb3.mono HB2.out.size)
  have hz3 := hb3.size
  have HST : Hid (∃ (T M : List Int) (a' : Option Addr) (c' n : Nat), (.slice a3' l.length c3' : Value) = .slice a' n c' ∧ Hid (T.length = n) ∧ Hid (w3.ownsRow W2.heap.size 3 1 (.slice a' n c') n (ints T)) ∧ Hid (ConeInv x.ands l T M) ∧ Hid (SetK w3 W1.heap.size M.length M) ∧ Hid (∀ t ∈ T, I64 t) ∧ Hid (l.length + 3 * (l.length + 2 * x.ands.length) = T.length + 3 * (l.length + 2 * x.ands.length - M.length)) ∧ Hid (Below W1.heap.size W1 w3) ∧ Hid (W2.heap.size ≤ w3.heap.size)) :=
    ⟨l, [], a3', c3', l.length, rfl, rfl, hown3, cone_start _ _, hset3, HL.out, by show _ = _; simp, hb13, hz3⟩
  clear hW1 hW2 hmm HCL hset3 hb13 hz3 hown3 hb3
  go_wp2_with fail
  go_loopg [6] (l.length + 3 * (l.length + 2 * x.ands.length)) (fun gk s6 wr => ∃ (T M : List Int) (a' : Option Addr) (c' n : Nat), s6 = .slice a' n c' ∧ Hid (T.length = n) ∧ Hid (wr.ownsRow W2.heap.size 3 1 (.slice a' n c') n (ints T)) ∧ Hid (ConeInv x.ands l T M) ∧ Hid (SetK wr W1.heap.size M.length M) ∧ Hid (∀ t ∈ T, I64 t) ∧ Hid (gk = T.length + 3 * (l.length + 2 * x.ands.length - M.length)) ∧ Hid (Below W1.heap.size W1 wr) ∧ Hid (W2.heap.size ≤ wr.heap.size))
  case atStart => exact HST.out
  case round =>
    clear HST
    obtain ⟨T, M, a', c', n, rfl, hn, hown, hI, hS, h64, hgk, hB, hZ⟩ := hrel
    by_cases hpos : 0 < n
    · obtain ⟨T', t, hT, hlen⟩ := pop_last (T := T) (by have := hn.out; omega)
      obtain ⟨m, rfl⟩ : ∃ m, n = m + 1 := ⟨n - 1, by omega⟩
      have hm : T'.length = m := by have := hn.out; omega
      have HTM := Lib.hid hm
      subst hT
      obtain ⟨g, rfl, hgl, hgs⟩ := own_addr hown.out hpos
      have HPOP : Hid (wr.ownsRow W2.heap.size 3 1 (.slice (some ⟨g, 0, none⟩) m c') m (ints T')) := by
        have h := hown.out
        have e : ints (T' ++ [t]) = ints T' ++ [.int .i64 t] := by unfold ints; rw [List.map_append]; rfl
        rw [e] at h
        exact ownsRow_pop (by rw [ints_len, hm, Nat.mul_one]) h
      obtain ⟨a4, c4', hae, hsl⟩ := own_sl hown.out
      simp only [Value.slice.injEq, true_and] at hae
      obtain ⟨rfl, rfl⟩ := hae
      have HGK : Hid (gk = m + 1 + 3 * (l.length + 2 * x.ands.length - M.length)) := by
        have h := hgk.out
        rw [List.length_append, hm] at h
        exact h
      have H64' : Hid (∀ u ∈ T', I64 u) := fun u hu => h64.out u (List.mem_append_left _ hu)
      obtain ⟨b, o, hx, hae2, hbs, d0⟩ := hsl.int (show m < m + 1 by omega)
      simp only [Option.some.injEq, Addr.mk.injEq, and_true] at hae2
      obtain ⟨rfl, rfl⟩ := hae2
      have het : (T' ++ [t])[m] = t := by simp [← hm]
      rw [het, Nat.zero_add] at d0
      have hcap := hsl.cap
      have hbig := hsl.big
      have ht64 := h64.out t (by simp)
      have HV := Lib.hid (fun U => var_any t ht64.1 ht64.2 U)
      have hv64 : SetI.I64 (var t) := by have := ht64; unfold I64 at this; unfold SetI.I64 var; omega
      have HLK := SetI.set_look hS.out.set hv64
      clear hsl hx het hm
      generalize hgv : var t = v at *
      have HGV := Lib.hid hgv
      clear hgv hpos
      by_cases hv0 : v = 0
      · have hv0' : (v == 0) = true := by rw [hv0]; rfl
        have HVZ := Lib.hid hv0
        clear hv0
        go_wp2_with fail
        with_reducible refine (HV.out _).mono ?_
        rintro e w5 ⟨rfl, rfl⟩
        go_wp2_with fail
        go_roundg (m + 3 * (l.length + 2 * x.ands.length - M.length))
        case measure => have := HGK.out; omega
        case rel => exact ⟨T', M, _, c', m, rfl, HTM.out, HPOP.out, cone_skip hI.out (Or.inl (HGV.out.trans HVZ.out)), hS.out, H64'.out, by show _ = _; rw [HTM.out], hB.out, hZ.out⟩
      · have hv0' : (v == 0) = false := by simpa using hv0
        have HV0 := Lib.hid hv0
        clear hv0
        cases hin : SetI.inX M v
        · rw [hin] at HLK
          have HNM : Hid (v ∉ M) := fun hm => by
            have := SetI.inX_iff.2 hm
            rw [hin] at this
            cases this
          have HIN := Lib.hid hin
          clear hin
          obtain ⟨D, hown6, hD1, hD2, hD3⟩ := hS.out
          have hfew := cone_few hI.out
          have HFEW := Lib.hid hfew
          have HML : Hid (M.length < maxLen) := by show _ < _; have := HSZ.out; unfold maxLen; omega
          have HWF := Lib.hid (SetI.wf_lit hv64)
          go_upto_region 8 with ((first | (go_at_call 60; with_reducible refine (HV.out _).mono ?_; rintro e w5 ⟨rfl, rfl⟩) | (at_mapUpdate; refine wpList_mapUpdate_own _ rfl _ _ _ 65 rfl 3 4 SetI.law Tryz.underlying65 _ W1.heap.size M.length _ rfl hown6 HML.out _ _ _ rfl rfl (keyOf_int_mk Tryz.underlying3 HWF.out) _ [] (plainElem_bool Tryz.underlying4 true) ?_; intro w6 hmap6 hgrow6)))
          have hput := SetI.set_put hD1 hD2 v
          have hS6 : SetK w6 W1.heap.size (M.length + 1) (M ++ [v]) := ⟨_, hmap6, hput.1, hput.2, SetI.keys_put hD3 HNM.out _⟩
          have hgB : g ≠ W1.heap.size := by have := HZ2.out; omega
          have hown7 := HPOP.out.kept hgrow6 (Or.inr (by simpa [Value.ownBlock] using hgB))
          have hB6 := hB.out.grown hgrow6 hB.out.size (fun q hq => by cases hq; exact Nat.le_refl _)
          have HB6 := Lib.hid hB6
          have HS6 := Lib.hid hS6
          have HO6 := Lib.hid hown7
          have HZ6 := Lib.hid (Nat.le_trans hZ.out hgrow6.size)
          have CB := KB.out w6 hB6
          have HG6 := Lib.hid (HG.out w6 hB6 v)
          have HI := Lib.hid hI.out
          clear hput hS6 hown7 hB6 hgrow6 hmap6 hown6 hD1 hD2 hD3 HLK d0 hown hS
          have m0 : w6.cell? ⟨w.heap.size, 0, none⟩ = some (.int .i64 x.max) := CB.k0
          have m1 : w6.cell? ⟨w.heap.size, 1, none⟩ = some (.slice a1 x.ins.length c1) := CB.k1
          have m2 : w6.cell? ⟨w.heap.size, 2, none⟩ = some (.slice a2 x.lats.length c2) := CB.k2
          have m3 : w6.cell? ⟨w.heap.size, 3, none⟩ = some (.slice a3 x.outs.length c3) := CB.k3
          have m4 : w6.cell? ⟨w.heap.size, 4, none⟩ = some (.slice a4 x.bads.length c4) := CB.k4
          have m5 : w6.cell? ⟨w.heap.size, 5, none⟩ = some (.slice a5 x.invs.length c5) := CB.k5
          have m6 : w6.cell? ⟨w.heap.size, 6, none⟩ = some (.slice a6 x.ands.length c6) := CB.k6
          have m7 : w6.cell? ⟨w.heap.size, 7, none⟩ = some (.slice a7 x.names.length c7) := CB.k7
          clear CB
          cases hgt : gate x.ands v
          · rw [hgt] at HG6
            have HIN := Lib.hid (cone_meet_none HI.out (by rw [HGV.out]; exact HV0.out) (by rw [HGV.out]; exact HNM.out) (by rw [HGV.out]; exact hgt))
            have HG7 : Hid (Calls Tryz.prog 105 #[.agg #[.int .i64 x.max, .slice a1 x.ins.length c1, .slice a2 x.lats.length c2, .slice a3 x.outs.length c3, .slice a4 x.bads.length c4, .slice a5 x.invs.length c5, .slice a6 x.ands.length c6, .slice a7 x.names.length c7], .int .i64 v] w6 fun e w' => e = .returned (.tuple #[.agg #[.int .i64 0, .int .i64 0, .int .i64 0], .bool false]) ∧ Below w6.heap.size w6 w') := HG6.out
            clear HG6 hgt
            go_wp2_with fail
            with_reducible refine HG7.out.mono ?_
            rintro e w7 ⟨rfl, hb7⟩
            obtain ⟨W8, hW8⟩ : ∃ W8, w7.alloc (.cells #[.int .i64 0, .int .i64 0, .int .i64 0] 62) = W8 := ⟨_, rfl⟩
            obtain ⟨hb8, htb⟩ := tbox_new w7 (0, 0, 0) 62 W8 hW8
            have f0 : W8.frozen? ⟨w7.heap.size, 0, none⟩ = false := by rw [← hW8]; simp [go_sem]
            have f1 : W8.frozen? ⟨w7.heap.size, 1, none⟩ = false := by rw [← hW8]; simp [go_sem]
            have f2 : W8.frozen? ⟨w7.heap.size, 2, none⟩ = false := by rw [← hW8]; simp [go_sem]
            have s0 : W8.setCell ⟨w7.heap.size, 0, none⟩ (.int .i64 0) = W8 := setCell_same _ _ _ htb.t0
            have s1 : W8.setCell ⟨w7.heap.size, 1, none⟩ (.int .i64 0) = W8 := setCell_same _ _ _ htb.t1
            have s2 : W8.setCell ⟨w7.heap.size, 2, none⟩ (.int .i64 0) = W8 := setCell_same _ _ _ htb.t2
            have hb68 := hb7.trans (hb8.mono hb7.size)
            have HB68 := Lib.hid hb68
            have q0 : W8.cell? ⟨w7.heap.size, 0, none⟩ = some (.int .i64 0) := htb.t0
            have q1 : W8.cell? ⟨w7.heap.size, 1, none⟩ = some (.int .i64 0) := htb.t1
            have q2 : W8.cell? ⟨w7.heap.size, 2, none⟩ = some (.int .i64 0) := htb.t2
            clear hb7 hb8 htb hb68 m0 m1 m2 m3 m4 m5 m6 m7
            go_wp2_with fail
            go_roundg (m + 3 * (l.length + 2 * x.ands.length - (M.length + 1)))
            case measure => have := HGK.out; have := cone_few HIN.out; simp only [List.length_append, List.length_singleton] at this; omega
            case rel => exact ⟨T', M ++ [v], _, c', m, rfl, HTM.out, own_next HO6.out HB68.out, by have h := HIN.out; rw [HGV.out] at h; exact h, by show SetK _ _ (M ++ [v]).length _; rw [List.length_append]; exact HS6.out.next HB68.out, H64'.out, by show _ = _; rw [HTM.out, List.length_append]; rfl, HB6.out.trans (HB68.out.mono HB6.out.size), Nat.le_trans HZ6.out HB68.out.size⟩
          · rename_i gy
            obtain ⟨y0, y1, y2⟩ := gy
            rw [hgt] at HG6
            have HIN := Lib.hid (cone_meet_some HI.out (by rw [HGV.out]; exact HV0.out) (by rw [HGV.out]; exact HNM.out) (by rw [HGV.out]; exact hgt))
            have HY := Lib.hid (HWA.out _ (gate_mem hgt))
            have HG7 : Hid (Calls Tryz.prog 105 #[.agg #[.int .i64 x.max, .slice a1 x.ins.length c1, .slice a2 x.lats.length c2, .slice a3 x.outs.length c3, .slice a4 x.bads.length c4, .slice a5 x.invs.length c5, .slice a6 x.ands.length c6, .slice a7 x.names.length c7], .int .i64 v] w6 fun e w' => e = .returned (.tuple #[.agg #[.int .i64 y0, .int .i64 y1, .int .i64 y2], .bool true]) ∧ Below w6.heap.size w6 w') := HG6.out
            clear HG6 hgt
            go_wp2_with fail
            with_reducible refine HG7.out.mono ?_
            rintro e w7 ⟨rfl, hb7⟩
            obtain ⟨W8, hW8⟩ : ∃ W8, w7.alloc (.cells #[.int .i64 y0, .int .i64 y1, .int .i64 y2] 62) = W8 := ⟨_, rfl⟩
            obtain ⟨hb8, htb⟩ := tbox_new w7 (y0, y1, y2) 62 W8 hW8
            have hb68 := hb7.trans (hb8.mono hb7.size)
            have HB68 := Lib.hid hb68
            have q0 : W8.cell? ⟨w7.heap.size, 0, none⟩ = some (.int .i64 y0) := htb.t0
            have q1 : W8.cell? ⟨w7.heap.size, 1, none⟩ = some (.int .i64 y1) := htb.t1
            have q2 : W8.cell? ⟨w7.heap.size, 2, none⟩ = some (.int .i64 y2) := htb.t2
            clear hb7 hb8 htb hb68 m0 m1 m2 m3 m4 m5 m6 m7
            go_upto_region 10 with fail
            obtain ⟨W9, hW9⟩ : ∃ W9, W8.alloc (.cells #[.int .i64 y1, .int .i64 y2] 3) = W9 := ⟨_, rfl⟩
            have hb9 : Below W8.heap.size W8 W9 := by rw [← hW9]; exact (Below.refl _ _).alloc (Nat.le_refl _) _
            have hsl9 : Sl W9 (some ⟨W8.heap.size, 0, none⟩) 2 2 [.int .i64 y1, .int .i64 y2] := by rw [← hW9]; exact sl_new W8 _ _ 2 rfl (by omega)
            have hb69 := HB68.out.trans (hb9.mono HB68.out.size)
            have HO9 := Lib.hid (own_next HO6.out hb69)
            have HZ9 := Lib.hid (Nat.le_trans HZ6.out hb69.size)
            have HB69 := Lib.hid hb69
            have HSL9 := Lib.hid hsl9
            have HAN : Hid ((m + 2) * 8 ≤ 140737488355328) := by
              show _ ≤ _
              have h1 := HI.out.few
              have h2 := cone_few HIN.out
              have h3 := HSZ.out
              have h4 := HTM.out
              rw [List.length_append, h4] at h1
              rw [List.length_append] at h2
              simp only [List.length_singleton] at h1 h2
              omega
            clear hb9 hsl9 hb69
            go_wp2_with ((with_reducible refine wpL_app W2.heap.size (.slice (some ⟨g, 0, none⟩) m c') m (ints T') (some ⟨W8.heap.size, 0, none⟩) 2 2 [.int .i64 y1, .int .i64 y2] info_intC Tryz.underlying22 rfl ?_ ?_ ?_ HO9.out HSL9.out HZ9.out HAN.out ?_ (Below.refl _ W9) ?_); rfl; rfl; (intro u hu; simp only [List.mem_cons, List.not_mem_nil, or_false] at hu; rcases hu with rfl | rfl <;> rfl); (have := HAN.out; omega); (intro a10 c10 w10 hown10 hb10 hz10))
            have hb610 : Below W2.heap.size w6 w10 := (HB69.out.mono (by have := HZ6.out; omega)).trans hb10
            have hB10 : Below W1.heap.size W1 w10 := HB6.out.trans (hb610.mono (by have := HZ2.out; omega))
            have hS10 : SetK w10 W1.heap.size (M.length + 1) (M ++ [v]) := HS6.out.keep hb610 (by have := HZ2.out; omega)
            have h10 : ∀ u ∈ T' ++ [y1, y2], I64 u := fun u hu => by
              rw [List.mem_append] at hu
              rcases hu with hu | hu
              · exact H64'.out u hu
              · simp only [List.mem_cons, List.not_mem_nil, or_false] at hu
                rcases hu with rfl | rfl
                · exact HY.out.2.1
                · exact HY.out.2.2
            have hI10 : ConeInv x.ands l (T' ++ [y1, y2]) (M ++ [v]) := by have h := HIN.out; rw [HGV.out] at h; exact h
            have hO10 : w10.ownsRow W2.heap.size 3 1 (.slice a10 (m + 2) c10) (m + 2) (ints (T' ++ [y1, y2])) := by
              have e : ints (T' ++ [y1, y2]) = ints T' ++ [.int .i64 y1, .int .i64 y2] := by unfold ints; rw [List.map_append]; rfl
              rw [e]
              exact hown10
            have HZ10 := Lib.hid (Nat.le_trans HZ9.out hz10)
            have HB10 := Lib.hid hB10
            have HS10 := Lib.hid hS10
            have H10 := Lib.hid h10
            have HI10 := Lib.hid hI10
            have HO10 := Lib.hid hO10
            clear hb610 hB10 hS10 h10 hI10 hO10 hown10 hb10 hz10 q0 q1 q2
            go_wp2_with fail
            go_roundg (m + 2 + 3 * (l.length + 2 * x.ands.length - (M.length + 1)))
            case measure => have := HGK.out; have := cone_few HI10.out; simp only [List.length_append, List.length_singleton] at this; omega
            case rel => exact ⟨T' ++ [y1, y2], M ++ [v], a10, c10, m + 2, rfl, by show (_ : List Int).length = _; rw [List.length_append, HTM.out]; rfl, HO10.out, HI10.out, by show SetK _ _ (M ++ [v]).length _; rw [List.length_append]; exact HS10.out, H10.out, by show _ = _; rw [List.length_append, List.length_append, HTM.out]; rfl, HB10.out, HZ10.out⟩
        · rw [hin] at HLK
          have HMEM := Lib.hid (SetI.inX_iff.1 hin)
          clear hin
          go_wp2_with fail
          with_reducible refine (HV.out _).mono ?_
          rintro e w5 ⟨rfl, rfl⟩
          go_wp2_with fail
          go_roundg (m + 3 * (l.length + 2 * x.ands.length - M.length))
          case measure => have := HGK.out; omega
          case rel => exact ⟨T', M, _, c', m, rfl, HTM.out, HPOP.out, cone_skip hI.out (Or.inr (by rw [HGV.out]; exact HMEM.out)), hS.out, H64'.out, by show _ = _; rw [HTM.out], hB.out, hZ.out⟩
    · have hn0 : n = 0 := by omega
      subst hn0
      have hT : T = [] := List.eq_nil_of_length_eq_zero hn.out
      subst hT
      obtain ⟨D, hown6, hD1, hD2, hD3⟩ := hS.out
      have hfew := cone_few hI.out
      have hds := SetI.keys_size hD3
      have HKS := Lib.hid (fun (U : World) => SortedK.keys_any (some W1.heap.size) U)
      have HSS := Lib.hid (SortedK.sorted_any W1.heap.size M.length D (plainElem Tryz.prog 4) wr hown6 (by rw [hds]; have := HSZ.out; unfold maxLen; omega) (by rw [hds]; have := HSZ.out; omega))
      have HD3 := Lib.hid hD3
      clear hfew hds hown6 hD1 hD2 hD3
      go_wp2_with fail
      with_reducible refine (HKS.out _).mono ?_
      rintro e w5 ⟨rfl, rfl⟩
      go_wp2_with fail
      with_reducible refine HSS.out.mono ?_
      rintro e w6 ⟨v, ss, rfl, hperm, hrow, hnil, hb⟩
      obtain ⟨a9, c9, rfl, _⟩ := own_sl hrow
      have HROW := Lib.hid hrow
      have HBB := Lib.hid hb
      clear hrow hb hnil
      go_wp2_with fail
      go_ret
      have hpm : (intKeys D).Perm M := by obtain ⟨es, rfl, _, h⟩ := HD3.out; exact h
      obtain ⟨hs1, hs2, hs3⟩ := sorted_strict (hperm.trans hpm) hI.out.nodup
      refine ⟨a9, c9, ss.mergeSort (fun x y => decide (x ≤ y)), by rw [hs3]; rfl, ?_, hs1, fun v => (hs2 v).trans (cone_end hI.out v), ?_⟩
      · rw [hs3]
        exact own_mono HROW.out (by have h1 := hB.out.size; have h2 := HB1.out.size; omega)
      · exact (HB1.out.trans (hB.out.mono HB1.out.size)).trans (HBB.out.mono (by have h1 := hB.out.size; have h2 := HB1.out.size; omega))
end Circuit
end Go.Proofs.YtninglnchengeaaGreatDoor

/-
  Plain: what is said of a key, the latest first.
-/
namespace Go.Proofs.YtninglnchengeaaGreatDoor
namespace GetI

/-- The latest that is said of a key. -/
def getI {α : Type} [DecidableEq α] (D : List (α × Int)) (k : α) : Option Int := (D.find? fun p => decide (p.1 = k)).map (·.2)
theorem getI_nil {α : Type} [DecidableEq α] (k : α) : getI ([] : List (α × Int)) k = none := rfl
theorem getI_same {α : Type} [DecidableEq α] (D : List (α × Int)) (k : α) (v : Int) : getI ((k, v) :: D) k = some v := by simp [getI]
theorem getI_other {α : Type} [DecidableEq α] (D : List (α × Int)) {k k' : α} (v : Int) (h : k ≠ k') : getI ((k, v) :: D) k' = getI D k' := by simp [getI, h]
theorem getI_mem {α : Type} [DecidableEq α] {D : List (α × Int)} {k : α} {v : Int} (h : getI D k = some v) : (k, v) ∈ D := by
  unfold getI at h
  rw [Option.map_eq_some_iff] at h
  obtain ⟨p, hp, rfl⟩ := h
  have h1 := List.mem_of_find?_eq_some hp
  have h2 := List.find?_some hp
  simp only [decide_eq_true_eq] at h2
  rw [← h2]; exact h1
end GetI
end Go.Proofs.YtninglnchengeaaGreatDoor

/-
  Plain: a circuit, hashed: what stands for what, what is kept; that it does what it did. No program's function.
-/
namespace Go.Proofs.YtninglnchengeaaGreatDoor
open Go.RowKit Base
set_option linter.unusedVariables false
set_option linter.unusedSimpArgs false
namespace StrashP
open Circuit GetI

/-- A literal's opposite. -/
def notL (l : Int) : Int := if l < 0 then 1 else if l % 2 = 1 then l - 1 else l + 1
def posL (l : Int) : Int := max l 0
/-- What an and is that needs no gate. -/
def plainL (a b : Int) : Option Int :=
  if posL a = 0 ∨ posL b = 0 ∨ posL a = notL (posL b) then some 0
  else if posL a = 1 ∨ posL a = posL b then some (posL b)
  else if posL b = 1 then some (posL a) else none

structure St where
  S : List (Int × Int)
  M : List ((Int × Int) × Int)
  K : List Tri

/-- What stands for a literal. -/
def litS (S : List (Int × Int)) (l : Int) : Int :=
  match getI S (var l) with
  | some t => if neg l then notL t else t
  | none => l
def pairS (a b : Int) : Int × Int := (min a b, max a b)

def gateS (st : St) (t : Tri) : St :=
  match plainL (litS st.S t.2.1) (litS st.S t.2.2) with
  | some l => { st with S := (var t.1, l) :: st.S }
  | none => match getI st.M (pairS (litS st.S t.2.1) (litS st.S t.2.2)) with
    | some l => { st with S := (var t.1, l) :: st.S }
    | none => { st with M := (pairS (litS st.S t.2.1) (litS st.S t.2.2), t.1) :: st.M, K := st.K ++ [(t.1, litS st.S t.2.1, litS st.S t.2.2)] }
def foldG (ands : List Tri) : St := ands.foldl gateS ⟨[], [], []⟩
theorem foldG_snoc (A : List Tri) (t : Tri) : foldG (A ++ [t]) = gateS (foldG A) t := by unfold foldG; rw [List.foldl_append]; rfl

/-! ### Literals. -/
theorem var_not {s : Int} (h : 0 ≤ s) : var (notL s) = var s := by unfold var notL; split <;> (try split) <;> omega
theorem not_nn {s : Int} (h : 0 ≤ s) : 0 ≤ notL s := by unfold notL; split <;> (try split) <;> omega
theorem neg_not {s : Int} (h : 0 ≤ s) : neg (notL s) = !neg s := by
  unfold neg notL
  rw [if_neg (by omega)]
  by_cases h1 : s % 2 = 1
  · rw [if_pos h1, if_neg (by omega), if_neg (by omega)]
    have e1 : (s % 2 == 1) = true := by simp [h1]
    have e2 : ((s - 1) % 2 == 1) = false := by simp; omega
    rw [e1, e2]; rfl
  · rw [if_neg h1, if_neg (by omega), if_neg (by omega)]
    have e1 : (s % 2 == 1) = false := by simp; omega
    have e2 : ((s + 1) % 2 == 1) = true := by simp; omega
    rw [e1, e2]; rfl

/-- A literal's value. -/
def bitV (V : Int → Bool) (l : Int) : Bool := V (var l) != neg l
theorem bit_not (V : Int → Bool) {s : Int} (h : 0 ≤ s) : bitV V (notL s) = !bitV V s := by
  unfold bitV
  rw [var_not h, neg_not h]
  cases V (var s) <;> cases neg s <;> rfl
theorem bit_zero {V : Int → Bool} (h : V 0 = false) : bitV V 0 = false := by
  unfold bitV
  have e1 : var 0 = 0 := by decide
  have e2 : neg 0 = false := by decide
  rw [e1, e2, h]; rfl
theorem bit_one {V : Int → Bool} (h : V 0 = false) : bitV V 1 = true := by
  unfold bitV
  have e1 : var 1 = 0 := by decide
  have e2 : neg 1 = true := by decide
  rw [e1, e2, h]; rfl

theorem posL_eq {a : Int} (h : 0 ≤ a) : posL a = a := by unfold posL; omega
theorem plain_of {a b : Int} (ha : 0 ≤ a) (hb : 0 ≤ b) : plainL a b = if a = 0 ∨ b = 0 ∨ a = notL b then some 0 else if a = 1 ∨ a = b then some b else if b = 1 then some a else none := by
  unfold plainL; rw [posL_eq ha, posL_eq hb]
theorem plain_sem {V : Int → Bool} (h0 : V 0 = false) {a b r : Int} (ha : 0 ≤ a) (hb : 0 ≤ b) (h : plainL a b = some r) : bitV V r = (bitV V a && bitV V b) := by
  rw [plain_of ha hb] at h
  by_cases h1 : a = 0 ∨ b = 0 ∨ a = notL b
  · rw [if_pos h1] at h
    simp only [Option.some.injEq] at h
    subst h
    rw [bit_zero h0]
    rcases h1 with rfl | rfl | rfl
    · rw [bit_zero h0]; rfl
    · rw [bit_zero h0, Bool.and_false]
    · rw [bit_not V hb]; cases bitV V b <;> rfl
  · rw [if_neg h1] at h
    by_cases h2 : a = 1 ∨ a = b
    · rw [if_pos h2] at h
      simp only [Option.some.injEq] at h
      subst h
      rcases h2 with rfl | rfl
      · rw [bit_one h0, Bool.true_and]
      · rw [Bool.and_self]
    · rw [if_neg h2] at h
      by_cases h3 : b = 1
      · rw [if_pos h3] at h
        simp only [Option.some.injEq] at h
        subst h; subst h3
        rw [bit_one h0, Bool.and_true]
      · rw [if_neg h3] at h; cases h
theorem plain_res {a b r : Int} (ha : 0 ≤ a) (hb : 0 ≤ b) (h : plainL a b = some r) : r = 0 ∨ r = a ∨ r = b := by
  rw [plain_of ha hb] at h
  split at h
  · simp only [Option.some.injEq] at h; exact Or.inl h.symm
  · split at h
    · simp only [Option.some.injEq] at h; exact Or.inr (Or.inr h.symm)
    · split at h
      · simp only [Option.some.injEq] at h; exact Or.inr (Or.inl h.symm)
      · cases h
theorem notL_of {a : Int} (ha : 0 ≤ a) : notL a = if a % 2 = 1 then a - 1 else a + 1 := by unfold notL; rw [if_neg (by omega)]
theorem not_eq_iff {a b : Int} (ha : 0 ≤ a) (hb : 0 ≤ b) : a = notL b ↔ b = notL a := by
  rw [notL_of ha, notL_of hb]
  split <;> split <;> omega
theorem plain_comm {a b : Int} (ha : 0 ≤ a) (hb : 0 ≤ b) : plainL a b = plainL b a := by
  rw [plain_of ha hb, plain_of hb ha]
  by_cases h1 : a = 0 ∨ b = 0 ∨ a = notL b
  · have h2 : b = 0 ∨ a = 0 ∨ b = notL a := by
      rcases h1 with h | h | h
      · exact Or.inr (Or.inl h)
      · exact Or.inl h
      · exact Or.inr (Or.inr ((not_eq_iff ha hb).1 h))
    simp only [if_pos h1, if_pos h2]
  · have h2 : ¬ (b = 0 ∨ a = 0 ∨ b = notL a) := by
      rintro (h | h | h)
      · exact h1 (Or.inr (Or.inl h))
      · exact h1 (Or.inl h)
      · exact h1 (Or.inr (Or.inr ((not_eq_iff ha hb).2 h)))
    simp only [if_neg h1, if_neg h2]
    by_cases e : a = b
    · subst e; rfl
    · have e' : ¬ b = a := fun h => e h.symm
      by_cases e1 : a = 1
      · by_cases e2 : b = 1
        · exact absurd (e1.trans e2.symm) e
        · simp only [e1, e2, true_or, if_true]
          have : ¬ b = 1 := e2
          subst e1
          simp [e']
      · by_cases e2 : b = 1
        · subst e2
          simp [e1, e]
        · simp [e1, e2, e, e']
theorem pair_comm (a b : Int) : pairS a b = pairS b a := by unfold pairS; rw [Int.min_comm, Int.max_comm]

/-! ### The fold's invariant. -/
/-- The values are those of the gates. -/
def Sat (V : Int → Bool) (A : List Tri) : Prop := ∀ t ∈ A, V (var t.1) = (bitV V t.2.1 && bitV V t.2.2)
theorem Sat.left {V : Int → Bool} {A B : List Tri} (h : Sat V (A ++ B)) : Sat V A := fun t ht => h t (List.mem_append_left _ ht)

/-- A gate of rising literals. -/
def Fine (t : Tri) : Prop := 2 ≤ t.1 ∧ t.1 % 2 = 0 ∧ 0 ≤ t.2.1 ∧ t.2.1 < t.1 ∧ 0 ≤ t.2.2 ∧ t.2.2 < t.1
structure Ord (A : List Tri) : Prop where
  rise : A.Pairwise fun a b => a.1 < b.1
  fine : ∀ t ∈ A, Fine t

structure Inv (B : Int → Prop) (A : List Tri) (st : St) : Prop where
  dom : ∀ u s, getI st.S u = some s → (∃ t ∈ A, var t.1 = u) ∧ 0 ≤ s ∧ var s < u ∧ getI st.S (var s) = none ∧ (B (var s) ∨ ∃ k ∈ st.K, var k.1 = var s)
  kept : ∀ k ∈ st.K, Fine k ∧ getI st.S (var k.1) = none ∧ (getI st.S (var k.2.1) = none ∧ (B (var k.2.1) ∨ ∃ k' ∈ st.K, var k'.1 = var k.2.1)) ∧ (getI st.S (var k.2.2) = none ∧ (B (var k.2.2) ∨ ∃ k' ∈ st.K, var k'.1 = var k.2.2)) ∧
    plainL k.2.1 k.2.2 = none ∧ getI st.M (pairS k.2.1 k.2.2) = some k.1
  met : ∀ p l, getI st.M p = some l → ∃ k ∈ st.K, k.1 = l ∧ p = pairS k.2.1 k.2.2
  sub : (st.K.map (·.1)).Sublist (A.map (·.1))
  all : ∀ t ∈ A, (∃ s, getI st.S (var t.1) = some s) ∨ ∃ k ∈ st.K, k.1 = t.1
  at' : ∀ t ∈ A, (∀ r, plainL (litS st.S t.2.1) (litS st.S t.2.2) = some r → litS st.S t.1 = r) ∧
    (plainL (litS st.S t.2.1) (litS st.S t.2.2) = none → getI st.M (pairS (litS st.S t.2.1) (litS st.S t.2.2)) = some (litS st.S t.1))
  sem : ∀ V : Int → Bool, V 0 = false → Sat V A → (∀ u s, getI st.S u = some s → bitV V s = V u) ∧ Sat V st.K

theorem inv_nil (B : Int → Prop) : Inv B [] ⟨[], [], []⟩ :=
  ⟨fun u s h => (by cases h), fun k h => (by cases h), fun p l h => (by cases h), List.Sublist.refl _, fun t h => (by cases h), fun t h => (by cases h), fun V _ _ => ⟨fun u s h => (by cases h), fun k h => (by cases h)⟩⟩

theorem fine_neg {t : Tri} (h : Fine t) : neg t.1 = false := by
  unfold neg
  rw [if_neg (by have := h.1; omega)]
  have := h.2.1
  simp; omega

/-- What stands for a literal: it stands for itself. -/
theorem lit_facts {B : Int → Prop} {A : List Tri} {st : St} (h : Inv B A st) {l : Int} (hl : 0 ≤ l) (hb : B (var l) ∨ ∃ t ∈ A, var t.1 = var l) (hA : ∀ t ∈ A, Fine t) :
    0 ≤ litS st.S l ∧ var (litS st.S l) ≤ var l ∧ getI st.S (var (litS st.S l)) = none ∧ (B (var (litS st.S l)) ∨ ∃ k ∈ st.K, var k.1 = var (litS st.S l)) := by
  unfold litS
  cases hg : getI st.S (var l) with
  | none =>
    simp only
    refine ⟨hl, Int.le_refl _, hg, ?_⟩
    rcases hb with hb | ⟨t, ht, he⟩
    · exact Or.inl hb
    · rcases h.all t ht with ⟨s, hs⟩ | ⟨k, hk, hk1⟩
      · rw [he, hg] at hs; cases hs
      · exact Or.inr ⟨k, hk, by rw [hk1, he]⟩
  | some s =>
    simp only
    obtain ⟨_, h0, hv, hn, hbk⟩ := h.dom _ _ hg
    split
    · exact ⟨not_nn h0, by rw [var_not h0]; omega, by rw [var_not h0]; exact hn, by rw [var_not h0]; exact hbk⟩
    · exact ⟨h0, by omega, hn, hbk⟩

theorem lit_sem {B : Int → Prop} {A : List Tri} {st : St} (h : Inv B A st) {V : Int → Bool} (h0 : V 0 = false) (hs : Sat V A) (l : Int) : bitV V (litS st.S l) = bitV V l := by
  unfold litS
  cases hg : getI st.S (var l) with
  | none => rfl
  | some s =>
    simp only
    have h1 := (h.sem V h0 hs).1 _ _ hg
    have h2 := (h.dom _ _ hg).2.1
    cases hn : neg l
    · simp only [Bool.false_eq_true, if_false]
      rw [h1]; unfold bitV; rw [hn]; simp
    · simp only [if_true]
      rw [bit_not V h2, h1]; unfold bitV; rw [hn]; simp

theorem var_lt {t : Tri} (h : Fine t) {l : Int} (h0 : 0 ≤ l) (hl : l < t.1) : var l < var t.1 := by
  unfold var; have := h.1; have := h.2.1; omega
theorem lt_of_var {t : Tri} (h : Fine t) {l : Int} (h0 : 0 ≤ l) (hl : var l < var t.1) : l < t.1 := by
  unfold var at hl; have := h.1; have := h.2.1; omega

/-- A literal is as before, where one more variable is said of. -/
theorem lit_more (S : List (Int × Int)) (u s : Int) {l : Int} (h : var l ≠ u) : litS ((u, s) :: S) l = litS S l := by
  unfold litS
  rw [getI_other S s (fun e => h e.symm)]

theorem inv_stands {B : Int → Prop} {A : List Tri} {st : St} (h : Inv B A st) {t : Tri} (ht : Fine t) (hlt : ∀ t' ∈ A, t'.1 < t.1) (hA : ∀ t' ∈ A, Fine t') (hB : ¬ B (var t.1))
    (hl : B (var t.2.1) ∨ ∃ t' ∈ A, var t'.1 = var t.2.1) (hr : B (var t.2.2) ∨ ∃ t' ∈ A, var t'.1 = var t.2.2) (s : Int) (hs0 : 0 ≤ s) (hsv : var s < var t.1) (hsn : getI st.S (var s) = none) (hsb : B (var s) ∨ ∃ k ∈ st.K, var k.1 = var s)
    (hat : (∀ r, plainL (litS st.S t.2.1) (litS st.S t.2.2) = some r → s = r) ∧ (plainL (litS st.S t.2.1) (litS st.S t.2.2) = none → getI st.M (pairS (litS st.S t.2.1) (litS st.S t.2.2)) = some s))
    (hsem : ∀ V : Int → Bool, V 0 = false → Sat V A → bitV V s = (bitV V (litS st.S t.2.1) && bitV V (litS st.S t.2.2))) : Inv B (A ++ [t]) { st with S := (var t.1, s) :: st.S } := by
  have hvA : ∀ t' ∈ A, var t'.1 < var t.1 := fun t' h' => var_lt ht (by have := (hA t' h').1; omega) (hlt t' h')
  have hvl : var t.2.1 < var t.1 := var_lt ht ht.2.2.1 ht.2.2.2.1
  have hvr : var t.2.2 < var t.1 := var_lt ht ht.2.2.2.2.1 ht.2.2.2.2.2
  have hkA : ∀ k ∈ st.K, ∃ t' ∈ A, t'.1 = k.1 := fun k hk => by
    have := h.sub.subset (List.mem_map.2 ⟨k, hk, rfl⟩)
    obtain ⟨t', h1, h2⟩ := List.mem_map.1 this
    exact ⟨t', h1, h2⟩
  have hkv : ∀ k ∈ st.K, var k.1 < var t.1 := fun k hk => by
    obtain ⟨t', h1, h2⟩ := hkA k hk
    rw [← h2]; exact hvA t' h1
  have keep : ∀ u, u < var t.1 → getI ((var t.1, s) :: st.S) u = getI st.S u := fun u hu => getI_other _ _ (by omega)
  refine ⟨?_, ?_, h.met, ?_, ?_, ?_, ?_⟩
  · intro u s' hg
    by_cases hu : var t.1 = u
    · subst hu
      simp only at hg
      rw [getI_same] at hg
      simp only [Option.some.injEq] at hg
      subst hg
      exact ⟨⟨t, by simp, rfl⟩, hs0, hsv, by simp only; rw [keep _ hsv]; exact hsn, hsb⟩
    · simp only at hg
      rw [getI_other _ _ hu] at hg
      obtain ⟨⟨t', h1, h2⟩, h3, h4, h5, h6⟩ := h.dom u s' hg
      have := hvA t' h1
      exact ⟨⟨t', List.mem_append_left _ h1, h2⟩, h3, h4, by simp only; rw [keep _ (by omega)]; exact h5, h6⟩
  · intro k hk
    obtain ⟨h1, h2, ⟨h3, h4⟩, ⟨h5, h6⟩, h7, h8⟩ := h.kept k hk
    have hv := hkv k hk
    have hv1 := var_lt h1 h1.2.2.1 h1.2.2.2.1
    have hv2 := var_lt h1 h1.2.2.2.2.1 h1.2.2.2.2.2
    exact ⟨h1, by simp only; rw [keep _ hv]; exact h2, ⟨by simp only; rw [keep _ (by omega)]; exact h3, h4⟩, ⟨by simp only; rw [keep _ (by omega)]; exact h5, h6⟩, h7, h8⟩
  · rw [List.map_append]
    exact h.sub.trans (List.sublist_append_left _ _)
  · intro t' ht'
    rcases List.mem_append.1 ht' with h1 | h1
    · rcases h.all t' h1 with ⟨s', hs'⟩ | hk
      · exact Or.inl ⟨s', by simp only; rw [keep _ (hvA t' h1)]; exact hs'⟩
      · exact Or.inr hk
    · rw [List.mem_singleton] at h1
      subst h1
      exact Or.inl ⟨s, getI_same _ _ _⟩
  · intro t' ht'
    simp only
    rcases List.mem_append.1 ht' with h1 | h1
    · have hf := hA t' h1
      have hv := hvA t' h1
      have hv1 := var_lt hf hf.2.2.1 hf.2.2.2.1
      have hv2 := var_lt hf hf.2.2.2.2.1 hf.2.2.2.2.2
      rw [lit_more st.S _ _ (by omega), lit_more st.S _ _ (by omega), lit_more st.S _ _ (by omega)]
      exact h.at' t' h1
    · rw [List.mem_singleton] at h1
      subst h1
      rw [lit_more st.S _ _ (by omega), lit_more st.S _ _ (by omega)]
      have e : litS ((var t'.1, s) :: st.S) t'.1 = s := by
        unfold litS
        rw [getI_same]
        simp only [fine_neg ht, Bool.false_eq_true, if_false]
      rw [e]
      exact hat
  · intro V h0 hsat
    have hsA := hsat.left
    obtain ⟨g1, g2⟩ := h.sem V h0 hsA
    refine ⟨?_, g2⟩
    intro u s' hg
    by_cases hu : var t.1 = u
    · subst hu
      simp only at hg
      rw [getI_same] at hg
      simp only [Option.some.injEq] at hg
      subst hg
      rw [hsem V h0 hsA, lit_sem h h0 hsA, lit_sem h h0 hsA]
      exact (hsat t (by simp)).symm
    · simp only at hg
      rw [getI_other _ _ hu] at hg
      exact g1 u s' hg

theorem inv_kept {B : Int → Prop} {A : List Tri} {st : St} (h : Inv B A st) {t : Tri} (ht : Fine t) (hlt : ∀ t' ∈ A, t'.1 < t.1) (hA : ∀ t' ∈ A, Fine t') (hB : ¬ B (var t.1))
    (hl : B (var t.2.1) ∨ ∃ t' ∈ A, var t'.1 = var t.2.1) (hr : B (var t.2.2) ∨ ∃ t' ∈ A, var t'.1 = var t.2.2)
    (hp : plainL (litS st.S t.2.1) (litS st.S t.2.2) = none) (hm : getI st.M (pairS (litS st.S t.2.1) (litS st.S t.2.2)) = none) :
    Inv B (A ++ [t]) { st with M := (pairS (litS st.S t.2.1) (litS st.S t.2.2), t.1) :: st.M, K := st.K ++ [(t.1, litS st.S t.2.1, litS st.S t.2.2)] } := by
  have hvA : ∀ t' ∈ A, var t'.1 < var t.1 := fun t' h' => var_lt ht (by have := (hA t' h').1; omega) (hlt t' h')
  have hvl : var t.2.1 < var t.1 := var_lt ht ht.2.2.1 ht.2.2.2.1
  have hvr : var t.2.2 < var t.1 := var_lt ht ht.2.2.2.2.1 ht.2.2.2.2.2
  obtain ⟨a0, a1, a2, a3⟩ := lit_facts h ht.2.2.1 hl hA
  obtain ⟨b0, b1, b2, b3⟩ := lit_facts h ht.2.2.2.2.1 hr hA
  have hself : getI st.S (var t.1) = none := by
    cases hg : getI st.S (var t.1) with
    | none => rfl
    | some s =>
      obtain ⟨⟨t', h1, h2⟩, _⟩ := h.dom _ _ hg
      have := hvA t' h1
      omega
  have hkA : ∀ k ∈ st.K, ∃ t' ∈ A, t'.1 = k.1 := fun k hk => by
    have := h.sub.subset (List.mem_map.2 ⟨k, hk, rfl⟩)
    obtain ⟨t', h1, h2⟩ := List.mem_map.1 this
    exact ⟨t', h1, h2⟩
  have hmore : ∀ v, (B v ∨ ∃ k ∈ st.K, var k.1 = v) → (B v ∨ ∃ k ∈ st.K ++ [(t.1, litS st.S t.2.1, litS st.S t.2.2)], var k.1 = v) := by
    rintro v (hb | ⟨k, hk, he⟩)
    · exact Or.inl hb
    · exact Or.inr ⟨k, List.mem_append_left _ hk, he⟩
  have hkeep : ∀ p l, getI st.M p = some l → getI ((pairS (litS st.S t.2.1) (litS st.S t.2.2), t.1) :: st.M) p = some l := by
    intro p l hg
    rw [getI_other _ _ (by rintro rfl; rw [hm] at hg; cases hg)]
    exact hg
  refine ⟨?_, ?_, ?_, ?_, ?_, ?_, ?_⟩
  · intro u s' hg
    obtain ⟨⟨t', h1, h2⟩, h3, h4, h5, h6⟩ := h.dom u s' hg
    exact ⟨⟨t', List.mem_append_left _ h1, h2⟩, h3, h4, h5, hmore _ h6⟩
  · intro k hk
    rcases List.mem_append.1 hk with h1 | h1
    · obtain ⟨g1, g2, ⟨g3, g4⟩, ⟨g5, g6⟩, g7, g8⟩ := h.kept k h1
      exact ⟨g1, g2, ⟨g3, hmore _ g4⟩, ⟨g5, hmore _ g6⟩, g7, hkeep _ _ g8⟩
    · rw [List.mem_singleton] at h1
      subst h1
      have q1 : litS st.S t.2.1 < t.1 := lt_of_var ht a0 (by omega)
      have q2 : litS st.S t.2.2 < t.1 := lt_of_var ht b0 (by omega)
      exact ⟨⟨ht.1, ht.2.1, a0, q1, b0, q2⟩, hself, ⟨a2, hmore _ a3⟩, ⟨b2, hmore _ b3⟩, hp, getI_same _ _ _⟩
  · intro p l hg
    simp only at hg
    by_cases he : pairS (litS st.S t.2.1) (litS st.S t.2.2) = p
    · subst he
      rw [getI_same] at hg
      simp only [Option.some.injEq] at hg
      exact ⟨(t.1, litS st.S t.2.1, litS st.S t.2.2), by simp, hg, rfl⟩
    · rw [getI_other _ _ he] at hg
      obtain ⟨k, hk, g1, g2⟩ := h.met p l hg
      exact ⟨k, List.mem_append_left _ hk, g1, g2⟩
  · rw [List.map_append, List.map_append]
    exact h.sub.append (List.Sublist.refl _)
  · intro t' ht'
    rcases List.mem_append.1 ht' with h1 | h1
    · rcases h.all t' h1 with hs | ⟨k, hk, he⟩
      · exact Or.inl hs
      · exact Or.inr ⟨k, List.mem_append_left _ hk, he⟩
    · rw [List.mem_singleton] at h1
      subst h1
      exact Or.inr ⟨_, List.mem_append_right _ (List.mem_singleton.2 rfl), rfl⟩
  · intro t' ht'
    simp only
    rcases List.mem_append.1 ht' with h1 | h1
    · exact ⟨(h.at' t' h1).1, fun hn => hkeep _ _ ((h.at' t' h1).2 hn)⟩
    · rw [List.mem_singleton] at h1
      subst h1
      refine ⟨fun r hr' => (by rw [hp] at hr'; cases hr'), fun _ => ?_⟩
      rw [getI_same]
      unfold litS
      rw [hself]
  · intro V h0 hsat
    have hsA := hsat.left
    obtain ⟨g1, g2⟩ := h.sem V h0 hsA
    refine ⟨g1, fun k hk => ?_⟩
    rcases List.mem_append.1 hk with h1 | h1
    · exact g2 k h1
    · rw [List.mem_singleton] at h1
      subst h1
      show V (var t.1) = (bitV V (litS st.S t.2.1) && bitV V (litS st.S t.2.2))
      rw [lit_sem h h0 hsA, lit_sem h h0 hsA]
      exact hsat t (by simp)

theorem inv_gate {B : Int → Prop} {A : List Tri} {st : St} (hB0 : B 0) (h : Inv B A st) {t : Tri} (ht : Fine t) (hlt : ∀ t' ∈ A, t'.1 < t.1) (hA : ∀ t' ∈ A, Fine t') (hB : ¬ B (var t.1))
    (hl : B (var t.2.1) ∨ ∃ t' ∈ A, var t'.1 = var t.2.1) (hr : B (var t.2.2) ∨ ∃ t' ∈ A, var t'.1 = var t.2.2) : Inv B (A ++ [t]) (gateS st t) := by
  have hvl : var t.2.1 < var t.1 := var_lt ht ht.2.2.1 ht.2.2.2.1
  have hvr : var t.2.2 < var t.1 := var_lt ht ht.2.2.2.2.1 ht.2.2.2.2.2
  obtain ⟨a0, a1, a2, a3⟩ := lit_facts h ht.2.2.1 hl hA
  obtain ⟨b0, b1, b2, b3⟩ := lit_facts h ht.2.2.2.2.1 hr hA
  unfold gateS
  cases hp : plainL (litS st.S t.2.1) (litS st.S t.2.2) with
  | some r =>
    simp only
    have hz : getI st.S (0 : Int) = none := by
      cases hg : getI st.S (0 : Int) with
      | none => rfl
      | some s =>
        obtain ⟨⟨t', h1, h2⟩, _⟩ := h.dom _ _ hg
        have := (hA t' h1).1
        unfold var at h2
        omega
    have hv0 : var (0 : Int) = 0 := by decide
    have hpos : 0 < var t.1 := by have := ht.1; unfold var; omega
    have hres : 0 ≤ r ∧ var r < var t.1 ∧ getI st.S (var r) = none ∧ (B (var r) ∨ ∃ k ∈ st.K, var k.1 = var r) := by
      rcases plain_res a0 b0 hp with rfl | rfl | rfl
      · rw [hv0]; exact ⟨Int.le_refl _, hpos, hz, Or.inl hB0⟩
      · exact ⟨a0, by omega, a2, a3⟩
      · exact ⟨b0, by omega, b2, b3⟩
    exact inv_stands h ht hlt hA hB hl hr r hres.1 hres.2.1 hres.2.2.1 hres.2.2.2 ⟨fun r' hr' => by rw [hp] at hr'; simpa using hr', fun hn => (by rw [hp] at hn; cases hn)⟩
      (fun V h0 _ => plain_sem h0 a0 b0 hp)
  | none =>
    simp only
    cases hm : getI st.M (pairS (litS st.S t.2.1) (litS st.S t.2.2)) with
    | some l =>
      simp only
      obtain ⟨k, hk, rfl, hpk⟩ := h.met _ _ hm
      obtain ⟨g1, g2, ⟨g3, g4⟩, ⟨g5, g6⟩, g7, g8⟩ := h.kept k hk
      have hkA : ∃ t' ∈ A, t'.1 = k.1 := by
        have := h.sub.subset (List.mem_map.2 ⟨k, hk, rfl⟩)
        obtain ⟨t', h1, h2⟩ := List.mem_map.1 this
        exact ⟨t', h1, h2⟩
      obtain ⟨t', h1, h2⟩ := hkA
      refine inv_stands h ht hlt hA hB hl hr k.1 (by have := g1.1; omega) (by rw [← h2]; exact var_lt ht (by have := (hA t' h1).1; omega) (hlt t' h1)) g2 (Or.inr ⟨k, hk, rfl⟩)
        ⟨fun r' hr' => (by rw [hp] at hr'; cases hr'), fun _ => hm⟩ ?_
      intro V h0 hsA
      have hsk := (h.sem V h0 hsA).2 k hk
      have e1 : bitV V k.1 = V (var k.1) := by unfold bitV; rw [fine_neg g1]; simp
      rw [e1, hsk]
      unfold pairS at hpk
      simp only [Prod.mk.injEq] at hpk
      have hor : (litS st.S t.2.1 = k.2.1 ∧ litS st.S t.2.2 = k.2.2) ∨ (litS st.S t.2.1 = k.2.2 ∧ litS st.S t.2.2 = k.2.1) := by omega
      rcases hor with ⟨e1, e2⟩ | ⟨e1, e2⟩
      · rw [e1, e2]
      · rw [e1, e2, Bool.and_comm]
    | none => exact inv_kept h ht hlt hA hB hl hr hp hm

/-- All operands are something: a base's variable or a gate's ahead. -/
def Known (B : Int → Prop) (A : List Tri) : Prop := ∀ t ∈ A, (B (var t.2.1) ∨ ∃ t' ∈ A, var t'.1 = var t.2.1) ∧ (B (var t.2.2) ∨ ∃ t' ∈ A, var t'.1 = var t.2.2)

theorem inv_fold {B : Int → Prop} (hB0 : B 0) : ∀ (n : Nat) (A : List Tri), A.length = n → Ord A → (∀ t ∈ A, ¬ B (var t.1)) → Known B A → Inv B A (foldG A)
  | 0, A, hn, _, _, _ => by
    have : A = [] := List.eq_nil_of_length_eq_zero hn
    subst this
    exact inv_nil B
  | n + 1, A, hn, ho, hb, hk => by
    obtain ⟨A', t, rfl⟩ : ∃ A' t, A = A' ++ [t] := by
      rcases List.eq_nil_or_concat A with rfl | ⟨A', t, h⟩
      · simp at hn
      · exact ⟨A', t, by rw [h, List.concat_eq_append]⟩
    have hrise := List.pairwise_append.1 ho.rise
    have hlt : ∀ t' ∈ A', t'.1 < t.1 := fun t' ht' => hrise.2.2 t' ht' t (by simp)
    have hft := ho.fine t (by simp)
    have hA : ∀ t' ∈ A', Fine t' := fun t' ht' => ho.fine t' (List.mem_append_left _ ht')
    have hback : ∀ {l : Int}, 0 ≤ l → (u : Tri) → u ∈ A' ++ [t] → Fine u → l < u.1 → (B (var l) ∨ ∃ t' ∈ A' ++ [t], var t'.1 = var l) → (B (var l) ∨ ∃ t' ∈ A', var t'.1 = var l) := by
      intro l h0 u hu hfu hlu h
      rcases h with h | ⟨t', ht', he⟩
      · exact Or.inl h
      · rcases List.mem_append.1 ht' with h1 | h1
        · exact Or.inr ⟨t', h1, he⟩
        · rw [List.mem_singleton] at h1
          subst h1
          have h2 := var_lt hfu h0 hlu
          have h3 : var u.1 ≤ var t'.1 := by
            rcases List.mem_append.1 hu with h4 | h4
            · have := var_lt hft (by have := (hA u h4).1; omega) (hlt u h4); omega
            · rw [List.mem_singleton] at h4; rw [h4]; exact Int.le_refl _
          omega
    have hk' : Known B A' := fun t' ht' => by
      have hf := hA t' ht'
      obtain ⟨h1, h2⟩ := hk t' (List.mem_append_left _ ht')
      exact ⟨hback hf.2.2.1 t' (List.mem_append_left _ ht') hf hf.2.2.2.1 h1, hback hf.2.2.2.2.1 t' (List.mem_append_left _ ht') hf hf.2.2.2.2.2 h2⟩
    have ih := inv_fold hB0 n A' (by simp at hn; omega) ⟨hrise.1, hA⟩ (fun t' ht' => hb t' (List.mem_append_left _ ht')) hk'
    obtain ⟨h1, h2⟩ := hk t (by simp)
    rw [foldG_snoc]
    exact inv_gate hB0 ih hft hlt hA (hb t (by simp)) (hback hft.2.2.1 t (by simp) hft hft.2.2.2.1 h1) (hback hft.2.2.2.2.1 t (by simp) hft hft.2.2.2.2.2 h2)
end StrashP
end Go.Proofs.YtninglnchengeaaGreatDoor

/-
  Plain: a circuit that may be, hashed, may be; its gates are not plain and differ; hashed again it stays; it tells what it told.
-/
namespace Go.Proofs.YtninglnchengeaaGreatDoor
open Go.RowKit Base
set_option linter.unusedVariables false
set_option linter.unusedSimpArgs false
namespace StrashP
open Circuit GetI

theorem ownOk_iff {most : Int} {own : List Int} : OwnOk most own ↔ (∀ m ∈ own, 2 ≤ m ∧ neg m = false ∧ var m ≤ most) ∧ (own.map var).Nodup := by
  constructor
  · intro h
    refine ⟨fun m hm => ?_, ?_⟩
    · obtain ⟨j, hj, rfl⟩ := List.mem_iff_getElem.1 hm
      obtain ⟨h1, h2, h3, _⟩ := h j hj
      exact ⟨h1, h2, h3⟩
    · rw [List.Nodup, List.pairwise_iff_getElem]
      intro i j hi hj hij e
      rw [List.length_map] at hi hj
      simp only [List.getElem_map] at e
      refine (h j hj).2.2.2 (List.mem_map.2 ⟨own[i], ?_, e⟩)
      rw [List.mem_take_iff_getElem]
      exact ⟨i, by omega, rfl⟩
  · rintro ⟨h1, h2⟩ j hj
    obtain ⟨g1, g2, g3⟩ := h1 own[j] (List.getElem_mem hj)
    refine ⟨g1, g2, g3, fun hm => ?_⟩
    obtain ⟨a, ha, he⟩ := List.mem_map.1 hm
    rw [List.mem_take_iff_getElem] at ha
    obtain ⟨i, hi, rfl⟩ := ha
    rw [List.Nodup, List.pairwise_iff_getElem] at h2
    exact h2 i j (by simp; omega) (by simp; omega) (by omega) (by simp only [List.getElem_map]; exact he)

theorem pairwise_adj {l : List Tri} (h : ∀ j (hj : j + 1 < l.length), (l[j]'(by omega)).1 < l[j + 1].1) : l.Pairwise fun a b => a.1 < b.1 := by
  rw [List.pairwise_iff_getElem]
  intro i j hi hj hij
  obtain ⟨d, rfl⟩ : ∃ d, j = i + 1 + d := ⟨j - i - 1, by omega⟩
  induction d with
  | zero => exact h i hj
  | succ d ih =>
    have h1 := ih (by omega) (by omega)
    have h2 := h (i + 1 + d) (by omega)
    have e : i + 1 + d + 1 = i + 1 + (d + 1) := by omega
    simp only [e] at h2
    omega

/-- A base's variable: 0, an input's, a latch's. -/
def baseV (x : Circ) (v : Int) : Prop := v = 0 ∨ v ∈ x.ins.map var ∨ v ∈ (x.lats.map (·.1)).map var

theorem neg_even {m : Int} (h : 2 ≤ m) (hn : neg m = false) : m % 2 = 0 := by
  unfold neg at hn
  rw [if_neg (by omega)] at hn
  simp at hn; omega

theorem ord_of {x : Circ} (h : CheckOk x) : Ord x.ands := by
  obtain ⟨hf, ⟨hd, hr, hs⟩, hl, ha, _⟩ := h
  refine ⟨pairwise_adj hs, fun t ht => ?_⟩
  obtain ⟨g1, g2, g3⟩ := (ownOk_iff.1 hd).1 t.1 (by unfold ownL; exact List.mem_append_right _ (List.mem_map.2 ⟨t, ht, rfl⟩))
  obtain ⟨k1, k2, k3, k4⟩ := ha t ht
  exact ⟨g1, neg_even g1 g2, k1.1, k3, k2.1, k4⟩

theorem known_base {x : Circ} {l : Int} (h : knownV (vsOf x) l) : 0 ≤ l ∧ (baseV x (var l) ∨ ∃ t ∈ x.ands, var t.1 = var l) := by
  obtain ⟨h0, h | h⟩ := h
  · exact ⟨h0, Or.inl (Or.inl (by unfold var; omega))⟩
  · refine ⟨h0, ?_⟩
    unfold vsOf ownL at h
    rw [List.map_append, List.map_append, List.mem_append, List.mem_append] at h
    rcases h with (h | h) | h
    · exact Or.inl (Or.inr (Or.inl h))
    · exact Or.inl (Or.inr (Or.inr h))
    · right
      obtain ⟨m, hm, he⟩ := List.mem_map.1 h
      obtain ⟨t, ht, rfl⟩ := List.mem_map.1 hm
      exact ⟨t, ht, he⟩

theorem base_not {x : Circ} (h : CheckOk x) : ∀ t ∈ x.ands, ¬ baseV x (var t.1) := by
  intro t ht hb
  have hfine := (ord_of h).fine t ht
  have hn := (ownOk_iff.1 h.2.1.1).2
  unfold ownL at hn
  rw [List.map_append, List.nodup_append] at hn
  have hmem : var t.1 ∈ (x.ands.map (·.1)).map var := List.mem_map.2 ⟨t.1, List.mem_map.2 ⟨t, ht, rfl⟩, rfl⟩
  rcases hb with hb | hb | hb
  · have := hfine.1; unfold var at hb; omega
  · exact hn.2.2 _ (by rw [List.map_append]; exact List.mem_append_left _ hb) _ hmem rfl
  · exact hn.2.2 _ (by rw [List.map_append]; exact List.mem_append_right _ hb) _ hmem rfl

theorem inv_of {x : Circ} (h : CheckOk x) : Inv (baseV x) x.ands (foldG x.ands) := by
  refine inv_fold (Or.inl rfl) _ _ rfl (ord_of h) (base_not h) fun t ht => ?_
  obtain ⟨k1, k2, _, _⟩ := h.2.2.2.1 t ht
  exact ⟨(known_base k1).2, (known_base k2).2⟩

def stOf (x : Circ) : St := foldG x.ands
/-- A circuit, all its gates replaced. -/
def mid (x : Circ) : Circ := { x with lats := x.lats.map fun t => (t.1, litS (stOf x).S t.2.1, t.2.2), outs := x.outs.map (litS (stOf x).S), bads := x.bads.map (litS (stOf x).S), invs := x.invs.map (litS (stOf x).S), ands := (stOf x).K }
def told (x : Circ) : List Int := x.lats.map (·.2.1) ++ x.outs ++ x.bads ++ x.invs
noncomputable def wants (x : Circ) (t : Tri) : Bool := tt (Rch (mid x).ands (told (mid x)) (var t.1))
/-- A circuit, hashed. -/
noncomputable def hashed (x : Circ) : Circ := { mid x with ands := (stOf x).K.filter (wants x) }

theorem told_lit {x : Circ} {l : Int} (hl : l ∈ told (mid x)) : ∃ m ∈ told x, l = litS (stOf x).S m := by
  unfold told at hl ⊢
  simp only [List.mem_append] at hl ⊢
  rcases hl with ((hl | hl) | hl) | hl
  · obtain ⟨t, ht, rfl⟩ := List.mem_map.1 hl
    obtain ⟨t', ht', rfl⟩ := List.mem_map.1 ht
    exact ⟨t'.2.1, Or.inl (Or.inl (Or.inl (List.mem_map.2 ⟨t', ht', rfl⟩))), rfl⟩
  · obtain ⟨m, hm, rfl⟩ := List.mem_map.1 hl
    exact ⟨m, Or.inl (Or.inl (Or.inr hm)), rfl⟩
  · obtain ⟨m, hm, rfl⟩ := List.mem_map.1 hl
    exact ⟨m, Or.inl (Or.inr hm), rfl⟩
  · obtain ⟨m, hm, rfl⟩ := List.mem_map.1 hl
    exact ⟨m, Or.inr hm, rfl⟩
theorem lit_told {x : Circ} {m : Int} (hm : m ∈ told x) : litS (stOf x).S m ∈ told (mid x) := by
  unfold told at hm ⊢
  simp only [List.mem_append] at hm ⊢
  rcases hm with ((hm | hm) | hm) | hm
  · obtain ⟨t, ht, rfl⟩ := List.mem_map.1 hm
    exact Or.inl (Or.inl (Or.inl (List.mem_map.2 ⟨_, List.mem_map.2 ⟨t, ht, rfl⟩, rfl⟩)))
  · exact Or.inl (Or.inl (Or.inr (List.mem_map.2 ⟨m, hm, rfl⟩)))
  · exact Or.inl (Or.inr (List.mem_map.2 ⟨m, hm, rfl⟩))
  · exact Or.inr (List.mem_map.2 ⟨m, hm, rfl⟩)
theorem told_known {x : Circ} (h : CheckOk x) {m : Int} (hm : m ∈ told x) : knownV (vsOf x) m := by
  obtain ⟨_, _, hl, _, ho, hb, hv, _⟩ := h
  unfold told at hm
  simp only [List.mem_append] at hm
  rcases hm with ((hm | hm) | hm) | hm
  · obtain ⟨t, ht, rfl⟩ := List.mem_map.1 hm
    exact hl t ht
  · exact ho m hm
  · exact hb m hm
  · exact hv m hm
theorem told_facts {x : Circ} (h : CheckOk x) {l : Int} (hl : l ∈ told (mid x)) :
    0 ≤ l ∧ getI (stOf x).S (var l) = none ∧ (baseV x (var l) ∨ ∃ k ∈ (stOf x).K, var k.1 = var l) := by
  obtain ⟨m, hm, rfl⟩ := told_lit hl
  obtain ⟨h0, hb⟩ := known_base (told_known h hm)
  have := lit_facts (inv_of h) h0 hb (ord_of h).fine
  exact ⟨this.1, this.2.2⟩

theorem gate_of {A : List Tri} {v : Int} {g : Tri} (h : gate A v = some g) : g ∈ A ∧ 0 ≤ g.1 ∧ var g.1 = v := by
  refine ⟨gate_mem h, ?_⟩
  have := List.find?_some h
  simp only [Bool.and_eq_true, decide_eq_true_eq] at this
  exact this
theorem kOrd {x : Circ} (h : CheckOk x) : Ord (stOf x).K := by
  have hi := inv_of h
  refine ⟨?_, fun k hk => (hi.kept k hk).1⟩
  have h1 : (x.ands.map (·.1)).Pairwise (· < ·) := by rw [List.pairwise_map]; exact (ord_of h).rise
  have h2 := List.Pairwise.sublist hi.sub h1
  rw [List.pairwise_map] at h2
  exact h2
theorem ord_same {A : List Tri} (h : Ord A) {a b : Tri} (ha : a ∈ A) (hb : b ∈ A) (e : var a.1 = var b.1) : a = b := by
  obtain ⟨i, hi, rfl⟩ := List.mem_iff_getElem.1 ha
  obtain ⟨j, hj, rfl⟩ := List.mem_iff_getElem.1 hb
  have hr := List.pairwise_iff_getElem.1 h.rise
  have f1 := h.fine _ ha
  have f2 := h.fine _ hb
  have e' : A[i].1 = A[j].1 := by
    have := f1.1; have := f1.2.1; have := f2.1; have := f2.2.1
    unfold var at e; omega
  rcases Nat.lt_trichotomy i j with hij | hij | hij
  · have := hr i j hi hj hij; omega
  · subst hij; rfl
  · have := hr j i hj hi hij; omega
theorem gate_ord {A : List Tri} (h : Ord A) {g : Tri} (hg : g ∈ A) : gate A (var g.1) = some g := by
  cases hq : gate A (var g.1) with
  | none =>
    unfold gate at hq
    rw [List.find?_eq_none] at hq
    have := hq g hg
    have := (h.fine g hg).1
    simp at *
    omega
  | some g' =>
    obtain ⟨h1, _, h3⟩ := gate_of hq
    rw [ord_same h h1 hg h3]
theorem Ord.filter {A : List Tri} (h : Ord A) (p : Tri → Bool) : Ord (A.filter p) := ⟨h.rise.filter p, fun t ht => h.fine t (List.mem_filter.1 ht).1⟩

theorem rch_known {x : Circ} (h : CheckOk x) {v : Int} (hv : Rch (stOf x).K (told (mid x)) v) : getI (stOf x).S v = none ∧ (baseV x v ∨ ∃ k ∈ (stOf x).K, var k.1 = v) := by
  have hi := inv_of h
  cases hv with
  | lit ht => exact (told_facts h ht).2
  | left hr h0 hg =>
    obtain ⟨h1, _, _⟩ := gate_of hg
    exact (hi.kept _ h1).2.2.1
  | right hr h0 hg =>
    obtain ⟨h1, _, _⟩ := gate_of hg
    exact (hi.kept _ h1).2.2.2.1

theorem fands {x : Circ} {t : Tri} : t ∈ (hashed x).ands ↔ t ∈ (stOf x).K ∧ Rch (stOf x).K (told (mid x)) (var t.1) := by
  show t ∈ (stOf x).K.filter (wants x) ↔ _
  rw [List.mem_filter]
  unfold wants
  rw [tt_iff]
  exact Iff.rfl
theorem fOrd {x : Circ} (h : CheckOk x) : Ord (hashed x).ands := (kOrd h).filter _

/-- What hangs on it hangs on it without the rest. -/
theorem rch_less {x : Circ} (h : CheckOk x) {v : Int} (hv : Rch (stOf x).K (told (mid x)) v) : Rch (hashed x).ands (told (mid x)) v := by
  have key : ∀ {v : Int} {g : Tri}, Rch (stOf x).K (told (mid x)) v → gate (stOf x).K v = some g → gate (hashed x).ands v = some g := by
    intro v g hr hg
    obtain ⟨h1, _, h3⟩ := gate_of hg
    rw [← h3]
    exact gate_ord (fOrd h) (fands.2 ⟨h1, by rw [h3]; exact hr⟩)
  induction hv with
  | lit ht => exact .lit ht
  | left hr h0 hg ih => exact .left ih h0 (key hr hg)
  | right hr h0 hg ih => exact .right ih h0 (key hr hg)

theorem known_h {x : Circ} (h : CheckOk x) {l : Int} (h0 : 0 ≤ l) (hr : Rch (stOf x).K (told (mid x)) (var l)) : knownV (vsOf (hashed x)) l := by
  refine ⟨h0, ?_⟩
  rcases (rch_known h hr).2 with hb | ⟨k, hk, he⟩
  · rcases hb with hb | hb | hb
    · left; unfold var at hb; omega
    · right
      unfold vsOf ownL
      rw [List.map_append, List.map_append, List.mem_append, List.mem_append]
      exact Or.inl (Or.inl hb)
    · right
      unfold vsOf ownL
      rw [List.map_append, List.map_append, List.mem_append, List.mem_append]
      refine Or.inl (Or.inr ?_)
      have e : (hashed x).lats.map (·.1) = x.lats.map (·.1) := by
        show (x.lats.map fun t => (t.1, litS (stOf x).S t.2.1, t.2.2)).map (·.1) = _
        rw [List.map_map]; rfl
      rw [e]; exact hb
  · right
    unfold vsOf ownL
    rw [List.map_append, List.map_append, List.mem_append, List.mem_append]
    right
    refine List.mem_map.2 ⟨k.1, List.mem_map.2 ⟨k, fands.2 ⟨hk, by rw [he]; exact hr⟩, rfl⟩, he⟩

theorem countOf_mono {x y : Circ} (h1 : x.ins.length ≤ y.ins.length) (h2 : x.lats.length ≤ y.lats.length) (h3 : x.outs.length ≤ y.outs.length) (h4 : x.bads.length ≤ y.bads.length) (h5 : x.invs.length ≤ y.invs.length) (k : ByteArray) : countOf x k ≤ countOf y k := by
  unfold countOf
  split
  · exact h1
  · split
    · exact h2
    · split
      · exact h3
      · split
        · exact h4
        · exact h5
theorem names_mono {x y : Circ} (hn : x.names = y.names) (h : ∀ k, countOf x k ≤ countOf y k) (hx : NamesTo x x.names.length) : NamesTo y y.names.length := by
  obtain ⟨m, ins, lats, outs, bads, invs, ands, names⟩ := x
  obtain ⟨m', ins', lats', outs', bads', invs', ands', names'⟩ := y
  simp only at hn
  subst hn
  intro j hj hjk
  obtain ⟨⟨c, g1, g2, g3, g4, g5⟩, g6⟩ := hx j hj hjk
  exact ⟨⟨c, g1, g2, g3, Int.lt_of_lt_of_le g4 (Int.ofNat_le.2 (h (names[j]).1)), g5⟩, g6⟩

theorem hashed_ok {x : Circ} (h : CheckOk x) : CheckOk (hashed x) := by
  have hi := inv_of h
  have hlm : (hashed x).lats.map (·.1) = x.lats.map (·.1) := by
    show (x.lats.map fun t => (t.1, litS (stOf x).S t.2.1, t.2.2)).map (·.1) = _
    rw [List.map_map]; rfl
  have hl1 : (hashed x).lats.length = x.lats.length := by show (x.lats.map _).length = _; rw [List.length_map]
  have hl2 : (hashed x).outs.length = x.outs.length := by show (x.outs.map _).length = _; rw [List.length_map]
  have hl3 : (hashed x).bads.length = x.bads.length := by show (x.bads.map _).length = _; rw [List.length_map]
  have hl4 : (hashed x).invs.length = x.invs.length := by show (x.invs.map _).length = _; rw [List.length_map]
  have htold : ∀ m ∈ told x, knownV (vsOf (hashed x)) (litS (stOf x).S m) := fun m hm => by
    have h1 := lit_told hm
    exact known_h h (told_facts h h1).1 (.lit h1)
  obtain ⟨hf, ⟨hd, hr, hs⟩, hl, ha, ho, hb, hv, hn⟩ := h
  have h : CheckOk x := ⟨hf, ⟨hd, hr, hs⟩, hl, ha, ho, hb, hv, hn⟩
  obtain ⟨f0, f1, f2, f3, f4, f5, f6⟩ := hf
  refine ⟨⟨f0, f1, f2, by rw [hl1]; exact f3, by rw [hl2]; exact f4, by rw [hl3]; exact f5, by rw [hl4]; exact f6⟩, ⟨?_, ?_, ?_⟩, ?_, ?_, ?_, ?_, ?_, ?_⟩
  · have hsub : (ownL (hashed x)).Sublist (ownL x) := by
      unfold ownL
      rw [hlm]
      refine List.Sublist.append (List.Sublist.refl _) ?_
      show (((stOf x).K.filter (wants x)).map (·.1)).Sublist _
      exact ((List.filter_sublist).map _).trans hi.sub
    obtain ⟨g1, g2⟩ := ownOk_iff.1 hd
    exact ownOk_iff.2 ⟨fun m hm => g1 m (hsub.subset hm), List.Nodup.sublist (hsub.map var) g2⟩
  · intro t ht
    obtain ⟨t', ht', rfl⟩ := List.mem_map.1 ht
    exact hr t' ht'
  · intro j hj
    exact List.pairwise_iff_getElem.1 (fOrd h).rise j (j + 1) (by omega) hj (by omega)
  · intro t ht
    obtain ⟨t', ht', rfl⟩ := List.mem_map.1 ht
    exact htold t'.2.1 (by unfold told; simp only [List.mem_append]; exact Or.inl (Or.inl (Or.inl (List.mem_map.2 ⟨t', ht', rfl⟩))))
  · intro t ht
    obtain ⟨h1, h2⟩ := fands.1 ht
    obtain ⟨g1, g2, g3, g4, g5, g6⟩ := hi.kept t h1
    have hg := gate_ord (kOrd h) h1
    have h0 : var t.1 ≠ 0 := by have := g1.1; unfold var; omega
    exact ⟨known_h h g1.2.2.1 (.left h2 h0 hg), known_h h g1.2.2.2.2.1 (.right h2 h0 hg), g1.2.2.2.1, g1.2.2.2.2.2⟩
  · intro l hl'
    obtain ⟨m, hm, rfl⟩ := List.mem_map.1 hl'
    exact htold m (by unfold told; simp only [List.mem_append]; exact Or.inl (Or.inl (Or.inr hm)))
  · intro l hl'
    obtain ⟨m, hm, rfl⟩ := List.mem_map.1 hl'
    exact htold m (by unfold told; simp only [List.mem_append]; exact Or.inl (Or.inr hm))
  · intro l hl'
    obtain ⟨m, hm, rfl⟩ := List.mem_map.1 hl'
    exact htold m (by unfold told; simp only [List.mem_append]; exact Or.inr hm)
  · exact names_mono (x := x) (y := hashed x) rfl (fun k => countOf_mono (x := x) (y := hashed x) (Nat.le_refl _) (by rw [hl1]; exact Nat.le_refl _) (by rw [hl2]; exact Nat.le_refl _) (by rw [hl3]; exact Nat.le_refl _) (by rw [hl4]; exact Nat.le_refl _) k) hn

/-! ### Less, and again. -/
theorem f_plain {x : Circ} (h : CheckOk x) : ∀ t ∈ (hashed x).ands, plainL t.2.1 t.2.2 = none := fun t ht => ((inv_of h).kept t (fands.1 ht).1).2.2.2.2.1
theorem k_pairs {x : Circ} (h : CheckOk x) {a b : Tri} (ha : a ∈ (stOf x).K) (hb : b ∈ (stOf x).K) (e : pairS a.2.1 a.2.2 = pairS b.2.1 b.2.2) : a = b := by
  have h1 := ((inv_of h).kept a ha).2.2.2.2.2
  have h2 := ((inv_of h).kept b hb).2.2.2.2.2
  rw [e] at h1
  have e1 : some b.1 = some a.1 := h2.symm.trans h1
  simp only [Option.some.injEq] at e1
  exact ord_same (kOrd h) ha hb (by rw [e1])
theorem f_pairs {x : Circ} (h : CheckOk x) : (hashed x).ands.Pairwise fun a b => pairS a.2.1 a.2.2 ≠ pairS b.2.1 b.2.2 := by
  have hr := (fOrd h).rise
  refine hr.imp_of_mem fun {a b} ha hb hlt e => ?_
  have := k_pairs h (fands.1 ha).1 (fands.1 hb).1 e
  rw [this] at hlt
  omega
theorem f_few {x : Circ} (h : CheckOk x) : (hashed x).ands.length ≤ x.ands.length := by
  have h1 := (inv_of h).sub.length_le
  rw [List.length_map, List.length_map] at h1
  exact Nat.le_trans (List.length_filter_le _ _) h1

theorem fold_plain : ∀ (n : Nat) (A : List Tri), A.length = n → (∀ t ∈ A, plainL t.2.1 t.2.2 = none) → (A.Pairwise fun a b => pairS a.2.1 a.2.2 ≠ pairS b.2.1 b.2.2) →
    (foldG A).S = [] ∧ (foldG A).K = A ∧ ∀ p l, getI (foldG A).M p = some l → ∃ t ∈ A, pairS t.2.1 t.2.2 = p
  | 0, A, hn, _, _ => by
    have : A = [] := List.eq_nil_of_length_eq_zero hn
    subst this
    exact ⟨rfl, rfl, fun p l h => by cases h⟩
  | n + 1, A, hn, hp, hq => by
    obtain ⟨A', t, rfl⟩ : ∃ A' t, A = A' ++ [t] := by
      rcases List.eq_nil_or_concat A with rfl | ⟨A', t, h⟩
      · simp at hn
      · exact ⟨A', t, by rw [h, List.concat_eq_append]⟩
    rw [List.pairwise_append] at hq
    obtain ⟨g1, g2, g3⟩ := fold_plain n A' (by simp at hn; omega) (fun t' ht' => hp t' (List.mem_append_left _ ht')) hq.1
    have hl : ∀ l, litS (foldG A').S l = l := by
      intro l
      rw [g1]
      rfl
    have hm : getI (foldG A').M (pairS t.2.1 t.2.2) = none := by
      cases hg : getI (foldG A').M (pairS t.2.1 t.2.2) with
      | none => rfl
      | some l =>
        obtain ⟨t', ht', he⟩ := g3 _ _ hg
        exact absurd he (hq.2.2 t' ht' t (by simp))
    have hst : foldG (A' ++ [t]) = { foldG A' with M := (pairS t.2.1 t.2.2, t.1) :: (foldG A').M, K := (foldG A').K ++ [t] } := by
      rw [foldG_snoc]
      unfold gateS
      rw [hl, hl, hp t (by simp)]
      simp only
      rw [hm]
    rw [hst]
    refine ⟨g1, by simp only; rw [g2], ?_⟩
    intro p l hg
    simp only at hg
    by_cases e : pairS t.2.1 t.2.2 = p
    · exact ⟨t, by simp, e⟩
    · rw [getI_other _ _ e] at hg
      obtain ⟨t', ht', he⟩ := g3 p l hg
      exact ⟨t', List.mem_append_left _ ht', he⟩

theorem hashed_again {x : Circ} (h : CheckOk x) : hashed (hashed x) = hashed x := by
  obtain ⟨g1, g2, _⟩ := fold_plain _ (hashed x).ands rfl (f_plain h) (f_pairs h)
  have hS : (stOf (hashed x)).S = [] := g1
  have hK : (stOf (hashed x)).K = (hashed x).ands := g2
  have hl : ∀ l, litS (stOf (hashed x)).S l = l := by
    intro l; rw [hS]; rfl
  have hlf : litS (stOf (hashed x)).S = id := funext hl
  have hmid : mid (hashed x) = hashed x := by
    unfold mid
    rw [hlf, hK]
    have e1 : ((hashed x).lats.map fun t => (t.1, id t.2.1, t.2.2)) = (hashed x).lats := by
      have : (fun t : Tri => (t.1, id t.2.1, t.2.2)) = id := by funext t; rfl
      rw [this, List.map_id]
    rw [e1, List.map_id, List.map_id, List.map_id]
  unfold hashed
  rw [show mid { mid x with ands := (stOf x).K.filter (wants x) } = hashed x from hmid]
  have hK' : (stOf { mid x with ands := (stOf x).K.filter (wants x) }).K = (hashed x).ands := hK
  rw [hK']
  have hall : (hashed x).ands.filter (wants (hashed x)) = (hashed x).ands := by
    rw [List.filter_eq_self]
    intro t ht
    unfold wants
    rw [hmid]
    refine tt_pos ?_
    have htold : told (hashed x) = told (mid x) := rfl
    rw [htold]
    exact rch_less h (fands.1 ht).2
  rw [show ({ mid x with ands := (stOf x).K.filter (wants x) } : Circ) = hashed x from rfl, hall]

/-! ### Values. -/
def setV (V : Int → Bool) (u : Int) (b : Bool) : Int → Bool := fun k => if k = u then b else V k
def evalA (A : List Tri) (V : Int → Bool) : Int → Bool := A.foldl (fun V t => setV V (var t.1) (bitV V t.2.1 && bitV V t.2.2)) V
theorem evalA_snoc (A : List Tri) (t : Tri) (V : Int → Bool) : evalA (A ++ [t]) V = setV (evalA A V) (var t.1) (bitV (evalA A V) t.2.1 && bitV (evalA A V) t.2.2) := by unfold evalA; rw [List.foldl_append]; rfl
theorem bit_set {V : Int → Bool} {u : Int} {b : Bool} {l : Int} (h : var l ≠ u) : bitV (setV V u b) l = bitV V l := by unfold bitV setV; rw [if_neg h]

theorem eval_sat : ∀ (n : Nat) (A : List Tri), A.length = n → Ord A → ∀ V, Sat (evalA A V) A ∧ ∀ u, (∀ t ∈ A, var t.1 ≠ u) → evalA A V u = V u
  | 0, A, hn, _, V => by
    have : A = [] := List.eq_nil_of_length_eq_zero hn
    subst this
    exact ⟨fun t h => (by cases h), fun u _ => rfl⟩
  | n + 1, A, hn, ho, V => by
    obtain ⟨A', t, rfl⟩ : ∃ A' t, A = A' ++ [t] := by
      rcases List.eq_nil_or_concat A with rfl | ⟨A', t, h⟩
      · simp at hn
      · exact ⟨A', t, by rw [h, List.concat_eq_append]⟩
    have hrise := List.pairwise_append.1 ho.rise
    have hft := ho.fine t (by simp)
    have hA : ∀ t' ∈ A', Fine t' := fun t' ht' => ho.fine t' (List.mem_append_left _ ht')
    obtain ⟨h1, h2⟩ := eval_sat n A' (by simp at hn; omega) ⟨hrise.1, hA⟩ V
    have hlt : ∀ t' ∈ A', var t'.1 < var t.1 := fun t' ht' => var_lt hft (by have := (hA t' ht').1; omega) (hrise.2.2 t' ht' t (by simp))
    have hvl : var t.2.1 < var t.1 := var_lt hft hft.2.2.1 hft.2.2.2.1
    have hvr : var t.2.2 < var t.1 := var_lt hft hft.2.2.2.2.1 hft.2.2.2.2.2
    rw [evalA_snoc]
    refine ⟨fun t' ht' => ?_, fun u hu => ?_⟩
    · rcases List.mem_append.1 ht' with h | h
      · have hf := hA t' h
        have hv := hlt t' h
        have hv1 := var_lt hf hf.2.2.1 hf.2.2.2.1
        have hv2 := var_lt hf hf.2.2.2.2.1 hf.2.2.2.2.2
        rw [bit_set (by omega), bit_set (by omega)]
        have e : setV (evalA A' V) (var t.1) (bitV (evalA A' V) t.2.1 && bitV (evalA A' V) t.2.2) (var t'.1) = evalA A' V (var t'.1) := by unfold setV; rw [if_neg (by omega)]
        rw [e]
        exact h1 t' h
      · rw [List.mem_singleton] at h
        subst h
        rw [bit_set (by omega), bit_set (by omega)]
        unfold setV
        rw [if_pos rfl]
    · unfold setV
      rw [if_neg (fun e => hu t (by simp) e.symm)]
      exact h2 u fun t' ht' => hu t' (List.mem_append_left _ ht')

theorem sem_rch {x : Circ} (h : CheckOk x) {V0 : Int → Bool} (h0 : V0 0 = false) : ∀ (n : Nat) (v : Int), v.toNat = n → 0 ≤ v → Rch (stOf x).K (told (mid x)) v → evalA (hashed x).ands V0 v = evalA x.ands V0 v := by
  intro n
  induction n using Nat.strongRecOn with
  | _ n ih =>
    intro v hn hv hr
    obtain ⟨s1, s2⟩ := eval_sat _ x.ands rfl (ord_of h) V0
    obtain ⟨t1, t2⟩ := eval_sat _ (hashed x).ands rfl (fOrd h) V0
    have hV0 : evalA x.ands V0 0 = false := by
      rw [s2 0 (fun t ht => by have := ((ord_of h).fine t ht).1; unfold var; omega)]; exact h0
    have hi := inv_of h
    obtain ⟨hnone, hb⟩ := rch_known h hr
    by_cases hk : ∃ k ∈ (stOf x).K, var k.1 = v
    · obtain ⟨k, hk, rfl⟩ := hk
      have hkf := fands.2 ⟨hk, hr⟩
      have hfk := (hi.kept k hk).1
      have hg := gate_ord (kOrd h) hk
      have hne : var k.1 ≠ 0 := by have := hfk.1; unfold var; omega
      have e1 := t1 k hkf
      have e2 := (hi.sem _ hV0 s1).2 k hk
      have hv1 := var_lt hfk hfk.2.2.1 hfk.2.2.2.1
      have hv2 := var_lt hfk hfk.2.2.2.2.1 hfk.2.2.2.2.2
      have p1 : 0 ≤ var k.2.1 := by unfold var; omega
      have p2 : 0 ≤ var k.2.2 := by unfold var; omega
      have i1 := ih (var k.2.1).toNat (by omega) _ rfl p1 (.left hr hne hg)
      have i2 := ih (var k.2.2).toNat (by omega) _ rfl p2 (.right hr hne hg)
      rw [e1, e2]
      unfold bitV
      rw [i1, i2]
    · rw [t2 v (fun t ht e => hk ⟨t, (fands.1 ht).1, e⟩), s2 v (fun t ht e => ?_)]
      rcases hi.all t ht with ⟨s, hs⟩ | ⟨k, hkk, he⟩
      · rw [e] at hs
        have : getI (stOf x).S v = some s := hs
        rw [hnone] at this; cases this
      · exact hk ⟨k, hkk, by rw [he, e]⟩

/-- What is told is the same. -/
theorem sem_told {x : Circ} (h : CheckOk x) {V0 : Int → Bool} (h0 : V0 0 = false) {m : Int} (hm : m ∈ told x) : bitV (evalA (hashed x).ands V0) (litS (stOf x).S m) = bitV (evalA x.ands V0) m := by
  obtain ⟨s1, s2⟩ := eval_sat _ x.ands rfl (ord_of h) V0
  have hV0 : evalA x.ands V0 0 = false := by
    rw [s2 0 (fun t ht => by have := ((ord_of h).fine t ht).1; unfold var; omega)]; exact h0
  have hl := lit_told hm
  have hr : Rch (stOf x).K (told (mid x)) (var (litS (stOf x).S m)) := .lit hl
  have e := sem_rch h h0 _ _ rfl (by unfold var; omega) hr
  rw [← lit_sem (inv_of h) hV0 s1 m]
  show bitV _ (litS (stOf x).S m) = bitV _ (litS (stOf x).S m)
  unfold bitV
  rw [e]

/-! ### Twice. -/
/-- A circuit with one and more, its literals the other way round, and one output more. -/
def more (x : Circ) (a : Tri) (o : Int) : Circ := { x with max := x.max + 1, ands := x.ands ++ [(2 * (x.max + 1), a.2.2, a.2.1)], outs := x.outs ++ [o] }

theorem more_ok {x : Circ} (h : CheckOk x) {a : Tri} (ha : a ∈ x.ands) (hm : x.max ≤ 1000) (ho : x.outs.length + 1 ≤ 64) {o : Int} (hoo : o = a.1 ∨ o = 2 * (x.max + 1)) : CheckOk (more x a o) := by
  have hord := ord_of h
  obtain ⟨hf, ⟨hd, hr, hs⟩, hl, hand, hout, hb, hv, hn⟩ := h
  obtain ⟨f0, f1, f2, f3, f4, f5, f6⟩ := hf
  obtain ⟨d1, d2⟩ := ownOk_iff.1 hd
  have hown : ownL (more x a o) = ownL x ++ [2 * (x.max + 1)] := by unfold ownL more; simp
  have hvs : vsOf (more x a o) = vsOf x ++ [x.max + 1] := by
    unfold vsOf
    rw [hown, List.map_append]
    have : var (2 * (x.max + 1)) = x.max + 1 := by unfold var; omega
    simp [this]
  have hk : ∀ l, knownV (vsOf x) l → knownV (vsOf (more x a o)) l := fun l hl => ⟨hl.1, hl.2.imp id fun h => by rw [hvs]; exact List.mem_append_left _ h⟩
  have hmax : ∀ t ∈ x.ands, t.1 < 2 * (x.max + 1) := fun t ht => by
    have := (d1 t.1 (by unfold ownL; exact List.mem_append_right _ (List.mem_map.2 ⟨t, ht, rfl⟩))).2.2
    unfold var at this; omega
  obtain ⟨ka1, ka2, ka3, ka4⟩ := hand a ha
  have hma := hmax a ha
  refine ⟨⟨by show 0 ≤ x.max + 1; omega, by show x.max + 1 ≤ 2048; omega, f2, f3, by show (x.outs ++ [o]).length ≤ 64; simp; omega, f5, f6⟩, ⟨?_, hr, ?_⟩, fun t ht => hk _ (hl t ht), ?_, ?_, fun l hl' => hk _ (hb l hl'), fun l hl' => hk _ (hv l hl'), ?_⟩
  · rw [hown]
    refine ownOk_iff.2 ⟨fun m hmm => ?_, ?_⟩
    · rcases List.mem_append.1 hmm with h1 | h1
      · obtain ⟨g1, g2, g3⟩ := d1 m h1
        exact ⟨g1, g2, by show var m ≤ x.max + 1; omega⟩
      · rw [List.mem_singleton] at h1
        subst h1
        refine ⟨by omega, ?_, by show var (2 * (x.max + 1)) ≤ x.max + 1; unfold var; omega⟩
        unfold neg
        rw [if_neg (by omega)]
        simp
    · rw [List.map_append, List.nodup_append]
      refine ⟨d2, by simp, fun u hu v hv' e => ?_⟩
      subst e
      simp only [List.map_cons, List.map_nil, List.mem_singleton] at hv'
      obtain ⟨m, hmm, rfl⟩ := List.mem_map.1 hu
      have := (d1 m hmm).2.2
      unfold var at *
      omega
  · intro j hj
    have hj' : j + 1 < (x.ands ++ [(2 * (x.max + 1), a.2.2, a.2.1)]).length := hj
    rw [List.length_append, List.length_singleton] at hj'
    show ((x.ands ++ [(2 * (x.max + 1), a.2.2, a.2.1)])[j]'(by simp; omega)).1 < ((x.ands ++ [(2 * (x.max + 1), a.2.2, a.2.1)])[j + 1]'(by simp; omega)).1
    by_cases he : j + 1 < x.ands.length
    · rw [List.getElem_append_left he, List.getElem_append_left (by omega)]
      exact hs j he
    · rw [List.getElem_append_left (by omega), List.getElem_append_right (by omega)]
      simp only [List.getElem_singleton]
      exact hmax _ (List.getElem_mem _)
  · intro t ht
    rcases List.mem_append.1 ht with h1 | h1
    · obtain ⟨g1, g2, g3, g4⟩ := hand t h1
      exact ⟨hk _ g1, hk _ g2, g3, g4⟩
    · rw [List.mem_singleton] at h1
      subst h1
      exact ⟨hk _ ka2, hk _ ka1, by show a.2.2 < 2 * (x.max + 1); omega, by show a.2.1 < 2 * (x.max + 1); omega⟩
  · intro l hl'
    rcases List.mem_append.1 hl' with h1 | h1
    · exact hk _ (hout l h1)
    · rw [List.mem_singleton] at h1
      subst h1
      rcases hoo with rfl | rfl
      · refine hk _ ⟨by have := (hord.fine a ha).1; omega, Or.inr ?_⟩
        unfold vsOf ownL
        rw [List.map_append, List.mem_append]
        exact Or.inr (List.mem_map.2 ⟨a.1, List.mem_map.2 ⟨a, ha, rfl⟩, rfl⟩)
      · refine ⟨by omega, Or.inr ?_⟩
        rw [hvs]
        have : var (2 * (x.max + 1)) = x.max + 1 := by unfold var; omega
        rw [this]; simp
  · exact names_mono (x := x) (y := more x a o) rfl (fun k => countOf_mono (x := x) (y := more x a o) (Nat.le_refl _) (Nat.le_refl _) (by show x.outs.length ≤ (x.outs ++ [o]).length; simp) (Nat.le_refl _) (Nat.le_refl _) k) hn

theorem twice {x : Circ} (h : CheckOk x) {a : Tri} (ha : a ∈ x.ands) (hm : x.max ≤ 1000) (ho : x.outs.length + 1 ≤ 64) : hashed (more x a a.1) = hashed (more x a (2 * (x.max + 1))) := by
  have hok := more_ok h ha hm ho (o := a.1) (Or.inl rfl)
  have hi := inv_of hok
  have hst : stOf (more x a (2 * (x.max + 1))) = stOf (more x a a.1) := rfl
  have hfine := (ord_of hok).fine
  have e1 := hi.at' a (List.mem_append_left _ ha)
  have e2 := hi.at' (2 * (x.max + 1), a.2.2, a.2.1) (List.mem_append_right _ (List.mem_singleton.2 rfl))
  have hkn := hok.2.2.2.1 a (List.mem_append_left _ ha)
  have hl := (lit_facts hi hkn.1.1 (known_base hkn.1).2 hfine).1
  have hr := (lit_facts hi hkn.2.1.1 (known_base hkn.2.1).2 hfine).1
  have hlit : litS (stOf (more x a a.1)).S a.1 = litS (stOf (more x a a.1)).S (2 * (x.max + 1)) := by
    have hc := plain_comm hl hr
    cases hp : plainL (litS (foldG (more x a a.1).ands).S a.2.1) (litS (foldG (more x a a.1).ands).S a.2.2) with
    | some r =>
      have h1 := e1.1 r hp
      have h2 := e2.1 r (by show plainL (litS (foldG (more x a a.1).ands).S a.2.2) (litS (foldG (more x a a.1).ands).S a.2.1) = some r; rw [← hc]; exact hp)
      exact h1.trans h2.symm
    | none =>
      have h1 := e1.2 hp
      have h2 := e2.2 (by show plainL (litS (foldG (more x a a.1).ands).S a.2.2) (litS (foldG (more x a a.1).ands).S a.2.1) = none; rw [← hc]; exact hp)
      have h2' : getI (foldG (more x a a.1).ands).M (pairS (litS (foldG (more x a a.1).ands).S a.2.2) (litS (foldG (more x a a.1).ands).S a.2.1)) = some (litS (foldG (more x a a.1).ands).S (2 * (x.max + 1))) := h2
      rw [pair_comm] at h2'
      have h3 := h1.symm.trans h2'
      simp only [Option.some.injEq] at h3
      exact h3
  have hmid : mid (more x a a.1) = mid (more x a (2 * (x.max + 1))) := by
    unfold mid
    rw [hst]
    have : (more x a a.1).outs.map (litS (stOf (more x a a.1)).S) = (more x a (2 * (x.max + 1))).outs.map (litS (stOf (more x a a.1)).S) := by
      show (x.outs ++ [a.1]).map _ = (x.outs ++ [2 * (x.max + 1)]).map _
      rw [List.map_append, List.map_append]
      congr 1
      simp only [List.map_cons, List.map_nil]
      rw [hlit]
    rw [this]
    rfl
  unfold hashed
  have hw : wants (more x a a.1) = wants (more x a (2 * (x.max + 1))) := by
    funext t
    unfold wants
    rw [hmid]
  rw [hw, hst, hmid]
end StrashP
end Go.Proofs.YtninglnchengeaaGreatDoor

/-
  Plain: what a Bad hangs on: what counts; the circuit of that alone may be, and stays when it is reduced again.
-/
namespace Go.Proofs.YtninglnchengeaaGreatDoor
open Go.RowKit Base
set_option linter.unusedVariables false
set_option linter.unusedSimpArgs false
namespace Coi
open Circuit

/-- What counts, of a circuit and literals. -/
inductive NR (x : Circ) (l : List Int) : Int → Prop
  | lit {t : Int} : t ∈ l → NR x l (var t)
  | left {v : Int} {g : Tri} : NR x l v → v ≠ 0 → gate x.ands v = some g → NR x l (var g.2.1)
  | right {v : Int} {g : Tri} : NR x l v → v ≠ 0 → gate x.ands v = some g → NR x l (var g.2.2)
  | next {t : Tri} : NR x l (var t.1) → var t.1 ≠ 0 → t ∈ x.lats → NR x l (var t.2.1)

theorem nr_of_rch {x : Circ} {l L : List Int} (hL : ∀ t ∈ L, NR x l (var t)) {v : Int} (h : Rch x.ands L v) : NR x l v := by
  induction h with
  | lit ht => exact hL _ ht
  | left _ h0 hg ih => exact .left ih h0 hg
  | right _ h0 hg ih => exact .right ih h0 hg

structure CInv (x : Circ) (l X : List Int) : Prop where
  nodup : X.Nodup
  sound : ∀ v ∈ X, v ≠ 0 ∧ NR x l v
  lits : ∀ t ∈ l, var t = 0 ∨ var t ∈ X
  gates : ∀ v ∈ X, ∀ g, gate x.ands v = some g → (var g.2.1 = 0 ∨ var g.2.1 ∈ X) ∧ (var g.2.2 = 0 ∨ var g.2.2 ∈ X)

/-- X2 is X and what L hangs on. -/
def Adds (x : Circ) (L X X2 : List Int) : Prop := X2.Nodup ∧ ∀ v, v ∈ X2 ↔ v ∈ X ∨ (v ≠ 0 ∧ Rch x.ands L v)

theorem adds_gates {x : Circ} {L X X2 : List Int} (h : Adds x L X X2) (hg : ∀ v ∈ X, ∀ g, gate x.ands v = some g → (var g.2.1 = 0 ∨ var g.2.1 ∈ X) ∧ (var g.2.2 = 0 ∨ var g.2.2 ∈ X)) :
    ∀ v ∈ X2, ∀ g, gate x.ands v = some g → (var g.2.1 = 0 ∨ var g.2.1 ∈ X2) ∧ (var g.2.2 = 0 ∨ var g.2.2 ∈ X2) := by
  intro v hv g hgv
  rcases (h.2 v).1 hv with h1 | ⟨h0, h1⟩
  · obtain ⟨a, b⟩ := hg v h1 g hgv
    exact ⟨a.imp id fun h2 => (h.2 _).2 (Or.inl h2), b.imp id fun h2 => (h.2 _).2 (Or.inl h2)⟩
  · constructor
    · by_cases e : var g.2.1 = 0
      · exact Or.inl e
      · exact Or.inr ((h.2 _).2 (Or.inr ⟨e, .left h1 h0 hgv⟩))
    · by_cases e : var g.2.2 = 0
      · exact Or.inl e
      · exact Or.inr ((h.2 _).2 (Or.inr ⟨e, .right h1 h0 hgv⟩))

theorem cinv_start {x : Circ} {l X2 : List Int} (h : Adds x l [] X2) : CInv x l X2 :=
  ⟨h.1, fun v hv => by
    rcases (h.2 v).1 hv with h1 | ⟨h0, h1⟩
    · simp at h1
    · exact ⟨h0, nr_of_rch (fun t ht => .lit ht) h1⟩, fun t ht => by
    by_cases e : var t = 0
    · exact Or.inl e
    · exact Or.inr ((h.2 _).2 (Or.inr ⟨e, .lit ht⟩)), adds_gates h (fun v hv => by simp at hv)⟩
theorem cinv_next {x : Circ} {l X X2 : List Int} (hi : CInv x l X) {t : Tri} (ht : t ∈ x.lats) (hm : var t.1 ∈ X) (h : Adds x [t.2.1] X X2) : CInv x l X2 :=
  ⟨h.1, fun v hv => by
    rcases (h.2 v).1 hv with h1 | ⟨h0, h1⟩
    · exact hi.sound v h1
    · refine ⟨h0, nr_of_rch (fun u hu => ?_) h1⟩
      rw [List.mem_singleton.1 hu]
      exact .next (hi.sound _ hm).2 (hi.sound _ hm).1 ht, fun u hu => (hi.lits u hu).imp id fun h2 => (h.2 _).2 (Or.inl h2), adds_gates h hi.gates⟩
/-- Nothing is new of a latch that is met. -/
def Shut (x : Circ) (X : List Int) (t : Tri) : Prop := var t.1 ∈ X → ∀ v, v ≠ 0 → Rch x.ands [t.2.1] v → v ∈ X
theorem cinv_end {x : Circ} {l X : List Int} (h : CInv x l X) (hs : ∀ t ∈ x.lats, Shut x X t) (v : Int) : v ∈ X ↔ v ≠ 0 ∧ NR x l v := by
  refine ⟨h.sound v, fun hh => ?_⟩
  obtain ⟨h0, hn⟩ := hh
  induction hn with
  | lit ht => exact (h.lits _ ht).resolve_left h0
  | left _ hv hg ih => exact ((h.gates _ (ih hv) _ hg).1).resolve_left h0
  | right _ hv hg ih => exact ((h.gates _ (ih hv) _ hg).2).resolve_left h0
  | next _ hv ht ih => exact hs _ ht (ih hv) _ h0 (.lit (List.mem_singleton.2 rfl))
def uni (x : Circ) (l : List Int) : List Int := l.map var ++ x.ands.map (fun t => var t.2.1) ++ x.ands.map (fun t => var t.2.2) ++ x.lats.map (fun t => var t.2.1)
theorem nr_uni {x : Circ} {l : List Int} {v : Int} (h : NR x l v) : v ∈ uni x l := by
  unfold uni
  simp only [List.mem_append, List.mem_map]
  cases h with
  | lit ht => exact Or.inl (Or.inl (Or.inl ⟨_, ht, rfl⟩))
  | left _ _ hg => exact Or.inl (Or.inl (Or.inr ⟨_, gate_mem hg, rfl⟩))
  | right _ _ hg => exact Or.inl (Or.inr ⟨_, gate_mem hg, rfl⟩)
  | next _ _ ht => exact Or.inr ⟨_, ht, rfl⟩
theorem cinv_few {x : Circ} {l X : List Int} (h : CInv x l X) : X.length ≤ l.length + 2 * x.ands.length + x.lats.length := by
  have := nodup_len h.nodup (C := uni x l) (fun v hv => nr_uni (h.sound v hv).2)
  unfold uni at this
  simp only [List.length_append, List.length_map] at this
  omega

/-! ### The circuit of that alone. -/
noncomputable def cnt (x : Circ) (l : List Int) (m : Int) : Bool := tt (var m ≠ 0 ∧ NR x l (var m))
noncomputable def reduced (x : Circ) (l : List Int) (b : Int) : Circ :=
  { max := x.max, ins := x.ins.filter (cnt x l), lats := x.lats.filter (fun t => cnt x l t.1), outs := [], bads := [b], invs := x.invs, ands := x.ands.filter (fun t => cnt x l t.1), names := [] }

theorem tt_iff {p : Prop} : tt p = true ↔ p := by
  constructor
  · intro h
    exact Classical.byContradiction fun hn => by rw [tt_neg hn] at h; cases h
  · exact tt_pos
theorem cnt_iff {x : Circ} {l : List Int} {m : Int} : cnt x l m = true ↔ var m ≠ 0 ∧ NR x l (var m) := tt_iff
theorem cnt_congr {x : Circ} {l : List Int} {m k : Int} (h : var m = var k) : cnt x l m = cnt x l k := by unfold cnt; rw [h]

theorem gate_red {x : Circ} {l : List Int} {b v : Int} (h0 : v ≠ 0) (hn : NR x l v) : gate (reduced x l b).ands v = gate x.ands v := by
  show gate (x.ands.filter _) v = _
  unfold gate
  rw [List.find?_filter]
  congr 1
  funext t
  by_cases e : var t.1 = v
  · have : cnt x l t.1 = true := cnt_iff.2 (by rw [e]; exact ⟨h0, hn⟩)
    simp [this]
  · simp [e]
theorem nr_red {x : Circ} {l : List Int} {b : Int} {v : Int} : NR (reduced x l b) l v ↔ NR x l v := by
  constructor
  · intro h
    induction h with
    | lit ht => exact .lit ht
    | left _ h0 hg ih => exact .left ih h0 (by rw [← gate_red h0 ih]; exact hg)
    | right _ h0 hg ih => exact .right ih h0 (by rw [← gate_red h0 ih]; exact hg)
    | next _ h0 ht ih => exact .next ih h0 (List.mem_filter.1 ht).1
  · intro h
    induction h with
    | lit ht => exact .lit ht
    | left hv h0 hg ih => exact .left ih h0 (by rw [gate_red h0 hv]; exact hg)
    | right hv h0 hg ih => exact .right ih h0 (by rw [gate_red h0 hv]; exact hg)
    | next hv h0 ht ih => exact .next ih h0 (List.mem_filter.2 ⟨ht, cnt_iff.2 ⟨h0, hv⟩⟩)
theorem cnt_red (x : Circ) (l : List Int) (b m : Int) : cnt (reduced x l b) l m = cnt x l m := by
  rw [Bool.eq_iff_iff, cnt_iff, cnt_iff, nr_red]
theorem red_again (x : Circ) (l : List Int) (b : Int) : reduced (reduced x l b) l b = reduced x l b := by
  have e1 : cnt (reduced x l b) l = cnt x l := funext (cnt_red x l b)
  have h1 : (reduced (reduced x l b) l b).ins = (reduced x l b).ins := by
    show (x.ins.filter (cnt x l)).filter (cnt (reduced x l b) l) = _
    rw [e1, List.filter_filter]
    simp only [Bool.and_self]
    rfl
  have h2 : (reduced (reduced x l b) l b).lats = (reduced x l b).lats := by
    show (x.lats.filter _).filter (fun t => cnt (reduced x l b) l t.1) = _
    rw [e1, List.filter_filter]
    simp only [Bool.and_self]
    rfl
  have h3 : (reduced (reduced x l b) l b).ands = (reduced x l b).ands := by
    show (x.ands.filter _).filter (fun t => cnt (reduced x l b) l t.1) = _
    rw [e1, List.filter_filter]
    simp only [Bool.and_self]
    rfl
  have : reduced (reduced x l b) l b = { reduced x l b with ins := (reduced (reduced x l b) l b).ins, lats := (reduced (reduced x l b) l b).lats, ands := (reduced (reduced x l b) l b).ands } := rfl
  rw [this, h1, h2, h3]

theorem own_red {x : Circ} {l : List Int} {b : Int} : (ownL (reduced x l b)) = (ownL x).filter (cnt x l) := by
  unfold ownL
  rw [List.filter_append, List.filter_append, List.filter_map, List.filter_map]
  rfl
theorem known_red {x : Circ} {l : List Int} {b m : Int} (hk : knownV (vsOf x) m) (hn : NR x l (var m)) : knownV (vsOf (reduced x l b)) m := by
  obtain ⟨h0, h1⟩ := hk
  refine ⟨h0, ?_⟩
  by_cases hv : var m = 0
  · left; unfold var at hv; omega
  · rcases h1 with h1 | h1
    · exact Or.inl h1
    · right
      unfold vsOf at h1 ⊢
      obtain ⟨u, hu, he⟩ := List.mem_map.1 h1
      refine List.mem_map.2 ⟨u, ?_, he⟩
      rw [own_red]
      exact List.mem_filter.2 ⟨hu, cnt_iff.2 (by rw [he]; exact ⟨hv, hn⟩)⟩
theorem red_ok {x : Circ} (h : CheckOk x) {l : List Int} {b : Int} (hb : b ∈ x.bads) (hbl : b ∈ l) (hi : ∀ m ∈ x.invs, m ∈ l) : CheckOk (reduced x l b) := by
  have hord := StrashP.ord_of h
  obtain ⟨⟨f0, f1, f2, f3, f4, f5, f6⟩, ⟨hd, hr, hs⟩, hl, ha, ho, hbk, hv, hn⟩ := h
  obtain ⟨d1, d2⟩ := StrashP.ownOk_iff.1 hd
  have hg : ∀ t ∈ x.ands, gate x.ands (var t.1) = some t := fun t ht => StrashP.gate_ord hord ht
  have fl : ∀ {α : Type} (p : α → Bool) (l : List α), (l.filter p).length ≤ l.length := fun p l => List.length_filter_le p l
  refine ⟨⟨f0, f1, Nat.le_trans (fl _ _) f2, Nat.le_trans (fl _ _) f3, by show ([] : List Int).length ≤ 64; simp, by show [b].length ≤ 64; simp, f6⟩, ⟨?_, ?_, ?_⟩, ?_, ?_, ?_, ?_, ?_, ?_⟩
  · rw [own_red]
    refine StrashP.ownOk_iff.2 ⟨fun m hm => d1 m (List.mem_filter.1 hm).1, ?_⟩
    exact List.Sublist.nodup (List.Sublist.map var (List.filter_sublist (l := ownL x))) d2
  · exact fun t ht => hr t (List.mem_filter.1 ht).1
  · intro j hj
    have hp : ((x.ands.filter fun t => cnt x l t.1)).Pairwise fun a b => a.1 < b.1 := List.Pairwise.sublist (List.filter_sublist (l := x.ands)) hord.rise
    exact (List.pairwise_iff_getElem.1 hp) j (j + 1) (Nat.lt_of_succ_lt hj) hj (Nat.lt_succ_self j)
  · intro t ht
    obtain ⟨h1, h2⟩ := List.mem_filter.1 ht
    exact known_red (hl t h1) (.next (cnt_iff.1 h2).2 (cnt_iff.1 h2).1 h1)
  · intro t ht
    obtain ⟨h1, h2⟩ := List.mem_filter.1 ht
    obtain ⟨g1, g2, g3, g4⟩ := ha t h1
    exact ⟨known_red g1 (.left (cnt_iff.1 h2).2 (cnt_iff.1 h2).1 (hg t h1)), known_red g2 (.right (cnt_iff.1 h2).2 (cnt_iff.1 h2).1 (hg t h1)), g3, g4⟩
  · intro m hm; cases hm
  · intro m hm
    rw [List.mem_singleton.1 hm]
    exact known_red (hbk b hb) (.lit hbl)
  · exact fun m hm => known_red (hv m hm) (.lit (hi m hm))
  · intro j hj
    exact absurd hj (by show ¬ j < ([] : List (ByteArray × Int × ByteArray)).length; simp)
end Coi
end Go.Proofs.YtninglnchengeaaGreatDoor

/-
  coi.needs in memory: a map[int]bool of the call's own: looked up, stored into, counted.
-/
namespace Go.Proofs.YtninglnchengeaaGreatDoor
open Go.RowKit Base Go.Maps
set_option linter.unusedVariables false
set_option linter.unusedSimpArgs false
namespace Coi
open Circuit SetI

def ins (X : List Int) (y : Int) : List Int := if inX X y = true then X else X ++ [y]
theorem ins_nodup {X : List Int} (h : X.Nodup) (y : Int) : (ins X y).Nodup := by
  unfold ins
  split
  · exact h
  · rename_i hy
    rw [List.nodup_append]
    exact ⟨h, by simp, fun a ha b hb e => by rw [List.mem_singleton] at hb; subst hb; exact hy (inX_iff.2 (e ▸ ha))⟩
theorem ins_mem {X : List Int} {y v : Int} : v ∈ ins X y ↔ v ∈ X ∨ v = y := by
  unfold ins
  split
  · rename_i hy
    constructor
    · exact Or.inl
    · rintro (h | rfl)
      · exact h
      · exact inX_iff.1 hy
  · simp

theorem keys_old {D : DataW Unit} {X : List Int} (h : KeysAre D X) (hn : X.Nodup) {y : Int} (hy : y ∈ X) (d : DataW Unit) : KeysAre (D.put (.int .i64 y) d) X := by
  obtain ⟨es, rfl, hk, hp⟩ := h
  have hkk : ∀ p ∈ es, ∃ x, p.1 = .int .i64 x := hk
  have hf : ∀ (l : List (Lit × DataW Unit)), (∀ p ∈ l, ∃ x, p.1 = .int .i64 x) → ((l.filter fun p => !p.1.sameKey (.int .i64 y)).map fun p => Go.intOf p.1) = (l.map fun p => Go.intOf p.1).filter (fun x => decide (x ≠ y)) := by
    intro l hl
    induction l with
    | nil => rfl
    | cons p r ih =>
      obtain ⟨x, hx⟩ := hl p List.mem_cons_self
      have ihr := ih fun q hq => hl q (List.mem_cons_of_mem _ hq)
      have hi : Go.intOf p.1 = x := by rw [hx]; rfl
      rw [List.filter_cons, List.map_cons, List.filter_cons, hi, hx]
      by_cases e : x = y
      · subst e
        have h1 : (!(Lit.int .i64 x).sameKey (.int .i64 x)) = false := by simp [Lit.sameKey]
        rw [h1, if_neg (by simp), if_neg (by simp)]
        exact ihr
      · have h1 : (!(Lit.int .i64 x).sameKey (.int .i64 y)) = true := by simp [Lit.sameKey, e]
        rw [h1, if_pos rfl, if_pos (by simpa using e), List.map_cons, hi, ihr]
  unfold DataW.put
  refine ⟨_, rfl, fun p hpm => ?_, ?_⟩
  · have := (insert_perm _ _).subset hpm
    rw [List.mem_cons] at this
    rcases this with rfl | hm
    · exact ⟨y, rfl⟩
    · exact hk p (List.mem_filter.1 hm).1
  · have h1 : (Go.intKeys (.map (DataW.insert (.int .i64 y, d) (es.filter fun p => !p.1.sameKey (.int .i64 y))))).Perm (y :: Go.intKeys (.map (es.filter fun p => !p.1.sameKey (.int .i64 y)))) := by
      unfold Go.intKeys
      exact (insert_perm (.int .i64 y, d) _).map _
    refine h1.trans ?_
    have hf' : Go.intKeys (.map (es.filter fun p => !p.1.sameKey (.int .i64 y))) = (Go.intKeys (.map es)).filter fun x => decide (x ≠ y) := hf es hk
    rw [hf']
    have h2 : ((Go.intKeys (.map es)).filter fun x => decide (x ≠ y)).Perm (X.filter fun x => decide (x ≠ y)) := hp.filter _
    refine (List.Perm.cons y h2).trans ?_
    have h3 : X.filter (fun x => decide (x ≠ y)) = X.erase y := by
      rw [hn.erase_eq_filter]
      congr 1
      funext x
      by_cases e : x = y <;> simp [e]
    rw [h3]
    exact (List.perm_cons_erase hy).symm

theorem set_ins {D : DataW Unit} {X : List Int} (hm : IsMap D) (hat : ∀ x, SetI.I64 x → D.atKey (.int .i64 x) (.lit (.bool false)) = .lit (.bool (inX X x))) (hk : KeysAre D X) (hn : X.Nodup) (y : Int) :
    IsMap (D.put (.int .i64 y) (.lit (.bool true))) ∧ (∀ x, SetI.I64 x → (D.put (.int .i64 y) (.lit (.bool true))).atKey (.int .i64 x) (.lit (.bool false)) = .lit (.bool (inX (ins X y) x))) ∧ KeysAre (D.put (.int .i64 y) (.lit (.bool true))) (ins X y) := by
  obtain ⟨h1, h2⟩ := set_put hm hat y
  unfold ins
  by_cases hy : inX X y = true
  · rw [if_pos hy]
    refine ⟨h1, fun x hx => ?_, keys_old hk hn (inX_iff.1 hy) _⟩
    rw [h2 x hx]
    congr 2
    rw [Bool.eq_iff_iff, inX_iff, inX_iff, List.mem_append, List.mem_singleton]
    constructor
    · rintro (h | rfl)
      · exact h
      · exact inX_iff.1 hy
    · exact Or.inl
  · rw [if_neg hy]
    exact ⟨h1, h2, keys_put hk (fun h => hy (inX_iff.2 h)) _⟩

theorem look (w : World) {b n : Nat} {X : List Int} (h : SetK w b n X) {x : Int} (hx : SetI.I64 x) :
    (Instr.lookup 66 (.map (some b)) (.int .i64 x) false).run Tryz.prog w = .ok (.bool (inX X x)) w := by
  obtain ⟨D, ho, _, hat, _⟩ := h
  obtain ⟨v, ps, hrun, hv⟩ := ho.lookup law Tryz.underlying66 (zeroE w) (plainElem_bool Tryz.underlying4 false) (keyOf_int_mk Tryz.underlying3 (wf_lit hx))
  obtain ⟨y, rfl, hz⟩ := bool_inv Tryz.underlying4 hv
  simp only [Prod.mk.injEq] at hz
  have := hz.1.symm.trans (hat x hx)
  simp only [DataW.lit.injEq, Lit.bool.injEq] at this
  rw [hrun, this]
theorem store {w : World} {b n : Nat} {X : List Int} (h : SetK w b n X) (hnd : X.Nodup) {x : Int} (hx : SetI.I64 x) (hn : n < 9223372036854775807) :
    ∃ w', (Instr.mapUpdate 66 (.map (some b)) (.int .i64 x) (.bool true)).run Tryz.prog w = .ok () w' ∧ SetK w' b (n + 1) (ins X x) ∧ w.grownBy w' (some b) := by
  obtain ⟨D, ho, hm, hat, hk⟩ := h
  obtain ⟨w', hrun, ho', hg⟩ := ho.update law Tryz.underlying66 (by unfold maxLen; omega) (keyOf_int_mk Tryz.underlying3 (wf_lit hx)) (plainElem_bool Tryz.underlying4 true)
  obtain ⟨h1, h2, h3⟩ := set_ins hm hat hk hnd x
  exact ⟨w', hrun, ⟨_, ho', h1, h2, h3⟩, hg⟩
theorem len (w : World) {b n : Nat} {X : List Int} (h : SetK w b n X) (ty : TypeId) : (Builtin.len_ #[66] ty #[.map (some b)]).run Tryz.prog w = .ok (.int .i64 X.length) w := by
  obtain ⟨D, ho, _, _, hk⟩ := h
  rw [ho.len Tryz.underlying66 ty, keys_size hk]
/-- Its size is the bound. -/
theorem tight {w : World} {b n : Nat} {X : List Int} (h : SetK w b n X) : SetK w b X.length X := by
  obtain ⟨D, ⟨es, cl, hh, hf, hsz, hD⟩, hm, hat, hk⟩ := h
  have hs := keys_size hk
  refine ⟨D, ⟨es, cl, hh, hf, ?_, hD⟩, hm, hat, hk⟩
  rw [← hs, hD]
  unfold Maps.size
  simp [length_sorted]
theorem made (w : World) : SetK (w.alloc (.map #[] 0)) w.heap.size 0 [] :=
  ⟨.map [], World.ownsMap_made _ _ _ _, ⟨_, rfl⟩, fun x _ => by simp [DataW.atKey, inX], keys_nil⟩
theorem SetK_kept {w w' : World} {b n : Nat} {X : List Int} (h : SetK w b n X) {row : Option Nat} (hg : w.grownBy w' row) (hne : some b ≠ row) : SetK w' b n X := by
  obtain ⟨D, ho, r⟩ := h
  exact ⟨D, ho.kept hg hne, r⟩
end Coi
end Go.Proofs.YtninglnchengeaaGreatDoor

/-
  Slices of structs of k cells in memory of one's own; what may be written; what lies from a block on stays. No program's function.
-/
namespace Go.Proofs.YtninglnchengeaaGreatDoor
open Go.RowKit
set_option linter.unusedVariables false
set_option linter.unusedSimpArgs false
namespace Base

theorem flat_len {k : Nat} {vs : List (List Value)} (h : ∀ r ∈ vs, r.length = k) : vs.flatten.length = vs.length * k := by
  induction vs with
  | nil => simp
  | cons x r ih =>
    rw [List.flatten_cons, List.length_append, List.length_cons, ih (fun y hy => h y (List.mem_cons_of_mem _ hy)), h x List.mem_cons_self, Nat.succ_mul, Nat.add_comm]

theorem flat_at {k : Nat} {vs : List (List Value)} (h : ∀ r ∈ vs, r.length = k) (i j : Nat) (hj : j < k) : vs.flatten[i * k + j]? = (vs[i]?).bind (·[j]?) := by
  induction vs generalizing i with
  | nil => simp
  | cons x r ih =>
    have hx := h x List.mem_cons_self
    rw [List.flatten_cons]
    cases i with
    | zero =>
      rw [Nat.zero_mul, Nat.zero_add, List.getElem?_append_left (by omega)]
      rfl
    | succ i =>
      rw [List.getElem?_append_right (by rw [hx, Nat.succ_mul]; omega)]
      have e : (i + 1) * k + j - x.length = i * k + j := by rw [hx, Nat.succ_mul]; omega
      rw [e, ih (fun y hy => h y (List.mem_cons_of_mem _ hy)), List.getElem?_cons_succ]

theorem tris_row (l : List Tri) : ∀ r ∈ tris l, r.length = 3 := by
  intro r hr
  unfold tris at hr
  obtain ⟨t, _, rfl⟩ := List.mem_map.1 hr
  rfl
theorem names_row (l : List (ByteArray × Int × ByteArray)) : ∀ r ∈ namesV l, r.length = 3 := by
  intro r hr
  unfold namesV at hr
  obtain ⟨t, _, rfl⟩ := List.mem_map.1 hr
  rfl
theorem tris_len (l : List Tri) : (tris l).length = l.length := by simp [tris]
theorem names_len (l : List (ByteArray × Int × ByteArray)) : (namesV l).length = l.length := by simp [namesV]
theorem tris_one (l : List Tri) : ∀ u ∈ (tris l).flatten, u.oneCell' = true := by
  intro u hu
  obtain ⟨r, hr, hu⟩ := List.mem_flatten.1 hu
  unfold tris at hr
  obtain ⟨t, _, rfl⟩ := List.mem_map.1 hr
  simp only [List.mem_cons, List.not_mem_nil, or_false] at hu
  rcases hu with rfl | rfl | rfl <;> rfl
theorem names_one (l : List (ByteArray × Int × ByteArray)) : ∀ u ∈ (namesV l).flatten, u.oneCell' = true := by
  intro u hu
  obtain ⟨r, hr, hu⟩ := List.mem_flatten.1 hu
  unfold namesV at hr
  obtain ⟨t, _, rfl⟩ := List.mem_map.1 hr
  simp only [List.mem_cons, List.not_mem_nil, or_false] at hu
  rcases hu with rfl | rfl | rfl <;> rfl

/-- The cells of a slice that can be read, one behind another. -/
theorem SlT.flat {w : World} {k : Nat} (hk : 0 < k) {ad : Addr} {n c : Nat} {vs : List (List Value)} (h : SlT w k (some ad) n c vs) : ∀ j u, vs.flatten[j]? = some u → w.cell? (ad.add j) = some u := by
  intro j u hu
  have hr : ∀ r ∈ vs, r.length = k := fun r hr => by
    obtain ⟨i, hi⟩ := List.getElem?_of_mem hr
    exact (h.cell i r hi).1
  have hj : j = (j / k) * k + j % k := by rw [Nat.mul_comm]; exact (Nat.div_add_mod j k).symm
  rw [hj, flat_at hr _ _ (Nat.mod_lt _ hk)] at hu
  obtain ⟨r, h1, h2⟩ := Option.bind_eq_some_iff.1 hu
  obtain ⟨_, b, o, ha, _, hc⟩ := h.cell _ r h1
  simp only [Option.some.injEq] at ha
  subst ha
  have := hc _ u h2
  rw [Addr.add_lit, hj, ← Nat.add_assoc]
  exact this

/-- What is owned, as a slice that can be read. -/
theorem own_slT {w : World} {B : Nat} {e : TypeId} {k : Nat} {v : Value} {n : Nat} {vs : List (List Value)} (hk : 0 < k) (hr : ∀ r ∈ vs, r.length = k) (hn : vs.length = n) (h : w.ownsRow B e k v n vs.flatten) :
    ∃ a c, v = .slice a n c ∧ SlT w k a n c vs := by
  obtain ⟨hl, h2⟩ := h
  rcases h2 with ⟨rfl, rfl⟩ | ⟨g, cap, cur, rfl, hg, hh, hnc, hcap, hcur, htake⟩
  · exact ⟨none, 0, rfl, hn, Nat.le_refl _, by omega, fun _ => ⟨rfl, rfl⟩, fun i x hx => by
      have := (List.getElem?_eq_some_iff.1 hx).1; omega⟩
  · refine ⟨_, _, rfl, hn, hnc, by unfold maxLen at hcap; omega, (fun h => by cases h), fun i r hi => ⟨hr r (List.mem_of_getElem? hi), g, 0, rfl, (Array.getElem?_eq_some_iff.1 hh).1, fun j x hx => ?_⟩⟩
    have hjk : j < k := by
      have h1 := (List.getElem?_eq_some_iff.1 hx).1
      rw [hr r (List.mem_of_getElem? hi)] at h1
      exact h1
    have hf : vs.flatten[i * k + j]? = some x := by rw [flat_at hr _ _ hjk, hi]; exact hx
    rw [← htake, List.getElem?_take] at hf
    rw [cell_of_row _ g (0 + i * k + j) cur e _ hh]
    split at hf
    · rw [Nat.zero_add]; simpa using hf
    · cases hf

/-- append of all of a slice to one's own, elements of k cells. -/
theorem wpL_appK {P : Program} {w : World} {ops : Array Oper} {rest : List Oper} {dst : Option Tmp} {ty : TypeId} {pos : String} {af : Array Edge} {a : Act} {Q : Exit → Act → World → Prop}
    {s x : Operand} {t e : TypeId} {z : Value} {k bytes : Nat} (hk : 0 < k) (B : Nat) (v : Value) (n : Nat) (vs : List (List Value)) (ao : Option Addr) (m c : Nat) (us : List (List Value))
    (hinfo : (P.info? e).map (fun i => (i.zero, i.size, i.bytes)) = some (some z, k, bytes)) (ht : P.underlying t = some (.slice e)) (hzs : z.cells.size = k)
    (hs : a.eval s = v) (hx : a.eval x = .slice ao m c) (hu : ∀ u ∈ us.flatten, u.oneCell' = true) (hur : ∀ r ∈ us, r.length = k)
    (hown : w.ownsRow B e k v n vs.flatten) (hsl : SlT w k ao m c us) (hB : B ≤ w.heap.size) (hn : (n + m) * bytes ≤ 140737488355328) (hn' : n + m ≤ 9223372036854775807) {W : World} (hb : Below B W w)
    (hK : ∀ a' c' w1, w1.ownsRow B e k (.slice a' (n + m) c') (n + m) (vs ++ us).flatten → Below B W w1 → w.heap.size ≤ w1.heap.size → wpList P ops Q rest (a.put dst (.slice a' (n + m) c')) w1) :
    wpList P ops Q (⟨dst, .call { callee := .builtin .append, args := #[s, x], argTypes := #[t, t] }, ty, pos, af, none⟩ :: rest) a w := by
  obtain ⟨i, hi, hz0, hz1, hz2⟩ := info_parts hinfo
  have shape : ∀ {w : World} {v : Value} {n : Nat} {xs : List Value}, w.ownsRow B e k v n xs → ∃ a c, v = .slice a n c := by
    intro w v n xs h
    rcases h.2 with ⟨rfl, rfl⟩ | ⟨g, cap, cur, rfl, _⟩
    · exact ⟨none, 0, rfl⟩
    · exact ⟨_, _, rfl⟩
  cases ao with
  | none =>
    obtain ⟨rfl, rfl⟩ := hsl.bare rfl
    have hus : us = [] := List.eq_nil_of_length_eq_zero hsl.len
    subst hus
    refine wpList_append_own_none rfl s x t rfl B e i k ht hi v n vs.flatten hs hown hx ?_
    obtain ⟨a', c', rfl⟩ := shape hown
    exact hK a' c' w (by simpa using hown) hb (Nat.le_refl _)
  | some ad =>
    have hl : us.flatten.length = m * k := by rw [flat_len hur, hsl.len]
    refine wpList_append_own _ rfl s x t rfl B e i z k bytes ht hi hz0 hz1 hz2 hzs hk v n vs.flatten hs hown ad m c us.flatten hx hl ?_ hu
      (by unfold maxLen; omega) hn hB ?_
    · exact hsl.flat hk
    · intro v' w1 hown' hgrow _
      obtain ⟨a', c', rfl⟩ := shape hown'
      exact hK a' c' w1 (by rw [List.flatten_append]; exact hown') (below_own hown hgrow hb hB) hgrow.size

/-- w2 is as w from block N on. -/
structure Holds (N : Nat) (w w2 : World) : Prop where
  size : w.heap.size ≤ w2.heap.size
  block : ∀ k, N ≤ k → k < w.heap.size → w2.heap[k]? = w.heap[k]?

theorem Holds.refl (N : Nat) (w : World) : Holds N w w := ⟨Nat.le_refl _, fun _ _ _ => rfl⟩
theorem Holds.of {N : Nat} {w w2 : World} (h : Below w.heap.size w w2) : Holds N w w2 := ⟨h.size, fun k _ hk => h.block k hk⟩
theorem Holds.trans {N : Nat} {w w1 w2 : World} (h : Holds N w w1) (h2 : Holds N w1 w2) : Holds N w w2 :=
  ⟨Nat.le_trans h.size h2.size, fun k hn hk => (h2.block k hn (Nat.lt_of_lt_of_le hk h.size)).trans (h.block k hn hk)⟩
theorem Holds.set {N : Nat} {w w2 : World} (h : Holds N w w2) {a : Addr} (hb : a.block < N) (u : Value) : Holds N w (w2.setCell a u) := by
  refine ⟨by simpa [World.setCell] using h.size, fun k hn hk => ?_⟩
  simp only [World.setCell, Array.getElem?_modify]
  rw [if_neg (by omega)]
  exact h.block k hn hk
theorem Holds.own {w w2 : World} {N B : Nat} {e : TypeId} {size : Nat} {v : Value} {n : Nat} {vs : List Value} (hk : Holds N w w2) (h : w.ownsRow B e size v n vs) (hN : N ≤ B) : w2.ownsRow B e size v n vs := by
  refine ⟨h.1, ?_⟩
  rcases h.2 with hn | ⟨g, cap, cur, rfl, hg, hh, r⟩
  · exact .inl hn
  · exact .inr ⟨g, cap, cur, rfl, hg, by rw [hk.block g (by omega) (Array.getElem?_eq_some_iff.1 hh).1]; exact hh, r⟩

/-- The first m cells of a slice may be written; they lie in a block from B to N. -/
def Writes (w : World) (B N : Nat) (a : Option Addr) (m : Nat) : Prop := m = 0 ∨ ∃ g, a = some ⟨g, 0, none⟩ ∧ B ≤ g ∧ g < N ∧ ∀ j, j < m → (∃ u, w.cell? ⟨g, j, none⟩ = some u) ∧ w.frozen? ⟨g, j, none⟩ = false

theorem Writes.set {w : World} {B N : Nat} {a : Option Addr} {m : Nat} (h : Writes w B N a m) (p : Addr) (u : Value) : Writes (w.setCell p u) B N a m := by
  rcases h with h | ⟨g, ha, h1, h2, hc⟩
  · exact .inl h
  · refine .inr ⟨g, ha, h1, h2, fun j hj => ⟨?_, by rw [World.frozen?_setCell]; exact (hc j hj).2⟩⟩
    obtain ⟨x, hx⟩ := (hc j hj).1
    exact cell?_setCell_some hx

theorem Writes.of {w : World} {B : Nat} {e : TypeId} {k : Nat} {a : Option Addr} {n c : Nat} {vs : List Value} (h : w.ownsRow B e k (.slice a n c) n vs) : Writes w B w.heap.size a (n * k) := by
  rcases h.2 with ⟨_, rfl⟩ | ⟨g, cap, cur, hv, hg, hh, hnc, hcap, hcur, htake⟩
  · exact .inl (by simp)
  · simp only [Value.slice.injEq, true_and] at hv
    obtain ⟨rfl, rfl⟩ := hv
    refine .inr ⟨g, rfl, hg, (Array.getElem?_eq_some_iff.1 hh).1, fun j hj => ⟨?_, ?_⟩⟩
    · rw [cell_of_row _ g j cur e _ hh]
      have hlt : j < cur.size := by rw [hcur]; exact Nat.lt_of_lt_of_le hj (Nat.mul_le_mul_right _ hnc)
      exact ⟨cur[j], by simp [hlt]⟩
    · simp [World.frozen?, hh]

theorem Writes.next {w w' : World} {B N : Nat} {a : Option Addr} {m : Nat} (h : Writes w B N a m) (hN : N ≤ w.heap.size) (hb : Below w.heap.size w w') : Writes w' B N a m := by
  rcases h with h | ⟨g, ha, h1, h2, hc⟩
  · exact .inl h
  · refine .inr ⟨g, ha, h1, h2, fun j hj => ⟨?_, ?_⟩⟩
    · obtain ⟨x, hx⟩ := (hc j hj).1
      exact ⟨x, (hb.cell (p := ⟨g, j, none⟩) (Nat.lt_of_lt_of_le h2 hN)).trans hx⟩
    · exact ((bcell hb).2 g j (Nat.lt_of_lt_of_le h2 hN)).trans (hc j hj).2
end Base
end Go.Proofs.YtninglnchengeaaGreatDoor

/-
  A circuit in memory of one's own; a box of cells that may be written.
-/
namespace Go.Proofs.YtninglnchengeaaGreatDoor
open Go.RowKit Base
set_option linter.unusedVariables false
set_option linter.unusedSimpArgs false
namespace Circuit

/-- All seven parts lie in memory from block B on, each its own. -/
structure OwnC (w : World) (B : Nat) (x : Circ) (p : At) : Prop where
  ins : w.ownsRow B 3 1 (.slice p.a1 x.ins.length p.c1) x.ins.length (ints x.ins)
  lats : w.ownsRow B 37 3 (.slice p.a2 x.lats.length p.c2) x.lats.length (tris x.lats).flatten
  outs : w.ownsRow B 3 1 (.slice p.a3 x.outs.length p.c3) x.outs.length (ints x.outs)
  bads : w.ownsRow B 3 1 (.slice p.a4 x.bads.length p.c4) x.bads.length (ints x.bads)
  invs : w.ownsRow B 3 1 (.slice p.a5 x.invs.length p.c5) x.invs.length (ints x.invs)
  ands : w.ownsRow B 62 3 (.slice p.a6 x.ands.length p.c6) x.ands.length (tris x.ands).flatten
  names : w.ownsRow B 92 3 (.slice p.a7 x.names.length p.c7) x.names.length (namesV x.names).flatten

theorem own_sl' {w : World} {B : Nat} {e : TypeId} {a : Option Addr} {n c : Nat} {vs : List Value} (h : w.ownsRow B e 1 (.slice a n c) n vs) : Sl w a n c vs := by
  obtain ⟨a', c', hv, hs⟩ := own_sl h
  simp only [Value.slice.injEq, true_and] at hv
  obtain ⟨rfl, rfl⟩ := hv
  exact hs
theorem own_slT' {w : World} {B : Nat} {e : TypeId} {a : Option Addr} {n c : Nat} {vs : List (List Value)} (hr : ∀ r ∈ vs, r.length = 3) (hn : vs.length = n) (h : w.ownsRow B e 3 (.slice a n c) n vs.flatten) : SlT w 3 a n c vs := by
  obtain ⟨a', c', hv, hs⟩ := own_slT (by decide) hr hn h
  simp only [Value.slice.injEq, true_and] at hv
  obtain ⟨rfl, rfl⟩ := hv
  exact hs

theorem OwnC.inC {w : World} {B : Nat} {x : Circ} {p : At} (h : OwnC w B x p) : InCirc w x p :=
  ⟨own_sl' h.ins, own_slT' (tris_row _) (tris_len _) h.lats, own_sl' h.outs, own_sl' h.bads, own_sl' h.invs, own_slT' (tris_row _) (tris_len _) h.ands, own_slT' (names_row _) (names_len _) h.names⟩
theorem OwnC.next {w w' : World} {B : Nat} {x : Circ} {p : At} (h : OwnC w B x p) (hb : Below w.heap.size w w') : OwnC w' B x p :=
  ⟨own_next h.ins hb, own_next h.lats hb, own_next h.outs hb, own_next h.bads hb, own_next h.invs hb, own_next h.ands hb, own_next h.names hb⟩
theorem OwnC.mono {w : World} {B B' : Nat} {x : Circ} {p : At} (h : OwnC w B x p) (hB : B' ≤ B) : OwnC w B' x p :=
  ⟨own_mono h.ins hB, own_mono h.lats hB, own_mono h.outs hB, own_mono h.bads hB, own_mono h.invs hB, own_mono h.ands hB, own_mono h.names hB⟩
theorem OwnC.holds {w w' : World} {B N : Nat} {x : Circ} {p : At} (h : OwnC w B x p) (hk : Holds N w w') (hN : N ≤ B) : OwnC w' B x p :=
  ⟨hk.own h.ins hN, hk.own h.lats hN, hk.own h.outs hN, hk.own h.bads hN, hk.own h.invs hN, hk.own h.ands hN, hk.own h.names hN⟩

theorem OwnC.set {w : World} {B : Nat} {x : Circ} {p : At} (h : OwnC w B x p) {a : Addr} (ha : a.block < B) (u : Value) : OwnC (w.setCell a u) B x p :=
  ⟨ownsRow_setCell_below h.ins ha u, ownsRow_setCell_below h.lats ha u, ownsRow_setCell_below h.outs ha u, ownsRow_setCell_below h.bads ha u, ownsRow_setCell_below h.invs ha u, ownsRow_setCell_below h.ands ha u, ownsRow_setCell_below h.names ha u⟩

/-- Each part is small enough to be made anew. -/
structure Fits (x : Circ) : Prop where
  ins : x.ins.length * 8 ≤ 140737488355328
  lats : x.lats.length * 24 ≤ 140737488355328
  outs : x.outs.length * 8 ≤ 140737488355328
  bads : x.bads.length * 8 ≤ 140737488355328
  invs : x.invs.length * 8 ≤ 140737488355328
  ands : x.ands.length * 24 ≤ 140737488355328
  names : x.names.length * 40 ≤ 140737488355328

/-- Block N holds these cells, and may be written. -/
structure BoxN (N : Nat) (cs : List Value) (w : World) : Prop where
  lt : N < w.heap.size
  at' : ∀ j u, cs[j]? = some u → w.cell? ⟨N, j, none⟩ = some u
  fz : ∀ j, w.frozen? ⟨N, j, none⟩ = false

theorem BoxN.new (w : World) (cs : Array Value) (t : TypeId) : BoxN w.heap.size cs.toList (w.alloc (.cells cs t)) := by
  refine ⟨by simp, fun j u hu => ?_, fun j => by simp [go_sem]⟩
  simp [go_sem]
  simpa using hu

theorem BoxN.next {N : Nat} {cs : List Value} {w w' : World} (h : BoxN N cs w) {B : Nat} (hb : Below B w w') (hB : N < B) : BoxN N cs w' :=
  ⟨Nat.lt_of_lt_of_le h.lt hb.size, fun j u hu => (hb.cell (p := ⟨N, j, none⟩) hB).trans (h.at' j u hu), fun j => (hb.frozen (p := ⟨N, j, none⟩) hB).trans (h.fz j)⟩

theorem BoxN.holds {N : Nat} {cs : List Value} {w w' : World} (h : BoxN N cs w) {B : Nat} (hb : Holds B w w') (hB : B ≤ N) : BoxN N cs w' := by
  have hblk := hb.block N hB h.lt
  refine ⟨Nat.lt_of_lt_of_le h.lt hb.size, fun j u hu => ?_, fun j => ?_⟩
  · exact (World.cell?_of_block (w := w) (a := ⟨N, j, none⟩) hblk).trans (h.at' j u hu)
  · exact (World.frozen?_of_block (w := w) (a := ⟨N, j, none⟩) hblk).trans (h.fz j)

theorem BoxN.set {N : Nat} {cs : List Value} {w : World} (h : BoxN N cs w) (j : Nat) (u : Value) : BoxN N (cs.set j u) (w.setCell ⟨N, j, none⟩ u) := by
  refine ⟨by simpa [World.setCell] using h.lt, fun i v hv => ?_, fun i => by rw [World.frozen?_setCell]; exact h.fz i⟩
  by_cases hij : j = i
  · subst hij
    obtain ⟨hl, he⟩ := List.getElem?_eq_some_iff.1 hv
    rw [List.length_set] at hl
    have h0 := h.at' j cs[j] (List.getElem?_eq_getElem hl)
    have : v = u := by rw [← he]; simp
    subst this
    exact World.cell?_setCell_same' _ _ _ (by rw [h0]; rfl)
  · rw [List.getElem?_set_ne hij] at hv
    rw [World.cell?_setCell_other _ _ _ _ (by intro e; simp only [Addr.mk.injEq, and_true, true_and] at e; exact hij e)]
    exact h.at' i v hv

theorem BoxN.other {N : Nat} {cs : List Value} {w : World} (h : BoxN N cs w) {a : Addr} (ha : a.block ≠ N) (u : Value) : BoxN N cs (w.setCell a u) := by
  refine ⟨by simpa [World.setCell] using h.lt, fun i v hv => ?_, fun i => by rw [World.frozen?_setCell]; exact h.fz i⟩
  rw [World.cell?_setCell_other _ _ _ _ (by intro e; apply ha; rw [e])]
  exact h.at' i v hv
end Circuit
end Go.Proofs.YtninglnchengeaaGreatDoor

/-
  What stays when one block is written.
-/
namespace Go.Proofs.YtninglnchengeaaGreatDoor
open Go.RowKit Base
set_option linter.unusedVariables false
set_option linter.unusedSimpArgs false
namespace StrashP
open Circuit

/-- w2 is as w, but for one block. -/
structure OffB (b : Nat) (w w2 : World) : Prop where
  os : w2.os = w.os
  tape : w2.tape = w.tape
  output : w2.output = w.output
  size : w.heap.size ≤ w2.heap.size
  block : ∀ k, k < w.heap.size → k ≠ b → w2.heap[k]? = w.heap[k]?

theorem OffB.refl (b : Nat) (w : World) : OffB b w w := ⟨rfl, rfl, rfl, Nat.le_refl _, fun _ _ _ => rfl⟩
theorem OffB.trans {b : Nat} {w1 w2 w3 : World} (h : OffB b w1 w2) (h2 : OffB b w2 w3) : OffB b w1 w3 :=
  ⟨h2.os.trans h.os, h2.tape.trans h.tape, h2.output.trans h.output, Nat.le_trans h.size h2.size, fun k hk hne => (h2.block k (Nat.lt_of_lt_of_le hk h.size) hne).trans (h.block k hk hne)⟩
theorem OffB.below {b : Nat} {w w2 w3 : World} (h : OffB b w w2) (hb : Below w2.heap.size w2 w3) : OffB b w w3 :=
  ⟨hb.os.trans h.os, hb.tape.trans h.tape, hb.output.trans h.output, Nat.le_trans h.size hb.size, fun k hk hne => (hb.block k (Nat.lt_of_lt_of_le hk h.size)).trans (h.block k hk hne)⟩
theorem OffB.set {b : Nat} {w w2 : World} (h : OffB b w w2) (j : Nat) (u : Value) : OffB b w (w2.setCell ⟨b, j, none⟩ u) :=
  ⟨h.os, h.tape, h.output, by simpa [World.setCell] using h.size, fun k hk hne => (Below.heap_setCell w2 ⟨b, j, none⟩ u k hne).trans (h.block k hk hne)⟩
theorem OffB.grown {b : Nat} {w w2 w3 : World} (h : OffB b w w2) {row : Option Nat} (hg : w2.grownBy w3 row) (hr : ∀ k, row = some k → w.heap.size ≤ k) : OffB b w w3 :=
  ⟨hg.os.trans h.os, hg.tape.trans h.tape, hg.output.trans h.output, Nat.le_trans h.size hg.size, fun k hk hne => (hg.block k (Nat.lt_of_lt_of_le hk h.size) (fun e => by have := hr k e.symm; omega)).trans (h.block k hk hne)⟩
theorem OffB.put {b : Nat} {w w2 w3 : World} (h : OffB b w w2) (hg : w2.grownBy w3 (some b)) : OffB b w w3 :=
  ⟨hg.os.trans h.os, hg.tape.trans h.tape, hg.output.trans h.output, Nat.le_trans h.size hg.size, fun k hk hne => (hg.block k (Nat.lt_of_lt_of_le hk h.size) (by simpa using hne)).trans (h.block k hk hne)⟩
theorem OffB.own {b : Nat} {w w2 : World} (h : OffB b w w2) {B : Nat} {e : TypeId} {size : Nat} {v : Value} {n : Nat} {vs : List Value} (ho : w.ownsRow B e size v n vs) (hne : v.ownBlock ≠ some b) : w2.ownsRow B e size v n vs := by
  refine ⟨ho.1, ?_⟩
  rcases ho.2 with hn | ⟨g, cap, cur, hv, hb, hh, r⟩
  · exact .inl hn
  · refine .inr ⟨g, cap, cur, hv, hb, ?_, r⟩
    rw [h.block g (Array.getElem?_eq_some_iff.1 hh).1 (by rintro rfl; exact hne (by rw [hv]; rfl))]
    exact hh
theorem OffB.base {b : Nat} {w w2 : World} (h : OffB b w w2) {B : Nat} {w0 : World} (h0 : Below B w0 w) (hB : B ≤ w.heap.size) (hb : B ≤ b) : Below B w0 w2 :=
  ⟨h.os.trans h0.os, h.tape.trans h0.tape, h.output.trans h0.output, Nat.le_trans h0.size h.size, fun k hk => (h.block k (by omega) (by omega)).trans (h0.block k hk)⟩
theorem OffB.box {b : Nat} {w w2 : World} (h : OffB b w w2) {N : Nat} {cs : List Value} (hx : BoxN N cs w) (hne : N ≠ b) : BoxN N cs w2 := by
  have hblk := h.block N hx.lt hne
  refine ⟨Nat.lt_of_lt_of_le hx.lt h.size, fun j u hu => ?_, fun j => ?_⟩
  · exact (World.cell?_of_block (w := w) (a := ⟨N, j, none⟩) hblk).trans (hx.at' j u hu)
  · exact (World.frozen?_of_block (w := w) (a := ⟨N, j, none⟩) hblk).trans (hx.fz j)
theorem own_not {w : World} {B : Nat} {e : TypeId} {size : Nat} {v : Value} {n : Nat} {vs : List Value} (h : w.ownsRow B e size v n vs) {N : Nat} (hN : w.heap.size ≤ N) : v.ownBlock ≠ some N := by
  intro e
  have := (h.lt N e).2
  omega
theorem own_not' {w : World} {B : Nat} {e : TypeId} {size : Nat} {v : Value} {n : Nat} {vs : List Value} (h : w.ownsRow B e size v n vs) {N : Nat} (hN : N < B) : v.ownBlock ≠ some N := by
  intro e
  have := (h.lt N e).1
  omega

end StrashP
end Go.Proofs.YtninglnchengeaaGreatDoor

/-
  coi.needs.has, add.
-/
namespace Go.Proofs.YtninglnchengeaaGreatDoor
open Go.RowKit Base Go.Maps
set_option linter.unusedVariables false
set_option linter.unusedSimpArgs false
namespace Coi
open Circuit SetI StrashP

theorem var_i64 {l : Int} (h0 : -9223372036854775808 ≤ l) (h1 : l ≤ 9223372036854775807) : SetI.I64 (var l) := by unfold SetI.I64 var; omega

set_option maxHeartbeats 1000000 in
theorem has_any (w : World) {b n : Nat} {X : List Int} (h : SetK w b n X) (l : Int) (h0 : -9223372036854775808 ≤ l) (h1 : l ≤ 9223372036854775807) :
    Calls Tryz.prog 28 #[.map (some b), .int .i64 l] w fun e w' => e = .returned (.bool (inX X (var l))) ∧ w = w' := by
  have hl := look w h (var_i64 h0 h1)
  have VA := Lib.hid (var_any l h0 h1 w)
  generalize var l = v at *
  generalize inX X v = q at *
  clear h
  go_enter Tryz.func28, Tryz.ntmps28
  go_wp2_with fail
  with_reducible refine VA.out.mono ?_
  rintro e w2 ⟨rfl, rfl⟩
  go_wp2_with fail
  go_ret
  exact ⟨rfl, rfl⟩

def insAll (X T : List Int) : List Int := T.foldl ins X
theorem insAll_snoc (X T : List Int) (y : Int) : insAll X (T ++ [y]) = ins (insAll X T) y := by unfold insAll; rw [List.foldl_append]; rfl
theorem insAll_nodup (X T : List Int) (h : X.Nodup) : (insAll X T).Nodup := by
  induction T generalizing X with
  | nil => exact h
  | cons y r ih => exact ih _ (ins_nodup h y)
theorem insAll_mem (X T : List Int) (v : Int) : v ∈ insAll X T ↔ v ∈ X ∨ v ∈ T := by
  induction T generalizing X with
  | nil => simp [insAll]
  | cons y r ih =>
    show v ∈ insAll (ins X y) r ↔ _
    rw [ih, ins_mem, List.mem_cons]
    constructor
    · rintro ((h | h) | h)
      · exact Or.inl h
      · exact Or.inr (Or.inl h)
      · exact Or.inr (Or.inr h)
    · rintro (h | h | h)
      · exact Or.inl (Or.inl h)
      · exact Or.inl (Or.inr h)
      · exact Or.inr h
theorem ins_len (X : List Int) (y : Int) : X.length ≤ (ins X y).length ∧ (ins X y).length ≤ X.length + 1 := by
  unfold ins
  split
  · omega
  · simp
theorem insAll_len (X T : List Int) : X.length ≤ (insAll X T).length ∧ (insAll X T).length ≤ X.length + T.length := by
  induction T generalizing X with
  | nil => simp [insAll]
  | cons y r ih =>
    have h1 := ins_len X y
    have h2 := ih (ins X y)
    have e : insAll X (y :: r) = insAll (ins X y) r := rfl
    rw [e, List.length_cons]
    omega
/-- If it has not grown, nothing was new. -/
theorem insAll_same (X T : List Int) (h : (insAll X T).length ≤ X.length) : ∀ v ∈ T, v ∈ X := by
  induction T generalizing X with
  | nil => intro v hv; cases hv
  | cons y r ih =>
    have h1 := ins_len X y
    have h2 := insAll_len (ins X y) r
    have e : insAll X (y :: r) = insAll (ins X y) r := rfl
    rw [e] at h
    have hy : y ∈ X := by
      have : (ins X y).length = X.length := by omega
      unfold ins at this
      split at this
      · rename_i hq; exact inX_iff.1 hq
      · simp at this
    have hi : ins X y = X := by unfold ins; rw [if_pos (inX_iff.2 hy)]
    rw [hi] at h
    intro v hv
    rcases List.mem_cons.1 hv with rfl | hv
    · exact hy
    · exact ih X h v hv

theorem insAll_id (X T : List Int) (h : ∀ v ∈ T, v ∈ X) : insAll X T = X := by
  induction T with
  | nil => rfl
  | cons y r ih =>
    show insAll (ins X y) r = X
    have hi : ins X y = X := by unfold ins; rw [if_pos (inX_iff.2 (h y List.mem_cons_self))]
    rw [hi]
    exact ih fun v hv => h v (List.mem_cons_of_mem _ hv)

/-- What add leaves. -/
def AddOut (w : World) (b : Nat) (x : Circ) (l X : List Int) (e : Ending) (w' : World) : Prop :=
  ∃ X2, e = .returned (.bool (decide (X.length < X2.length))) ∧ SetK w' b X2.length X2 ∧ Adds x l X X2 ∧ (X2.length ≤ X.length → X2 = X ∧ ∀ v, v ≠ 0 → Rch x.ands l v → v ∈ X) ∧ OffB b w w'

set_option maxRecDepth 8000 in
set_option maxHeartbeats 4000000 in
theorem add_any (w : World) (x : Circ) (p : At) (hin : InCirc w x p) (hwa : WfT x.ands) {b : Nat} {X : List Int} (hset : SetK w b X.length X) (hnd : X.Nodup) (a : Option Addr) (c : Nat) (l : List Int) (hsl : Sl w a l.length c (ints l)) (hl : ∀ y ∈ l, Circuit.I64 y)
    (hsz : (2 * l.length + 2 * x.ands.length + 2) * 8 ≤ 140737488355328) (hX : X.length ≤ 1099511627776000) :
    Calls Tryz.prog 56 #[.map (some b), .agg (cells x p), .slice a l.length c] w (AddOut w b x l X) := by
  obtain ⟨W1, hW1⟩ : ∃ W1, w.alloc (.cells (cells x p) 27) = W1 := ⟨_, rfl⟩
  obtain ⟨hb1, hc1⟩ := cbox_new w x p W1 hW1
  have hset1 := hset.next hb1
  have hlen1 := fun ty => len W1 hset1 ty
  have HCO := Lib.hid (cone_any W1 x p (hin.next hb1) hwa a c l (hsl.next hb1) hl hsz)
  have HB1 := Lib.hid hb1
  have HSET := Lib.hid hset1
  have HND := Lib.hid hnd
  have HXL := Lib.hid hX
  have HSZ := Lib.hid hsz
  have k0 := hc1.k0
  have k1 := hc1.k1
  have k2 := hc1.k2
  have k3 := hc1.k3
  have k4 := hc1.k4
  have k5 := hc1.k5
  have k6 := hc1.k6
  have k7 := hc1.k7
  have HBL : Hid (b < w.heap.size) := by
    obtain ⟨D, ho, _⟩ := hset
    exact ho.lt
  have HWL : Hid (∀ v, Rch x.ands l v → SetI.I64 v) := fun v hv => by
    cases hv with
    | lit ht => exact var_i64 (hl _ ht).1 (hl _ ht).2
    | left _ _ hg => exact var_i64 (hwa _ (gate_mem hg)).2.1.1 (hwa _ (gate_mem hg)).2.1.2
    | right _ _ hg => exact var_i64 (hwa _ (gate_mem hg)).2.2.1 (hwa _ (gate_mem hg)).2.2.2
  obtain ⟨a1, c1, a2, c2, a3, c3, a4, c4, a5, c5, a6, c6, a7, c7⟩ := p
  simp only [cells] at *
  have HHCO := HCO
  clear hin hwa hset hset1 hnd hsl hl hsz hX hb1 hc1 HCO
  go_enter Tryz.func56, Tryz.ntmps56
  go_wp2_with fail
  with_reducible refine HHCO.out.mono ?_
  rintro e w3 ⟨a', c', T, rfl, hownT, hpT, hmT, hb3⟩
  have HT64 : Hid (∀ v ∈ T, SetI.I64 v) := fun v hv => HWL.out v ((hmT v).1 hv).2
  have HMT := Lib.hid hmT
  have HOWN := Lib.hid hownT
  have hoff3 : OffB b w w3 := ((OffB.refl b w).below HB1.out).below hb3
  have HOFF3 := Lib.hid hoff3
  have hset3 := HSET.out.next hb3
  have hTl := hownT
  have HTF : Hid (T.length ≤ 17592186044416) := by
    show _ ≤ _
    have hnd : T.Nodup := hpT.imp fun {a b} h => by omega
    have h1 := nodup_len hnd (C := cands x.ands l) (fun v hv => rch_cand ((hmT v).1 hv).2)
    unfold cands at h1
    simp only [List.length_append, List.length_map] at h1
    have := HSZ.out
    omega
  have HNE : Hid ((Value.slice a' T.length c').ownBlock ≠ some b) := own_not' hownT (Nat.lt_of_lt_of_le HBL.out HB1.out.size)
  have HSET3 := Lib.hid hset3
  have hsl3 := own_sl' hownT
  have hcap := hsl3.cap
  have hbig := hsl3.big
  obtain ⟨m, hm⟩ : ∃ m, T.length = m := ⟨_, rfl⟩
  obtain ⟨xl, hxl⟩ : ∃ m, X.length = m := ⟨_, rfl⟩
  have HM := Lib.hid hm
  have HXLM := Lib.hid hxl
  rw [hm] at hcap
  rw [hm, hxl]
  clear hm hxl hpT hmT hb3 hoff3 hset3 hTl hlen1 hownT hsl3 k0 k1 k2 k3 k4 k5 k6 k7 hW1
  go_wp2_with fail
  go_loopw [16] (fun i wr => ∃ k : Nat, k ≤ m ∧ i = .int .i64 k ∧ Hid (SetK wr b (xl + k) (insAll X (T.take k))) ∧ Hid (OffB b w3 wr)) (fun i _ => m - (intOf i).toNat)
  case atStart => exact ⟨0, Nat.zero_le _, rfl, by show SetK _ _ _ _; rw [← HXLM.out]; exact HSET3.out, OffB.refl _ _⟩
  case round =>
    obtain ⟨k, hk, rfl, hS, hO⟩ := hrel
    by_cases hlt : k < m
    · have hs := own_sl' (hO.out.own HOWN.out HNE.out)
      have hlt2 : k < T.length := by have := HM.out; omega
      obtain ⟨b1, o1, hx, rfl, hbs, hc⟩ := hs.int hlt2
      have h64 := HT64.out T[k] (List.getElem_mem hx)
      have HIN := Lib.hid (insAll_snoc X (T.take k) T[k])
      have HTK := Lib.hid (List.take_succ_eq_append_getElem hx)
      generalize T[k] = v at *
      obtain ⟨w5, hrun, hs5, hg5⟩ := store hS.out (insAll_nodup _ _ HND.out) h64 (by have := HXL.out; have := HXLM.out; have := HTF.out; omega)
      have HS5 : Hid (SetK w5 b (xl + (k + 1)) (insAll X (T.take (k + 1)))) := by
        show SetK _ _ _ _
        rw [HTK.out, HIN.out]
        exact hs5
      have HO5 := Lib.hid (hO.out.put hg5)
      clear hs hs5 hg5 h64 hS hO hlt2
      go_wp2_with fail
      go_roundw
      case rel => exact ⟨k + 1, by omega, by go_num, HS5, HO5⟩
      case measure => simp [intOf]; omega
    · have hkm : k = m := by omega
      subst hkm
      have htk : T.take k = T := List.take_of_length_le (Nat.le_of_eq HM.out)
      have hS' := hS.out
      rw [htk] at hS'
      have hln := fun ty => len wr hS' ty
      have HSF := Lib.hid hS'
      have HLN := insAll_len X T
      generalize hX2 : insAll X T = X2 at *
      have HX2 := Lib.hid hX2
      have HOF := Lib.hid (HOFF3.out.trans hO.out)
      clear htk hS' hS hO hX2 HLN
      go_wp2_with fail
      go_ret
      refine ⟨X2, ?_, tight HSF.out, ⟨by rw [← HX2.out]; exact insAll_nodup _ _ HND.out, fun v => by rw [← HX2.out, insAll_mem, HMT.out]⟩, fun hle => ?_, HOF.out⟩
      · rw [HXLM.out]
        simp
      · have h1 := insAll_same X T (by rw [HX2.out]; exact hle)
        exact ⟨by rw [← HX2.out]; exact insAll_id X T h1, fun v h0 hv => h1 v ((HMT.out v).2 ⟨h0, hv⟩)⟩
end Coi
end Go.Proofs.YtninglnchengeaaGreatDoor

/-
  slices.Clone at one instance (elements of one cell): a slice of its own with the same elements; of nil nil.
-/
namespace Go.Proofs.YtninglnchengeaaGreatDoor
open Go.RowKit Base
set_option linter.unusedVariables false
namespace CloneR

theorem info : (Tryz.prog.info? 22).map (fun i => (i.zero, i.size, i.bytes)) = some (some (.slice none 0 0), 1, 24) := by kernel_rfl

set_option maxHeartbeats 1000000 in
theorem clone (w : World) (a : Option Addr) (n c : Nat) (vs : List Value) (hsl : Sl w a n c vs) (h1 : ∀ u ∈ vs, u.oneCell' = true) (hn : n * 24 ≤ 140737488355328) :
    Calls Tryz.prog 58 #[.slice a n c] w fun e w' => ∃ a' c', e = .returned (.slice a' n c') ∧ w'.ownsRow w.heap.size 22 1 (.slice a' n c') n vs ∧ Below w.heap.size w w' := by
  have heq := fun (W : World) (x : Option Addr) => Lib.run_eql_slice_nil (P := Tryz.prog) W 41 22 x n c 0 0 Tryz.underlying41
  cases a with
  | none =>
    obtain ⟨rfl, rfl⟩ := hsl.bare rfl
    have hv : vs = [] := List.eq_nil_of_length_eq_zero hsl.len
    subst hv
    go_enter Tryz.func58, Tryz.ntmps58
    go_wp2_with fail
    go_ret
    exact ⟨none, 0, rfl, World.ownsRow_nil _ _ _ _, Below.refl _ _⟩
  | some ad =>
    have hal : Below w.heap.size w (w.alloc (.cells #[] 22)) := (Below.refl _ _).alloc (Nat.le_refl _) _
    have hsl' := hsl.next hal
    have hown : (w.alloc (.cells #[] 22)).ownsRow w.heap.size 22 1 (.slice (some ⟨w.heap.size, 0, none⟩) 0 0) 0 [] := World.ownsRow_lit w #[] 0 (Nat.le_refl _) (by unfold maxLen; omega) rfl
    have H1 := Lib.hid h1
    clear h1 hsl
    go_enter Tryz.func58, Tryz.ntmps58
    go_wp2_with ((with_reducible refine wpL_app (B := w.heap.size) (W := w) _ 0 [] _ n c vs info Tryz.underlying41 ?_ ?_ ?_ H1.out hown hsl' ?_ ?_ ?_ hal ?_); rfl; rfl; rfl; exact hal.size; omega; omega; (rw [Nat.zero_add, List.nil_append]; intro a2 c2 w2 hown2 hb2 _))
    go_ret
    exact ⟨a2, c2, rfl, hown2, hb2⟩
end CloneR
end Go.Proofs.YtninglnchengeaaGreatDoor

/-
  slices.Concat at one instance (elements of one cell), and slices.Grow of nil.
-/
namespace Go.Proofs.YtninglnchengeaaGreatDoor
open Go.RowKit Base
set_option linter.unusedVariables false
namespace ConcatI

theorem info : (Tryz.prog.info? 3).map (fun i => (i.zero, i.size, i.bytes)) = some (some (.int .i64 0), 1, 8) := by kernel_rfl

set_option maxRecDepth 10000 in
set_option maxHeartbeats 1000000 in
/-- Grow of nil: nothing is owned yet; the capacity is the run's. -/
theorem grow (w : World) (n : Nat) (hn : n * 8 ≤ 140737488355328) (hn' : n ≤ 4611686018427387904) :
    Calls Tryz.prog 86 #[.slice none 0 0, .int .i64 n] w fun e w' => ∃ a' c', e = .returned (.slice a' 0 c') ∧ w'.ownsRow w.heap.size 3 1 (.slice a' 0 c') 0 [] ∧ Below w.heap.size w w' := by
  by_cases h0 : n = 0
  · subst h0
    go_enter Tryz.func86, Tryz.ntmps86
    go_wp2_with fail
    go_ret
    exact ⟨none, 0, rfl, World.ownsRow_nil _ _ _ _, Below.refl _ _⟩
  · obtain ⟨i, hi, hz0, hz1, hz2⟩ := info_parts info
    have hrun : ∀ ty, (Builtin.append_ #[22, 3] ty #[.slice none 0 0, .int .i64 n]).run Tryz.prog w =
        .ok (.slice (some ⟨w.heap.size, 0, none⟩) n (grownCap w n 0 3)) (w.drew.alloc (.cells (Builtin.zeroCells #[.int .i64 0] n ++ Builtin.zeroCells #[.int .i64 0] (grownCap w n 0 3 - n)) 3)) := fun ty => by
      have h := Lib.run_append_grow_zeros (P := Tryz.prog) w 22 3 ty 3 i (.int .i64 0) .i64 .i64 Tryz.underlying22 Tryz.underlying3 hi hz0 none 0 0 [] (run_firstCells_none w.drew i.size 0 0 0) n (by omega) (by omega) (by omega) (by omega) (by rw [hz2]; omega)
        (growslice_fits (by omega) (by rw [hz2, Nat.zero_add]; exact hn))
      rw [Nat.zero_add] at h
      have e : (.int .i64 0 : Value).cells = #[.int .i64 0] := rfl
      rw [e] at h
      simpa using h
    have hge : n ≤ grownCap w n 0 3 := grownCap_ge w n 0 _
    have hle : grownCap w n 0 3 ≤ 9223372036854775807 := grownCap_big w n _ (by omega)
    generalize grownCap w n 0 3 = G at *
    have hsz : (Builtin.zeroCells #[.int .i64 0] n ++ Builtin.zeroCells #[.int .i64 0] (G - n)).size = G * 1 := by
      rw [Array.size_append, size_zeroCells, size_zeroCells]; simp; omega
    have hown : (w.drew.alloc (.cells (Builtin.zeroCells #[.int .i64 0] n ++ Builtin.zeroCells #[.int .i64 0] (G - n)) 3)).ownsRow w.heap.size 3 1 (.slice (some ⟨w.heap.size, 0, none⟩) 0 G) 0 [] :=
      World.ownsRow_made w.drew _ G (Nat.le_refl _) (by unfold maxLen; omega) hsz
    have hb : Below w.heap.size w (w.drew.alloc (.cells (Builtin.zeroCells #[.int .i64 0] n ++ Builtin.zeroCells #[.int .i64 0] (G - n)) 3)) := (Below.refl _ _).drew.alloc (Nat.le_refl _) _
    generalize w.drew.alloc (.cells (Builtin.zeroCells #[.int .i64 0] n ++ Builtin.zeroCells #[.int .i64 0] (G - n)) 3) = w1 at *
    have HR := Lib.hid hrun
    have hcap : (0 : Nat) ≤ G := Nat.zero_le _
    clear hrun
    go_enter Tryz.func86, Tryz.ntmps86
    go_wp2_with (at_builtin; refine Lib.wpList_append_run _ rfl _ _ _ _ rfl _ _ rfl rfl _ _ (HR.out _) ?_)
    go_ret
    exact ⟨_, G, rfl, hown, hb⟩

/-- A list of slices, each with its elements. -/
def Parts (w : World) (vs : List Value) (us : List (List Value)) : Prop :=
  vs.length = us.length ∧ ∀ (k : Nat) (v : Value) (u : List Value), vs[k]? = some v → us[k]? = some u → ∃ a c, v = .slice a u.length c ∧ Sl w a u.length c u

theorem Parts.next {w w' : World} {vs : List Value} {us : List (List Value)} (h : Parts w vs us) (hb : Below w.heap.size w w') : Parts w' vs us :=
  ⟨h.1, fun k v u hv hu => by
    obtain ⟨a, c, rfl, hs⟩ := h.2 k v u hv hu
    exact ⟨a, c, rfl, hs.next hb⟩⟩

def tot (us : List (List Value)) : Nat := us.flatten.length

theorem tot_take (us : List (List Value)) (k : Nat) (hk : k < us.length) : tot (us.take (k + 1)) = tot (us.take k) + us[k].length := by
  unfold tot
  rw [List.take_succ_eq_append_getElem hk, List.flatten_append]
  simp

theorem tot_le (us : List (List Value)) (k : Nat) : tot (us.take k) ≤ tot us := by
  unfold tot
  conv => rhs; rw [← List.take_append_drop k us]
  rw [List.flatten_append, List.length_append]; omega

theorem flat_take (us : List (List Value)) (k : Nat) (hk : k < us.length) : (us.take (k + 1)).flatten = (us.take k).flatten ++ us[k] := by
  rw [List.take_succ_eq_append_getElem hk, List.flatten_append]
  simp

set_option maxHeartbeats 2000000 in
theorem concat (w : World) (a : Option Addr) (n c : Nat) (vs : List Value) (us : List (List Value)) (hsl : Sl w a n c vs) (hp : Parts w vs us) (h1 : ∀ u ∈ us, ∀ v ∈ u, v.oneCell' = true) (hn : tot us * 8 ≤ 140737488355328) (hn' : tot us ≤ 4611686018427387904) :
    Calls Tryz.prog 57 #[.slice a n c] w fun e w' => ∃ a' c', e = .returned (.slice a' (tot us) c') ∧ w'.ownsRow w.heap.size 3 1 (.slice a' (tot us) c') (tot us) us.flatten ∧ Below w.heap.size w w' := by
  have hlen : us.length = n := by rw [← hp.1, hsl.len]
  have HLEN := Lib.hid hlen
  have hcap := hsl.cap
  have hbig := hsl.big
  have HP := Lib.hid hp
  have H1 := Lib.hid h1
  have HN := Lib.hid hn
  have HN' := Lib.hid hn'
  clear hp h1 hn hn' hlen
  go_enter Tryz.func57, Tryz.ntmps57
  go_wp2_with fail
  go_loop [3, 11] (fun z i => ∃ k : Nat, k ≤ n ∧ i = .int .i64 k ∧ z = .int .i64 (tot (us.take k))) (fun _ i => n - (intOf i).toNat)
  case atStart => exact ⟨0, Nat.zero_le _, rfl, rfl⟩
  case round =>
    obtain ⟨k, hk, rfl, rfl⟩ := hrel
    by_cases hlt : k < n
    · obtain ⟨b, o, v, rfl, hbs, hv, hc⟩ := hsl.at hlt
      have hku : k < us.length := by rw [HLEN.out]; exact hlt
      obtain ⟨a', c', rfl, hs⟩ := HP.out.2 k v us[k] hv (List.getElem?_eq_getElem hku)
      have HT := Lib.hid (tot_take us k hku)
      have t1 : tot (us.take k) + us[k].length ≤ 4611686018427387904 := by
        have h1 := HT.out; have h2 := tot_le us (k + 1); have h3 := HN'.out; omega
      have HV := Lib.hid hv
      clear hv hs
      generalize us[k].length = m at *
      generalize tot (us.take k) = t at *
      go_wp2_with fail
      go_round
      case rel => exact ⟨k + 1, by omega, by go_num, by rw [HT.out]; go_num⟩
      case measure => simp [intOf]; omega
    · have e : us.take k = us := List.take_of_length_le (by rw [HLEN.out]; omega)
      rw [e]
      clear e
      have HG := Lib.hid (grow w (tot us) HN.out HN'.out)
      generalize hT : tot us = T at *
      have HTT := Lib.hid hT
      clear hT
      go_wp2_with fail
      refine HG.out.mono ?_
      rintro e w1 ⟨a1, c1, rfl, hown1, hb1⟩
      have hsl1 := hsl.next hb1
      have HP1 := Lib.hid (HP.out.next hb1)
      go_wp2_with fail
      go_loopw [6, 27] (fun s i wr => ∃ (k : Nat) (t : Nat), k ≤ n ∧ i = .int .i64 k ∧ Hid (t = tot (us.take k)) ∧ (∃ a' c', s = .slice a' t c' ∧ wr.ownsRow w.heap.size 3 1 (.slice a' t c') t (us.take k).flatten) ∧ Below w.heap.size w wr) (fun _ i _ => n - (intOf i).toNat)
      case atStart => exact ⟨0, 0, Nat.zero_le _, rfl, rfl, ⟨a1, c1, rfl, hown1⟩, hb1⟩
      case round =>
        obtain ⟨k, t, hk, rfl, ht, ⟨a2, c2, rfl, hown2⟩, hbr⟩ := hrel
        by_cases hlt : k < n
        · obtain ⟨b, o, v, rfl, hbs, hv, hc⟩ := hsl.at hlt
          have hku : k < us.length := by rw [HLEN.out]; exact hlt
          obtain ⟨a', c', rfl, hs⟩ := HP.out.2 k v us[k] hv (List.getElem?_eq_getElem hku)
          have hsr := hs.next hbr
          have hcr : wr.cell? ⟨b, o + k, none⟩ = some (.slice a' us[k].length c') := (hbr.cell (p := ⟨b, o + k, none⟩) hbs).trans hc
          have HT := Lib.hid (tot_take us k hku)
          have HF := Lib.hid (flat_take us k hku)
          have t1 : t + us[k].length ≤ T := by
            have h1 := HT.out; have h2 := tot_le us (k + 1); have h3 := HTT.out; have h4 := ht.out; omega
          have t2 : (t + us[k].length) * 8 ≤ 140737488355328 := by have := HN.out; omega
          have t3 : T ≤ 4611686018427387904 := HN'.out
          have HU := Lib.hid (H1.out _ (List.getElem_mem hku))
          have hbase := hbr.size
          clear hv hc hs
          generalize us[k] = u at *
          generalize hm : u.length = m at *
          have HM := Lib.hid hm
          clear hm
          go_wp2_with ((with_reducible refine wpL_app (B := w.heap.size) (W := w) _ t (us.take k).flatten _ m c' u info Tryz.underlying22 ?_ ?_ ?_ HU.out hown2 hsr ?_ ?_ ?_ hbr ?_); rfl; rfl; rfl; exact hbase; omega; omega; (intro a3 c3 w3 hown3 hb3 _))
          go_roundw
          case rel => exact ⟨k + 1, t + m, by omega, by go_num, by show _ = _; rw [HT.out, ht.out], ⟨a3, c3, by go_num, by rw [HF.out]; exact hown3⟩, hb3⟩
          case measure => simp [intOf]; omega
        · have e : us.take k = us := List.take_of_length_le (by rw [HLEN.out]; omega)
          have hT2 : t = T := by have h1 := ht.out; rw [e] at h1; rw [h1, HTT.out]
          rw [e] at hown2
          subst hT2
          go_wp2_with fail
          go_ret
          rw [HTT.out]
          exact ⟨a2, c2, rfl, hown2, hbr⟩
end ConcatI
end Go.Proofs.YtninglnchengeaaGreatDoor

/-
  append(append([]T{}, l...), x): its two makings and two appends, in whatever order they come: their runs. No program's function.
-/
namespace Go.Proofs.YtninglnchengeaaGreatDoor
open Go.RowKit Base
set_option linter.unusedVariables false
set_option linter.unusedSimpArgs false
namespace App2

theorem shape {w : World} {B : Nat} {e : TypeId} {k : Nat} {v : Value} {n : Nat} {xs : List Value} (h : w.ownsRow B e k v n xs) : ∃ a c, v = .slice a n c := by
  rcases h.2 with ⟨rfl, rfl⟩ | ⟨g, cap, cur, rfl, _⟩
  · exact ⟨none, 0, rfl⟩
  · exact ⟨_, _, rfl⟩

/-- append of a slice to a row of one's own: its run. -/
theorem runV {P : Program} {e t : TypeId} {k bytes : Nat} {z : Value} (ty : TypeId) (hk : 0 < k) (hinfo : (P.info? e).map (fun i => (i.zero, i.size, i.bytes)) = some (some z, k, bytes)) (ht : P.underlying t = some (.slice e)) (hzs : z.cells.size = k)
    (V : World) (B : Nat) (hB : B ≤ V.heap.size) (v : Value) (n : Nat) (vs : List (List Value)) (hown : V.ownsRow B e k v n vs.flatten) (ao : Option Addr) (m c : Nat) (us : List (List Value)) (hsl : SlT V k ao m c us) (hur : ∀ r ∈ us, r.length = k)
    (hu : ∀ u ∈ us.flatten, u.oneCell' = true) (hn : (n + m) * bytes ≤ 140737488355328) (hn' : n + m ≤ 9223372036854775807) :
    ∃ a' c' w1, (Builtin.append_ #[t, t] ty #[v, .slice ao m c]).run P V = .ok (.slice a' (n + m) c') w1 ∧ w1.ownsRow B e k (.slice a' (n + m) c') (n + m) (vs ++ us).flatten ∧ V.grownBy w1 v.ownBlock := by
  obtain ⟨i, hi, hz0, hz1, hz2⟩ := info_parts hinfo
  cases ao with
  | none =>
    obtain ⟨rfl, rfl⟩ := hsl.bare rfl
    have hus : us = [] := List.eq_nil_of_length_eq_zero hsl.len
    subst hus
    obtain ⟨a', c', rfl⟩ := shape hown
    exact ⟨a', c', V, run_append_owned_none (P := P) (w := V) B t ty e i k ht hi _ n _ hown, by simpa using hown, ⟨rfl, rfl, rfl, Nat.le_refl _, fun _ _ _ => rfl⟩⟩
  | some ad =>
    have hl : us.flatten.length = m * k := by rw [flat_len hur, hsl.len]
    obtain ⟨v', w1, hr, hown', hgrow, _, _⟩ := run_append_own_at (P := P) V B t ty e i z k bytes ht hi hz0 hz1 hz2 hzs hk v n vs.flatten hown ad m c us.flatten hl (hsl.flat hk) hu (by unfold maxLen; omega) hn hB
    obtain ⟨a', c', rfl⟩ := shape hown'
    exact ⟨a', c', w1, hr, by rw [List.flatten_append]; exact hown', hgrow⟩

theorem sl_grown {w w' : World} {k n c : Nat} {vs : List (List Value)} {g : Nat} (h : SlT w k (some ⟨g, 0, none⟩) n c vs) {ob : Option Nat} (hg : w.grownBy w' ob) (hne : some g ≠ ob) : SlT w' k (some ⟨g, 0, none⟩) n c vs :=
  ⟨h.len, h.cap, h.big, h.bare, fun i r hi => by
    obtain ⟨hl, b, o, ha, hs, hc⟩ := h.cell i r hi
    simp only [Option.some.injEq, Addr.mk.injEq] at ha
    obtain ⟨rfl, rfl, _⟩ := ha
    exact ⟨hl, g, 0, rfl, Nat.lt_of_lt_of_le hs hg.size, fun j x hx => (World.cell?_of_block (w := w) (a := ⟨g, 0 + i * k + j, none⟩) (hg.block g hs hne)).trans (hc j x hx)⟩⟩

theorem sl_one (w : World) (N : List Value) (e : TypeId) (k : Nat) (hN : N.length = k) : SlT (w.alloc (.cells N.toArray e)) k (some ⟨w.heap.size, 0, none⟩) 1 1 [N] :=
  ⟨rfl, Nat.le_refl _, by omega, fun h => (by cases h), fun i r hi => by
    obtain ⟨hi0, rfl⟩ := List.getElem?_eq_some_iff.1 hi
    have hi1 : i = 0 := by simp at hi0; omega
    subst hi1
    refine ⟨hN, w.heap.size, 0, rfl, by simp, fun j x hx => ?_⟩
    rw [World.cell?_alloc_new]
    simp at hx ⊢
    exact hx⟩

theorem exec_append {P : Program} {w : World} {o : Oper} {a : Act} {s x : Operand} {t : TypeId} {v vx v' : Value} {w' : World}
    (ho : o.op = .call { callee := .builtin .append, args := #[s, x], argTypes := #[t, t] }) (hs : a.eval s = v) (hx : a.eval x = vx)
    (hr : (Builtin.append_ #[t, t] o.type #[v, vx]).run P w = .ok v' w') : (execOp a.eval o).run P w = .ok (.value v') w' := by
  unfold execOp
  simp only [ho, resolve, invoke, builtin, Sem.run_bind, Sem.run_pure, Result.andThen_ok, List.map_toArray, List.map_cons, List.map_nil, hs, hx, hr]

def Good (U w : World) (B : Nat) (e : TypeId) (k m : Nat) (rows : List (List Value)) (A : Option Addr) (C : Nat) : Prop :=
  w.ownsRow B e k (.slice A (m + 1) C) (m + 1) rows.flatten ∧ Below B U w

theorem app2 {P : Program} {e t : TypeId} {k bytes : Nat} {z : Value} (ty : TypeId) (hk : 0 < k) (hinfo : (P.info? e).map (fun i => (i.zero, i.size, i.bytes)) = some (some z, k, bytes)) (ht : P.underlying t = some (.slice e)) (hzs : z.cells.size = k)
    (U : World) (ao : Option Addr) (m c : Nat) (us : List (List Value)) (hsl : SlT U k ao m c us) (hur : ∀ r ∈ us, r.length = k) (hu : ∀ u ∈ us.flatten, u.oneCell' = true)
    (N : List Value) (hN : N.length = k) (hN1 : ∀ u ∈ N, u.oneCell' = true) (hn : (m + 1) * bytes ≤ 140737488355328) (hn' : m + 1 ≤ 9223372036854775807) :
    (∃ A1 C1 w2, (Builtin.append_ #[t, t] ty #[.slice (some ⟨U.heap.size, 0, none⟩) 0 0, .slice ao m c]).run P (U.alloc (.cells #[] e)) = .ok (.slice A1 m C1) w2 ∧ Below U.heap.size U w2 ∧
      ∃ A2 C2 w4, (Builtin.append_ #[t, t] ty #[.slice A1 m C1, .slice (some ⟨w2.heap.size, 0, none⟩) 1 1]).run P (w2.alloc (.cells N.toArray e)) = .ok (.slice A2 (m + 1) C2) w4 ∧ Good U w4 U.heap.size e k m (us ++ [N]) A2 C2) ∧
    (∃ A1 C1 w2, (Builtin.append_ #[t, t] ty #[.slice (some ⟨U.heap.size, 0, none⟩) 0 0, .slice ao m c]).run P ((U.alloc (.cells #[] e)).alloc (.cells N.toArray e)) = .ok (.slice A1 m C1) w2 ∧ Below U.heap.size U w2 ∧
      ∃ A2 C2 w4, (Builtin.append_ #[t, t] ty #[.slice A1 m C1, .slice (some ⟨U.heap.size + 1, 0, none⟩) 1 1]).run P w2 = .ok (.slice A2 (m + 1) C2) w4 ∧ Good U w4 U.heap.size e k m (us ++ [N]) A2 C2) ∧
    (∃ A1 C1 w2, (Builtin.append_ #[t, t] ty #[.slice (some ⟨U.heap.size + 1, 0, none⟩) 0 0, .slice ao m c]).run P ((U.alloc (.cells N.toArray e)).alloc (.cells #[] e)) = .ok (.slice A1 m C1) w2 ∧ Below U.heap.size U w2 ∧
      ∃ A2 C2 w4, (Builtin.append_ #[t, t] ty #[.slice A1 m C1, .slice (some ⟨U.heap.size, 0, none⟩) 1 1]).run P w2 = .ok (.slice A2 (m + 1) C2) w4 ∧ Good U w4 U.heap.size e k m (us ++ [N]) A2 C2) := by
  have hm : (0 + m) * bytes ≤ 140737488355328 := by
    rw [Nat.zero_add]; exact Nat.le_trans (Nat.mul_le_mul_right _ (Nat.le_succ m)) hn
  have s1 : (U.alloc (.cells #[] e)).heap.size = U.heap.size + 1 := by simp
  have s2 : (U.alloc (.cells N.toArray e)).heap.size = U.heap.size + 1 := by simp
  have b1 : Below U.heap.size U (U.alloc (.cells #[] e)) := (Below.refl _ _).alloc (Nat.le_refl _) _
  have b2 : Below U.heap.size U (U.alloc (.cells N.toArray e)) := (Below.refl _ _).alloc (Nat.le_refl _) _
  have hone : ∀ u ∈ [N].flatten, u.oneCell' = true := fun u hu' => hN1 u (by simpa using hu')
  have hrow : ∀ r ∈ [N], r.length = k := fun r hr => by rw [List.mem_singleton.1 hr]; exact hN
  have o1 : (U.alloc (.cells #[] e)).ownsRow U.heap.size e k (.slice (some ⟨U.heap.size, 0, none⟩) 0 0) 0 ([] : List (List Value)).flatten :=
    World.ownsRow_lit U #[] 0 (Nat.le_refl _) (by unfold maxLen; omega) (by simp)
  have e1 : ∀ (v : Value) (ws : List (List Value)) (w : World), w.ownsRow U.heap.size e k v (0 + m) ([] ++ ws).flatten → w.ownsRow U.heap.size e k v m ws.flatten := fun v ws w h => by simpa using h
  refine ⟨?_, ?_, ?_⟩
  · obtain ⟨A1, C1, w2, r1, own1, g1⟩ := runV (P := P) ty hk hinfo ht hzs _ U.heap.size (by omega) _ 0 [] o1 ao m c us (hsl.next b1) hur hu hm (by omega)
    rw [Nat.zero_add] at r1 own1
    have bw2 : Below U.heap.size U w2 := b1.grown g1 (by omega) fun q hq => by simp [Value.ownBlock] at hq; omega
    have o2 : w2.ownsRow U.heap.size e k (.slice A1 m C1) m us.flatten := by simpa using own1
    obtain ⟨A2, C2, w4, r2, own2, g2⟩ := runV (P := P) ty hk hinfo ht hzs (w2.alloc (.cells N.toArray e)) U.heap.size (by simp; have := bw2.size; omega) _ m us (o2.alloc _) (some ⟨w2.heap.size, 0, none⟩) 1 1 [N] (sl_one w2 N e k hN) hrow hone hn hn'
    exact ⟨A1, C1, w2, r1, bw2, A2, C2, w4, r2, own2, (bw2.alloc bw2.size _).grown g2 (by simp; have := bw2.size; omega) fun q hq => (o2.lt q hq).1⟩
  · have o1' := o1.alloc (.cells N.toArray e)
    have hs2 : SlT ((U.alloc (.cells #[] e)).alloc (.cells N.toArray e)) k (some ⟨U.heap.size + 1, 0, none⟩) 1 1 [N] := by
      have h := sl_one (U.alloc (.cells #[] e)) N e k hN
      rw [s1] at h; exact h
    have b12 : Below U.heap.size U ((U.alloc (.cells #[] e)).alloc (.cells N.toArray e)) := b1.alloc (by omega) _
    obtain ⟨A1, C1, w2, r1, own1, g1⟩ := runV (P := P) ty hk hinfo ht hzs _ U.heap.size b12.size _ 0 [] o1' ao m c us (hsl.next b12) hur hu hm (by omega)
    rw [Nat.zero_add] at r1 own1
    have bw2 : Below U.heap.size U w2 := b12.grown g1 b12.size fun q hq => by simp [Value.ownBlock] at hq; omega
    have o2 : w2.ownsRow U.heap.size e k (.slice A1 m C1) m us.flatten := by simpa using own1
    have hs3 := sl_grown hs2 g1 (by simp [Value.ownBlock])
    obtain ⟨A2, C2, w4, r2, own2, g2⟩ := runV (P := P) ty hk hinfo ht hzs w2 U.heap.size bw2.size _ m us o2 (some ⟨U.heap.size + 1, 0, none⟩) 1 1 [N] hs3 hrow hone hn hn'
    exact ⟨A1, C1, w2, r1, bw2, A2, C2, w4, r2, own2, bw2.grown g2 bw2.size fun q hq => (o2.lt q hq).1⟩
  · have o1' : ((U.alloc (.cells N.toArray e)).alloc (.cells #[] e)).ownsRow U.heap.size e k (.slice (some ⟨U.heap.size + 1, 0, none⟩) 0 0) 0 ([] : List (List Value)).flatten := by
      have h := World.ownsRow_lit (base := U.heap.size) (size := k) (e := e) (U.alloc (.cells N.toArray e)) #[] 0 (by omega) (by unfold maxLen; omega) (by simp)
      rw [s2] at h; exact h
    have hs2 : SlT ((U.alloc (.cells N.toArray e)).alloc (.cells #[] e)) k (some ⟨U.heap.size, 0, none⟩) 1 1 [N] := (sl_one U N e k hN).next ((Below.refl _ _).alloc (Nat.le_refl _) _)
    have b12 : Below U.heap.size U ((U.alloc (.cells N.toArray e)).alloc (.cells #[] e)) := b2.alloc (by omega) _
    obtain ⟨A1, C1, w2, r1, own1, g1⟩ := runV (P := P) ty hk hinfo ht hzs _ U.heap.size b12.size _ 0 [] o1' ao m c us (hsl.next b12) hur hu hm (by omega)
    rw [Nat.zero_add] at r1 own1
    have bw2 : Below U.heap.size U w2 := b12.grown g1 b12.size fun q hq => by simp [Value.ownBlock] at hq; omega
    have o2 : w2.ownsRow U.heap.size e k (.slice A1 m C1) m us.flatten := by simpa using own1
    have hs3 := sl_grown hs2 g1 (by simp [Value.ownBlock])
    obtain ⟨A2, C2, w4, r2, own2, g2⟩ := runV (P := P) ty hk hinfo ht hzs w2 U.heap.size bw2.size _ m us o2 (some ⟨U.heap.size, 0, none⟩) 1 1 [N] hs3 hrow hone hn hn'
    exact ⟨A1, C1, w2, r1, bw2, A2, C2, w4, r2, own2, bw2.grown g2 bw2.size fun q hq => (o2.lt q hq).1⟩
/-- Elements of one cell. -/
theorem sl_t1 {w : World} {a : Option Addr} {n c : Nat} {vs : List Value} (h : Sl w a n c vs) : SlT w 1 a n c (vs.map fun v => [v]) :=
  ⟨by rw [List.length_map]; exact h.len, h.cap, h.big, h.bare, fun i r hi => by
    rw [List.getElem?_map, Option.map_eq_some_iff] at hi
    obtain ⟨v, hv, rfl⟩ := hi
    obtain ⟨b, o, ha, hs, hc⟩ := h.cell i v hv
    refine ⟨rfl, b, o, ha, hs, fun j x hx => ?_⟩
    have hj : j = 0 := by have := (List.getElem?_eq_some_iff.1 hx).1; simp at this; omega
    subst hj
    simp only [List.getElem?_cons_zero, Option.some.injEq] at hx
    subst hx
    rw [Nat.mul_one, Nat.add_zero]
    exact hc⟩
theorem flat1 (vs : List Value) : (vs.map fun v => [v]).flatten = vs := by
  induction vs with
  | nil => rfl
  | cons x r ih => rw [List.map_cons, List.flatten_cons, ih]; rfl
end App2
end Go.Proofs.YtninglnchengeaaGreatDoor

/-
  A region that draws its order, with loads and operations that make memory: a condition S on the world that every operation keeps; a load under S may be taken first. No program's function.
-/
namespace Go.Proofs.YtninglnchengeaaGreatDoor
open Go.RowKit
set_option linter.unusedVariables false
namespace HeldAll

section
variable {P : Program} {ops : Array Oper} {Q : Exit → Act → World → Prop} {md : Region.Mode} {S : World → Prop}

def wpAnyH (P : Program) (md : Region.Mode) (ops : Array Oper) (Q : Exit → Act → World → Prop) (S : World → Prop) : Nat → Array Bool → Act → World → Prop
  | 0, listed, a, w => Region.ready md ops listed = [] ∧ Q .normal a w
  | fuel + 1, listed, a, w =>
    (Region.ready md ops listed = [] → Q .normal a w) ∧
    ∀ i ∈ Region.ready md ops listed, wpOp P ops Q i (fun a' w' => S w' ∧ wpAnyH P md ops Q S fuel (listed.setIfInBounds i true) a' w') a w

theorem wpAny_of_H : ∀ (fuel : Nat) (listed : Array Bool) (a : Act) (w : World), wpAnyH P md ops Q S fuel listed a w → wpAny P md ops Q fuel listed a w
  | 0, _, _, _, h => h
  | fuel + 1, _, _, _, h => ⟨h.1, fun i hi => wpOp_mono (fun a' w' h' => wpAny_of_H fuel _ a' w' h'.2) (h.2 i hi)⟩

theorem first {i : Nat} {oi : Oper} {v : Value} (hi : ops[i]? = some oi) (hsel : ∀ (j : Nat) (o : Oper) cs b, ops[j]? = some o → o.op ≠ .select cs b)
    (hQ : ∀ c a w, Q (.panic c) (a.put oi.dst v) w → Q (.panic c) a w) :
    ∀ (fuel : Nat) (listed : Array Bool) (a : Act) (w : World),
      (∀ j oj, ops[j]? = some oj → j ≠ i → listed.getD j true = false → (∀ e ∈ oj.after, Region.binds md e = true → e.on ≠ i) → oi.apart ops oj = true) →
      i ∈ Region.ready md ops listed → YieldsIf P ops S oi v a → S w →
      wpAnyH P md ops Q S fuel (listed.setIfInBounds i true) (a.put oi.dst v) w → wpAnyH P md ops Q S (fuel + 1) listed a w := by
  intro fuel
  induction fuel with
  | zero =>
    intro listed a w _ hr hy hS H
    refine ⟨fun h => (by rw [h] at hr; cases hr), fun j hj => ?_⟩
    by_cases hji : j = i
    · subst hji; exact hy.wpOp hi hS ⟨hS, H⟩
    · have := ready_mono hj hji
      rw [H.1] at this
      cases this
  | succ fuel ih =>
    intro listed a w hfree hr hy hS H
    refine ⟨fun h => (by rw [h] at hr; cases hr), fun j hj => ?_⟩
    by_cases hji : j = i
    · subst hji; exact hy.wpOp hi hS ⟨hS, H⟩
    · have h1 := H.2 j (ready_mono hj hji)
      obtain ⟨hjun, oj, hoj, hall⟩ := mem_ready.1 hj
      have hnot : ∀ e ∈ oj.after, Region.binds md e = true → e.on ≠ i := fun e he hb heq => by
        have h1 := hall e he hb
        have h0 := (mem_ready.1 hr).1
        rw [heq] at h1
        rcases Nat.lt_or_ge i listed.size with h' | h'
        · simp [h'] at h0 h1; rw [h0] at h1; cases h1
        · simp [Array.getElem?_eq_none h'] at h1
      have h2 := wpOp_putIf hoj (hfree j oj hoj hji hjun hnot) (fun cs b => hsel i oi cs b hi) (fun cs b => hsel j oj cs b hoj) hQ hy h1
      have hfree' : ∀ k ok, ops[k]? = some ok → k ≠ i → (listed.setIfInBounds j true).getD k true = false →
          (∀ e ∈ ok.after, Region.binds md e = true → e.on ≠ i) → oi.apart ops ok = true := fun k ok hk hki hun hno => by
        refine hfree k ok hk hki ?_ hno
        by_cases hjk : j = k
        · subst hjk; exact hjun
        · rw [getD_set_ne true hjk] at hun; exact hun
      refine wpOp_mono (fun a' w' h3 => ⟨h3.2.1, ih (listed.setIfInBounds j true) a' w' hfree' (ready_mono hr (Ne.symm hji)) h3.1 h3.2.1 ?_⟩) h2
      rw [Array.setIfInBounds_comm _ _ hji]
      exact h3.2.2

/-- A load, or whatever yields under S, is taken first. -/
theorem take {i : Nat} {oi : Oper} {v : Value} {d : Option Tmp} {fuel : Nat} {listed : Array Bool} {a : Act} {w : World} (hi : ops[i]? = some oi) (hd : oi.dst = d)
    (hs : Region.noSelect ops = true) (hf : Region.free md ops listed i = true) (hr : (Region.ready md ops listed).contains i = true)
    (hQ : ∀ c a w, Q (.panic c) (a.put oi.dst v) w → Q (.panic c) a w) (hy : YieldsIf P ops S oi v a) (hS : S w)
    (h : wpAnyH P md ops Q S fuel (listed.setIfInBounds i true) (a.put d v) w) : wpAnyH P md ops Q S (fuel + 1) listed a w := by
  subst hd
  exact first hi (Region.noSelect_spec hs) hQ fuel listed a w (Region.free_spec hi hf) (by simpa using hr) hy hS h

def Nx (P : Program) (md : Region.Mode) (ops : Array Oper) (Q : Exit → Act → World → Prop) (S : World → Prop) (fuel : Nat) (listed : Array Bool) (i : Nat) (a : Act) (w : World) : Prop :=
  S w ∧ wpAnyH P md ops Q S fuel (listed.setIfInBounds i true) a w

theorem two {i j : Nat} {fuel : Nat} {listed : Array Bool} {a : Act} {w : World} (hr : Region.ready md ops listed = [i, j])
    (h1 : wpOp P ops Q i (Nx P md ops Q S fuel listed i) a w) (h2 : wpOp P ops Q j (Nx P md ops Q S fuel listed j) a w) : wpAnyH P md ops Q S (fuel + 1) listed a w := by
  refine ⟨fun h0 => absurd (hr ▸ h0) (by simp), ?_⟩
  rw [hr]
  intro k hk
  simp only [List.mem_cons, List.not_mem_nil, or_false] at hk
  rcases hk with rfl | rfl
  · exact h1
  · exact h2
theorem three {i j k : Nat} {fuel : Nat} {listed : Array Bool} {a : Act} {w : World} (hr : Region.ready md ops listed = [i, j, k])
    (h1 : wpOp P ops Q i (Nx P md ops Q S fuel listed i) a w) (h2 : wpOp P ops Q j (Nx P md ops Q S fuel listed j) a w) (h3 : wpOp P ops Q k (Nx P md ops Q S fuel listed k) a w) : wpAnyH P md ops Q S (fuel + 1) listed a w := by
  refine ⟨fun h0 => absurd (hr ▸ h0) (by simp), ?_⟩
  rw [hr]
  intro q hq
  simp only [List.mem_cons, List.not_mem_nil, or_false] at hq
  rcases hq with rfl | rfl | rfl
  · exact h1
  · exact h2
  · exact h3
theorem one {i : Nat} {fuel : Nat} {listed : Array Bool} {a : Act} {w : World} (hr : Region.ready md ops listed = [i])
    (h1 : wpOp P ops Q i (Nx P md ops Q S fuel listed i) a w) : wpAnyH P md ops Q S (fuel + 1) listed a w := by
  refine ⟨fun h0 => absurd (hr ▸ h0) (by simp), ?_⟩
  rw [hr]
  intro k hk
  simp only [List.mem_cons, List.not_mem_nil, or_false] at hk
  subst hk
  exact h1

theorem opCall {i : Nat} {oi : Oper} {d : Option Tmp} {fuel : Nat} {listed : Array Bool} {a : Act} {w : World} {f : FuncId} {args : Array Value} {R : Value → World → Prop} (hi : ops[i]? = some oi) (hd : oi.dst = d)
    (hw : Region.wanted oi (yielded ops a.tmps) = true) (hv : (execOp a.eval oi).run P w = .ok (.enter f args) w) (hc : Calls P f args w (fun e w'' => ∃ v, e = .returned v ∧ R v w''))
    (h : ∀ v w', R v w' → S w' ∧ wpAnyH P md ops Q S fuel (listed.setIfInBounds i true) (a.put d v) w') : wpOp P ops Q i (Nx P md ops Q S fuel listed i) a w := by
  subst hd
  unfold wpOp
  simp only [hi, hw, if_true]
  refine .inl ?_
  unfold Oper.wp
  rw [hv]
  simp only [Oper.upon]
  refine hc.mono fun e w'' ⟨v, he, hR⟩ => ?_
  subst he
  exact h v w'' hR

theorem opVal {i : Nat} {oi : Oper} {d : Option Tmp} {v : Value} {fuel : Nat} {listed : Array Bool} {a : Act} {w w2 : World} (hi : ops[i]? = some oi) (hd : oi.dst = d)
    (hw : Region.wanted oi (yielded ops a.tmps) = true) (hv : (execOp a.eval oi).run P w = .ok (.value v) w2) (hS : S w2)
    (h : wpAnyH P md ops Q S fuel (listed.setIfInBounds i true) (a.put d v) w2) : wpOp P ops Q i (Nx P md ops Q S fuel listed i) a w := by
  subst hd
  unfold wpOp
  simp only [hi, hw, if_true]
  refine .inl ?_
  unfold Oper.wp
  rw [hv]
  simp only [Oper.upon]
  exact ⟨hS, h⟩

theorem opStore {i : Nat} {oi : Oper} {d : Option Tmp} {fuel : Nat} {listed : Array Bool} {a : Act} {w w2 : World} (hi : ops[i]? = some oi) (hd : oi.dst = d)
    (hw : Region.wanted oi (yielded ops a.tmps) = true) (hv : (execOp a.eval oi).run P w = .ok .skip w2) (hS : S w2)
    (h : wpAnyH P md ops Q S fuel (listed.setIfInBounds i true) (a.put d undef) w2) : wpOp P ops Q i (Nx P md ops Q S fuel listed i) a w := by
  subst hd
  unfold wpOp
  simp only [hi, hw, if_true]
  refine .inl ?_
  unfold Oper.wp
  rw [hv]
  simp only [Oper.upon]
  exact ⟨hS, h⟩

theorem done {listed : Array Bool} {a : Act} {w : World} (hr : Region.ready md ops listed = []) (h : Q .normal a w) :
    ∀ fuel, wpAnyH P md ops Q S fuel listed a w
  | 0 => ⟨hr, h⟩
  | _ + 1 => ⟨fun _ => h, by rw [hr]; simp⟩

theorem region {id : Nat} {l : List Oper} {a : Act} {w : World} (S : World → Prop) (hm : P.follows .mixedOrders = true)
    (h : wpAnyH P .any l.toArray Q S l.toArray.size (Array.replicate l.toArray.size false) a w.drew) : (Code.region id l.toArray true).wp P Q a w :=
  wp_region_any hm (wpAny_of_H _ _ _ _ h)
end
end HeldAll
end Go.Proofs.YtninglnchengeaaGreatDoor

/-
  coi.counted: what counts, as a map of its own.
-/
namespace Go.Proofs.YtninglnchengeaaGreatDoor
open Go.RowKit Base Go.Maps
set_option linter.unusedVariables false
set_option linter.unusedSimpArgs false
namespace Coi
open Circuit StrashP

theorem offb_cbox {b N : Nat} {w w2 : World} {x : Circ} {p : At} (h : OffB b w w2) (hc : CBox N x p w) (hne : N ≠ b) : CBox N x p w2 := by
  have hb := h.block N hc.lt hne
  have e : ∀ j, w2.cell? ⟨N, j, none⟩ = w.cell? ⟨N, j, none⟩ := fun j => World.cell?_of_block (w := w) (a := ⟨N, j, none⟩) hb
  exact ⟨Nat.lt_of_lt_of_le hc.lt h.size, (e 0).trans hc.k0, (e 1).trans hc.k1, (e 2).trans hc.k2, (e 3).trans hc.k3, (e 4).trans hc.k4, (e 5).trans hc.k5, (e 6).trans hc.k6, (e 7).trans hc.k7⟩

/-- A row of slices, each a list of integers. -/
def RowsP (w : World) (vs : List Value) (xss : List (List Int)) : Prop := vs.length = xss.length ∧ ∀ (k : Nat) (v : Value) (xs : List Int), vs[k]? = some v → xss[k]? = some xs → ∃ a c, v = .slice a xs.length c ∧ Sl w a xs.length c (ints xs)
theorem RowsP.next {w w' : World} {vs : List Value} {xss : List (List Int)} (h : RowsP w vs xss) (hb : Below w.heap.size w w') : RowsP w' vs xss :=
  ⟨h.1, fun k v xs hv hx => by
    obtain ⟨a, c, e, hs⟩ := h.2 k v xs hv hx
    exact ⟨a, c, e, hs.next hb⟩⟩
theorem RowsP.of {w : World} {a : Option Addr} {n c : Nat} {vs : List Value} {xss : List (List Int)} (h : Sl2 w a n c vs xss) : RowsP w vs xss :=
  ⟨by rw [h.sl.len, h.len], fun k v xs hv hx => by
    obtain ⟨a, c, e, hs⟩ := h.row k v xs hv hx
    exact ⟨a, c, e, hs⟩⟩
theorem RowsP.app {w : World} {vs us : List Value} {xss yss : List (List Int)} (h : RowsP w vs xss) (h2 : RowsP w us yss) : RowsP w (vs ++ us) (xss ++ yss) := by
  refine ⟨by rw [List.length_append, List.length_append, h.1, h2.1], fun k v xs hv hx => ?_⟩
  by_cases hk : k < vs.length
  · rw [List.getElem?_append_left hk] at hv
    rw [List.getElem?_append_left (by rw [← h.1]; exact hk)] at hx
    exact h.2 k v xs hv hx
  · rw [List.getElem?_append_right (by omega)] at hv
    rw [List.getElem?_append_right (by rw [← h.1]; omega), ← h.1] at hx
    exact h2.2 _ v xs hv hx
theorem RowsP.two {w : World} {a1 a2 : Option Addr} {c1 c2 : Nat} {l1 l2 : List Int} (h1 : Sl w a1 l1.length c1 (ints l1)) (h2 : Sl w a2 l2.length c2 (ints l2)) : RowsP w [.slice a1 l1.length c1, .slice a2 l2.length c2] [l1, l2] := by
  refine ⟨rfl, fun k v xs hv hx => ?_⟩
  match k, hv, hx with
  | 0, hv, hx => simp at hv hx; subst hv; subst hx; exact ⟨_, _, rfl, h1⟩
  | 1, hv, hx => simp at hv hx; subst hv; subst hx; exact ⟨_, _, rfl, h2⟩
  | k + 2, hv, hx => simp at hv
theorem ints_flat (xss : List (List Int)) : (xss.map ints).flatten = ints xss.flatten := by
  induction xss with
  | nil => rfl
  | cons x r ih => rw [List.map_cons, List.flatten_cons, ih, List.flatten_cons]; unfold ints; rw [List.map_append]
theorem concat_any (w : World) (a : Option Addr) (n c : Nat) (vs : List Value) (xss : List (List Int)) (hsl : Sl w a n c vs) (hp : RowsP w vs xss) (hn : xss.flatten.length * 8 ≤ 140737488355328) :
    Calls Tryz.prog 57 #[.slice a n c] w fun e w' => ∃ a' c', e = .returned (.slice a' xss.flatten.length c') ∧ Sl w' a' xss.flatten.length c' (ints xss.flatten) ∧ Below w.heap.size w w' := by
  have ht : ConcatI.tot (xss.map ints) = xss.flatten.length := by unfold ConcatI.tot; rw [ints_flat, ints_len]
  have h := ConcatI.concat w a n c vs (xss.map ints) hsl ⟨by rw [List.length_map]; exact hp.1, fun k v u hv hu => by
    rw [List.getElem?_map, Option.map_eq_some_iff] at hu
    obtain ⟨xs, hx, rfl⟩ := hu
    obtain ⟨a', c', e, hs⟩ := hp.2 k v xs hv hx
    rw [ints_len]
    exact ⟨a', c', e, hs⟩⟩ (fun u hu v hv => by
      obtain ⟨xs, _, rfl⟩ := List.mem_map.1 hu
      exact Base.ints_one xs v hv) (by rw [ht]; exact hn) (by rw [ht]; omega)
  rw [ht, ints_flat] at h
  refine h.mono ?_
  rintro e w' ⟨a', c', he, ho, hb⟩
  exact ⟨a', c', he, own_sl' ho, hb⟩
theorem info_rows : (Tryz.prog.info? 22).map (fun i => (i.zero, i.size, i.bytes)) = some (some (.slice none 0 0), 1, 24) := by kernel_rfl

theorem row_one {w : World} {a : Option Addr} {n c : Nat} {vs : List Value} {xss : List (List Int)} (h : Sl2 w a n c vs xss) : ∀ u ∈ vs, u.oneCell' = true := by
  intro u hu
  obtain ⟨i, hi, rfl⟩ := List.mem_iff_getElem.1 hu
  have hl : i < xss.length := by have := h.len; have := h.sl.len; omega
  obtain ⟨a', c', e, _⟩ := h.row i _ _ (List.getElem?_eq_getElem hi) (List.getElem?_eq_getElem hl)
  rw [e]; rfl
theorem flat_l (A : List (List Int)) (v : List Int) (b : Int) : (A ++ [v, [b]]).flatten = A.flatten ++ v ++ [b] := by simp
theorem c8of {N : Nat} {x : Circ} {p : At} {w' : World} (h : CBox N x p w') : w'.cell? ⟨N, 0, none⟩ = some (.int .i64 x.max) ∧ w'.cell? ⟨N, 1, none⟩ = some (.slice p.a1 x.ins.length p.c1) ∧ w'.cell? ⟨N, 2, none⟩ = some (.slice p.a2 x.lats.length p.c2) ∧ w'.cell? ⟨N, 3, none⟩ = some (.slice p.a3 x.outs.length p.c3) ∧ w'.cell? ⟨N, 4, none⟩ = some (.slice p.a4 x.bads.length p.c4) ∧ w'.cell? ⟨N, 5, none⟩ = some (.slice p.a5 x.invs.length p.c5) ∧ w'.cell? ⟨N, 6, none⟩ = some (.slice p.a6 x.ands.length p.c6) ∧ w'.cell? ⟨N, 7, none⟩ = some (.slice p.a7 x.names.length p.c7) := ⟨h.k0, h.k1, h.k2, h.k3, h.k4, h.k5, h.k6, h.k7⟩
theorem sl_block {w : World} {g n : Nat} {cs : Array Value} {e : TypeId} (h : w.heap[g]? = some (.cells cs e (0, 0))) (hn : cs.size = n) (hm : n ≤ 9223372036854775807) : Sl w (some ⟨g, 0, none⟩) n n cs.toList :=
  ⟨by simpa using hn, Nat.le_refl _, hm, fun e => (by cases e), fun k x hx => ⟨g, 0, rfl, (Array.getElem?_eq_some_iff.1 h).1, by
    rw [cell_of_row _ g (0 + k) _ e _ h, Nat.zero_add]
    simpa using hx⟩⟩

/-- append of two rows to a row of rows: all that it is then. -/
theorem app_all (ty : TypeId) (V : World) (B : Nat) (hB : B ≤ V.heap.size) (aK : Option Addr) (cK n : Nat) (vals : List Value) (A : List (List Int)) (hown : V.ownsRow B 22 1 (.slice aK n cK) n vals) (a5 : Option Addr) (c5 : Nat) (invs : List Int)
    (hold : ∀ U, Below B V U → RowsP U vals A ∧ Sl U a5 invs.length c5 (ints invs)) (g1 : Nat) (bl : Int) (hg1 : V.heap[g1]? = some (.cells #[.int .i64 bl] 3)) (hn1 : (Value.slice aK n cK).ownBlock ≠ some g1) (g2 : Nat)
    (hg2 : V.heap[g2]? = some (.cells #[.slice a5 invs.length c5, .slice (some ⟨g1, 0, none⟩) 1 1] 22)) (hn2 : (Value.slice aK n cK).ownBlock ≠ some g2) (hn : (n + 2) * 24 ≤ 140737488355328) :
    ∃ a' c' w1, (Builtin.append_ #[41, 41] ty #[.slice aK n cK, .slice (some ⟨g2, 0, none⟩) 2 2]).run Tryz.prog V = .ok (.slice a' (n + 2) c') w1 ∧ Sl w1 a' (n + 2) c' (vals ++ [.slice a5 invs.length c5, .slice (some ⟨g1, 0, none⟩) 1 1]) ∧
      RowsP w1 (vals ++ [.slice a5 invs.length c5, .slice (some ⟨g1, 0, none⟩) 1 1]) (A ++ [invs, [bl]]) ∧ Below B V w1 := by
  have hsl : Sl V (some ⟨g2, 0, none⟩) 2 2 [.slice a5 invs.length c5, .slice (some ⟨g1, 0, none⟩) 1 1] := sl_block hg2 rfl (by decide)
  obtain ⟨a', c', w1, hr, ho, hg⟩ := App2.runV (P := Tryz.prog) ty (k := 1) (by decide) info_rows Tryz.underlying41 rfl V B hB (.slice aK n cK) n (vals.map fun v => [v]) (by rw [App2.flat1]; exact hown) (some ⟨g2, 0, none⟩) 2 2 ([.slice a5 invs.length c5, .slice (some ⟨g1, 0, none⟩) 1 1].map fun v => [v]) (App2.sl_t1 hsl) (by intro r hr; obtain ⟨v, _, rfl⟩ := List.mem_map.1 hr; rfl)
    (by rw [App2.flat1]; intro u hu; simp only [List.mem_cons, List.not_mem_nil, or_false] at hu; rcases hu with rfl | rfl <;> rfl) hn (by omega)
  rw [← List.map_append, App2.flat1] at ho
  have hb : Below B V w1 := (Below.refl B V).grown hg hB fun q hq => (hown.lt q hq).1
  have hone : Sl w1 (some ⟨g1, 0, none⟩) [bl].length 1 (ints [bl]) := sl_block (cs := #[.int .i64 bl]) (e := 3) ((hg.block g1 (Array.getElem?_eq_some_iff.1 hg1).1 (fun e => hn1 e.symm)).trans hg1) rfl (by simp)
  exact ⟨a', c', w1, hr, own_sl' ho, (hold w1 hb).1.app (RowsP.two (hold w1 hb).2 hone), hb⟩

theorem concat_l (w : World) (a : Option Addr) (n c : Nat) (vs : List Value) (A : List (List Int)) (invs : List Int) (bl : Int) (l : List Int) (hl : A.flatten ++ invs ++ [bl] = l) (hsl : Sl w a n c vs) (hp : RowsP w vs (A ++ [invs, [bl]])) (hn : l.length * 8 ≤ 140737488355328) :
    Calls Tryz.prog 57 #[.slice a n c] w fun e w' => ∃ v, e = .returned v ∧ ∃ a' c', v = .slice a' l.length c' ∧ Sl w' a' l.length c' (ints l) ∧ Below w.heap.size w w' := by
  have h := concat_any w a n c vs _ hsl hp (by rw [flat_l, hl]; exact hn)
  rw [flat_l, hl] at h
  exact h.mono fun e w' ⟨a', c', he, hs, hb⟩ => ⟨_, he, a', c', rfl, hs, hb⟩

theorem start_any (w : World) (x : Circ) (p : At) (hin : InCirc w x p) (hwa : WfT x.ands) {b : Nat} (hset : SetK w b 0 []) (a : Option Addr) (c : Nat) (l : List Int) (hsl : Sl w a l.length c (ints l)) (hl : ∀ y ∈ l, Circuit.I64 y)
    (hsz : (2 * l.length + 2 * x.ands.length + 2) * 8 ≤ 140737488355328) :
    Calls Tryz.prog 56 #[.map (some b), .agg (cells x p), .slice a l.length c] w fun e w' => ∃ v, e = .returned v ∧ ∃ X : List Int, SetK w' b X.length X ∧ CInv x l X ∧ OffB b w w' :=
  (add_any w x p hin hwa (X := []) hset List.nodup_nil a c l hsl hl hsz (by simp)).mono fun e w' ⟨X2, he, h1, h2, _, h3⟩ => ⟨_, he, X2, h1, cinv_start h2, h3⟩

/-- What counted leaves. -/
def CntOut (w : World) (x : Circ) (l : List Int) (e : Ending) (w' : World) : Prop :=
  ∃ b X, e = .returned (.map (some b)) ∧ w.heap.size ≤ b ∧ SetK w' b X.length X ∧ X.Nodup ∧ (∀ v, v ∈ X ↔ v ≠ 0 ∧ NR x l v) ∧ Below w.heap.size w w'

set_option maxRecDepth 8000 in
set_option maxHeartbeats 8000000 in
theorem counted_any (w : World) (x : Circ) (p : At) (hin : InCirc w x p) (hw : WfC x) (aA : Option Addr) (n cA : Nat) (vals : List Value) (A : List (List Int)) (hA : Sl2 w aA n cA vals A) (hA64 : ∀ y ∈ A.flatten, Circuit.I64 y) (k : Nat) (hk : k < x.bads.length)
    (hz1 : n ≤ 4000000) (hz2 : A.flatten.length ≤ 4000000) (hz3 : x.ands.length ≤ 4000000) (hz4 : x.invs.length ≤ 4000000) (hz5 : x.lats.length ≤ 4000000) :
    Calls Tryz.prog 24 #[.agg (cells x p), .slice aA n cA, .int .i64 k] w (CntOut w x (A.flatten ++ x.invs ++ [x.bads[k]]) ) := by
  obtain ⟨W1, hW1⟩ : ∃ W1, w.alloc (.cells (cells x p) 27) = W1 := ⟨_, rfl⟩
  obtain ⟨hb1, hc1⟩ := cbox_new w x p W1 hW1
  obtain ⟨W2, hW2⟩ : ∃ W2, W1.alloc (.map #[] 0) = W2 := ⟨_, rfl⟩
  have hb2 : Below W1.heap.size W1 W2 := by rw [← hW2]; exact (Below.refl _ _).alloc (Nat.le_refl _) _
  have hset : SetK W2 W1.heap.size 0 [] := by rw [← hW2]; exact made W1
  have hc2 := hc1.next hb2 (Nat.le_refl _)
  have hb12 : Below w.heap.size w W2 := hb1.trans (hb2.mono hb1.size)
  have hlt1 : w.heap.size < W1.heap.size := hc1.lt
  have HB12 := Lib.hid hb12
  have HC2 := Lib.hid hc2
  have HLT1 := Lib.hid hlt1
  have HSET := Lib.hid hset
  have HIN := Lib.hid (fun (U : World) (hU : Below w.heap.size w U) => hin.next hU)
  have HA := Lib.hid (fun (U : World) (hU : Below w.heap.size w U) => hA.next hU)
  have HOFB := Lib.hid (fun (U : World) (hU : OffB W1.heap.size W2 U) => hU.base hb12 (by have := hb12.size; omega) (Nat.le_of_lt hlt1))
  have HW := Lib.hid hw
  have HZ := Lib.hid (And.intro hz1 (And.intro hz2 (And.intro hz3 (And.intro hz4 hz5))))
  have HA64 := Lib.hid hA64
  have hbsl := hin.bads
  obtain ⟨gb, ob, hxb, hab, hgb, hcb⟩ := hbsl.int hk
  have hcapb := hbsl.cap
  have hbigb := hbsl.big
  have hLI : ∀ y ∈ A.flatten ++ x.invs ++ [x.bads[k]], Circuit.I64 y := by
    intro y hy
    rw [List.mem_append, List.mem_append, List.mem_singleton] at hy
    rcases hy with (hy | hy) | rfl
    · exact hA64 y hy
    · exact hw.invs y hy
    · exact hw.bads _ (List.getElem_mem _)
  generalize hbl : x.bads[k] = bl at *
  have HLI := Lib.hid hLI
  obtain ⟨l, hl⟩ : ∃ l, A.flatten ++ x.invs ++ [bl] = l := ⟨_, rfl⟩
  rw [hl]
  have HL := Lib.hid hl
  rw [hl] at HLI
  have HAD0 := fun (U : World) (hU : Below W2.heap.size W2 U) (aL : Option Addr) (cL : Nat) (hsL : Sl U aL l.length cL (ints l)) => start_any U x p ((hin.next hb12).next hU) hw.ands (hset.next hU) aL cL l hsL HLI.out (by have := HZ.out; have := congrArg List.length hl; simp only [List.length_append, List.length_singleton] at this; omega)
  have HAD1 := fun (U : World) (hU : Below w.heap.size w U) (X : List Int) (hX : SetK U W1.heap.size X.length X) (hnd : X.Nodup) (hXl : X.length ≤ 1099511627776000) (aL : Option Addr) (cL : Nat) (u : Int) (hu : Circuit.I64 u) (hsL : Sl U aL 1 cL (ints [u])) => add_any U x p (hin.next hU) hw.ands hX hnd aL cL [u] hsL (fun y hy => by rw [List.mem_singleton.1 hy]; exact hu) (by have := HZ.out; simp only [List.length_singleton]; omega) hXl
  have HCEL := Lib.hid (fun (U : World) (hU : Below w.heap.size w U) => (hU.cell (p := ⟨gb, ob + k, none⟩) hgb).trans hcb)
  obtain ⟨a1, c1, a2, c2, a3, c3, a4, c4, a5, c5, a6, c6, a7, c7⟩ := p
  simp only [cells] at *
  subst hab
  have HADD := Lib.hid HAD0
  simp only [List.length_singleton] at HAD1
  have HADX := Lib.hid HAD1
  clear HAD0 HAD1
  have hmm := @run_makeMap Tryz.prog
  have q0 := hc1.k0
  clear hin hw hA hA64 hz1 hz2 hz3 hz4 hz5 hb1 hb2 hset hc2 hb12 hbsl hxb hcb hLI hl hc1 q0 hbl
  go_enter Tryz.func24, Tryz.ntmps24
  go_upto_region 2 with fail
  clear hW1 hW2 hmm
  go_cut [] from 12 to 28 (fun wx => ∃ X : List Int, Hid (SetK wx W1.heap.size X.length X) ∧ Hid (CInv x l X) ∧ Hid (OffB W1.heap.size W2 wx))
  case first =>
    as_aux_lemma =>
      have hn := HZ.out
      have hB0 : Below W2.heap.size W2 W2.drew := (Below.refl _ _).drew
      have hSK : ∀ V : World, OffB W1.heap.size W2 V → (V.cell? ⟨w.heap.size, 0, none⟩ = some (.int .i64 x.max) ∧ V.cell? ⟨w.heap.size, 1, none⟩ = some (.slice a1 x.ins.length c1) ∧ V.cell? ⟨w.heap.size, 2, none⟩ = some (.slice a2 x.lats.length c2) ∧ V.cell? ⟨w.heap.size, 3, none⟩ = some (.slice a3 x.outs.length c3) ∧ V.cell? ⟨w.heap.size, 4, none⟩ = some (.slice (some ⟨gb, ob, none⟩) x.bads.length c4) ∧ V.cell? ⟨w.heap.size, 5, none⟩ = some (.slice a5 x.invs.length c5) ∧ V.cell? ⟨w.heap.size, 6, none⟩ = some (.slice a6 x.ands.length c6) ∧ V.cell? ⟨w.heap.size, 7, none⟩ = some (.slice a7 x.names.length c7)) ∧ V.cell? ⟨gb, ob + k, none⟩ = some (.int .i64 bl) := fun V hV => ⟨c8of (offb_cbox hV HC2.out (by have := HLT1.out; omega)), HCEL.out V (HOFB.out V hV)⟩
      have hBS : ∀ V : World, Below W2.heap.size W2 V → OffB W1.heap.size W2 V := fun V hV => (OffB.refl _ _).below hV
      have hS0 := hSK _ (hBS _ hB0)
      have hkl : (k : Int) < (x.bads.length : Int) := by omega
      refine HeldAll.region (fun U : World => (U.cell? ⟨w.heap.size, 0, none⟩ = some (.int .i64 x.max) ∧ U.cell? ⟨w.heap.size, 1, none⟩ = some (.slice a1 x.ins.length c1) ∧ U.cell? ⟨w.heap.size, 2, none⟩ = some (.slice a2 x.lats.length c2) ∧ U.cell? ⟨w.heap.size, 3, none⟩ = some (.slice a3 x.outs.length c3) ∧ U.cell? ⟨w.heap.size, 4, none⟩ = some (.slice (some ⟨gb, ob, none⟩) x.bads.length c4) ∧ U.cell? ⟨w.heap.size, 5, none⟩ = some (.slice a5 x.invs.length c5) ∧ U.cell? ⟨w.heap.size, 6, none⟩ = some (.slice a6 x.ands.length c6) ∧ U.cell? ⟨w.heap.size, 7, none⟩ = some (.slice a7 x.names.length c7)) ∧ U.cell? ⟨gb, ob + k, none⟩ = some (.int .i64 bl)) (by kernel_rfl) ?_
      (refine HeldAll.take (i := 0) (oi := _) (d := some 12) (v := ?_) rfl rfl (by kernel_rfl) (by kernel_rfl) (by kernel_rfl) (fun _ _ _ h => h) (Or.inl ⟨by rfl, ?_⟩) hS0 ?_; rotate_left; (focus (intro w hSw; clear hSw; go_simp; (try with_reducible rfl); done)); (try simp only [Act.put, List.setIfInBounds_toArray, List.set_cons_zero, List.set_cons_succ]))
      (refine HeldAll.take (i := 1) (oi := _) (d := some 13) (v := ?_) rfl rfl (by kernel_rfl) (by kernel_rfl) (by kernel_rfl) (fun _ _ _ h => h) (Or.inl ⟨by rfl, ?_⟩) hS0 ?_; rotate_left; (focus (intro w hSw; (try dsimp only at hSw); go_simp; (try with_reducible rfl); done)); (try simp only [Act.put, List.setIfInBounds_toArray, List.set_cons_zero, List.set_cons_succ]))
      (refine HeldAll.take (i := 2) (oi := _) (d := some 14) (v := ?_) rfl rfl (by kernel_rfl) (by kernel_rfl) (by kernel_rfl) (fun _ _ _ h => h) (Or.inl ⟨by rfl, ?_⟩) hS0 ?_; rotate_left; (focus (intro w hSw; clear hSw; go_simp; (try with_reducible rfl); done)); (try simp only [Act.put, List.setIfInBounds_toArray, List.set_cons_zero, List.set_cons_succ]))
      (refine HeldAll.take (i := 4) (oi := _) (d := some 16) (v := ?_) rfl rfl (by kernel_rfl) (by kernel_rfl) (by kernel_rfl) (fun _ _ _ h => h) (Or.inl ⟨by rfl, ?_⟩) hS0 ?_; rotate_left; (focus (intro w hSw; clear hSw; go_simp; (try with_reducible rfl); done)); (try simp only [Act.put, List.setIfInBounds_toArray, List.set_cons_zero, List.set_cons_succ]))
      (refine HeldAll.take (i := 5) (oi := _) (d := some 17) (v := ?_) rfl rfl (by kernel_rfl) (by kernel_rfl) (by kernel_rfl) (fun _ _ _ h => h) (Or.inl ⟨by rfl, ?_⟩) hS0 ?_; rotate_left; (focus (intro w hSw; (try dsimp only at hSw); go_simp; (try with_reducible rfl); done)); (try simp only [Act.put, List.setIfInBounds_toArray, List.set_cons_zero, List.set_cons_succ]))
      (refine HeldAll.take (i := 6) (oi := _) (d := some 18) (v := ?_) rfl rfl (by kernel_rfl) (by kernel_rfl) (by kernel_rfl) (fun _ _ _ h => h) (Or.inl ⟨by rfl, ?_⟩) hS0 ?_; rotate_left; (focus (intro w hSw; clear hSw; go_simp; (try with_reducible rfl); done)); (try simp only [Act.put, List.setIfInBounds_toArray, List.set_cons_zero, List.set_cons_succ]))
      (refine HeldAll.take (i := 7) (oi := _) (d := some 19) (v := ?_) rfl rfl (by kernel_rfl) (by kernel_rfl) (by kernel_rfl) (fun _ _ _ h => h) (Or.inl ⟨by rfl, ?_⟩) hS0 ?_; rotate_left; (focus (intro w hSw; (try dsimp only at hSw); go_simp; (try with_reducible rfl); done)); (try simp only [Act.put, List.setIfInBounds_toArray, List.set_cons_zero, List.set_cons_succ]))
      (refine HeldAll.take (i := 8) (oi := _) (d := some 20) (v := ?_) rfl rfl (by kernel_rfl) (by kernel_rfl) (by kernel_rfl) (fun _ _ _ h => h) (Or.inl ⟨by rfl, ?_⟩) hS0 ?_; rotate_left; (focus (intro w hSw; clear hSw; go_simp; (try with_reducible rfl); done)); (try simp only [Act.put, List.setIfInBounds_toArray, List.set_cons_zero, List.set_cons_succ]))
      (refine HeldAll.take (i := 9) (oi := _) (d := some 21) (v := ?_) rfl rfl (by kernel_rfl) (by kernel_rfl) (by kernel_rfl) (fun _ _ _ h => h) (Or.inl ⟨by rfl, ?_⟩) hS0 ?_; rotate_left; (focus (intro w hSw; clear hSw; go_simp; (try with_reducible rfl); done)); (try simp only [Act.put, List.setIfInBounds_toArray, List.set_cons_zero, List.set_cons_succ]))
      (refine HeldAll.take (i := 10) (oi := _) (d := some 22) (v := ?_) rfl rfl (by kernel_rfl) (by kernel_rfl) (by kernel_rfl) (fun _ _ _ h => h) (Or.inl ⟨by rfl, ?_⟩) hS0 ?_; rotate_left; (focus (intro w hSw; (try dsimp only at hSw); go_simp; (try with_reducible rfl); done)); (try simp only [Act.put, List.setIfInBounds_toArray, List.set_cons_zero, List.set_cons_succ]))
      refine HeldAll.two (i := 3) (j := 11) (by kernel_rfl) ?_ ?_
      · skip
        refine HeldAll.opCall (i := 3) (oi := _) (d := some 15) (R := fun v w' => ∃ a' c', v = .slice a' n c' ∧ w'.ownsRow (W2.drew).heap.size 22 1 (.slice a' n c') n vals ∧ Below (W2.drew).heap.size (W2.drew) w') rfl rfl (by rfl) (by go_simp; done) ((CloneR.clone (W2.drew) aA n cA vals (HA.out _ (HOFB.out _ (hBS _ hB0))).sl (row_one (HA.out _ (HOFB.out _ (hBS _ hB0)))) (by omega)).mono fun e w' h => by obtain ⟨a', c', he, ho, hb⟩ := h; exact ⟨_, he, a', c', rfl, ho, hb⟩) ?_
        rintro v u1 ⟨aK, cK, rfl, hoK, hbK⟩
        have hC : Below W2.heap.size W2 u1 := hB0.trans (hbK.mono hB0.size)
        refine ⟨hSK _ (hBS _ hC), ?_⟩
        (try simp only [Act.put, List.setIfInBounds_toArray, List.set_cons_zero, List.set_cons_succ])
        have hA1 : Below W2.heap.size W2 (u1.alloc (.cells #[.int .i64 bl] 3)) := hC.alloc hC.size _
        refine HeldAll.one (i := 11) (by kernel_rfl) ?_
        refine HeldAll.opVal (i := 11) (oi := _) (d := some 23) (v := .slice (some ⟨(u1).heap.size, 0, none⟩) 1 1) (w2 := (u1).alloc (.cells #[.int .i64 bl] 3)) rfl rfl (by rfl) (by go_simp; done) (hSK _ (hBS _ hA1)) ?_
        (try simp only [Act.put, List.setIfInBounds_toArray, List.set_cons_zero, List.set_cons_succ])
        refine HeldAll.one (i := 12) (by kernel_rfl) ?_
        refine HeldAll.opVal (i := 12) (oi := _) (d := some 24) (v := .slice (some ⟨(u1.alloc (.cells #[.int .i64 bl] 3)).heap.size, 0, none⟩) 2 2) (w2 := (u1.alloc (.cells #[.int .i64 bl] 3)).alloc (.cells #[.slice a5 x.invs.length c5, .slice (some ⟨u1.heap.size, 0, none⟩) 1 1] 22)) rfl rfl (by rfl) (by go_simp; done) (hSK _ (hBS _ (hA1.alloc hA1.size _))) ?_
        (try simp only [Act.put, List.setIfInBounds_toArray, List.set_cons_zero, List.set_cons_succ])
        obtain ⟨V, hV⟩ : ∃ V, (u1.alloc (.cells #[.int .i64 bl] 3)).alloc (.cells #[.slice a5 x.invs.length c5, .slice (some ⟨u1.heap.size, 0, none⟩) 1 1] 22) = V := ⟨_, rfl⟩
        obtain ⟨g1, hgg1⟩ : ∃ g, u1.heap.size = g := ⟨_, rfl⟩
        obtain ⟨g2, hgg2⟩ : ∃ g, (u1.alloc (.cells #[.int .i64 bl] 3)).heap.size = g := ⟨_, rfl⟩
        have hVV : Below W2.heap.size W2 V := by rw [← hV]; exact (hA1.alloc hA1.size _)
        have hoV : V.ownsRow W2.heap.size 22 1 (.slice aK n cK) n vals := by rw [← hV]; exact (((own_mono hoK hB0.size).alloc _).alloc _)
        have hg1 : V.heap[g1]? = some (.cells #[.int .i64 bl] 3) := by rw [← hV, ← hgg1]; exact ((((Below.refl (u1.alloc (.cells #[.int .i64 bl] 3)).heap.size (u1.alloc (.cells #[.int .i64 bl] 3))).alloc (Nat.le_refl _) (.cells #[.slice a5 x.invs.length c5, .slice (some ⟨u1.heap.size, 0, none⟩) 1 1] 22))).block u1.heap.size (by simp)).trans (heap_alloc_new u1 _)
        have hg2 : V.heap[g2]? = some (.cells #[.slice a5 x.invs.length c5, .slice (some ⟨g1, 0, none⟩) 1 1] 22) := by rw [← hV, ← hgg2, ← hgg1]; exact heap_alloc_new (u1.alloc (.cells #[.int .i64 bl] 3)) _
        have hn1 : (Value.slice aK n cK).ownBlock ≠ some g1 := by rw [← hgg1]; exact own_not hoK (Nat.le_refl _)
        have hn2 : (Value.slice aK n cK).ownBlock ≠ some g2 := by rw [← hgg2]; exact own_not hoK (by simp)
        rw [hV, hgg2, hgg1]
        obtain ⟨a9, c9, u9, r9, hs9, hp9, hb9⟩ := app_all 41 V W2.heap.size hVV.size aK cK n vals A hoV a5 c5 x.invs (fun U' hU' => ⟨RowsP.of (HA.out _ (HOFB.out _ (hBS _ (hVV.trans hU')))), (HIN.out _ (HOFB.out _ (hBS _ (hVV.trans hU')))).invs⟩) g1 bl hg1 hn1 g2 hg2 hn2 (by omega)
        have h9 : Below W2.heap.size W2 u9 := hVV.trans hb9
        refine HeldAll.one (i := 13) (by kernel_rfl) ?_
        refine HeldAll.opVal (i := 13) (oi := _) (d := some 25) (v := .slice a9 (n + 2) c9) (w2 := u9) rfl rfl (by rfl) (App2.exec_append rfl rfl rfl r9) (hSK _ (hBS _ h9)) ?_
        (try simp only [Act.put, List.setIfInBounds_toArray, List.set_cons_zero, List.set_cons_succ])
        refine HeldAll.one (i := 14) (by kernel_rfl) ?_
        refine HeldAll.opCall (i := 14) (oi := _) (d := some 26) (R := fun v w' => ∃ a' c', v = .slice a' l.length c' ∧ Sl w' a' l.length c' (ints l) ∧ Below u9.heap.size u9 w') rfl rfl (by rfl) (by go_simp; done) (concat_l u9 a9 (n + 2) c9 _ A x.invs bl l HL.out hs9 hp9 (by rw [← HL.out]; simp only [List.length_append, List.length_singleton]; omega)) ?_
        rintro v u10 ⟨aL, cL, rfl, hsL, hbL⟩
        have h10 : Below W2.heap.size W2 u10 := h9.trans (hbL.mono h9.size)
        refine ⟨hSK _ (hBS _ h10), ?_⟩
        (try simp only [Act.put, List.setIfInBounds_toArray, List.set_cons_zero, List.set_cons_succ])
        refine HeldAll.one (i := 15) (by kernel_rfl) ?_
        refine HeldAll.opCall (i := 15) (oi := _) (d := some 27) (R := fun v w' => ∃ X : List Int, SetK w' W1.heap.size X.length X ∧ CInv x l X ∧ OffB W1.heap.size u10 w') rfl rfl (by rfl) (by go_simp; done) (HADD.out u10 h10 aL cL hsL) ?_
        rintro v u11 ⟨X, hX1, hX2, hX3⟩
        have o11 : OffB W1.heap.size W2 u11 := (hBS _ h10).trans hX3
        refine ⟨hSK _ o11, ?_⟩
        (try simp only [Act.put, List.setIfInBounds_toArray, List.set_cons_zero, List.set_cons_succ])
        refine HeldAll.done (by kernel_rfl) ?_ _
        (try go_wp2_with fail)
        go_meet
        exact ⟨X, hX1, hX2, o11⟩
      · skip
        have hE1 : Below W2.heap.size W2 (W2.drew.alloc (.cells #[.int .i64 bl] 3)) := hB0.alloc hB0.size _
        refine HeldAll.opVal (i := 11) (oi := _) (d := some 23) (v := .slice (some ⟨(W2.drew).heap.size, 0, none⟩) 1 1) (w2 := (W2.drew).alloc (.cells #[.int .i64 bl] 3)) rfl rfl (by rfl) (by go_simp; done) (hSK _ (hBS _ hE1)) ?_
        (try simp only [Act.put, List.setIfInBounds_toArray, List.set_cons_zero, List.set_cons_succ])
        refine HeldAll.two (i := 3) (j := 12) (by kernel_rfl) ?_ ?_
        · skip
          refine HeldAll.opCall (i := 3) (oi := _) (d := some 15) (R := fun v w' => ∃ a' c', v = .slice a' n c' ∧ w'.ownsRow (W2.drew.alloc (.cells #[.int .i64 bl] 3)).heap.size 22 1 (.slice a' n c') n vals ∧ Below (W2.drew.alloc (.cells #[.int .i64 bl] 3)).heap.size (W2.drew.alloc (.cells #[.int .i64 bl] 3)) w') rfl rfl (by rfl) (by go_simp; done) ((CloneR.clone (W2.drew.alloc (.cells #[.int .i64 bl] 3)) aA n cA vals (HA.out _ (HOFB.out _ (hBS _ hE1))).sl (row_one (HA.out _ (HOFB.out _ (hBS _ hE1)))) (by omega)).mono fun e w' h => by obtain ⟨a', c', he, ho, hb⟩ := h; exact ⟨_, he, a', c', rfl, ho, hb⟩) ?_
          rintro v u1 ⟨aK, cK, rfl, hoK, hbK⟩
          have hC : Below W2.heap.size W2 u1 := hE1.trans (hbK.mono hE1.size)
          refine ⟨hSK _ (hBS _ hC), ?_⟩
          (try simp only [Act.put, List.setIfInBounds_toArray, List.set_cons_zero, List.set_cons_succ])
          refine HeldAll.one (i := 12) (by kernel_rfl) ?_
          refine HeldAll.opVal (i := 12) (oi := _) (d := some 24) (v := .slice (some ⟨(u1).heap.size, 0, none⟩) 2 2) (w2 := (u1).alloc (.cells #[.slice a5 x.invs.length c5, .slice (some ⟨W2.drew.heap.size, 0, none⟩) 1 1] 22)) rfl rfl (by rfl) (by go_simp; done) (hSK _ (hBS _ (hC.alloc hC.size _))) ?_
          (try simp only [Act.put, List.setIfInBounds_toArray, List.set_cons_zero, List.set_cons_succ])
          obtain ⟨V, hV⟩ : ∃ V, u1.alloc (.cells #[.slice a5 x.invs.length c5, .slice (some ⟨W2.drew.heap.size, 0, none⟩) 1 1] 22) = V := ⟨_, rfl⟩
          obtain ⟨g1, hgg1⟩ : ∃ g, W2.drew.heap.size = g := ⟨_, rfl⟩
          obtain ⟨g2, hgg2⟩ : ∃ g, u1.heap.size = g := ⟨_, rfl⟩
          have hVV : Below W2.heap.size W2 V := by rw [← hV]; exact (hC.alloc hC.size _)
          have hoV : V.ownsRow W2.heap.size 22 1 (.slice aK n cK) n vals := by rw [← hV]; exact ((own_mono hoK hE1.size).alloc _)
          have hg1 : V.heap[g1]? = some (.cells #[.int .i64 bl] 3) := by rw [← hV, ← hgg1]; exact ((((Below.refl (u1).heap.size (u1)).alloc (Nat.le_refl _) (.cells #[.slice a5 x.invs.length c5, .slice (some ⟨W2.drew.heap.size, 0, none⟩) 1 1] 22))).block W2.drew.heap.size (Nat.lt_of_lt_of_le (by simp) hbK.size)).trans ((hbK.block W2.drew.heap.size (by simp)).trans (heap_alloc_new W2.drew _))
          have hg2 : V.heap[g2]? = some (.cells #[.slice a5 x.invs.length c5, .slice (some ⟨g1, 0, none⟩) 1 1] 22) := by rw [← hV, ← hgg2, ← hgg1]; exact heap_alloc_new u1 _
          have hn1 : (Value.slice aK n cK).ownBlock ≠ some g1 := by rw [← hgg1]; exact own_not' hoK (by simp)
          have hn2 : (Value.slice aK n cK).ownBlock ≠ some g2 := by rw [← hgg2]; exact own_not hoK (Nat.le_refl _)
          rw [hV, hgg2, hgg1]
          obtain ⟨a9, c9, u9, r9, hs9, hp9, hb9⟩ := app_all 41 V W2.heap.size hVV.size aK cK n vals A hoV a5 c5 x.invs (fun U' hU' => ⟨RowsP.of (HA.out _ (HOFB.out _ (hBS _ (hVV.trans hU')))), (HIN.out _ (HOFB.out _ (hBS _ (hVV.trans hU')))).invs⟩) g1 bl hg1 hn1 g2 hg2 hn2 (by omega)
          have h9 : Below W2.heap.size W2 u9 := hVV.trans hb9
          refine HeldAll.one (i := 13) (by kernel_rfl) ?_
          refine HeldAll.opVal (i := 13) (oi := _) (d := some 25) (v := .slice a9 (n + 2) c9) (w2 := u9) rfl rfl (by rfl) (App2.exec_append rfl rfl rfl r9) (hSK _ (hBS _ h9)) ?_
          (try simp only [Act.put, List.setIfInBounds_toArray, List.set_cons_zero, List.set_cons_succ])
          refine HeldAll.one (i := 14) (by kernel_rfl) ?_
          refine HeldAll.opCall (i := 14) (oi := _) (d := some 26) (R := fun v w' => ∃ a' c', v = .slice a' l.length c' ∧ Sl w' a' l.length c' (ints l) ∧ Below u9.heap.size u9 w') rfl rfl (by rfl) (by go_simp; done) (concat_l u9 a9 (n + 2) c9 _ A x.invs bl l HL.out hs9 hp9 (by rw [← HL.out]; simp only [List.length_append, List.length_singleton]; omega)) ?_
          rintro v u10 ⟨aL, cL, rfl, hsL, hbL⟩
          have h10 : Below W2.heap.size W2 u10 := h9.trans (hbL.mono h9.size)
          refine ⟨hSK _ (hBS _ h10), ?_⟩
          (try simp only [Act.put, List.setIfInBounds_toArray, List.set_cons_zero, List.set_cons_succ])
          refine HeldAll.one (i := 15) (by kernel_rfl) ?_
          refine HeldAll.opCall (i := 15) (oi := _) (d := some 27) (R := fun v w' => ∃ X : List Int, SetK w' W1.heap.size X.length X ∧ CInv x l X ∧ OffB W1.heap.size u10 w') rfl rfl (by rfl) (by go_simp; done) (HADD.out u10 h10 aL cL hsL) ?_
          rintro v u11 ⟨X, hX1, hX2, hX3⟩
          have o11 : OffB W1.heap.size W2 u11 := (hBS _ h10).trans hX3
          refine ⟨hSK _ o11, ?_⟩
          (try simp only [Act.put, List.setIfInBounds_toArray, List.set_cons_zero, List.set_cons_succ])
          refine HeldAll.done (by kernel_rfl) ?_ _
          (try go_wp2_with fail)
          go_meet
          exact ⟨X, hX1, hX2, o11⟩
        · skip
          refine HeldAll.opVal (i := 12) (oi := _) (d := some 24) (v := .slice (some ⟨(W2.drew.alloc (.cells #[.int .i64 bl] 3)).heap.size, 0, none⟩) 2 2) (w2 := (W2.drew.alloc (.cells #[.int .i64 bl] 3)).alloc (.cells #[.slice a5 x.invs.length c5, .slice (some ⟨W2.drew.heap.size, 0, none⟩) 1 1] 22)) rfl rfl (by rfl) (by go_simp; done) (hSK _ (hBS _ (hE1.alloc hE1.size _))) ?_
          (try simp only [Act.put, List.setIfInBounds_toArray, List.set_cons_zero, List.set_cons_succ])
          have hE2 : Below W2.heap.size W2 ((W2.drew.alloc (.cells #[.int .i64 bl] 3)).alloc (.cells #[.slice a5 x.invs.length c5, .slice (some ⟨W2.drew.heap.size, 0, none⟩) 1 1] 22)) := hE1.alloc hE1.size _
          refine HeldAll.one (i := 3) (by kernel_rfl) ?_
          refine HeldAll.opCall (i := 3) (oi := _) (d := some 15) (R := fun v w' => ∃ a' c', v = .slice a' n c' ∧ w'.ownsRow ((W2.drew.alloc (.cells #[.int .i64 bl] 3)).alloc (.cells #[.slice a5 x.invs.length c5, .slice (some ⟨W2.drew.heap.size, 0, none⟩) 1 1] 22)).heap.size 22 1 (.slice a' n c') n vals ∧ Below ((W2.drew.alloc (.cells #[.int .i64 bl] 3)).alloc (.cells #[.slice a5 x.invs.length c5, .slice (some ⟨W2.drew.heap.size, 0, none⟩) 1 1] 22)).heap.size ((W2.drew.alloc (.cells #[.int .i64 bl] 3)).alloc (.cells #[.slice a5 x.invs.length c5, .slice (some ⟨W2.drew.heap.size, 0, none⟩) 1 1] 22)) w') rfl rfl (by rfl) (by go_simp; done) ((CloneR.clone ((W2.drew.alloc (.cells #[.int .i64 bl] 3)).alloc (.cells #[.slice a5 x.invs.length c5, .slice (some ⟨W2.drew.heap.size, 0, none⟩) 1 1] 22)) aA n cA vals (HA.out _ (HOFB.out _ (hBS _ hE2))).sl (row_one (HA.out _ (HOFB.out _ (hBS _ hE2)))) (by omega)).mono fun e w' h => by obtain ⟨a', c', he, ho, hb⟩ := h; exact ⟨_, he, a', c', rfl, ho, hb⟩) ?_
          rintro v u1 ⟨aK, cK, rfl, hoK, hbK⟩
          have hC : Below W2.heap.size W2 u1 := hE2.trans (hbK.mono hE2.size)
          refine ⟨hSK _ (hBS _ hC), ?_⟩
          (try simp only [Act.put, List.setIfInBounds_toArray, List.set_cons_zero, List.set_cons_succ])
          obtain ⟨V, hV⟩ : ∃ V, u1 = V := ⟨_, rfl⟩
          obtain ⟨g1, hgg1⟩ : ∃ g, W2.drew.heap.size = g := ⟨_, rfl⟩
          obtain ⟨g2, hgg2⟩ : ∃ g, (W2.drew.alloc (.cells #[.int .i64 bl] 3)).heap.size = g := ⟨_, rfl⟩
          have hVV : Below W2.heap.size W2 V := by rw [← hV]; exact hC
          have hoV : V.ownsRow W2.heap.size 22 1 (.slice aK n cK) n vals := by rw [← hV]; exact (own_mono hoK hE2.size)
          have hg1 : V.heap[g1]? = some (.cells #[.int .i64 bl] 3) := by rw [← hV, ← hgg1]; exact (hbK.block W2.drew.heap.size (by simp; omega)).trans ((((Below.refl (W2.drew.alloc (.cells #[.int .i64 bl] 3)).heap.size (W2.drew.alloc (.cells #[.int .i64 bl] 3))).alloc (Nat.le_refl _) (.cells #[.slice a5 x.invs.length c5, .slice (some ⟨W2.drew.heap.size, 0, none⟩) 1 1] 22)).block W2.drew.heap.size (by simp)).trans (heap_alloc_new W2.drew _))
          have hg2 : V.heap[g2]? = some (.cells #[.slice a5 x.invs.length c5, .slice (some ⟨g1, 0, none⟩) 1 1] 22) := by rw [← hV, ← hgg2, ← hgg1]; exact (hbK.block (W2.drew.alloc (.cells #[.int .i64 bl] 3)).heap.size (by simp)).trans (heap_alloc_new (W2.drew.alloc (.cells #[.int .i64 bl] 3)) _)
          have hn1 : (Value.slice aK n cK).ownBlock ≠ some g1 := by rw [← hgg1]; exact own_not' hoK (by simp; omega)
          have hn2 : (Value.slice aK n cK).ownBlock ≠ some g2 := by rw [← hgg2]; exact own_not' hoK (by simp)
          rw [hV, hgg2, hgg1]
          obtain ⟨a9, c9, u9, r9, hs9, hp9, hb9⟩ := app_all 41 V W2.heap.size hVV.size aK cK n vals A hoV a5 c5 x.invs (fun U' hU' => ⟨RowsP.of (HA.out _ (HOFB.out _ (hBS _ (hVV.trans hU')))), (HIN.out _ (HOFB.out _ (hBS _ (hVV.trans hU')))).invs⟩) g1 bl hg1 hn1 g2 hg2 hn2 (by omega)
          have h9 : Below W2.heap.size W2 u9 := hVV.trans hb9
          refine HeldAll.one (i := 13) (by kernel_rfl) ?_
          refine HeldAll.opVal (i := 13) (oi := _) (d := some 25) (v := .slice a9 (n + 2) c9) (w2 := u9) rfl rfl (by rfl) (App2.exec_append rfl rfl rfl r9) (hSK _ (hBS _ h9)) ?_
          (try simp only [Act.put, List.setIfInBounds_toArray, List.set_cons_zero, List.set_cons_succ])
          refine HeldAll.one (i := 14) (by kernel_rfl) ?_
          refine HeldAll.opCall (i := 14) (oi := _) (d := some 26) (R := fun v w' => ∃ a' c', v = .slice a' l.length c' ∧ Sl w' a' l.length c' (ints l) ∧ Below u9.heap.size u9 w') rfl rfl (by rfl) (by go_simp; done) (concat_l u9 a9 (n + 2) c9 _ A x.invs bl l HL.out hs9 hp9 (by rw [← HL.out]; simp only [List.length_append, List.length_singleton]; omega)) ?_
          rintro v u10 ⟨aL, cL, rfl, hsL, hbL⟩
          have h10 : Below W2.heap.size W2 u10 := h9.trans (hbL.mono h9.size)
          refine ⟨hSK _ (hBS _ h10), ?_⟩
          (try simp only [Act.put, List.setIfInBounds_toArray, List.set_cons_zero, List.set_cons_succ])
          refine HeldAll.one (i := 15) (by kernel_rfl) ?_
          refine HeldAll.opCall (i := 15) (oi := _) (d := some 27) (R := fun v w' => ∃ X : List Int, SetK w' W1.heap.size X.length X ∧ CInv x l X ∧ OffB W1.heap.size u10 w') rfl rfl (by rfl) (by go_simp; done) (HADD.out u10 h10 aL cL hsL) ?_
          rintro v u11 ⟨X, hX1, hX2, hX3⟩
          have o11 : OffB W1.heap.size W2 u11 := (hBS _ h10).trans hX3
          refine ⟨hSK _ o11, ?_⟩
          (try simp only [Act.put, List.setIfInBounds_toArray, List.set_cons_zero, List.set_cons_succ])
          refine HeldAll.done (by kernel_rfl) ?_ _
          (try go_wp2_with fail)
          go_meet
          exact ⟨X, hX1, hX2, o11⟩
  case rest =>
    obtain ⟨X0, hX1, hX2, hX3⟩ := hcut
    generalize wc = w3 at *
    obtain ⟨nb, hnb⟩ : ∃ nb, l.length + 2 * x.ands.length + x.lats.length = nb := ⟨_, rfl⟩
    have HNB := Lib.hid hnb
    obtain ⟨m, hm⟩ : ∃ m, x.lats.length = m := ⟨_, rfl⟩
    have HM := Lib.hid hm
    have HNBL : Hid (nb ≤ 100000000) := by
      show _ ≤ _
      have := HZ.out; have := congrArg List.length HL.out
      simp only [List.length_append, List.length_singleton] at this
      omega
    have hm5 : m ≤ 4000000 := by have := HZ.out; omega
    have hgk : Hid (2 * (nb - X0.length) + 1 = 2 * (nb - X0.length) + (if true = true then 1 else 0)) := by show _ = _; simp
    clear hnb hm
    go_wp2_with fail
    go_loopg [8] (2 * (nb - X0.length) + 1) (fun gk s8 wr => ∃ (X : List Int) (f : Bool), s8 = .bool f ∧ Hid (SetK wr W1.heap.size X.length X) ∧ Hid (CInv x l X) ∧ Hid (f = false → ∀ t ∈ x.lats, Shut x X t) ∧ Hid (gk = 2 * (nb - X.length) + (if f = true then 1 else 0)) ∧ Hid (OffB W1.heap.size W2 wr))
    case atStart => exact ⟨X0, true, rfl, hX1, hX2, fun h => absurd h (by decide), hgk, hX3⟩
    case round =>
      obtain ⟨X1, f, rfl, hS, hI, hsh, hgk1, hO⟩ := hrel
      clear hX1 hX2 hX3 hgk
      cases f
      · have hS' := hS.out
        have HE := Lib.hid (cinv_end hI.out (hsh.out rfl))
        have HBE := Lib.hid (HOFB.out wr hO.out)
        have HND := Lib.hid hI.out.nodup
        clear hsh hgk1 hI hS'
        go_wp2_with fail
        go_ret
        exact ⟨W1.heap.size, X1, rfl, Nat.le_of_lt HLT1.out, hS.out, HND.out, HE.out, HBE.out⟩
      · have m2 := (offb_cbox hO.out HC2.out (by have := HLT1.out; omega)).k2
        simp only [HM.out] at m2
        have HS1 := hS
        have HO1 := hO
        clear hS hO hsh
        generalize wr = wo at *
        go_wp2_with fail
        go_loopw [8, 32] (fun s8 i wr => ∃ (q : Nat) (X : List Int) (f : Bool), q ≤ m ∧ s8 = .bool f ∧ i = .int .i64 q ∧ Hid (SetK wr W1.heap.size X.length X) ∧ Hid (CInv x l X) ∧ Hid (OffB W1.heap.size W2 wr) ∧ Hid (f = false → X = X1 ∧ ∀ t ∈ x.lats.take q, Shut x X1 t) ∧ Hid (f = true → X1.length < X.length)) (fun _ i _ => m - (intOf i).toNat)
        case atStart => exact ⟨0, X1, false, Nat.zero_le _, rfl, rfl, HS1, hI, HO1, fun _ => ⟨rfl, fun t ht => by simp at ht⟩, fun h => absurd h (by decide)⟩
        case round =>
          obtain ⟨q, X, f, hq, rfl, rfl, hS, hI2, hO, hf0, hf1⟩ := hrel
          by_cases hlt : q < m
          · have hix := (HIN.out wr (HOFB.out wr hO.out)).lats
            have hlt2 : q < x.lats.length := by have := HM.out; omega
            obtain ⟨b, o, hx, hbo, hbs, e0, e1, e2⟩ := hix.tri hlt2
            simp only at hbo
            subst hbo
            have hcap := hix.cap
            have hbig := hix.big
            simp only [HM.out] at hcap
            have h64 := HW.out.lats x.lats[q] (List.getElem_mem _)
            have HTK := Lib.hid (List.take_succ_eq_append_getElem hx)
            have HMEM : Hid (x.lats[q] ∈ x.lats) := List.getElem_mem _
            generalize x.lats[q] = t at *
            obtain ⟨t0, t1, t2⟩ := t
            simp only at e0 e1 e2 h64
            obtain ⟨W5, hW5⟩ : ∃ U, wr.alloc (.cells #[.int .i64 t0, .int .i64 t1, .int .i64 t2] 37) = U := ⟨_, rfl⟩
            have hb5 : Below wr.heap.size wr W5 := by rw [← hW5]; exact (Below.refl _ _).alloc (Nat.le_refl _) _
            have hx5 : BoxN wr.heap.size [.int .i64 t0, .int .i64 t1, .int .i64 t2] W5 := by rw [← hW5]; exact BoxN.new wr _ _
            have hS5 := hS.out.next hb5
            have hO5 := hO.out.below hb5
            have HHAS := Lib.hid (has_any W5 hS5 t0 h64.1.1 h64.1.2)
            have y0 := hx5.at' 0 _ rfl
            have y1 := hx5.at' 1 _ rfl
            have hcw := c8of (offb_cbox hO5 HC2.out (by have := HLT1.out; omega))
            obtain ⟨n0, n1, n2, n3, n4, n5, n6, n7⟩ := hcw
            have HS5 := Lib.hid hS5
            have HO5 := Lib.hid hO5
            have HU1 := Lib.hid h64.2.1
            clear hix hlt2 hx hb5 hx5 hS5 hO5 h64 hO hS
            cases hin : SetI.inX X (var t0)
            · rw [hin] at HHAS
              have HSH : Hid (f = false → X = X1 ∧ ∀ t ∈ x.lats.take (q + 1), Shut x X1 t) := fun hf => by
                obtain ⟨h1, h2⟩ := hf0.out hf
                refine ⟨h1, fun t ht => ?_⟩
                rw [HTK.out, List.mem_append, List.mem_singleton] at ht
                rcases ht with ht | rfl
                · exact h2 t ht
                · intro hm
                  rw [← h1] at hm
                  rw [SetI.inX_iff.2 hm] at hin
                  cases hin
              clear hin hf0
              go_wp2_with fail
              with_reducible refine HHAS.out.mono ?_
              rintro e w6 ⟨rfl, rfl⟩
              clear hW5 n0 n1 n2 n3 n4 n5 n6 n7
              go_wp2_with fail
              go_roundw
              case rel => exact ⟨q + 1, X, f, by omega, rfl, by go_num, HS5.out, hI2.out, HO5.out, HSH.out, hf1.out⟩
              case measure => simp [intOf]; omega
            · rw [hin] at HHAS
              have HIN1 := Lib.hid (SetI.inX_iff.1 hin)
              have hXB := cinv_few hI2.out
              have HXB : Hid (X.length ≤ nb) := by show _ ≤ _; rw [← HNB.out]; exact hXB
              obtain ⟨W6, hW6⟩ : ∃ U, W5.alloc (.cells #[.int .i64 t1] 3) = U := ⟨_, rfl⟩
              have hb6 : Below W5.heap.size W5 W6 := by rw [← hW6]; exact (Below.refl _ _).alloc (Nat.le_refl _) _
              have hs6 : Sl W6 (some ⟨W5.heap.size, 0, none⟩) 1 1 (ints [t1]) := by rw [← hW6]; exact sl_new W5 #[.int .i64 t1] 3 1 rfl (by decide)
              have hO6 := HO5.out.below hb6
              have HAD := Lib.hid (HADX.out W6 (HOFB.out W6 hO6) X (HS5.out.next hb6) hI2.out.nodup (by have := HXB.out; have := HNBL.out; omega) (some ⟨W5.heap.size, 0, none⟩) 1 t1 HU1.out hs6)
              have HO6 := Lib.hid hO6
              clear hin hXB hb6 hs6 hO6
              go_wp2_with fail
              with_reducible refine HHAS.out.mono ?_
              rintro e w6 ⟨rfl, rfl⟩
              go_wp2_with fail
              with_reducible refine HAD.out.mono ?_
              rintro e w7 ⟨X2, rfl, hS7, hA7, hsm, hO7⟩
              have HS7 := Lib.hid hS7
              have HI7 := Lib.hid (cinv_next hI2.out HMEM.out HIN1.out hA7)
              have HO7 := Lib.hid (HO6.out.trans hO7)
              by_cases hg : X.length < X2.length
              · have hd : decide (X.length < X2.length) = true := decide_eq_true hg
                rw [hd]
                have HF1 : Hid (X1.length < X2.length) := by
                  show _ < _
                  cases f
                  · rw [← (hf0.out rfl).1]; exact hg
                  · have := hf1.out rfl; omega
                clear hd hg hsm hA7 hS7 hO7 hW5 hW6 n0 n1 n2 n3 n4 n5 n6 n7 hf0 hf1
                go_wp2_with fail
                go_roundw
                case rel => exact ⟨q + 1, X2, true, by omega, rfl, by go_num, HS7.out, HI7.out, HO7.out, fun h => absurd h (by decide), fun _ => HF1.out⟩
                case measure => simp [intOf]; omega
              · have hd : decide (X.length < X2.length) = false := decide_eq_false hg
                rw [hd]
                obtain ⟨h1, h2⟩ := hsm (by omega)
                have HX2 : Hid (X2 = X) := h1
                have HSH : Hid (f = false → X2 = X1 ∧ ∀ t ∈ x.lats.take (q + 1), Shut x X1 t) := fun hf => by
                  obtain ⟨g1, g2⟩ := hf0.out hf
                  refine ⟨h1.trans g1, fun t ht => ?_⟩
                  rw [HTK.out, List.mem_append, List.mem_singleton] at ht
                  rcases ht with ht | rfl
                  · exact g2 t ht
                  · intro _ v hv0 hv
                    rw [← g1]
                    exact h2 v hv0 hv
                have HF1 : Hid (f = true → X1.length < X2.length) := fun hf => by rw [h1]; exact hf1.out hf
                clear hd hg hsm hA7 hS7 hO7 hW5 hW6 n0 n1 n2 n3 n4 n5 n6 n7 hf0 hf1 h1 h2
                go_wp2_with fail
                go_roundw
                case rel => exact ⟨q + 1, X2, f, by omega, rfl, by go_num, HS7.out, HI7.out, HO7.out, HSH.out, HF1.out⟩
                case measure => simp [intOf]; omega
          · have hqm : q = m := by omega
            have hXB := cinv_few hI2.out
            have HXB : Hid (X.length ≤ nb) := by show _ ≤ _; rw [← HNB.out]; exact hXB
            have HSH : Hid (f = false → ∀ t ∈ x.lats, Shut x X t) := fun hf => by
              obtain ⟨g1, g2⟩ := hf0.out hf
              rw [g1]
              intro t ht
              refine g2 t ?_
              rw [List.take_of_length_le (by rw [HM.out]; omega)]
              exact ht
            have HLE : Hid (f = false → X.length = X1.length) := fun hf => by rw [(hf0.out hf).1]
            clear hqm hXB hf0
            go_wp2_with fail
            go_roundg (2 * (nb - X.length) + (if f = true then 1 else 0))
            case measure =>
              have h0 := hgk1.out
              have h1 := HXB.out
              cases f
              · have := HLE.out rfl; simp at h0 ⊢; omega
              · have := hf1.out rfl; simp at h0 ⊢; omega
            case rel => exact ⟨X, f, rfl, hS.out, hI2.out, HSH.out, rfl, hO.out⟩
end Coi
end Go.Proofs.YtninglnchengeaaGreatDoor
