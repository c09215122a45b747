/-
  circuit.gate: a variable's and.
-/
import Derived.Test.YtninglnchengeaaGateP
namespace Go.Proofs.Ytninglnchengeaa
open Go.RowKit Base
set_option linter.unusedVariables false
set_option linter.unusedSimpArgs false
namespace Circuit

set_option maxRecDepth 8000 in
set_option maxHeartbeats 8000000 in
theorem gate_any (w : World) (x : Circ) (p : At) (hin : InCirc w x p) (hw : WfT x.ands) (v : Int) :
    Calls Try.prog 58 #[.agg (cells x p), .int .i64 v] w (GateOut w (gate x.ands v)) := by
  have hand := hin.ands
  obtain ⟨mx, ins, lats, outs, bads, invs, ands, names⟩ := x
  obtain ⟨a1, c1, a2, c2, a3, c3, a4, c4, a5, c5, a6, c6, a7, c7⟩ := p
  simp only [cells] at *
  obtain ⟨W1, hW1⟩ : ∃ W1, w.alloc (.cells #[.int .i64 mx, .slice a1 ins.length c1, .slice a2 lats.length c2, .slice a3 outs.length c3, .slice a4 bads.length c4, .slice a5 invs.length c5, .slice a6 ands.length c6, .slice a7 names.length c7] 27) = W1 := ⟨_, rfl⟩
  obtain ⟨W2, hW2⟩ : ∃ W2, W1.alloc (.cells #[.int .i64 0, .int .i64 0, .int .i64 0] 52) = W2 := ⟨_, rfl⟩
  have h1 : Below w.heap.size w W1 := by rw [← hW1]; exact (Below.refl _ _).alloc (Nat.le_refl _) _
  have h2 : Below W1.heap.size W1 W2 := by rw [← hW2]; exact (Below.refl _ _).alloc (Nat.le_refl _) _
  have z1 : W1.heap.size = w.heap.size + 1 := by rw [← hW1]; simp
  have z2 : W2.heap.size = w.heap.size + 2 := by rw [← hW2]; simp [z1]
  have k6 : W2.cell? ⟨w.heap.size, 6, none⟩ = some (.slice a6 ands.length c6) := by rw [← hW2, ← hW1]; simp [go_sem]
  have q0 : W2.cell? ⟨w.heap.size + 1, 0, none⟩ = some (.int .i64 0) := by rw [← z1, ← hW2]; simp [go_sem]
  have q1 : W2.cell? ⟨w.heap.size + 1, 1, none⟩ = some (.int .i64 0) := by rw [← z1, ← hW2]; simp [go_sem]
  have q2 : W2.cell? ⟨w.heap.size + 1, 2, none⟩ = some (.int .i64 0) := by rw [← z1, ← hW2]; simp [go_sem]
  have f0 : W2.frozen? ⟨w.heap.size + 1, 0, none⟩ = false := by rw [← z1, ← hW2]; simp [go_sem]
  have f1 : W2.frozen? ⟨w.heap.size + 1, 1, none⟩ = false := by rw [← z1, ← hW2]; simp [go_sem]
  have f2 : W2.frozen? ⟨w.heap.size + 1, 2, none⟩ = false := by rw [← z1, ← hW2]; simp [go_sem]
  have HB2 := Lib.hid (h1.trans (h2.mono h1.size))
  have HS := Lib.hid (hand.next (h1.trans (h2.mono h1.size)))
  have hcap := hand.cap
  have hbig := hand.big
  have HW := Lib.hid hw
  clear hin hand hw h1 h2
  go_enter Try.func58, Try.ntmps58
  go_wp2_with fail
  clear hW1 hW2
  go_loopw [11] (fun s wr => ∃ k : Nat, k ≤ ands.length ∧ s = .int .i64 k ∧ Hid (gate (ands.take k) v = none) ∧ Hid (Below W2.heap.size W2 wr)) (fun s _ => ands.length - (intOf s).toNat)
  case atStart => exact ⟨0, Nat.zero_le _, rfl, rfl, Below.refl _ _⟩
  case round =>
    obtain ⟨k, hk, rfl, hI, hbr⟩ := hrel
    by_cases hlt : k < ands.length
    · obtain ⟨b, o, hx, rfl, hbs, hc0, hc1, hc2⟩ := HS.out.tri hlt
      have d0 := (hbr.out.cell (p := ⟨b, o + k * 3, none⟩) hbs).trans hc0
      have d1 := (hbr.out.cell (p := ⟨b, o + k * 3 + 1, none⟩) hbs).trans hc1
      have d2 := (hbr.out.cell (p := ⟨b, o + k * 3 + 2, none⟩) hbs).trans hc2
      have VA := Lib.hid (fun U => var_any ands[k].1 (HW.out _ (List.getElem_mem hx)).1.1 (HW.out _ (List.getElem_mem hx)).1.2 U)
      clear hc0 hc1 hc2
      have HGM := Lib.hid (fun hn => gate_more (v := v) hx hI.out hn)
      have HGH := Lib.hid (fun h0 h1 => gate_hit (v := v) hx hI.out h0 h1)
      generalize ands[k] = t at *
      obtain ⟨t0, t1, t2⟩ := t
      simp only at d0 d1 d2 VA HGM HGH
      obtain ⟨U, hU⟩ : ∃ U, wr.alloc (.cells #[.int .i64 t0, .int .i64 t1, .int .i64 t2] 52) = U := ⟨_, rfl⟩
      have hbU : Below wr.heap.size wr U := by rw [← hU]; exact (Below.refl _ _).alloc (Nat.le_refl _) _
      have u0 : U.cell? ⟨wr.heap.size, 0, none⟩ = some (.int .i64 t0) := by rw [← hU]; simp [go_sem]
      have u1 : U.cell? ⟨wr.heap.size, 1, none⟩ = some (.int .i64 t1) := by rw [← hU]; simp [go_sem]
      have u2 : U.cell? ⟨wr.heap.size, 2, none⟩ = some (.int .i64 t2) := by rw [← hU]; simp [go_sem]
      have hbW : Below W2.heap.size W2 U := hbr.out.trans (hbU.mono hbr.out.size)
      have r0 := (hbW.cell (p := ⟨w.heap.size + 1, 0, none⟩) (by show w.heap.size + 1 < W2.heap.size; omega)).trans q0
      have r1 := (hbW.cell (p := ⟨w.heap.size + 1, 1, none⟩) (by show w.heap.size + 1 < W2.heap.size; omega)).trans q1
      have r2 := (hbW.cell (p := ⟨w.heap.size + 1, 2, none⟩) (by show w.heap.size + 1 < W2.heap.size; omega)).trans q2
      have s0 := (hbW.frozen (p := ⟨w.heap.size + 1, 0, none⟩) (by show w.heap.size + 1 < W2.heap.size; omega)).trans f0
      have s1 := (hbW.frozen (p := ⟨w.heap.size + 1, 1, none⟩) (by show w.heap.size + 1 < W2.heap.size; omega)).trans f1
      have s2 := (hbW.frozen (p := ⟨w.heap.size + 1, 2, none⟩) (by show w.heap.size + 1 < W2.heap.size; omega)).trans f2
      have HBU := Lib.hid hbW
      clear hbU hbW
      by_cases hg : 0 ≤ t0
      · by_cases hv : var t0 = v
        · have HG := Lib.hid (HGH.out hg hv)
          clear HGM HGH
          subst hv
          go_wp2_with fail
          refine (VA.out U).mono ?_
          rintro e w5 ⟨rfl, rfl⟩
          go_wp2_with fail
          refine bodyPost_ret (v := .tuple #[.agg #[.int .i64 t0, .int .i64 t1, .int .i64 t2], .bool true]) (by simp [results, Try.results58, go_sem, r0, r1, r2]) rfl ?_
          refine ⟨?_, (((HB2.out.trans (HBU.out.mono HB2.out.size)).setCell (by show w.heap.size ≤ w.heap.size + 1; omega) _).setCell (by show w.heap.size ≤ w.heap.size + 1; omega) _).setCell (by show w.heap.size ≤ w.heap.size + 1; omega) _⟩
          rw [HG.out]
          rfl
        · have HG := Lib.hid (HGM.out (fun h => hv h.2))
          clear HGM HGH
          go_wp2_with fail
          refine (VA.out U).mono ?_
          rintro e w5 ⟨rfl, rfl⟩
          go_wp2_with fail
          go_roundw
          case rel => exact ⟨k + 1, by omega, by go_num, HG.out, HBU.out⟩
          case measure => simp [intOf]; omega
      · have HG := Lib.hid (HGM.out (fun h => hg h.1))
        clear HGM HGH
        go_wp2_with fail
        go_roundw
        case rel => exact ⟨k + 1, by omega, by go_num, HG.out, HBU.out⟩
        case measure => simp [intOf]; omega
    · have HG : Hid (gate ands v = none) := by
        have h := hI.out
        rw [List.take_of_length_le (by omega)] at h
        exact h
      have r0 := (hbr.out.cell (p := ⟨w.heap.size + 1, 0, none⟩) (by show w.heap.size + 1 < W2.heap.size; omega)).trans q0
      have r1 := (hbr.out.cell (p := ⟨w.heap.size + 1, 1, none⟩) (by show w.heap.size + 1 < W2.heap.size; omega)).trans q1
      have r2 := (hbr.out.cell (p := ⟨w.heap.size + 1, 2, none⟩) (by show w.heap.size + 1 < W2.heap.size; omega)).trans q2
      have s0 := (hbr.out.frozen (p := ⟨w.heap.size + 1, 0, none⟩) (by show w.heap.size + 1 < W2.heap.size; omega)).trans f0
      have s1 := (hbr.out.frozen (p := ⟨w.heap.size + 1, 1, none⟩) (by show w.heap.size + 1 < W2.heap.size; omega)).trans f1
      have s2 := (hbr.out.frozen (p := ⟨w.heap.size + 1, 2, none⟩) (by show w.heap.size + 1 < W2.heap.size; omega)).trans f2
      go_wp2_with fail
      refine bodyPost_ret (v := .tuple #[.agg #[.int .i64 0, .int .i64 0, .int .i64 0], .bool false]) (by simp [results, Try.results58, go_sem, r0, r1, r2]) rfl ?_
      refine ⟨?_, (((HB2.out.trans (hbr.out.mono HB2.out.size)).setCell (by show w.heap.size ≤ w.heap.size + 1; omega) _).setCell (by show w.heap.size ≤ w.heap.size + 1; omega) _).setCell (by show w.heap.size ≤ w.heap.size + 1; omega) _⟩
      rw [HG.out]
      rfl

end Circuit
end Go.Proofs.Ytninglnchengeaa
