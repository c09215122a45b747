/-
  interlockplain.Spoil: what a circuit's parts hold is written over; nothing else turns.
-/
import Derived.Test.YtpejpjiipcolbaaOwnC
import Derived.Deep.DeepCutAuto
import Derived.BigQuiet
namespace Go.Proofs.Ytpejpjiipcolbaa
open Go.RowKit Base
set_option linter.unusedVariables false
set_option linter.unusedSimpArgs false
namespace Circuit

theorem Writes.one {w : World} {B N : Nat} {a : Option Addr} {n k : Nat} (h : Writes w B N a (n * 1)) (hk : k < n) : ∃ g u, a = some ⟨g, 0, none⟩ ∧ B ≤ g ∧ g < N ∧ w.cell? ⟨g, k, none⟩ = some u ∧ w.frozen? ⟨g, k, none⟩ = false := by
  rcases h with h | ⟨g, ha, h1, h2, hc⟩
  · omega
  · obtain ⟨⟨u, hu⟩, hf⟩ := hc k (by omega)
    exact ⟨g, u, ha, h1, h2, hu, hf⟩

theorem Writes.three {w : World} {B N : Nat} {a : Option Addr} {n k : Nat} (h : Writes w B N a (n * 3)) (hk : k < n) : ∃ g u0 u1 u2, a = some ⟨g, 0, none⟩ ∧ B ≤ g ∧ g < N ∧ (w.cell? ⟨g, k * 3, none⟩ = some u0 ∧ w.frozen? ⟨g, k * 3, none⟩ = false) ∧ (w.cell? ⟨g, k * 3 + 1, none⟩ = some u1 ∧ w.frozen? ⟨g, k * 3 + 1, none⟩ = false) ∧ (w.cell? ⟨g, k * 3 + 2, none⟩ = some u2 ∧ w.frozen? ⟨g, k * 3 + 2, none⟩ = false) := by
  rcases h with h | ⟨g, ha, h1, h2, hc⟩
  · omega
  · obtain ⟨⟨u0, hu0⟩, hf0⟩ := hc (k * 3) (by omega)
    obtain ⟨⟨u1, hu1⟩, hf1⟩ := hc (k * 3 + 1) (by omega)
    obtain ⟨⟨u2, hu2⟩, hf2⟩ := hc (k * 3 + 2) (by omega)
    exact ⟨g, u0, u1, u2, ha, h1, h2, ⟨hu0, hf0⟩, ⟨hu1, hf1⟩, hu2, hf2⟩

/-- What stands while the parts are written over. -/
structure Spoils (w0 : World) (Nb B N : Nat) (cs : List Value) (a1 a2 a3 a4 a5 a6 a7 : Option Addr) (n1 n2 n3 n4 n5 n6 n7 : Nat) (w : World) : Prop where
  low : Below B w0 w
  high : Holds N w0 w
  box : BoxN Nb cs w
  ne : N ≤ Nb
  k1 : Writes w B N a1 (n1 * 1)
  k2 : Writes w B N a2 (n2 * 3)
  k3 : Writes w B N a3 (n3 * 1)
  k4 : Writes w B N a4 (n4 * 1)
  k5 : Writes w B N a5 (n5 * 1)
  k6 : Writes w B N a6 (n6 * 3)
  k7 : Writes w B N a7 (n7 * 3)

theorem Spoils.set {w0 : World} {Nb B N : Nat} {cs : List Value} {a1 a2 a3 a4 a5 a6 a7 : Option Addr} {n1 n2 n3 n4 n5 n6 n7 : Nat} {w : World} (h : Spoils w0 Nb B N cs a1 a2 a3 a4 a5 a6 a7 n1 n2 n3 n4 n5 n6 n7 w) {g : Nat} (h1 : B ≤ g) (h2 : g < N) (j : Nat) (u : Value) : Spoils w0 Nb B N cs a1 a2 a3 a4 a5 a6 a7 n1 n2 n3 n4 n5 n6 n7 (w.setCell ⟨g, j, none⟩ u) :=
  ⟨h.low.setCell h1 u, h.high.set h2 u, h.box.other (by show g ≠ Nb; have := h.ne; omega) u, h.ne, h.k1.set _ u, h.k2.set _ u, h.k3.set _ u, h.k4.set _ u, h.k5.set _ u, h.k6.set _ u, h.k7.set _ u⟩

set_option maxRecDepth 8000 in
set_option maxHeartbeats 16000000 in
theorem spoil_any (w : World) (x : Circ) (p : At) (hin : InCirc w x p) (B N : Nat) (hBN : B ≤ w.heap.size) (hN : N ≤ w.heap.size) (k1 : Writes w B N p.a1 (x.ins.length * 1)) (k2 : Writes w B N p.a2 (x.lats.length * 3)) (k3 : Writes w B N p.a3 (x.outs.length * 1)) (k4 : Writes w B N p.a4 (x.bads.length * 1)) (k5 : Writes w B N p.a5 (x.invs.length * 1)) (k6 : Writes w B N p.a6 (x.ands.length * 3)) (k7 : Writes w B N p.a7 (x.names.length * 3)) :
    Calls Try.prog 16 #[.agg (cells x p)] w fun e w' => (∃ v, e = .returned v) ∧ Below B w w' ∧ Holds N w w' := by
  obtain ⟨a1, c1, a2, c2, a3, c3, a4, c4, a5, c5, a6, c6, a7, c7⟩ := p
  obtain ⟨mx, ins, lats, outs, bads, invs, ands, names⟩ := x
  have l1 : ins.length ≤ 9223372036854775807 := Nat.le_trans hin.ins.cap hin.ins.big
  have l2 : lats.length ≤ 9223372036854775807 := Nat.le_trans hin.lats.cap hin.lats.big
  have l3 : outs.length ≤ 9223372036854775807 := Nat.le_trans hin.outs.cap hin.outs.big
  have l4 : bads.length ≤ 9223372036854775807 := Nat.le_trans hin.bads.cap hin.bads.big
  have l5 : invs.length ≤ 9223372036854775807 := Nat.le_trans hin.invs.cap hin.invs.big
  have l6 : ands.length ≤ 9223372036854775807 := Nat.le_trans hin.ands.cap hin.ands.big
  have l7 : names.length ≤ 9223372036854775807 := Nat.le_trans hin.names.cap hin.names.big
  simp only [cells] at *
  obtain ⟨W1, hW1⟩ : ∃ W1, w.alloc (.cells #[.int .i64 mx, .slice a1 ins.length c1, .slice a2 lats.length c2, .slice a3 outs.length c3, .slice a4 bads.length c4, .slice a5 invs.length c5, .slice a6 ands.length c6, .slice a7 names.length c7] 27) = W1 := ⟨_, rfl⟩
  have h1 : Below w.heap.size w W1 := by rw [← hW1]; exact (Below.refl _ _).alloc (Nat.le_refl _) _
  have X1 : BoxN w.heap.size [.int .i64 mx, .slice a1 ins.length c1, .slice a2 lats.length c2, .slice a3 outs.length c3, .slice a4 bads.length c4, .slice a5 invs.length c5, .slice a6 ands.length c6, .slice a7 names.length c7] W1 := by
    have h := BoxN.new w #[.int .i64 mx, .slice a1 ins.length c1, .slice a2 lats.length c2, .slice a3 outs.length c3, .slice a4 bads.length c4, .slice a5 invs.length c5, .slice a6 ands.length c6, .slice a7 names.length c7] 27
    rw [hW1] at h
    exact h
  have HS0 : Hid (Spoils w w.heap.size B N [.int .i64 mx, .slice a1 ins.length c1, .slice a2 lats.length c2, .slice a3 outs.length c3, .slice a4 bads.length c4, .slice a5 invs.length c5, .slice a6 ands.length c6, .slice a7 names.length c7] a1 a2 a3 a4 a5 a6 a7 ins.length lats.length outs.length bads.length invs.length ands.length names.length W1) :=
    ⟨h1.mono hBN, Holds.of h1, X1, hN, k1.next hN h1, k2.next hN h1, k3.next hN h1, k4.next hN h1, k5.next hN h1, k6.next hN h1, k7.next hN h1⟩
  have L1 := Lib.hid l1
  have L2 := Lib.hid l2
  have L3 := Lib.hid l3
  have L4 := Lib.hid l4
  have L5 := Lib.hid l5
  have L6 := Lib.hid l6
  have L7 := Lib.hid l7
  clear l1 l2 l3 l4 l5 l6 l7 hin k1 k2 k3 k4 k5 k6 k7 h1 X1 hBN hN
  go_enter Try.func16, Try.ntmps16
  go_upto_region 1 with fail
  clear hW1

  go_wp2_with fail
  go_loopw [2] (fun s wr => ∃ k : Nat, k ≤ ins.length ∧ s = .int .i64 k ∧ Hid (Spoils w w.heap.size B N [.int .i64 mx, .slice a1 ins.length c1, .slice a2 lats.length c2, .slice a3 outs.length c3, .slice a4 bads.length c4, .slice a5 invs.length c5, .slice a6 ands.length c6, .slice a7 names.length c7] a1 a2 a3 a4 a5 a6 a7 ins.length lats.length outs.length bads.length invs.length ands.length names.length wr)) (fun s _ => ins.length - (intOf s).toNat)
  case atStart => exact ⟨0, Nat.zero_le _, rfl, HS0⟩
  case round =>
    obtain ⟨k, hk, rfl, hP⟩ := hrel
    have r1 := hP.out.box.at' 1 _ rfl
    have l1 := L1.out
    by_cases hlt : k < ins.length
    · obtain ⟨g, u, hae, hg1, hg2, hu, hf⟩ := Writes.one hP.out.k1 hlt
      subst hae
      have HP2 := Lib.hid (hP.out.set hg1 hg2 k (.int .i64 77))
      clear hg1 hg2 hP
      go_wp2_with fail
      go_roundw
      case rel => exact ⟨k + 1, by omega, by go_num, HP2⟩
      case measure => simp [intOf]; omega
    · have HX1 := hP
      generalize wr = w1 at *
      clear hP
      go_wp2_with fail
      clear hk hlt l1 r1
      go_loopw [3] (fun s wr => ∃ k : Nat, k ≤ lats.length ∧ s = .int .i64 k ∧ Hid (Spoils w w.heap.size B N [.int .i64 mx, .slice a1 ins.length c1, .slice a2 lats.length c2, .slice a3 outs.length c3, .slice a4 bads.length c4, .slice a5 invs.length c5, .slice a6 ands.length c6, .slice a7 names.length c7] a1 a2 a3 a4 a5 a6 a7 ins.length lats.length outs.length bads.length invs.length ands.length names.length wr)) (fun s _ => lats.length - (intOf s).toNat)
      case atStart => exact ⟨0, Nat.zero_le _, rfl, HX1⟩
      case round =>
        obtain ⟨k, hk, rfl, hP⟩ := hrel
        have r2 := hP.out.box.at' 2 _ rfl
        have l2 := L2.out
        by_cases hlt : k < lats.length
        · obtain ⟨g, u0, u1, u2, hae, hg1, hg2, ⟨hu0, hf0⟩, ⟨hu1, hf1⟩, hu2, hf2⟩ := Writes.three hP.out.k2 hlt
          subst hae
          have HP2 := Lib.hid (((hP.out.set hg1 hg2 (k * 3) (.int .i64 77)).set hg1 hg2 (k * 3 + 1) (.int .i64 0)).set hg1 hg2 (k * 3 + 2) (.int .i64 0))
          clear hg1 hg2 hP
          go_wp2_with fail
          go_roundw
          case rel => exact ⟨k + 1, by omega, by go_num, HP2⟩
          case measure => simp [intOf]; omega
        · have HX2 := hP
          generalize wr = w2 at *
          clear hP
          go_wp2_with fail
          clear hk hlt l2 r2
          go_loopw [4] (fun s wr => ∃ k : Nat, k ≤ ands.length ∧ s = .int .i64 k ∧ Hid (Spoils w w.heap.size B N [.int .i64 mx, .slice a1 ins.length c1, .slice a2 lats.length c2, .slice a3 outs.length c3, .slice a4 bads.length c4, .slice a5 invs.length c5, .slice a6 ands.length c6, .slice a7 names.length c7] a1 a2 a3 a4 a5 a6 a7 ins.length lats.length outs.length bads.length invs.length ands.length names.length wr)) (fun s _ => ands.length - (intOf s).toNat)
          case atStart => exact ⟨0, Nat.zero_le _, rfl, HX2⟩
          case round =>
            obtain ⟨k, hk, rfl, hP⟩ := hrel
            have r6 := hP.out.box.at' 6 _ rfl
            have l6 := L6.out
            by_cases hlt : k < ands.length
            · obtain ⟨g, u0, u1, u2, hae, hg1, hg2, ⟨hu0, hf0⟩, ⟨hu1, hf1⟩, hu2, hf2⟩ := Writes.three hP.out.k6 hlt
              subst hae
              have HP2 := Lib.hid (((hP.out.set hg1 hg2 (k * 3) (.int .i64 77)).set hg1 hg2 (k * 3 + 1) (.int .i64 0)).set hg1 hg2 (k * 3 + 2) (.int .i64 0))
              clear hg1 hg2 hP
              go_wp2_with fail
              go_roundw
              case rel => exact ⟨k + 1, by omega, by go_num, HP2⟩
              case measure => simp [intOf]; omega
            · have HX3 := hP
              generalize wr = w3 at *
              clear hP
              go_wp2_with fail
              clear hk hlt l6 r6
              go_loopw [5] (fun s wr => ∃ k : Nat, k ≤ bads.length ∧ s = .int .i64 k ∧ Hid (Spoils w w.heap.size B N [.int .i64 mx, .slice a1 ins.length c1, .slice a2 lats.length c2, .slice a3 outs.length c3, .slice a4 bads.length c4, .slice a5 invs.length c5, .slice a6 ands.length c6, .slice a7 names.length c7] a1 a2 a3 a4 a5 a6 a7 ins.length lats.length outs.length bads.length invs.length ands.length names.length wr)) (fun s _ => bads.length - (intOf s).toNat)
              case atStart => exact ⟨0, Nat.zero_le _, rfl, HX3⟩
              case round =>
                obtain ⟨k, hk, rfl, hP⟩ := hrel
                have r4 := hP.out.box.at' 4 _ rfl
                have l4 := L4.out
                by_cases hlt : k < bads.length
                · obtain ⟨g, u, hae, hg1, hg2, hu, hf⟩ := Writes.one hP.out.k4 hlt
                  subst hae
                  have HP2 := Lib.hid (hP.out.set hg1 hg2 k (.int .i64 77))
                  clear hg1 hg2 hP
                  go_wp2_with fail
                  go_roundw
                  case rel => exact ⟨k + 1, by omega, by go_num, HP2⟩
                  case measure => simp [intOf]; omega
                · have HX4 := hP
                  generalize wr = w4 at *
                  clear hP
                  go_wp2_with fail
                  clear hk hlt l4 r4
                  go_loopw [6] (fun s wr => ∃ k : Nat, k ≤ outs.length ∧ s = .int .i64 k ∧ Hid (Spoils w w.heap.size B N [.int .i64 mx, .slice a1 ins.length c1, .slice a2 lats.length c2, .slice a3 outs.length c3, .slice a4 bads.length c4, .slice a5 invs.length c5, .slice a6 ands.length c6, .slice a7 names.length c7] a1 a2 a3 a4 a5 a6 a7 ins.length lats.length outs.length bads.length invs.length ands.length names.length wr)) (fun s _ => outs.length - (intOf s).toNat)
                  case atStart => exact ⟨0, Nat.zero_le _, rfl, HX4⟩
                  case round =>
                    obtain ⟨k, hk, rfl, hP⟩ := hrel
                    have r3 := hP.out.box.at' 3 _ rfl
                    have l3 := L3.out
                    by_cases hlt : k < outs.length
                    · obtain ⟨g, u, hae, hg1, hg2, hu, hf⟩ := Writes.one hP.out.k3 hlt
                      subst hae
                      have HP2 := Lib.hid (hP.out.set hg1 hg2 k (.int .i64 77))
                      clear hg1 hg2 hP
                      go_wp2_with fail
                      go_roundw
                      case rel => exact ⟨k + 1, by omega, by go_num, HP2⟩
                      case measure => simp [intOf]; omega
                    · have HX5 := hP
                      generalize wr = w5 at *
                      clear hP
                      go_wp2_with fail
                      clear hk hlt l3 r3
                      go_loopw [7] (fun s wr => ∃ k : Nat, k ≤ invs.length ∧ s = .int .i64 k ∧ Hid (Spoils w w.heap.size B N [.int .i64 mx, .slice a1 ins.length c1, .slice a2 lats.length c2, .slice a3 outs.length c3, .slice a4 bads.length c4, .slice a5 invs.length c5, .slice a6 ands.length c6, .slice a7 names.length c7] a1 a2 a3 a4 a5 a6 a7 ins.length lats.length outs.length bads.length invs.length ands.length names.length wr)) (fun s _ => invs.length - (intOf s).toNat)
                      case atStart => exact ⟨0, Nat.zero_le _, rfl, HX5⟩
                      case round =>
                        obtain ⟨k, hk, rfl, hP⟩ := hrel
                        have r5 := hP.out.box.at' 5 _ rfl
                        have l5 := L5.out
                        by_cases hlt : k < invs.length
                        · obtain ⟨g, u, hae, hg1, hg2, hu, hf⟩ := Writes.one hP.out.k5 hlt
                          subst hae
                          have HP2 := Lib.hid (hP.out.set hg1 hg2 k (.int .i64 77))
                          clear hg1 hg2 hP
                          go_wp2_with fail
                          go_roundw
                          case rel => exact ⟨k + 1, by omega, by go_num, HP2⟩
                          case measure => simp [intOf]; omega
                        · have HX6 := hP
                          generalize wr = w6 at *
                          clear hP
                          go_wp2_with fail
                          clear hk hlt l5 r5
                          go_loopw [8] (fun s wr => ∃ k : Nat, k ≤ names.length ∧ s = .int .i64 k ∧ Hid (Spoils w w.heap.size B N [.int .i64 mx, .slice a1 ins.length c1, .slice a2 lats.length c2, .slice a3 outs.length c3, .slice a4 bads.length c4, .slice a5 invs.length c5, .slice a6 ands.length c6, .slice a7 names.length c7] a1 a2 a3 a4 a5 a6 a7 ins.length lats.length outs.length bads.length invs.length ands.length names.length wr)) (fun s _ => names.length - (intOf s).toNat)
                          case atStart => exact ⟨0, Nat.zero_le _, rfl, HX6⟩
                          case round =>
                            obtain ⟨k, hk, rfl, hP⟩ := hrel
                            have r7 := hP.out.box.at' 7 _ rfl
                            have l7 := L7.out
                            by_cases hlt : k < names.length
                            · obtain ⟨g, u0, u1, u2, hae, hg1, hg2, ⟨hu0, hf0⟩, ⟨hu1, hf1⟩, hu2, hf2⟩ := Writes.three hP.out.k7 hlt
                              subst hae
                              have HP2 := Lib.hid (((hP.out.set hg1 hg2 (k * 3) (.string ⟨#[122]⟩)).set hg1 hg2 (k * 3 + 1) (.int .i64 0)).set hg1 hg2 (k * 3 + 2) (.string .empty))
                              clear hg1 hg2 hP
                              go_wp2_with fail
                              go_roundw
                              case rel => exact ⟨k + 1, by omega, by go_num, HP2⟩
                              case measure => simp [intOf]; omega
                            · have HX7 := hP
                              generalize wr = w7 at *
                              clear hP
                              go_wp2_with fail
                              clear hk hlt l7 r7
                              refine bodyPost_end (v := .tuple #[]) (by simp [results, Try.results16, go_sem]) rfl ?_
                              exact ⟨⟨_, rfl⟩, HX7.out.low, HX7.out.high⟩
end Circuit
end Go.Proofs.Ytpejpjiipcolbaa
