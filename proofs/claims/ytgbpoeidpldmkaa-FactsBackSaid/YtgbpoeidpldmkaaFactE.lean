/-
  facts.one, facts.Check: may a table be?
-/
import Derived.Test.YtgbpoeidpldmkaaFactD
namespace Go.Proofs.Ytgbpoeidpldmkaa
open Go.RowKit Base
set_option linter.unusedVariables false
set_option linter.unusedSimpArgs false
namespace Fact
open Vals (srt srt_spec)

structure WfF (l : List Fc) : Prop where
  lits : ∀ f ∈ l, Clause.Wf f.lits
  tags : ∀ f ∈ l, f.tags.length * 8 ≤ 140737488355328

theorem alone_b (t : Tb) (x : Fc) : alone t x = !(decide (x.id < 1) || decide (t.next ≤ x.id) || decide (x.kind < 1) || decide (2 < x.kind) || decide (x.depth < 0) || decide (t.depth < x.depth) || !litsOk x.lits) := rfl

theorem one_zero {t : Tb} (h : 0 < t.facts.length) : oneOk t 0 = (alone t t.facts[0] && tagged t.facts[0] (t.facts.take 0)) := by
  unfold oneOk
  rw [getElem!_pos t.facts 0 h]
  simp
theorem one_succ {t : Tb} {j : Nat} (h : j + 1 < t.facts.length) : oneOk t (j + 1) = (alone t t.facts[j + 1] && ((decide (t.facts[j].id < t.facts[j + 1].id) && decide (t.facts[j].depth ≤ t.facts[j + 1].depth)) && tagged t.facts[j + 1] (t.facts.take (j + 1)))) := by
  unfold oneOk
  rw [getElem!_pos t.facts (j + 1) h, Nat.add_sub_cancel, getElem!_pos t.facts j (by omega)]
  simp

set_option maxRecDepth 8000 in
set_option maxHeartbeats 16000000 in
theorem one_any (w : World) (t : Tb) (a : Option Addr) (c : Nat) (vs : List (List Value)) (hs : SlF w a t.facts.length c vs t.facts) (hw : WfF t.facts) (i : Nat) (hi : i < t.facts.length) :
    Calls Try.prog 18 #[tagg t a c, .int .i64 i] w fun e w' => e = .returned (.bool (oneOk t i)) ∧ Below w.heap.size w w' := by
  obtain ⟨b, o, a1, c1, a2, c2, hx, rfl, hbs, ⟨d0, d1, d2, d3, d4⟩, hs1, hs2, _⟩ := hs.at hi
  unfold tagg
  obtain ⟨W1, hW1⟩ : ∃ U, w.alloc (.cells #[.int .i64 t.next, .int .i64 t.depth, .slice (some ⟨b, o, none⟩) t.facts.length c] 24) = U := ⟨_, rfl⟩
  have hb1 : Below w.heap.size w W1 := by rw [← hW1]; exact (Below.refl _ _).alloc (Nat.le_refl _) _
  have x1 : BoxN w.heap.size [.int .i64 t.next, .int .i64 t.depth, .slice (some ⟨b, o, none⟩) t.facts.length c] W1 := by
    have h := BoxN.new w #[.int .i64 t.next, .int .i64 t.depth, .slice (some ⟨b, o, none⟩) t.facts.length c] 24
    rw [hW1] at h
    exact h
  have q0 := x1.at' 0 _ rfl
  have q1 := x1.at' 1 _ rfl
  have q2 := x1.at' 2 _ rfl
  have g0 := (hb1.cell (p := ⟨b, o + i * 5, none⟩) hbs).trans d0
  have g1 := (hb1.cell (p := ⟨b, o + i * 5 + 1, none⟩) hbs).trans d1
  have g2 := (hb1.cell (p := ⟨b, o + i * 5 + 2, none⟩) hbs).trans d2
  have g3 := (hb1.cell (p := ⟨b, o + i * 5 + 3, none⟩) hbs).trans d3
  have g4 := (hb1.cell (p := ⟨b, o + i * 5 + 4, none⟩) hbs).trans d4
  have HALN := Lib.hid (alone_b t t.facts[i])
  have hcap := hs.sl.cap
  have hbig := hs.sl.big
  have htk := hs.take (Nat.le_of_lt hi)
  have hz : t.facts[i].tags.length * 8 ≤ 140737488355328 := hw.tags _ (List.getElem_mem hx)
  have hwl := hw.lits _ (List.getElem_mem hx)
  have HPREV : Hid (∀ j, i = j + 1 → ∃ h : j < t.facts.length, (∀ U : World, Below w.heap.size w U → U.cell? ⟨b, o + j * 5, none⟩ = some (.int .i64 t.facts[j].id) ∧ U.cell? ⟨b, o + j * 5 + 2, none⟩ = some (.int .i64 t.facts[j].depth)) ∧ oneOk t i = (alone t t.facts[i] && ((decide (t.facts[j].id < t.facts[i].id) && decide (t.facts[j].depth ≤ t.facts[i].depth)) && tagged t.facts[i] (t.facts.take i)))) := fun j hj => by
    subst hj
    obtain ⟨b', o', _, _, _, _, hx', hae, hbs', ⟨e0, _, e2, _, _⟩, _, _, _⟩ := hs.at (i := j) (by omega)
    simp only [Option.some.injEq, Addr.mk.injEq, and_true] at hae
    obtain ⟨rfl, rfl⟩ := hae
    exact ⟨hx', fun U hU => ⟨(hU.cell (p := ⟨b, o + j * 5, none⟩) hbs').trans e0, (hU.cell (p := ⟨b, o + j * 5 + 2, none⟩) hbs').trans e2⟩, one_succ hx⟩
  have HZERO : Hid (i = 0 → oneOk t i = (alone t t.facts[i] && tagged t.facts[i] (t.facts.take i))) := fun h => by
    subst h
    exact one_zero hx
  have HAND : Hid (alone t t.facts[i] = false → oneOk t i = false) := fun h => by
    cases i with
    | zero => rw [HZERO.out rfl, h]; rfl
    | succ j =>
      obtain ⟨_, _, e⟩ := HPREV.out j rfl
      rw [e, h]
      rfl
  generalize hxx : t.facts[i] = x at *
  have HXX := Lib.hid hxx
  clear hxx
  obtain ⟨W2, hW2⟩ : ∃ U, W1.alloc (.cells #[.int .i64 x.id, .int .i64 x.kind, .int .i64 x.depth, .slice a1 x.lits.length c1, .slice a2 x.tags.length c2] 31) = U := ⟨_, rfl⟩
  have hb2 : Below W1.heap.size W1 W2 := by rw [← hW2]; exact (Below.refl _ _).alloc (Nat.le_refl _) _
  have x2 : BoxN W1.heap.size [.int .i64 x.id, .int .i64 x.kind, .int .i64 x.depth, .slice a1 x.lits.length c1, .slice a2 x.tags.length c2] W2 := by
    have h := BoxN.new W1 #[.int .i64 x.id, .int .i64 x.kind, .int .i64 x.depth, .slice a1 x.lits.length c1, .slice a2 x.tags.length c2] 31
    rw [hW2] at h
    exact h
  have hb12 := hb1.trans (hb2.mono hb1.size)
  have x12 := x1.next hb2 x1.lt
  have HLI := Lib.hid (fun (U : World) (hU : Below W2.heap.size W2 U) => literals_any U a1 x.lits.length c1 x.lits ((hs1.next hb12).next hU) hwl)
  have HTG := Lib.hid (fun (U : World) (hU : Below W2.heap.size W2 U) => tagged_any U x a1 c1 a2 c2 ((hs2.next hb12).next hU) hz (some ⟨b, o, none⟩) i c (vs.take i) (t.facts.take i) ((htk.next hb12).next hU))
  have HSK := Lib.hid (fun (U : World) (hU : Below W2.heap.size W2 U) => (⟨hU, ⟨(x12.next hU (Nat.lt_of_lt_of_le x1.lt hb2.size)).at' 0 _ rfl, (x12.next hU (Nat.lt_of_lt_of_le x1.lt hb2.size)).at' 1 _ rfl, (x12.next hU (Nat.lt_of_lt_of_le x1.lt hb2.size)).at' 2 _ rfl⟩, (x2.next hU x2.lt).at' 0 _ rfl, (x2.next hU x2.lt).at' 1 _ rfl, (x2.next hU x2.lt).at' 2 _ rfl, (x2.next hU x2.lt).at' 3 _ rfl, (x2.next hU x2.lt).at' 4 _ rfl⟩ : Below W2.heap.size W2 U ∧ (U.cell? ⟨w.heap.size, 0, none⟩ = some (.int .i64 t.next) ∧ U.cell? ⟨w.heap.size, 1, none⟩ = some (.int .i64 t.depth) ∧ U.cell? ⟨w.heap.size, 2, none⟩ = some (.slice (some ⟨b, o, none⟩) t.facts.length c)) ∧ U.cell? ⟨W1.heap.size, 0, none⟩ = some (.int .i64 x.id) ∧ U.cell? ⟨W1.heap.size, 1, none⟩ = some (.int .i64 x.kind) ∧ U.cell? ⟨W1.heap.size, 2, none⟩ = some (.int .i64 x.depth) ∧ U.cell? ⟨W1.heap.size, 3, none⟩ = some (.slice a1 x.lits.length c1) ∧ U.cell? ⟨W1.heap.size, 4, none⟩ = some (.slice a2 x.tags.length c2)))
  have HB := Lib.hid hb12
  have HB2 := Lib.hid hb12
  have HLT := Lib.hid hi
  clear d0 d1 d2 d3 d4 hs hw hs1 hs2 hb1 hb2 x1 x2 x12 hb12 htk hz hwl hbs
  obtain ⟨_, ⟨y0, y1, y2⟩, z0, z1, z2, z3, z4⟩ := HSK.out W2 (Below.refl _ _)
  generalize hlo : litsOk x.lits = lo at *
  generalize hv1 : decide (x.id < 1) = b1 at *
  generalize hv2 : decide (t.next ≤ x.id) = b2 at *
  generalize hv3 : decide (x.kind < 1) = b3 at *
  generalize hv4 : decide (2 < x.kind) = b4 at *
  generalize hv5 : decide (x.depth < 0) = b5 at *
  generalize hv6 : decide (t.depth < x.depth) = b6 at *
  cases b1
  case true =>
    go_enter Try.func18, Try.ntmps18
    go_wp2_with fail
    go_ret
    exact ⟨ret_bool (HAND.out (by rw [HALN.out]; rfl)).symm, HB.out⟩
  case false =>
    cases b2
    case true =>
      go_enter Try.func18, Try.ntmps18
      go_wp2_with fail
      go_ret
      exact ⟨ret_bool (HAND.out (by rw [HALN.out]; rfl)).symm, HB.out⟩
    case false =>
      cases b3
      case true =>
        go_enter Try.func18, Try.ntmps18
        go_wp2_with fail
        go_ret
        exact ⟨ret_bool (HAND.out (by rw [HALN.out]; rfl)).symm, HB.out⟩
      case false =>
        cases b4
        case true =>
          go_enter Try.func18, Try.ntmps18
          go_wp2_with fail
          go_ret
          exact ⟨ret_bool (HAND.out (by rw [HALN.out]; rfl)).symm, HB.out⟩
        case false =>
          cases b5
          case true =>
            go_enter Try.func18, Try.ntmps18
            go_wp2_with fail
            go_ret
            exact ⟨ret_bool (HAND.out (by rw [HALN.out]; rfl)).symm, HB.out⟩
          case false =>
            cases b6
            case true =>
              go_enter Try.func18, Try.ntmps18
              go_wp2_with fail
              go_ret
              exact ⟨ret_bool (HAND.out (by rw [HALN.out]; rfl)).symm, HB.out⟩
            case false =>
              cases lo
              case false =>
                have HL0 := Lib.hid (HLI.out W2 (Below.refl _ _))
                go_enter Try.func18, Try.ntmps18
                go_wp2_with fail
                with_reducible refine HL0.out.mono ?_
                rintro e w3 ⟨rfl, hb3⟩
                have HB3 := Lib.hid (HB.out.trans (hb3.mono HB.out.size))
                clear hb3
                go_wp2_with fail
                go_ret
                exact ⟨ret_bool (HAND.out (by rw [HALN.out]; rfl)).symm, HB3.out⟩
              case true =>
                have HL0 := Lib.hid (HLI.out W2 (Below.refl _ _))
                have HALT : Hid (alone t x = true) := by show _ = _; rw [HALN.out]; rfl
                have hi0 : (i : Int) ≤ (t.facts.length : Int) := by omega
                have hi1 : (i : Int) ≤ (c : Int) := by omega
                clear hlo
                generalize htg : tagged x (t.facts.take i) = tg at *
                cases i with
                  | zero =>
                    rw [Nat.zero_mul, Nat.add_zero] at g0 g1 g2 g3 g4
                    have HR : Hid (oneOk t 0 = tg) := by show _ = _; rw [HZERO.out rfl, HALT.out]; rfl
                    have LC1 := Lib.hid (fun (U : World) (hU : Below W2.heap.size W2 U ∧ (U.cell? ⟨w.heap.size, 0, none⟩ = some (.int .i64 t.next) ∧ U.cell? ⟨w.heap.size, 1, none⟩ = some (.int .i64 t.depth) ∧ U.cell? ⟨w.heap.size, 2, none⟩ = some (.slice (some ⟨b, o, none⟩) t.facts.length c)) ∧ U.cell? ⟨W1.heap.size, 0, none⟩ = some (.int .i64 x.id) ∧ U.cell? ⟨W1.heap.size, 1, none⟩ = some (.int .i64 x.kind) ∧ U.cell? ⟨W1.heap.size, 2, none⟩ = some (.int .i64 x.depth) ∧ U.cell? ⟨W1.heap.size, 3, none⟩ = some (.slice a1 x.lits.length c1) ∧ U.cell? ⟨W1.heap.size, 4, none⟩ = some (.slice a2 x.tags.length c2)) => (HTG.out U hU.1).mono (fun e w' h => (⟨h.1, HSK.out w' (hU.1.trans (h.2.mono hU.1.size))⟩ : e = .returned (.bool tg) ∧ Below W2.heap.size W2 w' ∧ (w'.cell? ⟨w.heap.size, 0, none⟩ = some (.int .i64 t.next) ∧ w'.cell? ⟨w.heap.size, 1, none⟩ = some (.int .i64 t.depth) ∧ w'.cell? ⟨w.heap.size, 2, none⟩ = some (.slice (some ⟨b, o, none⟩) t.facts.length c)) ∧ w'.cell? ⟨W1.heap.size, 0, none⟩ = some (.int .i64 x.id) ∧ w'.cell? ⟨W1.heap.size, 1, none⟩ = some (.int .i64 x.kind) ∧ w'.cell? ⟨W1.heap.size, 2, none⟩ = some (.int .i64 x.depth) ∧ w'.cell? ⟨W1.heap.size, 3, none⟩ = some (.slice a1 x.lits.length c1) ∧ w'.cell? ⟨W1.heap.size, 4, none⟩ = some (.slice a2 x.tags.length c2))))
                    unfold fagg at LC1
                    go_enter Try.func18, Try.ntmps18
                    go_upto_region 4 with fail
                    with_reducible refine HL0.out.mono ?_
                    rintro e w3 ⟨rfl, hb3⟩
                    have HB3 := Lib.hid hb3
                    clear hb3 q0 q1 q2 g0 g1 g2 g3 g4 y0 y1 y2 z0 z1 z2 z3 z4 hv1 hv2 hv3 hv4 hv5 hv6
                    go_upto_region 4 with fail
                    have HF := Lib.hid (HSK.out w3.drew (HB3.out.drew))
                    refine Lex.region (fun w' => Below W2.heap.size W2 w' ∧ (w'.cell? ⟨w.heap.size, 0, none⟩ = some (.int .i64 t.next) ∧ w'.cell? ⟨w.heap.size, 1, none⟩ = some (.int .i64 t.depth) ∧ w'.cell? ⟨w.heap.size, 2, none⟩ = some (.slice (some ⟨b, o, none⟩) t.facts.length c)) ∧ w'.cell? ⟨W1.heap.size, 0, none⟩ = some (.int .i64 x.id) ∧ w'.cell? ⟨W1.heap.size, 1, none⟩ = some (.int .i64 x.kind) ∧ w'.cell? ⟨W1.heap.size, 2, none⟩ = some (.int .i64 x.depth) ∧ w'.cell? ⟨W1.heap.size, 3, none⟩ = some (.slice a1 x.lits.length c1) ∧ w'.cell? ⟨W1.heap.size, 4, none⟩ = some (.slice a2 x.tags.length c2)) (by kernel_rfl) (by kernel_rfl) HF.out ?_
                    repeat (first
                      | (refine Lex.step_val (v := ?_) ?_ (fun w' hSw => ?_) ?_; rotate_left; (focus (go_simp; done)); (focus ((try dsimp only at hSw); go_simp; (try with_reducible rfl); done)); (try simp only [Act.put, List.setIfInBounds_toArray, List.set_cons_zero, List.set_cons_succ]))
                      | (refine Lex.step_call (v := ?_) (f := ?_) (args := ?_) ?_ (fun w' hSw => ?_) ?_ ?_; rotate_left 3; (focus (go_simp; done)); (focus ((try dsimp only at hSw); go_simp; (refine And.intro ?_ ?_ <;> with_reducible rfl); done)); (focus (first | with_reducible exact LC1.out)); (try simp only [Act.put, List.setIfInBounds_toArray, List.set_cons_zero, List.set_cons_succ]))
                      | (refine Lex.step_off ?_ ?_; (focus (first | (go_simp; done) | (simp [Region.wanted, yielded, undef]; done) | rfl)); (try simp only [Act.put, List.setIfInBounds_toArray, List.set_cons_zero, List.set_cons_succ]))
                      | fail)
                    refine Lex.step_nil ?_
                    intro wz hz
                    go_wp2_with fail
                    go_ret
                    exact ⟨ret_bool HR.out.symm, HB.out.trans (hz.1.mono HB.out.size)⟩
                  | succ j =>
                    obtain ⟨hj, hcells, hone⟩ := HPREV.out j rfl
                    have HONE := Lib.hid hone
                    have HCL := Lib.hid hcells
                    rw [HALT.out] at HONE
                    clear hone hcells
                    have hjl : j < t.facts.length := hj
                    have hwj : IntKind.i64.wrap (j : Int) = (j : Int) := by rw [IntKind.wrap_i64]; omega
                    have hsa : (j : Int) + 1 ≤ (c : Int) := by omega
                    have hsb : j + 1 ≤ c := by omega
                    have hsc : (0 : Int) ≤ (j : Int) + 1 := by omega
                    have hsd : ((j : Int) + 1).toNat = j + 1 := by omega
                    have hj0 : ((j : Int) + 1 == 0) = false := by simp; omega
                    have hj1 : (((j + 1 : Nat) : Int) == 0) = false := by simp; omega
                    generalize t.facts[j] = y at *
                    generalize hp1 : decide (y.id < x.id) = p1 at *
                    generalize hp2 : decide (y.depth ≤ x.depth) = p2 at *
                    have HSJ := Lib.hid (fun (U : World) (hU : Below W2.heap.size W2 U) => (⟨(HSK.out U hU).1, (HSK.out U hU).2.1, (HSK.out U hU).2.2.1, (HSK.out U hU).2.2.2.1, (HSK.out U hU).2.2.2.2.1, (HSK.out U hU).2.2.2.2.2.1, (HSK.out U hU).2.2.2.2.2.2, (HCL.out U (HB.out.trans (hU.mono HB.out.size))).1, (HCL.out U (HB.out.trans (hU.mono HB.out.size))).2⟩ : Below W2.heap.size W2 U ∧ (U.cell? ⟨w.heap.size, 0, none⟩ = some (.int .i64 t.next) ∧ U.cell? ⟨w.heap.size, 1, none⟩ = some (.int .i64 t.depth) ∧ U.cell? ⟨w.heap.size, 2, none⟩ = some (.slice (some ⟨b, o, none⟩) t.facts.length c)) ∧ U.cell? ⟨W1.heap.size, 0, none⟩ = some (.int .i64 x.id) ∧ U.cell? ⟨W1.heap.size, 1, none⟩ = some (.int .i64 x.kind) ∧ U.cell? ⟨W1.heap.size, 2, none⟩ = some (.int .i64 x.depth) ∧ U.cell? ⟨W1.heap.size, 3, none⟩ = some (.slice a1 x.lits.length c1) ∧ U.cell? ⟨W1.heap.size, 4, none⟩ = some (.slice a2 x.tags.length c2) ∧ U.cell? ⟨b, o + j * 5, none⟩ = some (.int .i64 y.id) ∧ U.cell? ⟨b, o + j * 5 + 2, none⟩ = some (.int .i64 y.depth)))
                    have LC1 := Lib.hid (fun (U : World) (hU : Below W2.heap.size W2 U ∧ (U.cell? ⟨w.heap.size, 0, none⟩ = some (.int .i64 t.next) ∧ U.cell? ⟨w.heap.size, 1, none⟩ = some (.int .i64 t.depth) ∧ U.cell? ⟨w.heap.size, 2, none⟩ = some (.slice (some ⟨b, o, none⟩) t.facts.length c)) ∧ U.cell? ⟨W1.heap.size, 0, none⟩ = some (.int .i64 x.id) ∧ U.cell? ⟨W1.heap.size, 1, none⟩ = some (.int .i64 x.kind) ∧ U.cell? ⟨W1.heap.size, 2, none⟩ = some (.int .i64 x.depth) ∧ U.cell? ⟨W1.heap.size, 3, none⟩ = some (.slice a1 x.lits.length c1) ∧ U.cell? ⟨W1.heap.size, 4, none⟩ = some (.slice a2 x.tags.length c2) ∧ U.cell? ⟨b, o + j * 5, none⟩ = some (.int .i64 y.id) ∧ U.cell? ⟨b, o + j * 5 + 2, none⟩ = some (.int .i64 y.depth)) => (HTG.out U hU.1).mono (fun e w' h => (⟨h.1, HSJ.out w' (hU.1.trans (h.2.mono hU.1.size))⟩ : e = .returned (.bool tg) ∧ Below W2.heap.size W2 w' ∧ (w'.cell? ⟨w.heap.size, 0, none⟩ = some (.int .i64 t.next) ∧ w'.cell? ⟨w.heap.size, 1, none⟩ = some (.int .i64 t.depth) ∧ w'.cell? ⟨w.heap.size, 2, none⟩ = some (.slice (some ⟨b, o, none⟩) t.facts.length c)) ∧ w'.cell? ⟨W1.heap.size, 0, none⟩ = some (.int .i64 x.id) ∧ w'.cell? ⟨W1.heap.size, 1, none⟩ = some (.int .i64 x.kind) ∧ w'.cell? ⟨W1.heap.size, 2, none⟩ = some (.int .i64 x.depth) ∧ w'.cell? ⟨W1.heap.size, 3, none⟩ = some (.slice a1 x.lits.length c1) ∧ w'.cell? ⟨W1.heap.size, 4, none⟩ = some (.slice a2 x.tags.length c2) ∧ w'.cell? ⟨b, o + j * 5, none⟩ = some (.int .i64 y.id) ∧ w'.cell? ⟨b, o + j * 5 + 2, none⟩ = some (.int .i64 y.depth))))
                    unfold fagg at LC1
                    cases p1
                    case false =>
                      go_enter Try.func18, Try.ntmps18
                      go_upto_region 4 with fail
                      with_reducible refine HL0.out.mono ?_
                      rintro e w3 ⟨rfl, hb3⟩
                      have HB3 := Lib.hid hb3
                      clear hb3 q0 q1 q2 g0 g1 g2 g3 g4 y0 y1 y2 z0 z1 z2 z3 z4 hv1 hv2 hv3 hv4 hv5 hv6
                      go_upto_region 4 with fail
                      have HF := Lib.hid (HSJ.out w3.drew (HB3.out.drew))
                      refine Lex.region (fun w' => Below W2.heap.size W2 w' ∧ (w'.cell? ⟨w.heap.size, 0, none⟩ = some (.int .i64 t.next) ∧ w'.cell? ⟨w.heap.size, 1, none⟩ = some (.int .i64 t.depth) ∧ w'.cell? ⟨w.heap.size, 2, none⟩ = some (.slice (some ⟨b, o, none⟩) t.facts.length c)) ∧ w'.cell? ⟨W1.heap.size, 0, none⟩ = some (.int .i64 x.id) ∧ w'.cell? ⟨W1.heap.size, 1, none⟩ = some (.int .i64 x.kind) ∧ w'.cell? ⟨W1.heap.size, 2, none⟩ = some (.int .i64 x.depth) ∧ w'.cell? ⟨W1.heap.size, 3, none⟩ = some (.slice a1 x.lits.length c1) ∧ w'.cell? ⟨W1.heap.size, 4, none⟩ = some (.slice a2 x.tags.length c2) ∧ w'.cell? ⟨b, o + j * 5, none⟩ = some (.int .i64 y.id) ∧ w'.cell? ⟨b, o + j * 5 + 2, none⟩ = some (.int .i64 y.depth)) (by kernel_rfl) (by kernel_rfl) HF.out ?_
                      repeat (first
                        | (refine Lex.step_val (v := ?_) ?_ (fun w' hSw => ?_) ?_; rotate_left; (focus (go_simp; done)); (focus ((try dsimp only at hSw); go_simp; (try with_reducible rfl); done)); (try simp only [Act.put, List.setIfInBounds_toArray, List.set_cons_zero, List.set_cons_succ]))
                        | (refine Lex.step_call (v := ?_) (f := ?_) (args := ?_) ?_ (fun w' hSw => ?_) ?_ ?_; rotate_left 3; (focus (go_simp; done)); (focus ((try dsimp only at hSw); go_simp; (refine And.intro ?_ ?_ <;> with_reducible rfl); done)); (focus (first | with_reducible exact LC1.out)); (try simp only [Act.put, List.setIfInBounds_toArray, List.set_cons_zero, List.set_cons_succ]))
                        | (refine Lex.step_off ?_ ?_; (focus (first | (go_simp; done) | (simp [Region.wanted, yielded, undef]; done) | rfl)); (try simp only [Act.put, List.setIfInBounds_toArray, List.set_cons_zero, List.set_cons_succ]))
                        | fail)
                      refine Lex.step_nil ?_
                      intro wz hz
                      go_wp2_with fail
                      go_ret
                      exact ⟨ret_bool (by rw [HONE.out]; rfl), HB.out.trans (hz.1.mono HB.out.size)⟩
                    case true =>
                      cases p2
                      all_goals
                        go_enter Try.func18, Try.ntmps18
                        go_upto_region 4 with fail
                        with_reducible refine HL0.out.mono ?_
                        rintro e w3 ⟨rfl, hb3⟩
                        have HB3 := Lib.hid hb3
                        clear hb3 q0 q1 q2 g0 g1 g2 g3 g4 y0 y1 y2 z0 z1 z2 z3 z4 hv1 hv2 hv3 hv4 hv5 hv6
                        go_upto_region 4 with fail
                        have HF := Lib.hid (HSJ.out w3.drew (HB3.out.drew))
                        refine Lex.region (fun w' => Below W2.heap.size W2 w' ∧ (w'.cell? ⟨w.heap.size, 0, none⟩ = some (.int .i64 t.next) ∧ w'.cell? ⟨w.heap.size, 1, none⟩ = some (.int .i64 t.depth) ∧ w'.cell? ⟨w.heap.size, 2, none⟩ = some (.slice (some ⟨b, o, none⟩) t.facts.length c)) ∧ w'.cell? ⟨W1.heap.size, 0, none⟩ = some (.int .i64 x.id) ∧ w'.cell? ⟨W1.heap.size, 1, none⟩ = some (.int .i64 x.kind) ∧ w'.cell? ⟨W1.heap.size, 2, none⟩ = some (.int .i64 x.depth) ∧ w'.cell? ⟨W1.heap.size, 3, none⟩ = some (.slice a1 x.lits.length c1) ∧ w'.cell? ⟨W1.heap.size, 4, none⟩ = some (.slice a2 x.tags.length c2) ∧ w'.cell? ⟨b, o + j * 5, none⟩ = some (.int .i64 y.id) ∧ w'.cell? ⟨b, o + j * 5 + 2, none⟩ = some (.int .i64 y.depth)) (by kernel_rfl) (by kernel_rfl) HF.out ?_
                        repeat (first
                          | (refine Lex.step_val (v := ?_) ?_ (fun w' hSw => ?_) ?_; rotate_left; (focus (go_simp; done)); (focus ((try dsimp only at hSw); go_simp; (try with_reducible rfl); done)); (try simp only [Act.put, List.setIfInBounds_toArray, List.set_cons_zero, List.set_cons_succ]))
                          | (refine Lex.step_call (v := ?_) (f := ?_) (args := ?_) ?_ (fun w' hSw => ?_) ?_ ?_; rotate_left 3; (focus (go_simp; done)); (focus ((try dsimp only at hSw); go_simp; (refine And.intro ?_ ?_ <;> with_reducible rfl); done)); (focus (first | with_reducible exact LC1.out)); (try simp only [Act.put, List.setIfInBounds_toArray, List.set_cons_zero, List.set_cons_succ]))
                          | (refine Lex.step_off ?_ ?_; (focus (first | (go_simp; done) | (simp [Region.wanted, yielded, undef]; done) | rfl)); (try simp only [Act.put, List.setIfInBounds_toArray, List.set_cons_zero, List.set_cons_succ]))
                          | fail)
                        refine Lex.step_nil ?_
                        intro wz hz
                        go_wp2_with fail
                        go_ret
                        exact ⟨ret_bool (by rw [HONE.out]; rfl), HB.out.trans (hz.1.mono HB.out.size)⟩

set_option maxRecDepth 8000 in
set_option maxHeartbeats 16000000 in
theorem table_any (w : World) (t : Tb) (a : Option Addr) (c : Nat) (vs : List (List Value)) (hs : SlF w a t.facts.length c vs t.facts) (hw : WfF t.facts) :
    Calls Try.prog 7 #[tagg t a c] w fun e w' => e = .returned (.int .i64 (if tableOk t = true then 0 else 9)) ∧ Below w.heap.size w w' := by
  generalize hr : (if tableOk t = true then (0 : Int) else 9) = r
  have HRR := Lib.hid hr
  clear hr
  have HON := Lib.hid (fun (U : World) (hU : Below w.heap.size w U) (i : Nat) (hi : i < t.facts.length) => one_any U t a c vs (hs.next hU) hw i hi)
  unfold tagg at *
  obtain ⟨W1, hW1⟩ : ∃ U, w.alloc (.cells #[.int .i64 t.next, .int .i64 t.depth, .slice a t.facts.length c] 24) = U := ⟨_, rfl⟩
  have hb1 : Below w.heap.size w W1 := by rw [← hW1]; exact (Below.refl _ _).alloc (Nat.le_refl _) _
  have x1 : BoxN w.heap.size [.int .i64 t.next, .int .i64 t.depth, .slice a t.facts.length c] W1 := by
    have h := BoxN.new w #[.int .i64 t.next, .int .i64 t.depth, .slice a t.facts.length c] 24
    rw [hW1] at h
    exact h
  have q0 := x1.at' 0 _ rfl
  have q1 := x1.at' 1 _ rfl
  have q2 := x1.at' 2 _ rfl
  have HX := Lib.hid x1
  have HB := Lib.hid hb1
  have hcap := hs.sl.cap
  have hbig := hs.sl.big
  have hlq : decide ((64 : Int) < (t.facts.length : Int)) = decide (64 < t.facts.length) := by by_cases h : 64 < t.facts.length <;> simp [h] <;> omega
  have HBD : Hid (bounds t = !(decide (t.depth < 0) || decide (16 < t.depth) || decide (t.next < 1) || decide (1099511627776 < t.next) || decide (64 < t.facts.length))) := rfl
  have HTO : Hid (tableOk t = (bounds t && (List.range t.facts.length).all (oneOk t))) := rfl
  clear hs hw x1 hb1
  generalize hv5 : decide (64 < t.facts.length) = b5 at *
  generalize hv1 : decide (t.depth < 0) = b1 at *
  generalize hv2 : decide (16 < t.depth) = b2 at *
  generalize hv3 : decide (t.next < 1) = b3 at *
  generalize hv4 : decide (1099511627776 < t.next) = b4 at *
  cases b1
  case true =>
    go_enter Try.func7, Try.ntmps7
    go_wp2_with fail
    go_ret
    exact ⟨ret_int (by rw [← HRR.out, HTO.out, HBD.out]; rfl), HB.out⟩
  case false =>
    cases b2
    case true =>
      go_enter Try.func7, Try.ntmps7
      go_wp2_with fail
      go_ret
      exact ⟨ret_int (by rw [← HRR.out, HTO.out, HBD.out]; rfl), HB.out⟩
    case false =>
      cases b3
      case true =>
        go_enter Try.func7, Try.ntmps7
        go_wp2_with fail
        go_ret
        exact ⟨ret_int (by rw [← HRR.out, HTO.out, HBD.out]; rfl), HB.out⟩
      case false =>
        cases b4
        case true =>
          go_enter Try.func7, Try.ntmps7
          go_wp2_with fail
          go_ret
          exact ⟨ret_int (by rw [← HRR.out, HTO.out, HBD.out]; rfl), HB.out⟩
        case false =>
          cases b5
          case true =>
            go_enter Try.func7, Try.ntmps7
            go_wp2_with fail
            go_ret
            exact ⟨ret_int (by rw [← HRR.out, HTO.out, HBD.out]; rfl), HB.out⟩
          case false =>
            have HTA : Hid (tableOk t = (List.range t.facts.length).all (oneOk t)) := by show _ = _; rw [HTO.out, HBD.out]; rfl
            go_enter Try.func7, Try.ntmps7
            go_wp2_with fail
            clear hv1 hv2 hv3 hv4 hv5 hlq
            generalize hn : t.facts.length = n at *
            have HNL := Lib.hid hn
            clear hn
            go_loopw [31] (fun s wr => ∃ k : Nat, k ≤ n ∧ s = .int .i64 k ∧ Hid ((List.range k).all (oneOk t) = true) ∧ Hid (Below W1.heap.size W1 wr)) (fun s _ => n - (intOf s).toNat)
            case atStart => exact ⟨0, Nat.zero_le _, rfl, rfl, Below.refl _ _⟩
            case round =>
              obtain ⟨k, hk, rfl, hI, hB⟩ := hrel
              by_cases hlt : k < n
              · have x2 := HX.out.next hB.out HX.out.lt
                have r0 := x2.at' 0 _ rfl
                have r1 := x2.at' 1 _ rfl
                have r2 := x2.at' 2 _ rfl
                have HO1 := Lib.hid (HON.out wr (HB.out.trans (hB.out.mono HB.out.size)) k hlt)
                have HRG : Hid ((List.range (k + 1)).all (oneOk t) = oneOk t k) := by show _ = _; rw [List.range_succ, List.all_append, hI.out]; simp
                have HMISS : Hid (oneOk t k = false → (List.range n).all (oneOk t) = false) := fun h => List.all_eq_false.2 ⟨k, List.mem_range.2 hlt, by rw [h]; decide⟩
                clear x2
                generalize oneOk t k = q at *
                cases q
                case false =>
                  go_wp2_with fail
                  with_reducible refine HO1.out.mono ?_
                  rintro e w3 ⟨rfl, hb3⟩
                  have HB3 := Lib.hid (hB.out.trans (hb3.mono hB.out.size))
                  clear hb3
                  go_wp2_with fail
                  go_ret
                  exact ⟨ret_int (by rw [← HRR.out, HTA.out, HMISS.out (by simp)]; rfl), HB.out.trans (HB3.out.mono HB.out.size)⟩
                case true =>
                  go_wp2_with fail
                  with_reducible refine HO1.out.mono ?_
                  rintro e w3 ⟨rfl, hb3⟩
                  have HB3 := Lib.hid (hB.out.trans (hb3.mono hB.out.size))
                  clear hb3 r0 r1 r2
                  go_wp2_with fail
                  go_roundw
                  case rel => exact ⟨k + 1, by omega, by go_num, HRG.out, HB3.out⟩
                  case measure => simp [intOf]; omega
              · have hke : k = n := by omega
                subst hke
                go_wp2_with fail
                go_ret
                exact ⟨ret_int (by rw [← HRR.out, HTA.out, hI.out]; rfl), HB.out.trans (hB.out.mono HB.out.size)⟩
end Fact
end Go.Proofs.Ytgbpoeidpldmkaa
