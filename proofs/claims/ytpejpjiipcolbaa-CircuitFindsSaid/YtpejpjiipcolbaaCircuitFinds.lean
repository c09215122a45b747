/-
  interlocklaw03.CircuitFinds: the walk: of a circuit that may be each name's literal is found by its text.
-/
import Derived.Test.YtpejpjiipcolbaaFindP
import Derived.Test.YtpejpjiipcolbaaRefFind
import Derived.Test.YtpejpjiipcolbaaAlive3
namespace Go.Proofs.Ytpejpjiipcolbaa.circuitFinds
open Go.RowKit Base Circuit
set_option linter.unusedVariables false
set_option linter.unusedSimpArgs false

structure FH (N b off : Nat) (x : Circ) (p : At) (s : ByteArray) (wq w' : World) : Prop where
  below : Below wq.heap.size wq w'
  cb : CBox N x p w'
  pl : b < w'.heap.size
  pc : w'.cell? ⟨b, off, none⟩ = some (.string s)
abbrev FAll (N b off : Nat) (x : Circ) (p : At) (s : ByteArray) (wq w' : World) : Prop :=
  FH N b off x p s wq w' ∧ w'.cell? ⟨N, 0, none⟩ = some (.int .i64 x.max) ∧ w'.cell? ⟨N, 1, none⟩ = some (.slice p.a1 x.ins.length p.c1) ∧ w'.cell? ⟨N, 2, none⟩ = some (.slice p.a2 x.lats.length p.c2) ∧ w'.cell? ⟨N, 3, none⟩ = some (.slice p.a3 x.outs.length p.c3) ∧ w'.cell? ⟨N, 4, none⟩ = some (.slice p.a4 x.bads.length p.c4) ∧ w'.cell? ⟨N, 5, none⟩ = some (.slice p.a5 x.invs.length p.c5) ∧ w'.cell? ⟨N, 6, none⟩ = some (.slice p.a6 x.ands.length p.c6) ∧ w'.cell? ⟨N, 7, none⟩ = some (.slice p.a7 x.names.length p.c7) ∧ w'.cell? ⟨b, off, none⟩ = some (.string s)
theorem fh_all {N b off : Nat} {x : Circ} {p : At} {s : ByteArray} {wq w' : World} (h : FH N b off x p s wq w') : FAll N b off x p s wq w' := ⟨h, h.cb.k0, h.cb.k1, h.cb.k2, h.cb.k3, h.cb.k4, h.cb.k5, h.cb.k6, h.cb.k7, h.pc⟩
theorem fh_in {N b off : Nat} {x : Circ} {p : At} {s : ByteArray} {wq w' : World} (h : FAll N b off x p s wq w') : FH N b off x p s wq w' := h.1
theorem FH.more {N b off : Nat} {x : Circ} {p : At} {s : ByteArray} {wq w1 w2 : World} (h : FH N b off x p s wq w1) (hb : Below w1.heap.size w1 w2) : FH N b off x p s wq w2 :=
  ⟨h.below.trans (hb.mono h.below.size), h.cb.next hb (Nat.le_refl _), Nat.lt_of_lt_of_le h.pl hb.size, (hb.cell (p := ⟨b, off, none⟩) h.pl).trans h.pc⟩

set_option maxRecDepth 8000 in
set_option maxHeartbeats 16000000 in
theorem walk (x : Circ) (p : At) {w : World} (hin : InCirc w x p) (hw : WfC x) (hz : x.ands.length * 24 ≤ 140737488351232) (W : World) (hW : W = w) :
    Calls Try.prog 4 #[.agg (cells x p)] W fun e W' => e = .returned (.bool true) ∧ Below W.heap.size W W' := by
  subst hW
  obtain ⟨W1, hW1⟩ : ∃ W1, W.alloc (.cells (cells x p) 27) = W1 := ⟨_, rfl⟩
  obtain ⟨hb1, hcb⟩ := cbox_new W x p W1 hW1
  have HB1 := Lib.hid hb1
  have KB := Lib.hid (fun (U : World) (hU : Below W1.heap.size W1 U) => hcb.next hU (Nat.le_refl _))
  have HIN := Lib.hid (fun (U : World) (hU : Below W1.heap.size W1 U) => (hin.next hb1).next hU)
  have HAL := Lib.hid (alive_any W1)
  have HCK := fun (U : World) (hU : Below W1.heap.size W1 U) => check_any U x p (HIN.out U hU) hw.ins hw.outs hw.bads hw.invs hw.lats hw.ands hw.mx
  have HRC := fun (U : World) (hU : Below W1.heap.size W1 U) => refCheck_any U x p (HIN.out U hU) hw (by omega)
  have HKD := fun (U : World) (hU : Below W1.heap.size W1 U) (v : Int) => refKind_any U x p (HIN.out U hU) hw.ins hw.lats hw.ands v
  have HFD := fun (U : World) (hU : Below W1.heap.size W1 U) (s : ByteArray) => find_any U x p (HIN.out U hU) s
  have HFR := fun (U : World) (hU : Below W1.heap.size W1 U) (s : ByteArray) => refFind_any U x p (HIN.out U hU) s
  have HW := Lib.hid hw
  obtain ⟨a1, c1, a2, c2, a3, c3, a4, c4, a5, c5, a6, c6, a7, c7⟩ := p
  simp only [cells] at hW1 HCK HRC HKD HFD HFR ⊢
  clear hin hw hz hb1 hcb
  by_cases hok : CheckOk x
  · rw [refchk_eq, chk_pos hok] at HRC
    have HC := Lib.hid HRC
    have HK := Lib.hid HKD
    have HF1 := Lib.hid HFD
    have HF2 := Lib.hid HFR
    have HOK := Lib.hid hok
    clear HCK HRC HKD HFD HFR hok
    go_enter Try.func4, Try.ntmps4
    go_wp2_with fail
    clear hW1
    with_reducible refine HAL.out.mono ?_
    rintro e w2 ⟨rfl, hb2⟩
    have HB2 := Lib.hid hb2
    have CB := KB.out w2 hb2
    have m0 : w2.cell? ⟨W.heap.size, 0, none⟩ = some (.int .i64 x.max) := CB.k0
    have m1 : w2.cell? ⟨W.heap.size, 1, none⟩ = some (.slice a1 x.ins.length c1) := CB.k1
    have m2 : w2.cell? ⟨W.heap.size, 2, none⟩ = some (.slice a2 x.lats.length c2) := CB.k2
    have m3 : w2.cell? ⟨W.heap.size, 3, none⟩ = some (.slice a3 x.outs.length c3) := CB.k3
    have m4 : w2.cell? ⟨W.heap.size, 4, none⟩ = some (.slice a4 x.bads.length c4) := CB.k4
    have m5 : w2.cell? ⟨W.heap.size, 5, none⟩ = some (.slice a5 x.invs.length c5) := CB.k5
    have m6 : w2.cell? ⟨W.heap.size, 6, none⟩ = some (.slice a6 x.ands.length c6) := CB.k6
    have m7 : w2.cell? ⟨W.heap.size, 7, none⟩ = some (.slice a7 x.names.length c7) := CB.k7
    have HC2 := Lib.hid (HC.out w2 hb2)
    clear hb2 CB
    go_wp2_with fail
    with_reducible refine HC2.out.mono ?_
    rintro e w3 ⟨rfl, hb3⟩
    have HB3 := Lib.hid (HB2.out.trans (hb3.mono HB2.out.size))
    clear hb3 m0 m1 m2 m3 m4 m5 m6 m7
    go_wp2_with fail
    go_loopw [3] (fun s wr => ∃ k : Nat, k ≤ x.names.length ∧ s = .int .i64 k ∧ Hid (Below W1.heap.size W1 wr)) (fun s _ => x.names.length - (intOf s).toNat)
    case atStart => exact ⟨0, Nat.zero_le _, rfl, HB3.out⟩
    case round =>
      obtain ⟨k, hk, rfl, hB⟩ := hrel
      have j7 : wr.cell? ⟨W.heap.size, 7, none⟩ = some (.slice a7 x.names.length c7) := (KB.out wr hB.out).k7
      have hsl := (HIN.out wr hB.out).names
      have hca := hsl.cap
      have hga := hsl.big
      simp only at hca hga
      by_cases hlt : k < x.names.length
      · obtain ⟨b, o, hx, hae, hbs, d0, d1, d2⟩ := Circuit.SlT.name hsl hlt
        simp only at hae
        subst hae
        obtain ⟨l, hfl, hkl, hl64⟩ := name_found HOK.out HW.out (List.getElem_mem hx)
        generalize x.names[k] = t at *
        have hBo := hB.out
        have HBO := Lib.hid hBo
        have CBr := KB.out wr hBo
        have FI : Hid (FAll W.heap.size b (o + k * 3 + 2) x (⟨a1, c1, a2, c2, a3, c3, a4, c4, a5, c5, a6, c6, some ⟨b, o, none⟩, c7⟩ : At) t.2.2 wr wr.drew) := fh_all ⟨(Below.refl _ _).drew, CBr.next (Below.refl _ _).drew (Nat.le_refl _), Nat.lt_of_lt_of_le hbs (Below.refl 0 wr).drew.size, ((Below.refl wr.heap.size wr).drew.cell (p := ⟨b, o + k * 3 + 2, none⟩) hbs).trans d2⟩
        have LA : Hid (∀ (X : World), FAll W.heap.size b (o + k * 3 + 2) x (⟨a1, c1, a2, c2, a3, c3, a4, c4, a5, c5, a6, c6, some ⟨b, o, none⟩, c7⟩ : At) t.2.2 wr X → Calls Try.prog 11 #[.agg #[.int .i64 x.max, .slice a1 x.ins.length c1, .slice a2 x.lats.length c2, .slice a3 x.outs.length c3, .slice a4 x.bads.length c4, .slice a5 x.invs.length c5, .slice a6 x.ands.length c6, .slice (some ⟨b, o, none⟩) x.names.length c7], .string t.2.2] X (fun e w' => e = .returned (.tuple #[.int .i64 l, .bool true]) ∧ FAll W.heap.size b (o + k * 3 + 2) x (⟨a1, c1, a2, c2, a3, c3, a4, c4, a5, c5, a6, c6, some ⟨b, o, none⟩, c7⟩ : At) t.2.2 wr w')) := fun X hX => (HF1.out X (HBO.out.trans ((fh_in hX).below.mono HBO.out.size)) t.2.2).mono fun e w' h => by
          unfold FindOut at h
          rw [hfl] at h
          exact ⟨h.1, fh_all ((fh_in hX).more h.2)⟩
        have LB : Hid (∀ (X : World), FAll W.heap.size b (o + k * 3 + 2) x (⟨a1, c1, a2, c2, a3, c3, a4, c4, a5, c5, a6, c6, some ⟨b, o, none⟩, c7⟩ : At) t.2.2 wr X → Calls Try.prog 12 #[.agg #[.int .i64 x.max, .slice a1 x.ins.length c1, .slice a2 x.lats.length c2, .slice a3 x.outs.length c3, .slice a4 x.bads.length c4, .slice a5 x.invs.length c5, .slice a6 x.ands.length c6, .slice (some ⟨b, o, none⟩) x.names.length c7], .string t.2.2] X (fun e w' => e = .returned (.tuple #[.int .i64 l, .bool true]) ∧ FAll W.heap.size b (o + k * 3 + 2) x (⟨a1, c1, a2, c2, a3, c3, a4, c4, a5, c5, a6, c6, some ⟨b, o, none⟩, c7⟩ : At) t.2.2 wr w')) := fun X hX => (HF2.out X (HBO.out.trans ((fh_in hX).below.mono HBO.out.size)) t.2.2).mono fun e w' h => by
          unfold FindOut at h
          rw [hfl] at h
          exact ⟨h.1, fh_all ((fh_in hX).more h.2)⟩
        obtain ⟨hl0, hle⟩ := hkl
        have hl1 := hl64.2
        clear hl64
        have htd : l.tdiv 2 = l / 2 := Int.tdiv_eq_ediv_of_nonneg hl0
        have HG2 : Hid (((kindOf x (l / 2)).toList == []) = false) := by
          show _ = _
          cases h : (kindOf x (l / 2)).toList with
          | nil => rw [h] at hle; simp at hle
          | cons a b => rfl
        have hidx0 : (0 : Int) ≤ (k : Int) := by omega
        have hidx1 : (k : Int) < (x.names.length : Int) := by omega
        have hidx : (0 : Int) ≤ (k : Int) ∧ (k : Int) < (x.names.length : Int) := by omega
        clear hfl hle hsl hBo CBr d0 d1 hB hbs
        go_upto_region 8 with fail
        clear d2 j7
        refine Lex.region (fun w' => FAll W.heap.size b (o + k * 3 + 2) x (⟨a1, c1, a2, c2, a3, c3, a4, c4, a5, c5, a6, c6, some ⟨b, o, none⟩, c7⟩ : At) t.2.2 wr w') (by kernel_rfl) (by kernel_rfl) FI.out ?_
        (refine Lex.step_val (v := ?_) ?_ (fun w' hSw => ?_) ?_; rotate_left; (focus rfl); (focus ((try dsimp only at hSw); go_simp; (try with_reducible rfl); done)); (try simp only [Act.put, List.setIfInBounds_toArray, List.set_cons_zero, List.set_cons_succ]))
        (refine Lex.step_val (v := ?_) ?_ (fun w' hSw => ?_) ?_; rotate_left; (focus rfl); (focus (clear hSw; go_simp; (try with_reducible rfl); done)); (try simp only [Act.put, List.setIfInBounds_toArray, List.set_cons_zero, List.set_cons_succ]))
        (refine Lex.step_val (v := ?_) ?_ (fun w' hSw => ?_) ?_; rotate_left; (focus rfl); (focus ((try dsimp only at hSw); go_simp; (try with_reducible rfl); done)); (try simp only [Act.put, List.setIfInBounds_toArray, List.set_cons_zero, List.set_cons_succ]))
        (refine Lex.step_val (v := ?_) ?_ (fun w' hSw => ?_) ?_; rotate_left; (focus rfl); (focus (clear hSw; go_simp; (try with_reducible rfl); done)); (try simp only [Act.put, List.setIfInBounds_toArray, List.set_cons_zero, List.set_cons_succ]))
        (refine Lex.step_val (v := ?_) ?_ (fun w' hSw => ?_) ?_; rotate_left; (focus rfl); (focus (clear hSw; go_simp; (try with_reducible rfl); done)); (try simp only [Act.put, List.setIfInBounds_toArray, List.set_cons_zero, List.set_cons_succ]))
        (refine Lex.step_val (v := ?_) ?_ (fun w' hSw => ?_) ?_; rotate_left; (focus rfl); (focus (clear hSw; go_simp; (try with_reducible rfl); done)); (try simp only [Act.put, List.setIfInBounds_toArray, List.set_cons_zero, List.set_cons_succ]))
        (refine Lex.step_val (v := ?_) ?_ (fun w' hSw => ?_) ?_; rotate_left; (focus rfl); (focus ((try dsimp only at hSw); go_simp; (try with_reducible rfl); done)); (try simp only [Act.put, List.setIfInBounds_toArray, List.set_cons_zero, List.set_cons_succ]))
        (refine Lex.step_call (v := ?_) (f := ?_) (args := ?_) ?_ (fun w' hSw => ?_) ?_ ?_; rotate_left 3; (focus rfl); (focus (clear hSw; go_simp; (refine And.intro ?_ ?_ <;> with_reducible rfl); done)); (focus (first | with_reducible exact LA.out)); (try simp only [Act.put, List.setIfInBounds_toArray, List.set_cons_zero, List.set_cons_succ]))
        (refine Lex.step_val (v := ?_) ?_ (fun w' hSw => ?_) ?_; rotate_left; (focus rfl); (focus (clear hSw; go_simp; (try with_reducible rfl); done)); (try simp only [Act.put, List.setIfInBounds_toArray, List.set_cons_zero, List.set_cons_succ]))
        (refine Lex.step_val (v := ?_) ?_ (fun w' hSw => ?_) ?_; rotate_left; (focus rfl); (focus (clear hSw; go_simp; (try with_reducible rfl); done)); (try simp only [Act.put, List.setIfInBounds_toArray, List.set_cons_zero, List.set_cons_succ]))
        (refine Lex.step_val (v := ?_) ?_ (fun w' hSw => ?_) ?_; rotate_left; (focus rfl); (focus (clear hSw; go_simp; (try with_reducible rfl); done)); (try simp only [Act.put, List.setIfInBounds_toArray, List.set_cons_zero, List.set_cons_succ]))
        (refine Lex.step_val (v := ?_) ?_ (fun w' hSw => ?_) ?_; rotate_left; (focus rfl); (focus (clear hSw; go_simp; (try with_reducible rfl); done)); (try simp only [Act.put, List.setIfInBounds_toArray, List.set_cons_zero, List.set_cons_succ]))
        (refine Lex.step_val (v := ?_) ?_ (fun w' hSw => ?_) ?_; rotate_left; (focus rfl); (focus (clear hSw; go_simp; (try with_reducible rfl); done)); (try simp only [Act.put, List.setIfInBounds_toArray, List.set_cons_zero, List.set_cons_succ]))
        refine Lex.step_nil ?_
        intro wz hz
        have FI2 : Hid (FAll W.heap.size b (o + k * 3 + 2) x (⟨a1, c1, a2, c2, a3, c3, a4, c4, a5, c5, a6, c6, some ⟨b, o, none⟩, c7⟩ : At) t.2.2 wr wz.drew) := fh_all ((fh_in hz).more (Below.refl _ _).drew)
        clear hz
        go_upto_region 9 with fail
        refine Lex.region (fun w' => FAll W.heap.size b (o + k * 3 + 2) x (⟨a1, c1, a2, c2, a3, c3, a4, c4, a5, c5, a6, c6, some ⟨b, o, none⟩, c7⟩ : At) t.2.2 wr w') (by kernel_rfl) (by kernel_rfl) FI2.out ?_
        (refine Lex.step_val (v := ?_) ?_ (fun w' hSw => ?_) ?_; rotate_left; (focus rfl); (focus ((try dsimp only at hSw); go_simp; (try with_reducible rfl); done)); (try simp only [Act.put, List.setIfInBounds_toArray, List.set_cons_zero, List.set_cons_succ]))
        (refine Lex.step_val (v := ?_) ?_ (fun w' hSw => ?_) ?_; rotate_left; (focus rfl); (focus (clear hSw; go_simp; (try with_reducible rfl); done)); (try simp only [Act.put, List.setIfInBounds_toArray, List.set_cons_zero, List.set_cons_succ]))
        (refine Lex.step_val (v := ?_) ?_ (fun w' hSw => ?_) ?_; rotate_left; (focus rfl); (focus ((try dsimp only at hSw); go_simp; (try with_reducible rfl); done)); (try simp only [Act.put, List.setIfInBounds_toArray, List.set_cons_zero, List.set_cons_succ]))
        (refine Lex.step_val (v := ?_) ?_ (fun w' hSw => ?_) ?_; rotate_left; (focus rfl); (focus (clear hSw; go_simp; (try with_reducible rfl); done)); (try simp only [Act.put, List.setIfInBounds_toArray, List.set_cons_zero, List.set_cons_succ]))
        (refine Lex.step_val (v := ?_) ?_ (fun w' hSw => ?_) ?_; rotate_left; (focus rfl); (focus (clear hSw; go_simp; (try with_reducible rfl); done)); (try simp only [Act.put, List.setIfInBounds_toArray, List.set_cons_zero, List.set_cons_succ]))
        (refine Lex.step_val (v := ?_) ?_ (fun w' hSw => ?_) ?_; rotate_left; (focus rfl); (focus (clear hSw; go_simp; (try with_reducible rfl); done)); (try simp only [Act.put, List.setIfInBounds_toArray, List.set_cons_zero, List.set_cons_succ]))
        (refine Lex.step_val (v := ?_) ?_ (fun w' hSw => ?_) ?_; rotate_left; (focus rfl); (focus ((try dsimp only at hSw); go_simp; (try with_reducible rfl); done)); (try simp only [Act.put, List.setIfInBounds_toArray, List.set_cons_zero, List.set_cons_succ]))
        (refine Lex.step_call (v := ?_) (f := ?_) (args := ?_) ?_ (fun w' hSw => ?_) ?_ ?_; rotate_left 3; (focus rfl); (focus (clear hSw; go_simp; (refine And.intro ?_ ?_ <;> with_reducible rfl); done)); (focus (first | with_reducible exact LB.out)); (try simp only [Act.put, List.setIfInBounds_toArray, List.set_cons_zero, List.set_cons_succ]))
        (refine Lex.step_val (v := ?_) ?_ (fun w' hSw => ?_) ?_; rotate_left; (focus rfl); (focus (clear hSw; go_simp; (try with_reducible rfl); done)); (try simp only [Act.put, List.setIfInBounds_toArray, List.set_cons_zero, List.set_cons_succ]))
        (refine Lex.step_val (v := ?_) ?_ (fun w' hSw => ?_) ?_; rotate_left; (focus rfl); (focus (clear hSw; go_simp; (try with_reducible rfl); done)); (try simp only [Act.put, List.setIfInBounds_toArray, List.set_cons_zero, List.set_cons_succ]))
        (refine Lex.step_val (v := ?_) ?_ (fun w' hSw => ?_) ?_; rotate_left; (focus rfl); (focus (clear hSw; go_simp; (try with_reducible rfl); done)); (try simp only [Act.put, List.setIfInBounds_toArray, List.set_cons_zero, List.set_cons_succ]))
        (refine Lex.step_val (v := ?_) ?_ (fun w' hSw => ?_) ?_; rotate_left; (focus rfl); (focus (clear hSw; go_simp; (try with_reducible rfl); done)); (try simp only [Act.put, List.setIfInBounds_toArray, List.set_cons_zero, List.set_cons_succ]))
        (refine Lex.step_val (v := ?_) ?_ (fun w' hSw => ?_) ?_; rotate_left; (focus rfl); (focus (clear hSw; go_simp; (try with_reducible rfl); done)); (try simp only [Act.put, List.setIfInBounds_toArray, List.set_cons_zero, List.set_cons_succ]))
        refine Lex.step_nil ?_
        intro WZ hz
        have HZ := Lib.hid (fh_in hz)
        have HBZ := Lib.hid (HBO.out.trans ((fh_in hz).below.mono HBO.out.size))
        have CB := (fh_in hz).cb
        have HK1 := Lib.hid (HK.out _ HBZ.out (l / 2))
        have hg2 := HG2.out
        clear hz
        have m0 : WZ.cell? ⟨W.heap.size, 0, none⟩ = some (.int .i64 x.max) := CB.k0
        have m1 : WZ.cell? ⟨W.heap.size, 1, none⟩ = some (.slice a1 x.ins.length c1) := CB.k1
        have m2 : WZ.cell? ⟨W.heap.size, 2, none⟩ = some (.slice a2 x.lats.length c2) := CB.k2
        have m3 : WZ.cell? ⟨W.heap.size, 3, none⟩ = some (.slice a3 x.outs.length c3) := CB.k3
        have m4 : WZ.cell? ⟨W.heap.size, 4, none⟩ = some (.slice a4 x.bads.length c4) := CB.k4
        have m5 : WZ.cell? ⟨W.heap.size, 5, none⟩ = some (.slice a5 x.invs.length c5) := CB.k5
        have m6 : WZ.cell? ⟨W.heap.size, 6, none⟩ = some (.slice a6 x.ands.length c6) := CB.k6
        have m7 : WZ.cell? ⟨W.heap.size, 7, none⟩ = some (.slice (some ⟨b, o, none⟩) x.names.length c7) := CB.k7
        clear CB
        go_wp2_with fail
        with_reducible refine HK1.out.mono ?_
        rintro e w6 ⟨rfl, hb6⟩
        have HB6 := Lib.hid (HBZ.out.trans (hb6.mono HBZ.out.size))
        clear hb6 m0 m1 m2 m3 m4 m5 m6 m7
        go_wp2_with fail
        go_roundw
        case rel => exact ⟨k + 1, by omega, by go_num, HB6.out⟩
        case measure => simp [intOf]; omega
      · have HX := Lib.hid (HB1.out.trans (hB.out.mono HB1.out.size))
        clear hB hsl
        go_wp2_with fail
        go_ret
        exact ⟨rfl, HX.out⟩
  · rw [chk_neg hok] at HCK
    rw [refchk_eq, chk_neg hok] at HRC
    have HC := Lib.hid HRC
    have HR := Lib.hid HCK
    clear HCK HRC HKD HFD HFR hok
    go_enter Try.func4, Try.ntmps4
    go_wp2_with fail
    clear hW1
    with_reducible refine HAL.out.mono ?_
    rintro e w2 ⟨rfl, hb2⟩
    have HB2 := Lib.hid hb2
    have CB := KB.out w2 hb2
    have m0 : w2.cell? ⟨W.heap.size, 0, none⟩ = some (.int .i64 x.max) := CB.k0
    have m1 : w2.cell? ⟨W.heap.size, 1, none⟩ = some (.slice a1 x.ins.length c1) := CB.k1
    have m2 : w2.cell? ⟨W.heap.size, 2, none⟩ = some (.slice a2 x.lats.length c2) := CB.k2
    have m3 : w2.cell? ⟨W.heap.size, 3, none⟩ = some (.slice a3 x.outs.length c3) := CB.k3
    have m4 : w2.cell? ⟨W.heap.size, 4, none⟩ = some (.slice a4 x.bads.length c4) := CB.k4
    have m5 : w2.cell? ⟨W.heap.size, 5, none⟩ = some (.slice a5 x.invs.length c5) := CB.k5
    have m6 : w2.cell? ⟨W.heap.size, 6, none⟩ = some (.slice a6 x.ands.length c6) := CB.k6
    have m7 : w2.cell? ⟨W.heap.size, 7, none⟩ = some (.slice a7 x.names.length c7) := CB.k7
    have HC2 := Lib.hid (HC.out w2 hb2)
    clear hb2 CB
    go_wp2_with fail
    with_reducible refine HC2.out.mono ?_
    rintro e w3 ⟨rfl, hb3⟩
    have hbx := HB2.out.trans (hb3.mono HB2.out.size)
    have HB3 := Lib.hid hbx
    have HR3 := Lib.hid (HR.out w3 hbx)
    have CB := KB.out w3 hbx
    clear hb3 m0 m1 m2 m3 m4 m5 m6 m7 hbx
    have m0 : w3.cell? ⟨W.heap.size, 0, none⟩ = some (.int .i64 x.max) := CB.k0
    have m1 : w3.cell? ⟨W.heap.size, 1, none⟩ = some (.slice a1 x.ins.length c1) := CB.k1
    have m2 : w3.cell? ⟨W.heap.size, 2, none⟩ = some (.slice a2 x.lats.length c2) := CB.k2
    have m3 : w3.cell? ⟨W.heap.size, 3, none⟩ = some (.slice a3 x.outs.length c3) := CB.k3
    have m4 : w3.cell? ⟨W.heap.size, 4, none⟩ = some (.slice a4 x.bads.length c4) := CB.k4
    have m5 : w3.cell? ⟨W.heap.size, 5, none⟩ = some (.slice a5 x.invs.length c5) := CB.k5
    have m6 : w3.cell? ⟨W.heap.size, 6, none⟩ = some (.slice a6 x.ands.length c6) := CB.k6
    have m7 : w3.cell? ⟨W.heap.size, 7, none⟩ = some (.slice a7 x.names.length c7) := CB.k7
    clear CB
    go_wp2_with fail
    with_reducible refine HR3.out.mono ?_
    rintro e w4 ⟨rfl, hb4⟩
    have HB4 := Lib.hid (HB1.out.trans ((HB3.out.trans (hb4.mono HB3.out.size)).mono HB1.out.size))
    clear hb4 m0 m1 m2 m3 m4 m5 m6 m7
    go_wp2_with fail
    go_ret
    exact ⟨rfl, HB4.out⟩
end Go.Proofs.Ytpejpjiipcolbaa.circuitFinds
