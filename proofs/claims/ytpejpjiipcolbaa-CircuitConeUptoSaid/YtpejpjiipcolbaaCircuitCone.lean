/-
  interlocklaw03.CircuitCone: the walk: what a literal hangs on hangs on no more.
-/
import Derived.Test.YtpejpjiipcolbaaCone
import Derived.Test.YtpejpjiipcolbaaAlive3
import Derived.Test.YtpejpjiipcolbaaPlainInts
import Derived.Test.YtpejpjiipcolbaaOpenCirc
namespace Go.Proofs.Ytpejpjiipcolbaa.circuitCone
open Go.RowKit Base Circuit
set_option linter.unusedVariables false
set_option linter.unusedSimpArgs false

theorem strict_ext {a b : List Int} (ha : a.Pairwise (· < ·)) (hb : b.Pairwise (· < ·)) (h : ∀ v, v ∈ a ↔ v ∈ b) : a = b := by
  have na : a.Nodup := ha.imp (fun h => by omega)
  have nb : b.Nodup := hb.imp (fun h => by omega)
  have hp : a.Perm b := (List.perm_ext_iff_of_nodup na nb).2 h
  exact List.Perm.eq_of_pairwise (le := fun a b => a < b) (fun a b _ _ h1 h2 => by omega) ha hb hp

theorem rch_bound {ands : List Tri} {l : List Int} (hl : ∀ y ∈ l, I64 y) (hw : WfT ands) {v : Int} (h : Rch ands l v) : 0 ≤ v ∧ 2 * v ≤ 9223372036854775807 := by
  have key : ∀ t, I64 t → 0 ≤ var t ∧ 2 * var t ≤ 9223372036854775807 := by
    intro t ht
    unfold I64 at ht
    unfold var
    omega
  cases h with
  | lit ht => exact key _ (hl _ ht)
  | left hr hv hg => exact key _ (hw _ (gate_mem hg)).2.1
  | right hr hv hg => exact key _ (hw _ (gate_mem hg)).2.2

theorem ints_more {vs : List Int} {k : Nat} (hk : k < vs.length) : ints ((vs.take (k + 1)).map (2 * ·)) = ints ((vs.take k).map (2 * ·)) ++ [.int .i64 (2 * vs[k])] := by
  rw [List.take_succ_eq_append_getElem hk, List.map_append]
  unfold ints
  rw [List.map_append]
  rfl

set_option maxRecDepth 8000 in
set_option maxHeartbeats 16000000 in
theorem walk (x : Circ) (p : At) {w : World} (hin : InCirc w x p) (hw : WfC x) (hz : Open.bulkCirc x ≤ 1048576)
    (a : Option Addr) (c : Nat) (l : List Int) (hsl : Sl w a l.length c (ints l)) (hl : Clause.Wf l) (hzl : Open.bulkInts l ≤ 1048576) (W : World) (hW : W = w) :
    Calls Try.prog 6 #[.agg (cells x p), .slice a l.length c] W fun e W' => e = .returned (.bool true) ∧ Below W.heap.size W W' := by
  subst hW
  have hzA : x.ands.length ≤ 1048576 := by have := hz; unfold Open.bulkCirc at this; omega
  have hzL : l.length ≤ 1048576 := by have := hzl; rw [Open.bulkInts_eq] at this; omega
  have hl' : ∀ y ∈ l, I64 y := fun y hy => hl y hy
  obtain ⟨W1, hW1⟩ : ∃ W1, W.alloc (.cells (cells x p) 27) = W1 := ⟨_, rfl⟩
  obtain ⟨hb1, hcb⟩ := cbox_new W x p W1 hW1
  have HB1 := Lib.hid hb1
  have KB := Lib.hid (fun (U : World) (hU : Below W1.heap.size W1 U) => hcb.next hU (Nat.le_refl _))
  have HIN := Lib.hid (fun (U : World) (hU : Below W1.heap.size W1 U) => (hin.next hb1).next hU)
  have HAL := Lib.hid (alive_any W1)
  have HC1 := fun (U : World) (hU : Below W1.heap.size W1 U) => cone_any U x p (HIN.out U hU) hw.ands a c l ((hsl.next hb1).next hU) hl' (by omega)
  have HCO := fun (U : World) (hU : Below W1.heap.size W1 U) => cone_any U x p (HIN.out U hU) hw.ands
  have HW := Lib.hid hw
  have HL := Lib.hid hl'
  have HZA := Lib.hid hzA
  have HZL := Lib.hid hzL
  obtain ⟨a1, c1, a2, c2, a3, c3, a4, c4, a5, c5, a6, c6, a7, c7⟩ := p
  simp only [cells] at hW1 HC1 HCO ⊢
  have HCA := Lib.hid HC1
  have HCB := Lib.hid HCO
  clear hin hw hz hb1 hcb hzA hzL hl hl' hzl hsl HC1 HCO
  go_enter Try.func6, Try.ntmps6
  go_wp2_with fail
  clear hW1
  with_reducible refine HAL.out.mono ?_
  rintro e w2 ⟨rfl, hb2⟩
  have HB2 := Lib.hid hb2
  have CB := KB.out w2 hb2
  have m0 : w2.cell? ⟨W.heap.size, 0, none⟩ = some (.int .i64 x.max) := CB.k0
  have m1 : w2.cell? ⟨W.heap.size, 1, none⟩ = some (.slice a1 x.ins.length c1) := CB.k1
  have m2 : w2.cell? ⟨W.heap.size, 2, none⟩ = some (.slice a2 x.lats.length c2) := CB.k2
  have m3 : w2.cell? ⟨W.heap.size, 3, none⟩ = some (.slice a3 x.outs.length c3) := CB.k3
  have m4 : w2.cell? ⟨W.heap.size, 4, none⟩ = some (.slice a4 x.bads.length c4) := CB.k4
  have m5 : w2.cell? ⟨W.heap.size, 5, none⟩ = some (.slice a5 x.invs.length c5) := CB.k5
  have m6 : w2.cell? ⟨W.heap.size, 6, none⟩ = some (.slice a6 x.ands.length c6) := CB.k6
  have m7 : w2.cell? ⟨W.heap.size, 7, none⟩ = some (.slice a7 x.names.length c7) := CB.k7
  have HC2 := Lib.hid (HCA.out w2 hb2)
  clear hb2 CB
  go_wp2_with fail
  with_reducible refine HC2.out.mono ?_
  rintro e w3 ⟨a3', c3', vs, rfl, hown, hpw, hiff, hb3⟩
  have hbx := HB2.out.trans (hb3.mono HB2.out.size)
  have HB3 := Lib.hid hbx
  have hvb : ∀ v ∈ vs, 0 ≤ v ∧ 2 * v ≤ 9223372036854775807 := fun v hv => rch_bound HL.out HW.out.ands ((hiff v).1 hv).2
  have hvl : vs.length ≤ l.length + 2 * x.ands.length := by
    have hn : vs.Nodup := hpw.imp (fun h => by omega)
    have := nodup_len hn (fun v hv => rch_cand ((hiff v).1 hv).2)
    unfold cands at this
    simp only [List.length_append, List.length_map] at this
    omega
  have HVL : Hid (vs.length ≤ 3145728) := by show _ ≤ _; have h1 := HZA.out; have h2 := HZL.out; omega
  obtain ⟨_, _, hae, hsl3⟩ := own_sl hown
  simp only [Value.slice.injEq, true_and] at hae
  obtain ⟨rfl, rfl⟩ := hae
  have HSV := Lib.hid hsl3
  have HPW := Lib.hid hpw
  have HIFF := Lib.hid hiff
  have HVB := Lib.hid hvb
  clear hown hpw hiff hvb hvl hsl3 hb3 hbx m0 m1 m2 m3 m4 m5 m6 m7
  go_wp2_with fail
  go_loopw [6, 7] (fun s6 s7 wr => ∃ (k : Nat) (a' : Option Addr) (c' : Nat), k ≤ vs.length ∧ s7 = .int .i64 k ∧ s6 = .slice a' k c' ∧ Hid (wr.ownsRow w3.heap.size 3 1 (.slice a' k c') k (ints ((vs.take k).map (2 * ·)))) ∧ Hid (Below w3.heap.size w3 wr)) (fun _ s7 _ => vs.length - (intOf s7).toNat)
  case atStart => exact ⟨0, none, 0, Nat.zero_le _, rfl, rfl, World.ownsRow_nil _ _ _ _, Below.refl _ _⟩
  case round =>
    obtain ⟨k, a', c', hk, rfl, rfl, hown, hB⟩ := hrel
    by_cases hlt : k < vs.length
    · obtain ⟨b, o, hx, hae, hbs, d0⟩ := (HSV.out.next hB.out).int hlt
      subst hae
      obtain ⟨hv0, hv1⟩ := HVB.out _ (List.getElem_mem hx)
      have HMO := Lib.hid (ints_more hx)
      have HLT : Hid (∀ j (hj : j < k), vs[j]'(by omega) < vs[k]) := fun j hj => List.pairwise_iff_getElem.1 HPW.out j k (by omega) hx hj
      have HVS := Lib.hid (Eq.refl vs[k])
      obtain ⟨v, hv⟩ : ∃ v, vs[k] = v := ⟨_, rfl⟩
      have HV := Lib.hid hv
      rw [hv] at d0 hv0 hv1 HMO
      have hca := HSV.out.cap
      have hbg := HSV.out.big
      clear hv HVS
      go_upto_region 8 with fail
      obtain ⟨W6, hW6⟩ : ∃ W6, wr.alloc (.cells #[.int .i64 (2 * v)] 3) = W6 := ⟨_, rfl⟩
      have hb6 : Below wr.heap.size wr W6 := by rw [← hW6]; exact (Below.refl _ _).alloc (Nat.le_refl _) _
      have HO6 := Lib.hid (own_next hown.out hb6)
      have hsl6 : Sl W6 (some ⟨wr.heap.size, 0, none⟩) 1 1 [.int .i64 (2 * v)] := by rw [← hW6]; exact sl_new wr _ _ 1 rfl (by omega)
      have HSL6 := Lib.hid hsl6
      have HB6 := Lib.hid (hB.out.trans (hb6.mono hB.out.size))
      have HZ6 := Lib.hid (Nat.le_trans hB.out.size hb6.size)
      have HAN : Hid ((k + 1) * 8 ≤ 140737488355328) := by show _ ≤ _; have := HVL.out; omega
      clear hsl6 hb6
      go_upto_region 9 with ((with_reducible refine wpL_app w3.heap.size (.slice a' k c') k (ints ((vs.take k).map (2 * ·))) (some ⟨wr.heap.size, 0, none⟩) 1 1 [.int .i64 (2 * v)] info_intC Try.underlying22 rfl ?_ ?_ ?_ HO6.out HSL6.out HZ6.out HAN.out ?_ HB6.out ?_); rfl; rfl; (intro u hu; simp only [List.mem_cons, List.not_mem_nil, or_false] at hu; subst hu; rfl); (have := HAN.out; omega); (intro a10 c10 w10 hown10 hb10 hz10))
      rw [← HMO.out] at hown10
      have HO10 := Lib.hid hown10
      have HB10 := Lib.hid hb10
      have HS10 := HSV.out.next hb10
      obtain ⟨_, _, _, hae, hbs10, e1⟩ := HS10.int hlt
      simp only [Option.some.injEq, Addr.mk.injEq, and_true] at hae
      obtain ⟨rfl, rfl⟩ := hae
      rw [HV.out] at e1
      clear d0 hown10 hb10 hz10 hW6
      cases k with
      | zero =>
        clear HS10
        go_quiet (fail)
        go_wp2_with fail
        go_roundw
        case rel => exact ⟨1, a10, c10, by omega, by go_num, rfl, own_next HO10.out (below_drewN (Below.refl _ _) _), below_drewN HB10.out _⟩
        case measure => simp [intOf]; omega
      | succ j =>
        obtain ⟨_, _, hj, hae, _, e0⟩ := HS10.int (k := j) (by omega)
        simp only [Option.some.injEq, Addr.mk.injEq, and_true] at hae
        obtain ⟨rfl, rfl⟩ := hae
        have hlt' := HLT.out j (by omega)
        rw [HV.out] at hlt'
        generalize vs[j] = u at *
        have hd : decide (v ≤ u) = false := decide_eq_false (by omega)
        clear HS10 hlt'
        go_quiet (fail)
        go_wp2_with fail
        go_roundw
        case rel => exact ⟨j + 1 + 1, a10, c10, by omega, by go_num, rfl, own_next HO10.out (below_drewN (Below.refl _ _) _), below_drewN HB10.out _⟩
        case measure => simp [intOf]; omega
    · have hke : k = vs.length := by omega
      subst hke
      rw [List.take_length] at hown
      have hbx := HB3.out.trans (hB.out.mono HB3.out.size)
      have HBX := Lib.hid hbx
      obtain ⟨_, _, hae, hslA⟩ := own_sl hown.out
      simp only [Value.slice.injEq, true_and] at hae
      obtain ⟨rfl, rfl⟩ := hae
      have hlm : (vs.map (2 * ·)).length = vs.length := List.length_map ..
      have HC3 := HCB.out wr hbx a' c' (vs.map (2 * ·)) (by rw [hlm]; exact hslA) (fun y hy => by
        obtain ⟨u, hu, rfl⟩ := List.mem_map.1 hy
        have := HVB.out u hu
        show _ ∧ _
        omega) (by rw [hlm]; have h1 := HZA.out; have h2 := HVL.out; omega)
      rw [hlm] at HC3
      have HCC := Lib.hid HC3
      have HSW := Lib.hid (HSV.out.next hB.out)
      have CB := KB.out wr hbx
      have m0 : wr.cell? ⟨W.heap.size, 0, none⟩ = some (.int .i64 x.max) := CB.k0
      have m1 : wr.cell? ⟨W.heap.size, 1, none⟩ = some (.slice a1 x.ins.length c1) := CB.k1
      have m2 : wr.cell? ⟨W.heap.size, 2, none⟩ = some (.slice a2 x.lats.length c2) := CB.k2
      have m3 : wr.cell? ⟨W.heap.size, 3, none⟩ = some (.slice a3 x.outs.length c3) := CB.k3
      have m4 : wr.cell? ⟨W.heap.size, 4, none⟩ = some (.slice a4 x.bads.length c4) := CB.k4
      have m5 : wr.cell? ⟨W.heap.size, 5, none⟩ = some (.slice a5 x.invs.length c5) := CB.k5
      have m6 : wr.cell? ⟨W.heap.size, 6, none⟩ = some (.slice a6 x.ands.length c6) := CB.k6
      have m7 : wr.cell? ⟨W.heap.size, 7, none⟩ = some (.slice a7 x.names.length c7) := CB.k7
      clear CB hslA HC3 hbx hown hB hlm
      go_wp2_with fail
      with_reducible refine HCC.out.mono ?_
      rintro e w5 ⟨a5', c5', vs2, rfl, hown5, hpw5, hiff5, hb5⟩
      have heq : vs2 = vs := strict_ext hpw5 HPW.out (fun v => (hiff5 v).trans (rch_again HIFF.out (fun u hu => (HVB.out u hu).1) v))
      subst heq
      obtain ⟨_, _, hae, hsl5⟩ := own_sl hown5
      simp only [Value.slice.injEq, true_and] at hae
      obtain ⟨rfl, rfl⟩ := hae
      have HIT := Lib.hid (Plain.ints_any w5 a5' a3' vs2.length vs2.length c5' c3' vs2 vs2 hsl5 (HSW.out.next hb5))
      have HB5 := Lib.hid (HBX.out.trans (hb5.mono HBX.out.size))
      clear hown5 hpw5 hiff5 hb5 hsl5 m0 m1 m2 m3 m4 m5 m6 m7
      go_wp2_with fail
      with_reducible refine HIT.out.mono ?_
      rintro e w6 ⟨rfl, hb6⟩
      have HB7 := Lib.hid (HB1.out.trans ((HB5.out.trans (hb6.mono HB5.out.size)).mono HB1.out.size))
      clear hb6
      go_wp2_with fail
      go_ret
      exact ⟨by simp, HB7.out⟩
end Go.Proofs.Ytpejpjiipcolbaa.circuitCone
