/-
  interlocklaw10.ClauseNorm: the walk: a clause in order, again, stays; it is the one that it was; always true just if it has both literals of a variable.
-/
import Derived.Test.YtdkclipjlleacaaClauseAlive
import Derived.Deep.QuietTactic
import Derived.BigQuiet
namespace Go.Proofs.Ytdkclipjlleacaa.clauseNorm
open Go.RowKit Base
set_option linter.unusedVariables false
set_option linter.unusedSimpArgs false
open RefC (norm always)

def bothAt (l : List Int) (x : Int) (k : Nat) : Bool := decide (0 < x) && (l.take k).any fun y => decide (y = -x)
def bothTo (l : List Int) (i : Nat) : Bool := (l.take i).any fun x => decide (0 < x) && l.any fun y => decide (y = -x)

theorem to_all (l : List Int) : bothTo l l.length = Clause.both l := by unfold bothTo Clause.both; rw [List.take_length]

theorem to_more {l : List Int} {i : Nat} (h : i < l.length) : bothTo l (i + 1) = (bothTo l i || bothAt l l[i] l.length) := by
  unfold bothTo bothAt
  rw [List.take_succ_eq_append_getElem h, List.any_append, List.take_length]
  simp

theorem at_more {l : List Int} {x : Int} {k : Nat} (h : k < l.length) : bothAt l x (k + 1) = (bothAt l x k || (decide (0 < x) && decide (l[k] = -x))) := by
  unfold bothAt
  rw [List.take_succ_eq_append_getElem h, List.any_append]
  cases decide (0 < x) <;> simp

set_option maxHeartbeats 4000000 in
theorem walk (a0 : Option Addr) (c0 : Nat) (x0 : List Int) {w : World} (s0 : Sl w a0 x0.length c0 (ints x0)) (w0 : Clause.Wf x0) (z0 : x0.length * 8 ≤ 140737488351232) (W : World) (hW : W = w) :
    Calls Try.prog 5 #[.slice a0 x0.length c0] W fun e w' => e = .returned (.bool true) ∧ Below W.heap.size W w' := by
  subst hW
  have HA := Lib.hid (ClauseLaw.alive_any W)
  have HNN := Lib.hid (Clause.norm_norm x0)
  have HAB := Lib.hid (Clause.always_both w0)
  have HNL := Lib.hid (Clause.norm_len x0)
  have HNW := Lib.hid (Clause.norm_wf w0)
  have HT := Lib.hid (to_all x0)
  have HW := Lib.hid w0
  have HZ := Lib.hid z0
  have HS := Lib.hid s0
  have hcap := s0.cap
  have hbig := s0.big
  have N := fun V (hV : Below W.heap.size W V) => Clause.norm_any V a0 _ c0 x0 (s0.next hV) w0 (by omega)
  have HN := Lib.hid N
  clear N s0 w0 z0
  generalize hn0 : x0.length = n0 at *
  have HN0 := Lib.hid hn0
  clear hn0
  go_enter Try.func5, Try.ntmps5
  go_wp2_with fail
  refine HA.out.mono ?_; rintro e w1 ⟨rfl, hb1⟩
  have HB1 := Lib.hid hb1
  clear hb1
  go_wp2_with fail
  refine (HN.out w1 HB1.out).mono ?_; rintro e w2 ⟨a1, c1, rfl, hown1, hb⟩
  have HB2 := Lib.hid (HB1.out.trans (hb.mono HB1.out.size))
  have HS1 := Lib.hid (Clause.own_ints hown1)
  clear hb hown1
  have N2 := Clause.norm_any w2 a1 _ c1 _ HS1.out HNW.out (by have := HNL.out; have := HZ.out; have := HN0.out; omega)
  rw [HNN.out] at N2
  have HN2 := Lib.hid N2
  clear N2
  have hl1 : (norm x0).length ≤ n0 := by have := HNL.out; have := HN0.out; omega
  generalize hL : norm x0 = L at *
  generalize hm : L.length = m at *
  generalize hal : always L = b at *
  have HLm := Lib.hid (And.intro hL (And.intro hm hal))
  clear hL hm hal
  go_wp2_with fail
  refine HN2.out.mono ?_; rintro e w3 ⟨a2, c2, rfl, hown2, hb⟩
  rw [HLm.out.2.1, HLm.out.2.2] at *
  have HB3 := Lib.hid (HB2.out.trans (hb.mono HB2.out.size))
  have HS2 := Lib.hid (Clause.own_ints hown2)
  have HS1' := Lib.hid (HS1.out.next hb)
  have HS3 := Lib.hid (HS.out.next HB3.out)
  clear hb hown2
  go_wp2_with fail
  go_loopw [7, 8, 9] (fun v i _ wr => ∃ k : Nat, k ≤ n0 ∧ i = .int .i64 k ∧ (∃ q, v = .bool q ∧ Hid (q = bothTo x0 k)) ∧ Below w3.heap.size w3 wr) (fun _ i _ _ => n0 - (intOf i).toNat)
  case atStart => exact ⟨0, Nat.zero_le _, rfl, ⟨false, rfl, rfl⟩, Below.refl _ _⟩
  case round =>
    obtain ⟨i, hi, rfl, ⟨q, rfl, hq⟩, hbr⟩ := hrel
    by_cases hlt : i < n0
    · obtain ⟨g, o, hx, rfl, hgs, hc⟩ := HS3.out.int hlt
      have HQ := hq
      clear hq
      have HTM := Lib.hid (to_more (l := x0) hx)
      have HX : Hid (∃ h : i < x0.length, x0[i] = x0[i]) := ⟨hx, rfl⟩
      generalize hxi : x0[i] = x at *
      have HXI := Lib.hid hxi
      clear hxi
      have c0i := Lib.hid hc
      clear hc
      go_wp2_with fail
      generalize wr = wo at *
      go_loopw [7, 9] (fun v k wr => ∃ j : Nat, j ≤ n0 ∧ k = .int .i64 j ∧ (∃ p, v = .bool p ∧ Hid (p = (q || bothAt x0 x j))) ∧ Below wo.heap.size wo wr) (fun _ k _ => n0 - (intOf k).toNat)
      case atStart => exact ⟨0, Nat.zero_le _, rfl, ⟨q, rfl, by show _ = _; unfold bothAt; simp⟩, Below.refl _ _⟩
      case round =>
        obtain ⟨j, hj, rfl, ⟨p, rfl, hp⟩, hbq⟩ := hrel
        by_cases hjl : j < n0
        · obtain ⟨g', o', hy, e', hgs', hcy⟩ := HS3.out.int (k := j) hjl
          simp only [Option.some.injEq, Addr.mk.injEq] at e'
          obtain ⟨rfl, rfl, _⟩ := e'
          have hbwo : Below w3.heap.size w3 wr := hbr.trans (hbq.mono hbr.size)
          have c0 := (hbwo.cell (p := ⟨g, o + i, none⟩) hgs).trans c0i.out
          have c1 := (hbwo.cell (p := ⟨g, o + j, none⟩) hgs).trans hcy
          have HAM := Lib.hid (at_more (l := x0) (x := x) (k := j) hy)
          clear hcy hbwo
          generalize x0[j] = y at *
          have hwx := HW.out x (by have := HXI.out; rw [← this]; exact List.getElem_mem hx)
          cases p
          · by_cases hpos : 0 < x
            · have hd : decide (0 < x) = true := decide_eq_true hpos
              have hw : wrap64 (-x) = -x := Clause.wrap_neg (by omega) hwx.2
              have hP : Hid (∀ t, t = (y == -x) → t = (q || bothAt x0 x (j + 1))) := by
                intro t ht
                rw [HAM.out, ← Bool.or_assoc, ← hp.out, hd, ht, Bool.false_or, Bool.true_and, Bool.eq_iff_iff]
                simp
              clear hp hwx
              go_wp2_with fail
              go_quiet (fail)
              go_wp2_with fail
              go_roundw
              case rel => exact ⟨j + 1, by omega, by go_num, ⟨_, rfl, hP.out _ rfl⟩, below_drewN hbq _⟩
              case measure => simp [intOf]; omega
            · have hd : decide (0 < x) = false := decide_eq_false hpos
              have hP : Hid (false = (q || bothAt x0 x (j + 1))) := by
                show _ = _
                rw [HAM.out, ← Bool.or_assoc, ← hp.out, hd]
                simp
              clear hp hwx
              go_wp2_with fail
              go_quiet (fail)
              go_wp2_with fail
              go_roundw
              case rel => exact ⟨j + 1, by omega, by go_num, ⟨_, rfl, hP⟩, below_drewN hbq _⟩
              case measure => simp [intOf]; omega
          · have hP : Hid (true = (q || bothAt x0 x (j + 1))) := by
              show _ = _
              rw [HAM.out, ← Bool.or_assoc, ← hp.out]
              simp
            clear hp hwx
            go_wp2_with fail
            go_quiet (fail)
            go_wp2_with fail
            go_roundw
            case rel => exact ⟨j + 1, by omega, by go_num, ⟨_, rfl, hP⟩, below_drewN hbq _⟩
            case measure => simp [intOf]; omega
        · have hP : Hid (p = bothTo x0 (i + 1)) := by
            show _ = _
            have hjn : j = x0.length := by have := HN0.out; omega
            rw [HTM.out, hp.out, ← HQ.out, hjn]
          clear hp
          go_wp2_with fail
          go_roundw
          case rel => exact ⟨i + 1, by omega, by go_num, ⟨_, rfl, hP⟩, hbr.trans (hbq.mono hbr.size)⟩
          case measure => simp [intOf]; omega
    · have hq' : q = b := by
        have hin : i = n0 := by omega
        rw [hq.out, hin, HT.out, HAB.out]
      clear hq
      subst hq'
      have hbw : Below W.heap.size W wr := HB3.out.trans (hbr.mono HB3.out.size)
      have PI := Plain.ints_any wr a1 a2 m m c1 c2 L L (HS1'.out.next hbr) (HS2.out.next hbr)
      rw [decide_eq_true rfl] at PI
      have HPI := Lib.hid PI
      have hsl0 := HS.out.next hbw
      have hsl1 := HS1'.out.next hbr
      have HSM := Lib.hid (fun V (hV : Below wr.heap.size wr V) => Clause.same_any V a0 n0 c0 x0 (hsl0.next hV) HW.out a1 m c1 L (hsl1.next hV) HNW.out (by have := HZ.out; omega) (by have := HZ.out; omega))
      have hd : decide (norm x0 = norm L) = true := decide_eq_true (by rw [HNN.out, HLm.out.1])
      rw [hd] at HSM
      have HBW := Lib.hid hbw
      clear PI hsl0 hsl1 hd hbw
      go_wp2_with fail
      refine HPI.out.mono ?_; rintro e w4 ⟨rfl, hb4⟩
      have HB4 := Lib.hid (HBW.out.trans (hb4.mono HBW.out.size))
      have HSM2 := Lib.hid (HSM.out w4 hb4)
      clear hb4
      cases q
      all_goals
        go_wp2_with fail
        refine HSM2.out.mono ?_; rintro e w5 ⟨rfl, hb5⟩
        have HB5 := Lib.hid (HB4.out.trans (hb5.mono HB4.out.size))
        clear hb5
        go_wp2_with fail
        go_ret
        exact ⟨rfl, HB5.out⟩
end Go.Proofs.Ytdkclipjlleacaa.clauseNorm
