/-
  circuit.Find: a name's literal.
-/
import Derived.Test.YtpejpjiipcolbaaLiteral
import Derived.BigQuiet
namespace Go.Proofs.Ytpejpjiipcolbaa
open Go.RowKit Base
set_option linter.unusedVariables false
set_option linter.unusedSimpArgs false
namespace Circuit

/-- Does a name stand for a text? -/
def hit (x : Circ) (s : ByteArray) (t : NameT) : Bool := (t.2.2.toList == s.toList) && (decide (0 ≤ t.2.1) && decide (t.2.1 < countOf x t.1))
/-- The literal of the first name of a text. -/
def findOf (x : Circ) (s : ByteArray) : Option Int := (x.names.find? (hit x s)).map fun t => litOf x t.1 t.2.1.toNat

theorem find_hit {x : Circ} {s : ByteArray} {k : Nat} (hk : k < x.names.length) (h : NoneTo (hit x s) x.names k) (hh : hit x s x.names[k] = true) : findOf x s = some (litOf x x.names[k].1 x.names[k].2.1.toNat) := by
  unfold findOf
  have : x.names.find? (hit x s) = some x.names[k] := by
    rw [List.find?_eq_some_iff_getElem]
    exact ⟨hh, k, hk, rfl, fun j hj => by rw [h j (by omega) hj]; rfl⟩
  rw [this]
  rfl
theorem find_none {x : Circ} {s : ByteArray} (h : NoneTo (hit x s) x.names x.names.length) : findOf x s = none := by
  unfold findOf
  have : x.names.find? (hit x s) = none := by
    rw [List.find?_eq_none]
    intro t ht
    obtain ⟨j, hj, rfl⟩ := List.mem_iff_getElem.1 ht
    rw [h j hj hj]
    simp
  rw [this]
  rfl

def FindOut (w : World) (g : Option Int) (e : Ending) (w' : World) : Prop :=
  (match g with
    | some l => e = .returned (.tuple #[.int .i64 l, .bool true])
    | none => e = .returned (.tuple #[.int .i64 0, .bool false])) ∧ Below w.heap.size w w'

set_option maxRecDepth 8000 in
set_option maxHeartbeats 16000000 in
theorem find_any (w : World) (x : Circ) (p : At) (hin : InCirc w x p) (s : ByteArray) :
    Calls Try.prog 11 #[.agg (cells x p), .string s] w (FindOut w (findOf x s)) := by
  obtain ⟨W1, hW1⟩ : ∃ W1, w.alloc (.cells (cells x p) 27) = W1 := ⟨_, rfl⟩
  obtain ⟨hb1, hcb⟩ := cbox_new w x p W1 hW1
  have hsl := hin.names.next hb1
  have HS := Lib.hid hsl
  have HB1 := Lib.hid hb1
  have HCB := Lib.hid hcb
  have HIN := Lib.hid (fun (U : World) (hU : Below W1.heap.size W1 U) => (hin.next hb1).next hU)
  have hcap := hsl.cap
  have hbig := hsl.big
  clear hin hb1 hcb hsl
  obtain ⟨a1, c1, a2, c2, a3, c3, a4, c4, a5, c5, a6, c6, a7, c7⟩ := p
  simp only at hcap hbig
  have k7 : W1.cell? ⟨w.heap.size, 7, none⟩ = some (.slice a7 x.names.length c7) := HCB.out.k7
  simp only [cells] at hW1 ⊢
  go_enter Try.func11, Try.ntmps11
  go_wp2_with fail
  clear hW1
  go_loopw [11] (fun q wr => ∃ k : Nat, k ≤ x.names.length ∧ q = .int .i64 k ∧ Hid (NoneTo (hit x s) x.names k) ∧ Hid (Below W1.heap.size W1 wr)) (fun q _ => x.names.length - (intOf q).toNat)
  case atStart => exact ⟨0, Nat.zero_le _, rfl, (fun j _ hj => by omega), Below.refl _ _⟩
  case round =>
    obtain ⟨k, hk, rfl, hI, hbr⟩ := hrel
    by_cases hlt : k < x.names.length
    · obtain ⟨b, o, hx, rfl, hbs, hc0, hc1, hc2⟩ := Circuit.SlT.name HS.out hlt
      have d0 := (hbr.out.cell (p := ⟨b, o + k * 3, none⟩) hbs).trans hc0
      have d1 := (hbr.out.cell (p := ⟨b, o + k * 3 + 1, none⟩) hbs).trans hc1
      have d2 := (hbr.out.cell (p := ⟨b, o + k * 3 + 2, none⟩) hbs).trans hc2
      clear hc0 hc1 hc2
      have HM := Lib.hid (noneTo_more hI.out hlt)
      have HF := Lib.hid (find_hit hlt hI.out)
      generalize x.names[k] = t at *
      have HT : Hid (hit x s t = ((t.2.2.toList == s.toList) && (decide (0 ≤ t.2.1) && decide (t.2.1 < countOf x t.1)))) := rfl
      obtain ⟨U, hU⟩ : ∃ U, wr.alloc (.cells (nameC t) 39) = U := ⟨_, rfl⟩
      obtain ⟨hbU, hnb⟩ := nbox_new wr t U hU
      have HBU := Lib.hid (hbr.out.trans (hbU.mono hbr.out.size))
      have HNB := Lib.hid hnb
      have HCU := Lib.hid (HCB.out.next HBU.out (Nat.le_refl _))
      clear hbU hnb hI hbr
      simp only [nameC] at hU
      go_upto_region 4 with fail
      cases q1 : (t.2.2.toList == s.toList)
      · have HR := Lib.hid (HM.out (by rw [HT.out, q1]; rfl))
        have n2 := HNB.out.n2
        clear HM HF HT d0 d1 d2 hU
        go_quiet (fail)
        go_wp2_with fail
        go_roundw
        case rel => exact ⟨k + 1, by omega, by go_num, HR.out, below_drewN HBU.out _⟩
        case measure => simp [intOf]; omega
      · by_cases q2 : 0 ≤ t.2.1
        · have hd2 : decide (0 ≤ t.2.1) = true := decide_eq_true q2
          have FI := Lib.hid (nh_first HCU HNB)
          have LC2 := Lib.hid (fun V (hV : NAll w.heap.size wr.heap.size x (⟨a1, c1, a2, c2, a3, c3, a4, c4, a5, c5, a6, c6, some ⟨b, o, none⟩, c7⟩ : At) t U V) => (count_any V x (⟨a1, c1, a2, c2, a3, c3, a4, c4, a5, c5, a6, c6, some ⟨b, o, none⟩, c7⟩ : At) t.1).mono fun e w' h => (⟨h.1, nh_all ((nh_in hV).more h.2)⟩ : e = .returned (.int .i64 (countOf x t.1)) ∧ NAll w.heap.size wr.heap.size x (⟨a1, c1, a2, c2, a3, c3, a4, c4, a5, c5, a6, c6, some ⟨b, o, none⟩, c7⟩ : At) t U w'))
          simp only [cells] at LC2
          by_cases q3 : t.2.1 < countOf x t.1
          · have hd3 : decide (t.2.1 < (countOf x t.1 : Int)) = true := decide_eq_true q3
            have HR := Lib.hid (HF.out (by rw [HT.out, q1, hd2, hd3]; rfl))
            obtain ⟨n, hn⟩ : ∃ n : Nat, t.2.1 = n := ⟨t.2.1.toNat, by omega⟩
            have HLT : Hid (n < countOf x t.1) := by show _ < _; omega
            have HN := Lib.hid hn
            have HC3 := Lib.hid hd3
            clear HM HF HT d0 d1 d2 hU q2 q3 hn
            refine Lex.region (fun w' => NAll w.heap.size wr.heap.size x (⟨a1, c1, a2, c2, a3, c3, a4, c4, a5, c5, a6, c6, some ⟨b, o, none⟩, c7⟩ : At) t U w') (by kernel_rfl) (by kernel_rfl) FI.out ?_
            (refine Lex.step_val (v := ?_) ?_ (fun w' hSw => ?_) ?_; rotate_left; (focus rfl); (focus (clear hSw; go_simp; (try with_reducible rfl); done)); (try simp only [Act.put, List.setIfInBounds_toArray, List.set_cons_zero, List.set_cons_succ]))
            (refine Lex.step_val (v := ?_) ?_ (fun w' hSw => ?_) ?_; rotate_left; (focus rfl); (focus ((try dsimp only at hSw); go_simp; (try with_reducible rfl); done)); (try simp only [Act.put, List.setIfInBounds_toArray, List.set_cons_zero, List.set_cons_succ]))
            (refine Lex.step_val (v := ?_) ?_ (fun w' hSw => ?_) ?_; rotate_left; (focus rfl); (focus (clear hSw; go_simp; (try with_reducible rfl); done)); (try simp only [Act.put, List.setIfInBounds_toArray, List.set_cons_zero, List.set_cons_succ]))
            (refine Lex.step_val (v := ?_) ?_ (fun w' hSw => ?_) ?_; rotate_left; (focus rfl); (focus (clear hSw; go_simp; (try with_reducible rfl); done)); (try simp only [Act.put, List.setIfInBounds_toArray, List.set_cons_zero, List.set_cons_succ]))
            (refine Lex.step_val (v := ?_) ?_ (fun w' hSw => ?_) ?_; rotate_left; (focus rfl); (focus (clear hSw; go_simp; (try with_reducible rfl); done)); (try simp only [Act.put, List.setIfInBounds_toArray, List.set_cons_zero, List.set_cons_succ]))
            (refine Lex.step_val (v := ?_) ?_ (fun w' hSw => ?_) ?_; rotate_left; (focus (go_simp; done)); (focus (clear hSw; go_simp; (try with_reducible rfl); done)); (try simp only [Act.put, List.setIfInBounds_toArray, List.set_cons_zero, List.set_cons_succ]))
            (refine Lex.step_val (v := ?_) ?_ (fun w' hSw => ?_) ?_; rotate_left; (focus (go_simp; done)); (focus ((try dsimp only at hSw); go_simp; (try with_reducible rfl); done)); (try simp only [Act.put, List.setIfInBounds_toArray, List.set_cons_zero, List.set_cons_succ]))
            (refine Lex.step_val (v := ?_) ?_ (fun w' hSw => ?_) ?_; rotate_left; (focus (go_simp; done)); (focus (clear hSw; go_simp; (try with_reducible rfl); done)); (try simp only [Act.put, List.setIfInBounds_toArray, List.set_cons_zero, List.set_cons_succ]))
            (refine Lex.step_val (v := ?_) ?_ (fun w' hSw => ?_) ?_; rotate_left; (focus rfl); (focus (clear hSw; go_simp; (try with_reducible rfl); done)); (try simp only [Act.put, List.setIfInBounds_toArray, List.set_cons_zero, List.set_cons_succ]))
            (refine Lex.step_val (v := ?_) ?_ (fun w' hSw => ?_) ?_; rotate_left; (focus rfl); (focus (clear hSw; go_simp; (try with_reducible rfl); done)); (try simp only [Act.put, List.setIfInBounds_toArray, List.set_cons_zero, List.set_cons_succ]))
            (refine Lex.step_val (v := ?_) ?_ (fun w' hSw => ?_) ?_; rotate_left; (focus (go_simp; done)); (focus (clear hSw; go_simp; (try with_reducible rfl); done)); (try simp only [Act.put, List.setIfInBounds_toArray, List.set_cons_zero, List.set_cons_succ]))
            (refine Lex.step_val (v := ?_) ?_ (fun w' hSw => ?_) ?_; rotate_left; (focus (go_simp; done)); (focus ((try dsimp only at hSw); go_simp; (try with_reducible rfl); done)); (try simp only [Act.put, List.setIfInBounds_toArray, List.set_cons_zero, List.set_cons_succ]))
            (refine Lex.step_val (v := ?_) ?_ (fun w' hSw => ?_) ?_; rotate_left; (focus (go_simp; done)); (focus ((try dsimp only at hSw); go_simp; (try with_reducible rfl); done)); (try simp only [Act.put, List.setIfInBounds_toArray, List.set_cons_zero, List.set_cons_succ]))
            (refine Lex.step_val (v := ?_) ?_ (fun w' hSw => ?_) ?_; rotate_left; (focus (go_simp; done)); (focus (clear hSw; go_simp; (try with_reducible rfl); done)); (try simp only [Act.put, List.setIfInBounds_toArray, List.set_cons_zero, List.set_cons_succ]))
            (refine Lex.step_val (v := ?_) ?_ (fun w' hSw => ?_) ?_; rotate_left; (focus (go_simp; done)); (focus ((try dsimp only at hSw); go_simp; (try with_reducible rfl); done)); (try simp only [Act.put, List.setIfInBounds_toArray, List.set_cons_zero, List.set_cons_succ]))
            (refine Lex.step_call (v := ?_) (f := ?_) (args := ?_) ?_ (fun w' hSw => ?_) ?_ ?_; rotate_left 3; (focus (go_simp; done)); (focus (clear hSw; go_simp; (refine And.intro ?_ ?_ <;> with_reducible rfl); done)); (focus (first | with_reducible exact LC2.out)); (try simp only [Act.put, List.setIfInBounds_toArray, List.set_cons_zero, List.set_cons_succ]))
            (refine Lex.step_val (v := ?_) ?_ (fun w' hSw => ?_) ?_; rotate_left; (focus (go_simp; done)); (focus (clear hSw; go_simp; (try with_reducible rfl); done)); (try simp only [Act.put, List.setIfInBounds_toArray, List.set_cons_zero, List.set_cons_succ]))
            (refine Lex.step_val (v := ?_) ?_ (fun w' hSw => ?_) ?_; rotate_left; (focus rfl); (focus (clear hSw; go_simp; (try with_reducible rfl); done)); (try simp only [Act.put, List.setIfInBounds_toArray, List.set_cons_zero, List.set_cons_succ]))
            refine Lex.step_nil ?_
            intro wz hz
            have HBZ := Lib.hid (HBU.out.trans ((nh_in hz).below.mono HBU.out.size))
            have CB := (nh_in hz).cb
            have n0 := (nh_in hz).nb.n0
            have n1 := (nh_in hz).nb.n1
            have n2 := (nh_in hz).nb.n2
            have HLI := literal_any wz x (⟨a1, c1, a2, c2, a3, c3, a4, c4, a5, c5, a6, c6, some ⟨b, o, none⟩, c7⟩ : At) (HIN.out wz HBZ.out) t.1 n t.2.2 HLT.out
            rw [← HN.out] at HLI
            have HLIT := Lib.hid HLI
            have HRR : Hid (findOf x s = some (litOf x t.1 n)) := by show _ = _; rw [HR.out, HN.out]; rfl
            simp only [cells] at HLIT
            have m0 : wz.cell? ⟨w.heap.size, 0, none⟩ = some (.int .i64 x.max) := CB.k0
            have m1 : wz.cell? ⟨w.heap.size, 1, none⟩ = some (.slice a1 x.ins.length c1) := CB.k1
            have m2 : wz.cell? ⟨w.heap.size, 2, none⟩ = some (.slice a2 x.lats.length c2) := CB.k2
            have m3 : wz.cell? ⟨w.heap.size, 3, none⟩ = some (.slice a3 x.outs.length c3) := CB.k3
            have m4 : wz.cell? ⟨w.heap.size, 4, none⟩ = some (.slice a4 x.bads.length c4) := CB.k4
            have m5 : wz.cell? ⟨w.heap.size, 5, none⟩ = some (.slice a5 x.invs.length c5) := CB.k5
            have m6 : wz.cell? ⟨w.heap.size, 6, none⟩ = some (.slice a6 x.ands.length c6) := CB.k6
            have m7 : wz.cell? ⟨w.heap.size, 7, none⟩ = some (.slice (some ⟨b, o, none⟩) x.names.length c7) := CB.k7
            clear CB hz HLI HR
            go_wp2_with fail
            with_reducible refine HLIT.out.mono ?_
            rintro e w9 ⟨rfl, hb9⟩
            have HB9 := Lib.hid (HB1.out.trans ((HBZ.out.trans (hb9.mono HBZ.out.size)).mono HB1.out.size))
            clear hb9
            go_wp2_with fail
            refine bodyPost_ret (v := .tuple #[.int .i64 (litOf x t.1 n), .bool true]) (by simp [results, Try.results11, go_sem]) rfl ?_
            refine ⟨?_, HB9.out⟩
            rw [HRR.out]
          · have hd3 : decide (t.2.1 < (countOf x t.1 : Int)) = false := decide_eq_false q3
            have HR := Lib.hid (HM.out (by rw [HT.out, q1, hd2, hd3]; rfl))
            clear HM HF HT d0 d1 d2 hU q2 q3
            refine Lex.region (fun w' => NAll w.heap.size wr.heap.size x (⟨a1, c1, a2, c2, a3, c3, a4, c4, a5, c5, a6, c6, some ⟨b, o, none⟩, c7⟩ : At) t U w') (by kernel_rfl) (by kernel_rfl) FI.out ?_
            (refine Lex.step_val (v := ?_) ?_ (fun w' hSw => ?_) ?_; rotate_left; (focus rfl); (focus (clear hSw; go_simp; (try with_reducible rfl); done)); (try simp only [Act.put, List.setIfInBounds_toArray, List.set_cons_zero, List.set_cons_succ]))
            (refine Lex.step_val (v := ?_) ?_ (fun w' hSw => ?_) ?_; rotate_left; (focus rfl); (focus ((try dsimp only at hSw); go_simp; (try with_reducible rfl); done)); (try simp only [Act.put, List.setIfInBounds_toArray, List.set_cons_zero, List.set_cons_succ]))
            (refine Lex.step_val (v := ?_) ?_ (fun w' hSw => ?_) ?_; rotate_left; (focus rfl); (focus (clear hSw; go_simp; (try with_reducible rfl); done)); (try simp only [Act.put, List.setIfInBounds_toArray, List.set_cons_zero, List.set_cons_succ]))
            (refine Lex.step_val (v := ?_) ?_ (fun w' hSw => ?_) ?_; rotate_left; (focus rfl); (focus (clear hSw; go_simp; (try with_reducible rfl); done)); (try simp only [Act.put, List.setIfInBounds_toArray, List.set_cons_zero, List.set_cons_succ]))
            (refine Lex.step_val (v := ?_) ?_ (fun w' hSw => ?_) ?_; rotate_left; (focus rfl); (focus (clear hSw; go_simp; (try with_reducible rfl); done)); (try simp only [Act.put, List.setIfInBounds_toArray, List.set_cons_zero, List.set_cons_succ]))
            (refine Lex.step_val (v := ?_) ?_ (fun w' hSw => ?_) ?_; rotate_left; (focus (go_simp; done)); (focus (clear hSw; go_simp; (try with_reducible rfl); done)); (try simp only [Act.put, List.setIfInBounds_toArray, List.set_cons_zero, List.set_cons_succ]))
            (refine Lex.step_val (v := ?_) ?_ (fun w' hSw => ?_) ?_; rotate_left; (focus (go_simp; done)); (focus ((try dsimp only at hSw); go_simp; (try with_reducible rfl); done)); (try simp only [Act.put, List.setIfInBounds_toArray, List.set_cons_zero, List.set_cons_succ]))
            (refine Lex.step_val (v := ?_) ?_ (fun w' hSw => ?_) ?_; rotate_left; (focus (go_simp; done)); (focus (clear hSw; go_simp; (try with_reducible rfl); done)); (try simp only [Act.put, List.setIfInBounds_toArray, List.set_cons_zero, List.set_cons_succ]))
            (refine Lex.step_val (v := ?_) ?_ (fun w' hSw => ?_) ?_; rotate_left; (focus rfl); (focus (clear hSw; go_simp; (try with_reducible rfl); done)); (try simp only [Act.put, List.setIfInBounds_toArray, List.set_cons_zero, List.set_cons_succ]))
            (refine Lex.step_val (v := ?_) ?_ (fun w' hSw => ?_) ?_; rotate_left; (focus rfl); (focus (clear hSw; go_simp; (try with_reducible rfl); done)); (try simp only [Act.put, List.setIfInBounds_toArray, List.set_cons_zero, List.set_cons_succ]))
            (refine Lex.step_val (v := ?_) ?_ (fun w' hSw => ?_) ?_; rotate_left; (focus (go_simp; done)); (focus (clear hSw; go_simp; (try with_reducible rfl); done)); (try simp only [Act.put, List.setIfInBounds_toArray, List.set_cons_zero, List.set_cons_succ]))
            (refine Lex.step_val (v := ?_) ?_ (fun w' hSw => ?_) ?_; rotate_left; (focus (go_simp; done)); (focus ((try dsimp only at hSw); go_simp; (try with_reducible rfl); done)); (try simp only [Act.put, List.setIfInBounds_toArray, List.set_cons_zero, List.set_cons_succ]))
            (refine Lex.step_val (v := ?_) ?_ (fun w' hSw => ?_) ?_; rotate_left; (focus (go_simp; done)); (focus ((try dsimp only at hSw); go_simp; (try with_reducible rfl); done)); (try simp only [Act.put, List.setIfInBounds_toArray, List.set_cons_zero, List.set_cons_succ]))
            (refine Lex.step_val (v := ?_) ?_ (fun w' hSw => ?_) ?_; rotate_left; (focus (go_simp; done)); (focus (clear hSw; go_simp; (try with_reducible rfl); done)); (try simp only [Act.put, List.setIfInBounds_toArray, List.set_cons_zero, List.set_cons_succ]))
            (refine Lex.step_val (v := ?_) ?_ (fun w' hSw => ?_) ?_; rotate_left; (focus (go_simp; done)); (focus ((try dsimp only at hSw); go_simp; (try with_reducible rfl); done)); (try simp only [Act.put, List.setIfInBounds_toArray, List.set_cons_zero, List.set_cons_succ]))
            (refine Lex.step_call (v := ?_) (f := ?_) (args := ?_) ?_ (fun w' hSw => ?_) ?_ ?_; rotate_left 3; (focus (go_simp; done)); (focus (clear hSw; go_simp; (refine And.intro ?_ ?_ <;> with_reducible rfl); done)); (focus (first | with_reducible exact LC2.out)); (try simp only [Act.put, List.setIfInBounds_toArray, List.set_cons_zero, List.set_cons_succ]))
            (refine Lex.step_val (v := ?_) ?_ (fun w' hSw => ?_) ?_; rotate_left; (focus (go_simp; done)); (focus (clear hSw; go_simp; (try with_reducible rfl); done)); (try simp only [Act.put, List.setIfInBounds_toArray, List.set_cons_zero, List.set_cons_succ]))
            (refine Lex.step_val (v := ?_) ?_ (fun w' hSw => ?_) ?_; rotate_left; (focus rfl); (focus (clear hSw; go_simp; (try with_reducible rfl); done)); (try simp only [Act.put, List.setIfInBounds_toArray, List.set_cons_zero, List.set_cons_succ]))
            refine Lex.step_nil ?_
            intro wz hz
            have HBZ := Lib.hid (HBU.out.trans ((nh_in hz).below.mono HBU.out.size))
            clear hz
            go_wp2_with fail
            go_roundw
            case rel => exact ⟨k + 1, by omega, by go_num, HR.out, HBZ.out⟩
            case measure => simp [intOf]; omega
        · have hd2 : decide (0 ≤ t.2.1) = false := decide_eq_false q2
          have HR := Lib.hid (HM.out (by rw [HT.out, q1, hd2]; rfl))
          have n2 := HNB.out.n2
          have n1 := HNB.out.n1
          have hq2 : t.2.1 < 0 := by omega
          clear HM HF HT d0 d1 d2 hU q2
          go_quiet (fail)
          go_wp2_with fail
          go_roundw
          case rel => exact ⟨k + 1, by omega, by go_num, HR.out, below_drewN HBU.out _⟩
          case measure => simp [intOf]; omega
    · have HR := Lib.hid (find_none (s := s) (by have h := hI.out; rw [show k = x.names.length by omega] at h; exact h))
      have HB9 := Lib.hid (HB1.out.trans (hbr.out.mono HB1.out.size))
      clear hI hbr
      go_wp2_with fail
      refine bodyPost_ret (v := .tuple #[.int .i64 0, .bool false]) (by simp [results, Try.results11, go_sem]) rfl ?_
      refine ⟨?_, HB9.out⟩
      rw [HR.out]
end Circuit
end Go.Proofs.Ytpejpjiipcolbaa
