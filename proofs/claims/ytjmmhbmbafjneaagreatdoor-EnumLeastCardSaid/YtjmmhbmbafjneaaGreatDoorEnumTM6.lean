/-
  Several texts in one (written by merge2.py): XRefIn XProves XPathP XEnumN XEnumO XEnumL XBadZ
-/
import Derived.Test.YtjmmhbmbafjneaaGreatDoorEnumTM5
import Derived.Test.YtjmmhbmbafjneaaGreatDoorEnumTM1
import Derived.Test.YtjmmhbmbafjneaaGreatDoorEnumTM4
import Derived.Test.YtjmmhbmbafjneaaGreatDoorEnumTM2
import Derived.Test.YtjmmhbmbafjneaaGreatDoorEnumTM3
import Derived.Test.YtjmmhbmbafjneaaGreatDoorLex
/-
  interlockref07.In: is a state in clauses over latches?
-/
namespace Go.Proofs.YtjmmhbmbafjneaaGreatDoor
open Go.RowKit Base
set_option linter.unusedVariables false
set_option linter.unusedSimpArgs false
namespace RefIn
open Circuit BadP

/-- Does a state meet a literal over latches? -/
def litIn (s : List Bool) (z : Int) : Bool := decide (1 ≤ z.natAbs) && decide (z.natAbs ≤ s.length) && (s.getD (z.natAbs - 1) false == decide (0 < z))
def inC (s : List Bool) (l : List Int) : Bool := l.any (litIn s)
def inL (L : List (List Int)) (s : List Bool) : Bool := L.all (inC s)
theorem litIn_zero (s : List Bool) : litIn s 0 = false := rfl
theorem litIn_pos (s : List Bool) (k : Nat) : litIn s ((k : Int) + 1) = (decide (k < s.length) && s.getD k false) := by
  unfold litIn
  have e : ((k : Int) + 1).natAbs = k + 1 := by omega
  rw [e, decide_eq_true (by omega : 1 ≤ k + 1), decide_eq_true (by omega : (0 : Int) < k + 1), Nat.add_sub_cancel, Bool.true_and]
  congr 1
  cases s.getD k false <;> rfl
theorem litIn_neg (s : List Bool) (k : Nat) : litIn s (-((k : Int) + 1)) = (decide (k < s.length) && !s.getD k false) := by
  unfold litIn
  have e : (-((k : Int) + 1)).natAbs = k + 1 := by omega
  rw [e, decide_eq_true (by omega : 1 ≤ k + 1), decide_eq_false (by omega : ¬ (0 : Int) < -((k : Int) + 1)), Nat.add_sub_cancel, Bool.true_and]
  congr 1
  cases s.getD k false <;> rfl

set_option maxRecDepth 8000 in
set_option maxHeartbeats 8000000 in
theorem in_any (w : World) (a : Option Addr) (n c : Nat) (vs : List Value) (L : List (List Int)) (hsl : Sl2 w a n c vs L) (h64 : ∀ y ∈ L.flatten, -1000000 ≤ y ∧ y ≤ 1000000) (s : List Bool) (hs : s.length ≤ 1000000) :
    Calls Tryz.prog 19 #[.slice a n c, .string (bs s)] w fun e w' => e = .returned (.bool (inL L s)) ∧ w' = w := by
  have HLN : Hid (L.length = n) := hsl.len
  have HVN : Hid (vs.length = n) := hsl.sl.len
  have hcap := hsl.sl.cap
  have hbig := hsl.sl.big
  have HS := Lib.hid hsl
  have H64 : Hid (∀ (k : Nat) (hk : k < L.length), ∀ y ∈ L[k], -1000000 ≤ y ∧ y ≤ 1000000) := fun k hk y hy => h64 y (List.mem_flatten.2 ⟨_, List.getElem_mem hk, hy⟩)
  have hsz : (bs s).size = s.length := bs_size s
  have hs10 : (bs s).size ≤ 1000000 := by rw [hsz]; exact hs
  have HSZ := Lib.hid hsz
  have HBY : Hid (∀ (k : Nat) (h : k < (bs s).size), (bs s)[k]'h = byteB (s.getD k false)) := fun k h => bs_at s h
  clear hsl h64 hs hsz
  generalize bs s = st at *
  go_enter Tryz.func19, Tryz.ntmps19
  go_wp2_with fail
  go_loopw [5] (fun i wr => ∃ k : Nat, k ≤ n ∧ i = .int .i64 k ∧ Hid ((L.take k).all (inC s) = true) ∧ wr = w) (fun i _ => n - (intOf i).toNat)
  case atStart => exact ⟨0, Nat.zero_le _, rfl, rfl, rfl⟩
  case round =>
    obtain ⟨k, hk, rfl, hF, rfl⟩ := hrel
    by_cases hlt : k < n
    · obtain ⟨b, o, v, hae, hbs, hv, d0⟩ := HS.out.sl.at hlt
      have hkL : k < L.length := by have := HLN.out; omega
      obtain ⟨aL, cL, hve, hlL⟩ := HS.out.row k v L[k] hv (List.getElem?_eq_getElem hkL)
      have HY64 := Lib.hid (H64.out k hkL)
      subst hae
      subst hve
      have HYE : Hid (inC s L[k] = false → inL L s = false) := fun h => by unfold inL; rw [List.all_eq_false]; exact ⟨_, List.getElem_mem hkL, by rw [h]; decide⟩
      have HNO : Hid (inC s L[k] = true → (L.take (k + 1)).all (inC s) = true) := fun h => by rw [List.take_succ_eq_append_getElem hkL, List.all_append, hF.out]; simp [h]
      generalize L[k] = l at *
      obtain ⟨nl, hnl⟩ : ∃ m, l.length = m := ⟨_, rfl⟩
      rw [hnl] at d0 hlL
      have HNL := Lib.hid hnl
      have HLL := Lib.hid hlL
      have hcl := hlL.cap
      have hgl := hlL.big
      have HFF := Lib.hid hF.out
      clear hnl hlL hv hF
      go_wp2_with fail
      go_loopw [6, 7] (fun u i wr2 => ∃ q : Nat, q ≤ nl ∧ i = .int .i64 q ∧ u = .bool ((l.take q).any (litIn s)) ∧ wr2 = wr) (fun _ i _ => nl - (intOf i).toNat)
      case atStart => exact ⟨0, Nat.zero_le _, rfl, rfl, rfl⟩
      case round =>
        obtain ⟨q, hq, rfl, rfl, rfl⟩ := hrel
        by_cases hlt2 : q < nl
        · obtain ⟨b2, o2, hx2, hae2, hbs2, d2⟩ := HLL.out.int hlt2
          subst hae2
          have HTK : Hid ((l.take (q + 1)).any (litIn s) = ((l.take q).any (litIn s) || litIn s l[q])) := by show _ = _; rw [List.take_succ_eq_append_getElem hx2, List.any_append]; simp
          have hy := HY64.out _ (List.getElem_mem hx2)
          generalize l[q] = z at *
          generalize (l.take q).any (litIn s) = is at *
          cases is
          · rcases Int.lt_trichotomy z 0 with hz | hz | hz
            · obtain ⟨j, rfl⟩ : ∃ j : Nat, z = -((j : Int) + 1) := ⟨(-z - 1).toNat, by omega⟩
              have hmx : max (-((j : Int) + 1)) (-(-((j : Int) + 1))) = (j : Int) + 1 := by omega
              have hmx2 : max (-((j : Int) + 1)) ((j : Int) + 1) = (j : Int) + 1 := by omega
              have hlf := litIn_neg s j
              by_cases hj : j < st.size
              · have hb := HBY.out j hj
                rw [decide_eq_true (by have := HSZ.out; omega), Bool.true_and] at hlf
                generalize s.getD j false = bv at *
                have HLF := Lib.hid hlf
                have hz0 : ¬ (0 : Int) < -((j : Int) + 1) := by omega
                cases bv
                · have hb2 : (st[j].toNat : Int) = 48 := by rw [hb]; rfl
                  clear hb hlf
                  go_wp2_with fail
                  go_roundw
                  case rel => exact ⟨q + 1, by omega, by go_num, by rw [HTK.out, HLF.out]; first | rfl | simp, by first | rfl | trivial⟩
                  case measure => simp [intOf]; omega
                · have hb2 : (st[j].toNat : Int) = 49 := by rw [hb]; rfl
                  clear hb hlf
                  go_wp2_with fail
                  go_roundw
                  case rel => exact ⟨q + 1, by omega, by go_num, by rw [HTK.out, HLF.out]; first | rfl | simp, by first | rfl | trivial⟩
                  case measure => simp [intOf]; omega
              · rw [decide_eq_false (by have := HSZ.out; omega), Bool.false_and] at hlf
                have HLF := Lib.hid hlf
                clear hlf
                go_wp2_with fail
                go_roundw
                case rel => exact ⟨q + 1, by omega, by go_num, by rw [HTK.out, HLF.out]; first | rfl | simp, by first | rfl | trivial⟩
                case measure => simp [intOf]; omega
            · subst hz
              have HLF := Lib.hid (litIn_zero s)
              go_wp2_with fail
              go_roundw
              case rel => exact ⟨q + 1, by omega, by go_num, by rw [HTK.out, HLF.out]; first | rfl | simp, by first | rfl | trivial⟩
              case measure => simp [intOf]; omega
            · obtain ⟨j, rfl⟩ : ∃ j : Nat, z = (j : Int) + 1 := ⟨(z - 1).toNat, by omega⟩
              have hmx : max ((j : Int) + 1) (-((j : Int) + 1)) = (j : Int) + 1 := by omega
              have hlf := litIn_pos s j
              by_cases hj : j < st.size
              · have hb := HBY.out j hj
                rw [decide_eq_true (by have := HSZ.out; omega), Bool.true_and] at hlf
                generalize s.getD j false = bv at *
                have HLF := Lib.hid hlf
                cases bv
                · have hb2 : (st[j].toNat : Int) = 48 := by rw [hb]; rfl
                  clear hb hlf
                  go_wp2_with fail
                  go_roundw
                  case rel => exact ⟨q + 1, by omega, by go_num, by rw [HTK.out, HLF.out]; first | rfl | simp, by first | rfl | trivial⟩
                  case measure => simp [intOf]; omega
                · have hb2 : (st[j].toNat : Int) = 49 := by rw [hb]; rfl
                  clear hb hlf
                  go_wp2_with fail
                  go_roundw
                  case rel => exact ⟨q + 1, by omega, by go_num, by rw [HTK.out, HLF.out]; first | rfl | simp, by first | rfl | trivial⟩
                  case measure => simp [intOf]; omega
              · rw [decide_eq_false (by have := HSZ.out; omega), Bool.false_and] at hlf
                have HLF := Lib.hid hlf
                clear hlf
                go_wp2_with fail
                go_roundw
                case rel => exact ⟨q + 1, by omega, by go_num, by rw [HTK.out, HLF.out]; first | rfl | simp, by first | rfl | trivial⟩
                case measure => simp [intOf]; omega
          · go_wp2_with fail
            go_roundw
            case rel => exact ⟨q + 1, by omega, by go_num, by rw [HTK.out]; rfl, by first | rfl | trivial⟩
            case measure => simp [intOf]; omega
        · have HE : Hid ((l.take q).any (litIn s) = inC s l) := by
            show _ = _
            rw [List.take_of_length_le (by have := HNL.out; omega)]; rfl
          generalize (l.take q).any (litIn s) = r at *
          cases r
          · have HN := Lib.hid (HYE.out HE.out.symm)
            go_wp2_with fail
            go_ret
            exact ⟨by rw [HN.out]; rfl, rfl⟩
          · have HN := Lib.hid (HNO.out HE.out.symm)
            go_wp2_with fail
            go_roundw
            case rel => exact ⟨k + 1, by omega, by go_num, HN.out, by first | rfl | trivial⟩
            case measure => simp [intOf]; omega
    · have HE : Hid (inL L s = true) := by
        show _ = _
        have h := hF.out
        rwa [List.take_of_length_le (by have := HLN.out; omega)] at h
      go_wp2_with fail
      go_ret
      exact ⟨by rw [HE.out]; rfl, rfl⟩
end RefIn
end Go.Proofs.YtjmmhbmbafjneaaGreatDoor

/-
  interlockref07.Proves (written by proves.py).
-/
namespace Go.Proofs.YtjmmhbmbafjneaaGreatDoor
open Go.RowKit Base
set_option linter.unusedVariables false
set_option linter.unusedSimpArgs false
namespace RefIn
open Circuit Coi BadP

/-- Clauses over latches that hold at first, go on holding, and keep a Bad out. -/
structure Prf (x : Circ) (A L : List (List Int)) (bl : Int) : Prop where
  first : ∀ s, s.length = x.lats.length → initL x s → inL L s = true
  step : ∀ s q, s.length = x.lats.length → q.length = x.ins.length → inL L s = true → allow x A (vals x s q) = true → inL L (next x s q) = true ∧ litV (vals x s q) bl = false

set_option maxRecDepth 8000 in
set_option maxHeartbeats 16000000 in
theorem proves_any (w : World) (x : Circ) (p : At) (hin : InCirc w x p) (hw : WfC x) (hok : CheckOk x) (hza : x.ands.length * 24 ≤ 140737488355328) (hl4 : x.lats.length ≤ 4) (hi3 : x.ins.length ≤ 3)
    (aA : Option Addr) (n cA : Nat) (vs : List Value) (A : List (List Int)) (hA : Sl2 w aA n cA vs A) (hA64 : ∀ y ∈ A.flatten, -9223372036854775808 ≤ y ∧ y ≤ 9223372036854775807) (kb : Nat) (hkb : kb < x.bads.length)
    (aL : Option Addr) (nL cL : Nat) (ws : List Value) (L : List (List Int)) (hL : Sl2 w aL nL cL ws L) (hL64 : ∀ y ∈ L.flatten, -1000000 ≤ y ∧ y ≤ 1000000) (hP : Prf x A L x.bads[kb]) :
    Calls Tryz.prog 20 #[.agg (cells x p), .slice aA n cA, .slice aL nL cL, .int .i64 kb] w fun e w' => e = .returned (.bool true) ∧ Below w.heap.size w w' := by
  obtain ⟨W1, hW1⟩ : ∃ U, w.alloc (.cells (cells x p) 27) = U := ⟨_, rfl⟩
  obtain ⟨hb1, hx1⟩ := cbox_new w x p W1 hW1
  have HB1 := Lib.hid hb1
  have HX := Lib.hid (fun (U : World) (hU : Below W1.heap.size W1 U) => hx1.next hU (Nat.le_refl _))
  have HIN := fun (U : World) (hU : Below W1.heap.size W1 U) => (hin.next hb1).next hU
  have HVA := fun (U : World) (hU : Below W1.heap.size W1 U) (s i : List Bool) (hs : s.length = x.lats.length) (hi : i.length = x.ins.length) => values_any U x p (HIN U hU) hw hok hza s i hs hi
  have HNX := fun (U : World) (hU : Below W1.heap.size W1 U) (s i : List Bool) (hs : s.length = x.lats.length) (hi : i.length = x.ins.length) => next_any U x p (HIN U hU) hw hok hza s i hs hi
  have hvl : ∀ s i, (vals x s i).length ≤ 9223372036854775807 := fun s i => by rw [vals_len]; have := hok.1.2.1; omega
  have HAA := fun (U : World) (hU : Below W1.heap.size W1 U) (s i : List Bool) => allowed_any U x p (HIN U hU) (vals x s i) (hvl s i) (lits_in hok hw).2.1 aA n cA vs A ((hA.next hb1).next hU) hA64
  have HIC := Lib.hid (fun (U : World) (hU : Below W1.heap.size W1 U) (s : List Bool) (hs : s.length = x.lats.length) => in_any U aL nL cL ws L ((hL.next hb1).next hU) hL64 s (by omega))
  have HIA := fun (U : World) (hU : Below W1.heap.size W1 U) (s : List Bool) (hs : s.length = x.lats.length) => Initial.initial_any U x p (HIN U hU) (bs s) (by rw [bs_size]; omega)
  have HL1 := Lib.hid (fun (U : World) => AllS.all_any U x.lats.length (by omega))
  have HL2 := Lib.hid (fun (U : World) => AllS.all_any U x.ins.length (by omega))
  have hbl := (lits_in hok hw).1 x.bads[kb] (List.getElem_mem _)
  have HTT := Lib.hid (fun (U : World) (s i : List Bool) => refTrue_any U (vals x s i) x.bads[kb] (by have := hbl.1; omega) hbl.2 (hvl s i))
  have HP := Lib.hid hP
  obtain ⟨gb, ob, hxb, hab, hgb, hcb⟩ := hin.bads.int hkb
  have hcapb := hin.bads.cap
  have hbigb := hin.bads.big
  have HBE := Lib.hid (fun (U : World) (hU : Below w.heap.size w U) => (hU.cell (p := ⟨gb, ob + kb, none⟩) hgb).trans hcb)
  obtain ⟨N, hN⟩ : ∃ m, 2 ^ x.lats.length = m := ⟨_, rfl⟩
  obtain ⟨K, hK⟩ : ∃ m, 2 ^ x.ins.length = m := ⟨_, rfl⟩
  have hN16 : N ≤ 16 := by rw [← hN]; exact Nat.pow_le_pow_right (by decide) hl4
  have hK8 : K ≤ 8 := by rw [← hK]; exact Nat.pow_le_pow_right (by decide) hi3
  rw [AllS.allS_len, hN] at HL1
  rw [AllS.allS_len, hK] at HL2
  have c0 := hx1
  have hc2 := hin.lats.cap
  have hg2 := hin.lats.big
  have hc1 := hin.ins.cap
  have hg1 := hin.ins.big
  have hkbI : (kb : Int) < (x.bads.length : Int) := by omega
  have hkb0 : (0 : Int) ≤ (kb : Int) := by omega
  generalize x.bads[kb] = bl at *
  obtain ⟨a1, c1, a2, c2, a3, c3, a4, c4, a5, c5, a6, c6, a7, c7⟩ := p
  simp only [cells] at hW1 HVA HNX HAA HIA hc2 hg2 hc1 hg1 hab hcapb hbigb ⊢
  subst hab
  have k1 := c0.k1
  have k2 := c0.k2
  try simp only at k1 k2
  have HVV := Lib.hid HVA
  have HNV := Lib.hid HNX
  have HAV := Lib.hid HAA
  have HIV := Lib.hid HIA
  clear hin hw hok hza hA hA64 hL hL64 hP hb1 hx1 HIN HVA HNX HAA HIA hvl hN hK c0 hl4 hi3 hbl hxb hgb hcb
  go_enter Tryz.func20, Tryz.ntmps20
  go_wp2_with fail
  clear hW1
  have hSK : ∀ U : World, Below W1.heap.size W1 U → U.cell? ⟨w.heap.size, 1, none⟩ = some (.slice a1 x.ins.length c1) ∧ U.cell? ⟨w.heap.size, 2, none⟩ = some (.slice a2 x.lats.length c2) := fun U hU => by
    have c := HX.out U ((fun (U : World) (hU : Below W1.heap.size W1 U) => hU) U hU)
    exact ⟨c.k1, c.k2⟩
  have b00 : Below W1.heap.size W1 W1.drew := (Below.refl _ _).drew
  have hS0 := hSK _ b00
  refine HeldAll.region (fun U : World => U.cell? ⟨w.heap.size, 1, none⟩ = some (.slice a1 x.ins.length c1) ∧ U.cell? ⟨w.heap.size, 2, none⟩ = some (.slice a2 x.lats.length c2)) (by kernel_rfl) ?_
  (refine HeldAll.take (i := 0) (oi := _) (d := some 18) (v := ?_) rfl rfl (by kernel_rfl) (by kernel_rfl) (by kernel_rfl) (fun _ _ _ h => h) (Or.inl ⟨by rfl, ?_⟩) hS0 ?_; rotate_left; (focus (intro w hSw; clear hSw; go_simp; (try with_reducible rfl); done)); (try simp only [Act.put, List.setIfInBounds_toArray, List.set_cons_zero, List.set_cons_succ]))
  (refine HeldAll.take (i := 1) (oi := _) (d := some 19) (v := ?_) rfl rfl (by kernel_rfl) (by kernel_rfl) (by kernel_rfl) (fun _ _ _ h => h) (Or.inl ⟨by rfl, ?_⟩) hS0 ?_; rotate_left; (focus (intro w hSw; (try dsimp only at hSw); go_simp; (try with_reducible rfl); done)); (try simp only [Act.put, List.setIfInBounds_toArray, List.set_cons_zero, List.set_cons_succ]))
  (refine HeldAll.take (i := 2) (oi := _) (d := some 20) (v := ?_) rfl rfl (by kernel_rfl) (by kernel_rfl) (by kernel_rfl) (fun _ _ _ h => h) (Or.inl ⟨by rfl, ?_⟩) hS0 ?_; rotate_left; (focus (intro w hSw; clear hSw; go_simp; (try with_reducible rfl); done)); (try simp only [Act.put, List.setIfInBounds_toArray, List.set_cons_zero, List.set_cons_succ]))
  (refine HeldAll.take (i := 4) (oi := _) (d := some 22) (v := ?_) rfl rfl (by kernel_rfl) (by kernel_rfl) (by kernel_rfl) (fun _ _ _ h => h) (Or.inl ⟨by rfl, ?_⟩) hS0 ?_; rotate_left; (focus (intro w hSw; clear hSw; go_simp; (try with_reducible rfl); done)); (try simp only [Act.put, List.setIfInBounds_toArray, List.set_cons_zero, List.set_cons_succ]))
  (refine HeldAll.take (i := 5) (oi := _) (d := some 23) (v := ?_) rfl rfl (by kernel_rfl) (by kernel_rfl) (by kernel_rfl) (fun _ _ _ h => h) (Or.inl ⟨by rfl, ?_⟩) hS0 ?_; rotate_left; (focus (intro w hSw; (try dsimp only at hSw); go_simp; (try with_reducible rfl); done)); (try simp only [Act.put, List.setIfInBounds_toArray, List.set_cons_zero, List.set_cons_succ]))
  (refine HeldAll.take (i := 6) (oi := _) (d := some 24) (v := ?_) rfl rfl (by kernel_rfl) (by kernel_rfl) (by kernel_rfl) (fun _ _ _ h => h) (Or.inl ⟨by rfl, ?_⟩) hS0 ?_; rotate_left; (focus (intro w hSw; clear hSw; go_simp; (try with_reducible rfl); done)); (try simp only [Act.put, List.setIfInBounds_toArray, List.set_cons_zero, List.set_cons_succ]))
  refine HeldAll.one (i := 3) (by kernel_rfl) ?_
  refine HeldAll.opCall (i := 3) (oi := _) (d := some 21) (R := fun v w' => ∃ a c, v = .slice a N c ∧ w'.ownsRow W1.drew.heap.size 9 1 (.slice a N c) N (AllS.strs (AllS.allS x.lats.length)) ∧ Below W1.drew.heap.size W1.drew w') rfl rfl (by rfl) (by go_simp; done) ((HL1.out W1.drew).mono fun e w' h => by obtain ⟨a, c, he, ho, hb⟩ := h; exact ⟨_, he, a, c, rfl, ho, hb⟩) ?_
  rintro v u1 ⟨aS, cS, rfl, oS, su1⟩
  have b1 : Below W1.heap.size W1 u1 := b00.trans (su1.mono b00.size)
  refine ⟨hSK _ b1, ?_⟩
  (try simp only [Act.put, List.setIfInBounds_toArray, List.set_cons_zero, List.set_cons_succ])
  refine HeldAll.one (i := 7) (by kernel_rfl) ?_
  refine HeldAll.opCall (i := 7) (oi := _) (d := some 25) (R := fun v w' => ∃ a c, v = .slice a K c ∧ w'.ownsRow u1.heap.size 9 1 (.slice a K c) K (AllS.strs (AllS.allS x.ins.length)) ∧ Below u1.heap.size u1 w') rfl rfl (by rfl) (by go_simp; done) ((HL2.out u1).mono fun e w' h => by obtain ⟨a, c, he, ho, hb⟩ := h; exact ⟨_, he, a, c, rfl, ho, hb⟩) ?_
  rintro v u2 ⟨aI, cI, rfl, oI, su2⟩
  have b2 : Below W1.heap.size W1 u2 := b1.trans (su2.mono b1.size)
  refine ⟨hSK _ b2, ?_⟩
  (try simp only [Act.put, List.setIfInBounds_toArray, List.set_cons_zero, List.set_cons_succ])
  have hS0 := hSK _ b2
  (refine HeldAll.take (i := 8) (oi := _) (d := some 9) (v := ?_) rfl rfl (by kernel_rfl) (by kernel_rfl) (by kernel_rfl) (fun _ _ _ h => h) (Or.inl ⟨by rfl, ?_⟩) hS0 ?_; rotate_left; (focus (intro w hSw; clear hSw; go_simp; (try with_reducible rfl); done)); (try simp only [Act.put, List.setIfInBounds_toArray, List.set_cons_zero, List.set_cons_succ]))
  (refine HeldAll.take (i := 9) (oi := _) (d := some 10) (v := ?_) rfl rfl (by kernel_rfl) (by kernel_rfl) (by kernel_rfl) (fun _ _ _ h => h) (Or.inl ⟨by rfl, ?_⟩) hS0 ?_; rotate_left; (focus (intro w hSw; clear hSw; go_simp; (try with_reducible rfl); done)); (try simp only [Act.put, List.setIfInBounds_toArray, List.set_cons_zero, List.set_cons_succ]))
  refine HeldAll.done (by kernel_rfl) ?_ _
  have HSS := Lib.hid (own_sl' (own_next oS su2))
  have HSI := Lib.hid (own_sl' oI)
  have hcS := HSS.out.cap
  have hgS := HSS.out.big
  have hcI := HSI.out.cap
  have hgI := HSI.out.big
  have HB13 := Lib.hid b2
  clear oS oI su1 su2 b1 b2 b00 hSK hS0 k1 k2 hc1 hg1 hc2 hg2
  go_wp2_with fail
  go_loopw [11] (fun u wr => ∃ (i : Nat), i ≤ N ∧ u = .int .i64 i ∧ Hid (Below u2.heap.size u2 wr)) (fun u _ => N - (intOf u).toNat)
  case atStart => exact ⟨0, Nat.zero_le _, rfl, Below.refl _ _⟩
  case round =>
    obtain ⟨i, hi, rfl, hB⟩ := hrel
    by_cases hli : i < N
    · obtain ⟨bt, ot, s, hae, hbt, hs, d0⟩ := str_bs (HSS.out.next hB.out) hli
      obtain ⟨_, _, _, ht1, hbs2, _⟩ := HSS.out.at hli
      rw [hae] at ht1
      simp only [Option.some.injEq, Addr.mk.injEq] at ht1
      rw [← ht1.1] at hbs2
      clear ht1
      subst hae
      have hsl := at_len _ _ _ hs
      have HSL := Lib.hid hsl
      have D0 : Hid (∀ U, Below u2.heap.size u2 U → U.cell? ⟨bt, ot + i, none⟩ = some (.string (bs s))) := fun U hU => (hU.cell (p := ⟨bt, ot + i, none⟩) hbs2).trans (((hB.out.cell (p := ⟨bt, ot + i, none⟩) hbs2).symm).trans d0)
      have HI5 := HIC.out wr (HB13.out.trans (hB.out.mono HB13.out.size)) s hsl
      have HBD := Lib.hid (hB.out.trans (Below.refl _ _).drew)
      have hiv := HIV.out wr.drew (HB13.out.trans (HBD.out.mono HB13.out.size)) s hsl
      rw [init_eq hsl] at hiv
      have HPI : Hid (tt (initL x s) = true → inL L s = true) := fun h => HP.out.first s hsl (Circuit.tt_iff.1 h)
      have HBQ : Hid (inL L s = inL L s) := rfl
      generalize hsB : bs s = sB at *
      have HSB := Lib.hid hsB
      generalize hbI : inL L s = bI at *
      have HBI := Lib.hid hbI
      have HI5 := Lib.hid HI5
      have HIW := Lib.hid hiv
      clear hsl hs hB hbt hsB hbI HBQ
      go_wp2_with fail
      with_reducible refine HI5.out.mono ?_
      rintro e wr ⟨rfl, rfl⟩
      clear HI5 d0
      generalize tt (initL x s) = qI at *
      cases qI
      · skip
        have hSK : ∀ U : World, Below u2.heap.size u2 U → U.cell? ⟨w.heap.size, 0, none⟩ = some (.int .i64 x.max) ∧ U.cell? ⟨w.heap.size, 1, none⟩ = some (.slice a1 x.ins.length c1) ∧ U.cell? ⟨w.heap.size, 2, none⟩ = some (.slice a2 x.lats.length c2) ∧ U.cell? ⟨w.heap.size, 3, none⟩ = some (.slice a3 x.outs.length c3) ∧ U.cell? ⟨w.heap.size, 4, none⟩ = some (.slice (some ⟨gb, ob, none⟩) x.bads.length c4) ∧ U.cell? ⟨w.heap.size, 5, none⟩ = some (.slice a5 x.invs.length c5) ∧ U.cell? ⟨w.heap.size, 6, none⟩ = some (.slice a6 x.ands.length c6) ∧ U.cell? ⟨w.heap.size, 7, none⟩ = some (.slice a7 x.names.length c7) ∧ U.cell? ⟨bt, ot + i, none⟩ = some (.string sB) := fun U hU => by
          have c := HX.out U (HB13.out.trans (hU.mono HB13.out.size))
          exact ⟨c.k0, c.k1, c.k2, c.k3, c.k4, c.k5, c.k6, c.k7, D0.out U hU⟩
        have hS0 := hSK _ HBD.out
        have hiI : (i : Int) < (N : Int) := by omega
        go_upto_region 6 with fail
        refine HeldAll.region (fun U : World => U.cell? ⟨w.heap.size, 0, none⟩ = some (.int .i64 x.max) ∧ U.cell? ⟨w.heap.size, 1, none⟩ = some (.slice a1 x.ins.length c1) ∧ U.cell? ⟨w.heap.size, 2, none⟩ = some (.slice a2 x.lats.length c2) ∧ U.cell? ⟨w.heap.size, 3, none⟩ = some (.slice a3 x.outs.length c3) ∧ U.cell? ⟨w.heap.size, 4, none⟩ = some (.slice (some ⟨gb, ob, none⟩) x.bads.length c4) ∧ U.cell? ⟨w.heap.size, 5, none⟩ = some (.slice a5 x.invs.length c5) ∧ U.cell? ⟨w.heap.size, 6, none⟩ = some (.slice a6 x.ands.length c6) ∧ U.cell? ⟨w.heap.size, 7, none⟩ = some (.slice a7 x.names.length c7) ∧ U.cell? ⟨bt, ot + i, none⟩ = some (.string sB)) (by kernel_rfl) ?_
        (refine HeldAll.take (i := 0) (oi := _) (d := some 38) (v := ?_) rfl rfl (by kernel_rfl) (by kernel_rfl) (by kernel_rfl) (fun _ _ _ h => h) (Or.inl ⟨by rfl, ?_⟩) hS0 ?_; rotate_left; (focus (intro w hSw; (try dsimp only at hSw); go_simp; (try with_reducible rfl); done)); (try simp only [Act.put, List.setIfInBounds_toArray, List.set_cons_zero, List.set_cons_succ]))
        (refine HeldAll.take (i := 1) (oi := _) (d := some 39) (v := ?_) rfl rfl (by kernel_rfl) (by kernel_rfl) (by kernel_rfl) (fun _ _ _ h => h) (Or.inl ⟨by rfl, ?_⟩) hS0 ?_; rotate_left; (focus (intro w hSw; clear hSw; go_simp; (try with_reducible rfl); done)); (try simp only [Act.put, List.setIfInBounds_toArray, List.set_cons_zero, List.set_cons_succ]))
        (refine HeldAll.take (i := 2) (oi := _) (d := some 40) (v := ?_) rfl rfl (by kernel_rfl) (by kernel_rfl) (by kernel_rfl) (fun _ _ _ h => h) (Or.inl ⟨by rfl, ?_⟩) hS0 ?_; rotate_left; (focus (intro w hSw; clear hSw; go_simp; (try with_reducible rfl); done)); (try simp only [Act.put, List.setIfInBounds_toArray, List.set_cons_zero, List.set_cons_succ]))
        (refine HeldAll.take (i := 3) (oi := _) (d := some 41) (v := ?_) rfl rfl (by kernel_rfl) (by kernel_rfl) (by kernel_rfl) (fun _ _ _ h => h) (Or.inl ⟨by rfl, ?_⟩) hS0 ?_; rotate_left; (focus (intro w hSw; clear hSw; go_simp; (try with_reducible rfl); done)); (try simp only [Act.put, List.setIfInBounds_toArray, List.set_cons_zero, List.set_cons_succ]))
        (refine HeldAll.take (i := 4) (oi := _) (d := some 42) (v := ?_) rfl rfl (by kernel_rfl) (by kernel_rfl) (by kernel_rfl) (fun _ _ _ h => h) (Or.inl ⟨by rfl, ?_⟩) hS0 ?_; rotate_left; (focus (intro w hSw; (try dsimp only at hSw); go_simp; (try with_reducible rfl); done)); (try simp only [Act.put, List.setIfInBounds_toArray, List.set_cons_zero, List.set_cons_succ]))
        refine HeldAll.one (i := 5) (by kernel_rfl) ?_
        refine HeldAll.opCall (i := 5) (oi := _) (d := some 43) (R := fun v w' => v = .bool false ∧ Below wr.drew.heap.size wr.drew w') rfl rfl (by rfl) (by go_simp; done) (HIW.out.mono fun e w' h => ⟨_, h.1, rfl, h.2⟩) ?_
        rintro v w5 ⟨rfl, hb5⟩
        refine ⟨hSK _ (HBD.out.trans (hb5.mono HBD.out.size)), ?_⟩
        (try simp only [Act.put, List.setIfInBounds_toArray, List.set_cons_zero, List.set_cons_succ])
        have hS0 := hSK _ (HBD.out.trans (hb5.mono HBD.out.size))
        (refine HeldAll.take (i := 6) (oi := _) (d := some 44) (v := ?_) rfl rfl (by kernel_rfl) (by kernel_rfl) (by kernel_rfl) (fun _ _ _ h => h) (Or.inl ⟨by rfl, ?_⟩) hS0 ?_; rotate_left; (focus (intro w hSw; clear hSw; go_simp; (try with_reducible rfl); done)); (try simp only [Act.put, List.setIfInBounds_toArray, List.set_cons_zero, List.set_cons_succ]))
        (refine HeldAll.take (i := 7) (oi := _) (d := some 45) (v := undef) rfl rfl (by kernel_rfl) (by kernel_rfl) (by kernel_rfl) (fun _ _ _ h => h) (Or.inr ⟨by rfl, rfl⟩) hS0 ?_; (try simp only [Act.put, List.setIfInBounds_toArray, List.set_cons_zero, List.set_cons_succ]))
        (refine HeldAll.take (i := 8) (oi := _) (d := some 46) (v := undef) rfl rfl (by kernel_rfl) (by kernel_rfl) (by kernel_rfl) (fun _ _ _ h => h) (Or.inr ⟨by rfl, rfl⟩) hS0 ?_; (try simp only [Act.put, List.setIfInBounds_toArray, List.set_cons_zero, List.set_cons_succ]))
        (refine HeldAll.take (i := 9) (oi := _) (d := some 47) (v := ?_) rfl rfl (by kernel_rfl) (by kernel_rfl) (by kernel_rfl) (fun _ _ _ h => h) (Or.inl ⟨by rfl, ?_⟩) hS0 ?_; rotate_left; (focus (intro w hSw; clear hSw; go_simp; (try with_reducible rfl); done)); (try simp only [Act.put, List.setIfInBounds_toArray, List.set_cons_zero, List.set_cons_succ]))
        refine HeldAll.done (by kernel_rfl) ?_ _
        have HB5 := Lib.hid (HBD.out.trans (hb5.mono HBD.out.size))
        clear hS0 hSK hiI hb5
        go_wp2_with fail
        go_loopw [13] (fun u wr => ∃ (k : Nat), k ≤ K ∧ u = .int .i64 k ∧ Hid (Below u2.heap.size u2 wr)) (fun u _ => K - (intOf u).toNat)
        case atStart => exact ⟨0, Nat.zero_le _, rfl, HB5.out⟩
        case round =>
          clear HB5
          obtain ⟨k, hk, rfl, hB⟩ := hrel
          by_cases hkt : k < K
          · have hd : decide ((k : Int) < (K : Int)) = true := decide_eq_true (by omega)
            cases bI
            · skip
              go_wp2_with fail
              go_roundw
              case rel => exact ⟨i + 1, by omega, by go_num, hB.out⟩
              case measure => simp [intOf]; omega
            · skip
              obtain ⟨bq, oq, q, haq, hbq, hq, d1⟩ := str_bs (HSI.out.next hB.out) hkt
              obtain ⟨_, _, _, ht2, hbq2, _⟩ := HSI.out.at hkt
              rw [haq] at ht2
              simp only [Option.some.injEq, Addr.mk.injEq] at ht2
              rw [← ht2.1] at hbq2
              clear ht2
              subst haq
              have hql := at_len _ _ _ hq
              have HBD := Lib.hid (hB.out.trans (Below.refl _ _).drew)
              have HCV := HVV.out wr.drew (HB13.out.trans (HBD.out.mono HB13.out.size)) s q HSL.out hql
              have HQL := Lib.hid hql
              have D0 : Hid (∀ U, Below u2.heap.size u2 U → U.cell? ⟨bt, ot + i, none⟩ = some (.string sB) ∧ U.cell? ⟨bq, oq + k, none⟩ = some (.string (bs q))) := fun U hU => ⟨D0.out U hU, (hU.cell (p := ⟨bq, oq + k, none⟩) hbq2).trans (((hB.out.cell (p := ⟨bq, oq + k, none⟩) hbq2).symm).trans d1)⟩
              clear hql hq d1 hB
              rw [HSB.out] at HCV
              generalize hqB : bs q = qB at *
              have HQB := Lib.hid hqB
              have HCV := Lib.hid HCV
              clear hqB
              have hSK : ∀ U : World, Below u2.heap.size u2 U → U.cell? ⟨w.heap.size, 0, none⟩ = some (.int .i64 x.max) ∧ U.cell? ⟨w.heap.size, 1, none⟩ = some (.slice a1 x.ins.length c1) ∧ U.cell? ⟨w.heap.size, 2, none⟩ = some (.slice a2 x.lats.length c2) ∧ U.cell? ⟨w.heap.size, 3, none⟩ = some (.slice a3 x.outs.length c3) ∧ U.cell? ⟨w.heap.size, 4, none⟩ = some (.slice (some ⟨gb, ob, none⟩) x.bads.length c4) ∧ U.cell? ⟨w.heap.size, 5, none⟩ = some (.slice a5 x.invs.length c5) ∧ U.cell? ⟨w.heap.size, 6, none⟩ = some (.slice a6 x.ands.length c6) ∧ U.cell? ⟨w.heap.size, 7, none⟩ = some (.slice a7 x.names.length c7) ∧ U.cell? ⟨bt, ot + i, none⟩ = some (.string sB) ∧ U.cell? ⟨bq, oq + k, none⟩ = some (.string qB) := fun U hU => by
                have c := HX.out U (HB13.out.trans (hU.mono HB13.out.size))
                exact ⟨c.k0, c.k1, c.k2, c.k3, c.k4, c.k5, c.k6, c.k7, (D0.out U hU).1, (D0.out U hU).2⟩
              have hS0 := hSK _ HBD.out
              have hiI : (i : Int) < (N : Int) := by omega
              have hkI : (k : Int) < (K : Int) := by omega
              go_upto_region 11 with fail
              refine HeldAll.region (fun U : World => U.cell? ⟨w.heap.size, 0, none⟩ = some (.int .i64 x.max) ∧ U.cell? ⟨w.heap.size, 1, none⟩ = some (.slice a1 x.ins.length c1) ∧ U.cell? ⟨w.heap.size, 2, none⟩ = some (.slice a2 x.lats.length c2) ∧ U.cell? ⟨w.heap.size, 3, none⟩ = some (.slice a3 x.outs.length c3) ∧ U.cell? ⟨w.heap.size, 4, none⟩ = some (.slice (some ⟨gb, ob, none⟩) x.bads.length c4) ∧ U.cell? ⟨w.heap.size, 5, none⟩ = some (.slice a5 x.invs.length c5) ∧ U.cell? ⟨w.heap.size, 6, none⟩ = some (.slice a6 x.ands.length c6) ∧ U.cell? ⟨w.heap.size, 7, none⟩ = some (.slice a7 x.names.length c7) ∧ U.cell? ⟨bt, ot + i, none⟩ = some (.string sB) ∧ U.cell? ⟨bq, oq + k, none⟩ = some (.string qB)) (by kernel_rfl) ?_
              (refine HeldAll.take (i := 0) (oi := _) (d := some 58) (v := ?_) rfl rfl (by kernel_rfl) (by kernel_rfl) (by kernel_rfl) (fun _ _ _ h => h) (Or.inl ⟨by rfl, ?_⟩) hS0 ?_; rotate_left; (focus (intro w hSw; (try dsimp only at hSw); go_simp; (try with_reducible rfl); done)); (try simp only [Act.put, List.setIfInBounds_toArray, List.set_cons_zero, List.set_cons_succ]))
              (refine HeldAll.take (i := 1) (oi := _) (d := some 59) (v := ?_) rfl rfl (by kernel_rfl) (by kernel_rfl) (by kernel_rfl) (fun _ _ _ h => h) (Or.inl ⟨by rfl, ?_⟩) hS0 ?_; rotate_left; (focus (intro w hSw; clear hSw; go_simp; (try with_reducible rfl); done)); (try simp only [Act.put, List.setIfInBounds_toArray, List.set_cons_zero, List.set_cons_succ]))
              (refine HeldAll.take (i := 2) (oi := _) (d := some 60) (v := ?_) rfl rfl (by kernel_rfl) (by kernel_rfl) (by kernel_rfl) (fun _ _ _ h => h) (Or.inl ⟨by rfl, ?_⟩) hS0 ?_; rotate_left; (focus (intro w hSw; clear hSw; go_simp; (try with_reducible rfl); done)); (try simp only [Act.put, List.setIfInBounds_toArray, List.set_cons_zero, List.set_cons_succ]))
              (refine HeldAll.take (i := 3) (oi := _) (d := some 61) (v := ?_) rfl rfl (by kernel_rfl) (by kernel_rfl) (by kernel_rfl) (fun _ _ _ h => h) (Or.inl ⟨by rfl, ?_⟩) hS0 ?_; rotate_left; (focus (intro w hSw; clear hSw; go_simp; (try with_reducible rfl); done)); (try simp only [Act.put, List.setIfInBounds_toArray, List.set_cons_zero, List.set_cons_succ]))
              (refine HeldAll.take (i := 4) (oi := _) (d := some 62) (v := ?_) rfl rfl (by kernel_rfl) (by kernel_rfl) (by kernel_rfl) (fun _ _ _ h => h) (Or.inl ⟨by rfl, ?_⟩) hS0 ?_; rotate_left; (focus (intro w hSw; (try dsimp only at hSw); go_simp; (try with_reducible rfl); done)); (try simp only [Act.put, List.setIfInBounds_toArray, List.set_cons_zero, List.set_cons_succ]))
              (refine HeldAll.take (i := 5) (oi := _) (d := some 63) (v := ?_) rfl rfl (by kernel_rfl) (by kernel_rfl) (by kernel_rfl) (fun _ _ _ h => h) (Or.inl ⟨by rfl, ?_⟩) hS0 ?_; rotate_left; (focus (intro w hSw; clear hSw; go_simp; (try with_reducible rfl); done)); (try simp only [Act.put, List.setIfInBounds_toArray, List.set_cons_zero, List.set_cons_succ]))
              (refine HeldAll.take (i := 6) (oi := _) (d := some 64) (v := ?_) rfl rfl (by kernel_rfl) (by kernel_rfl) (by kernel_rfl) (fun _ _ _ h => h) (Or.inl ⟨by rfl, ?_⟩) hS0 ?_; rotate_left; (focus (intro w hSw; clear hSw; go_simp; (try with_reducible rfl); done)); (try simp only [Act.put, List.setIfInBounds_toArray, List.set_cons_zero, List.set_cons_succ]))
              (refine HeldAll.take (i := 7) (oi := _) (d := some 65) (v := ?_) rfl rfl (by kernel_rfl) (by kernel_rfl) (by kernel_rfl) (fun _ _ _ h => h) (Or.inl ⟨by rfl, ?_⟩) hS0 ?_; rotate_left; (focus (intro w hSw; clear hSw; go_simp; (try with_reducible rfl); done)); (try simp only [Act.put, List.setIfInBounds_toArray, List.set_cons_zero, List.set_cons_succ]))
              (refine HeldAll.take (i := 8) (oi := _) (d := some 66) (v := ?_) rfl rfl (by kernel_rfl) (by kernel_rfl) (by kernel_rfl) (fun _ _ _ h => h) (Or.inl ⟨by rfl, ?_⟩) hS0 ?_; rotate_left; (focus (intro w hSw; (try dsimp only at hSw); go_simp; (try with_reducible rfl); done)); (try simp only [Act.put, List.setIfInBounds_toArray, List.set_cons_zero, List.set_cons_succ]))
              refine HeldAll.one (i := 9) (by kernel_rfl) ?_
              refine HeldAll.opCall (i := 9) (oi := _) (d := some 67) (R := fun v w' => v = .tuple #[.string (bs (vals x s q)), .int .i64 0] ∧ Below wr.drew.heap.size wr.drew w') rfl rfl (by rfl) (by go_simp; done) (HCV.out.mono fun e w' h => ⟨_, h.1, rfl, h.2⟩) ?_
              rintro v w6 ⟨rfl, hb6⟩
              refine ⟨hSK _ (HBD.out.trans (hb6.mono HBD.out.size)), ?_⟩
              (try simp only [Act.put, List.setIfInBounds_toArray, List.set_cons_zero, List.set_cons_succ])
              have hS0 := hSK _ (HBD.out.trans (hb6.mono HBD.out.size))
              (refine HeldAll.take (i := 10) (oi := _) (d := some 57) (v := ?_) rfl rfl (by kernel_rfl) (by kernel_rfl) (by kernel_rfl) (fun _ _ _ h => h) (Or.inl ⟨by rfl, ?_⟩) hS0 ?_; rotate_left; (focus (intro w hSw; clear hSw; go_simp; (try with_reducible rfl); done)); (try simp only [Act.put, List.setIfInBounds_toArray, List.set_cons_zero, List.set_cons_succ]))
              (refine HeldAll.take (i := 11) (oi := _) (d := some 68) (v := ?_) rfl rfl (by kernel_rfl) (by kernel_rfl) (by kernel_rfl) (fun _ _ _ h => h) (Or.inl ⟨by rfl, ?_⟩) hS0 ?_; rotate_left; (focus (intro w hSw; clear hSw; go_simp; (try with_reducible rfl); done)); (try simp only [Act.put, List.setIfInBounds_toArray, List.set_cons_zero, List.set_cons_succ]))
              (refine HeldAll.take (i := 12) (oi := _) (d := some 69) (v := ?_) rfl rfl (by kernel_rfl) (by kernel_rfl) (by kernel_rfl) (fun _ _ _ h => h) (Or.inl ⟨by rfl, ?_⟩) hS0 ?_; rotate_left; (focus (intro w hSw; clear hSw; go_simp; (try with_reducible rfl); done)); (try simp only [Act.put, List.setIfInBounds_toArray, List.set_cons_zero, List.set_cons_succ]))
              (refine HeldAll.take (i := 13) (oi := _) (d := some 14) (v := ?_) rfl rfl (by kernel_rfl) (by kernel_rfl) (by kernel_rfl) (fun _ _ _ h => h) (Or.inl ⟨by rfl, ?_⟩) hS0 ?_; rotate_left; (focus (intro w hSw; clear hSw; go_simp; (try with_reducible rfl); done)); (try simp only [Act.put, List.setIfInBounds_toArray, List.set_cons_zero, List.set_cons_succ]))
              (refine HeldAll.take (i := 14) (oi := _) (d := some 15) (v := ?_) rfl rfl (by kernel_rfl) (by kernel_rfl) (by kernel_rfl) (fun _ _ _ h => h) (Or.inl ⟨by rfl, ?_⟩) hS0 ?_; rotate_left; (focus (intro w hSw; clear hSw; go_simp; (try with_reducible rfl); done)); (try simp only [Act.put, List.setIfInBounds_toArray, List.set_cons_zero, List.set_cons_succ]))
              refine HeldAll.done (by kernel_rfl) ?_ _
              clear hS0 hSK hiI hkI
              have HB6 := Lib.hid (HBD.out.trans (hb6.mono HBD.out.size))
              clear hb6
              have HAC := HAV.out w6 (HB13.out.trans (HB6.out.mono HB13.out.size)) s q
              have HTQ := fun U => HTT.out U s q
              have HPS : Hid (allow x A (vals x s q) = true → inL L (next x s q) = true ∧ litV (vals x s q) bl = false) := fun ha => HP.out.step s q HSL.out HQL.out HBI.out ha
              have HTL : Hid ((next x s q).length = x.lats.length) := next_len _ _ _
              generalize hal : allow x A (vals x s q) = al at *
              generalize hlb : litV (vals x s q) bl = lb at *
              generalize bs (vals x s q) = sv at *
              have HAC2 := Lib.hid HAC
              have HTQ2 := Lib.hid HTQ
              clear hal hlb HAC HTQ
              have c := HX.out w6 (HB13.out.trans (HB6.out.mono HB13.out.size))
              have k0 := c.k0
              have k1 := c.k1
              have k2 := c.k2
              have k3 := c.k3
              have k4 := c.k4
              have k5 := c.k5
              have k6 := c.k6
              have k7 := c.k7
              try simp only at k0 k1 k2 k3 k4 k5 k6 k7
              clear c
              go_wp2_with fail
              with_reducible refine HAC2.out.mono ?_
              rintro e w7 ⟨rfl, hb7⟩
              have HB7 := Lib.hid (HB6.out.trans (hb7.mono HB6.out.size))
              clear k0 k1 k2 k3 k4 k5 k6 k7
              clear hb7
              cases al
              · go_wp2_with fail
                go_roundw
                case rel => exact ⟨k + 1, by omega, by go_num, HB7.out⟩
                case measure => simp [intOf]; omega
              · obtain ⟨hin1, rfl⟩ := HPS.out rfl
                have HBD7 := Lib.hid (HB7.out.trans (Below.refl _ _).drew)
                have HCN := HNV.out w7.drew (HB13.out.trans (HBD7.out.mono HB13.out.size)) s q HSL.out HQL.out
                rw [HSB.out, HQB.out] at HCN
                have HIT := fun (U : World) (hU : Below W1.heap.size W1 U) => HIC.out U hU (next x s q) HTL.out
                rw [hin1] at HIT
                generalize bs (next x s q) = st at *
                have HIT2 := Lib.hid HIT
                have HCN2 := Lib.hid HCN
                clear hin1 HCN HIT HPS
                have hSK : ∀ U : World, Below u2.heap.size u2 U → U.cell? ⟨w.heap.size, 0, none⟩ = some (.int .i64 x.max) ∧ U.cell? ⟨w.heap.size, 1, none⟩ = some (.slice a1 x.ins.length c1) ∧ U.cell? ⟨w.heap.size, 2, none⟩ = some (.slice a2 x.lats.length c2) ∧ U.cell? ⟨w.heap.size, 3, none⟩ = some (.slice a3 x.outs.length c3) ∧ U.cell? ⟨w.heap.size, 4, none⟩ = some (.slice (some ⟨gb, ob, none⟩) x.bads.length c4) ∧ U.cell? ⟨w.heap.size, 5, none⟩ = some (.slice a5 x.invs.length c5) ∧ U.cell? ⟨w.heap.size, 6, none⟩ = some (.slice a6 x.ands.length c6) ∧ U.cell? ⟨w.heap.size, 7, none⟩ = some (.slice a7 x.names.length c7) ∧ U.cell? ⟨bt, ot + i, none⟩ = some (.string sB) ∧ U.cell? ⟨bq, oq + k, none⟩ = some (.string qB) := fun U hU => by
                  have c := HX.out U (HB13.out.trans (hU.mono HB13.out.size))
                  exact ⟨c.k0, c.k1, c.k2, c.k3, c.k4, c.k5, c.k6, c.k7, (D0.out U hU).1, (D0.out U hU).2⟩
                have hS0 := hSK _ HBD7.out
                have hiI : (i : Int) < (N : Int) := by omega
                have hkI : (k : Int) < (K : Int) := by omega
                go_upto_region 13 with fail
                refine HeldAll.region (fun U : World => U.cell? ⟨w.heap.size, 0, none⟩ = some (.int .i64 x.max) ∧ U.cell? ⟨w.heap.size, 1, none⟩ = some (.slice a1 x.ins.length c1) ∧ U.cell? ⟨w.heap.size, 2, none⟩ = some (.slice a2 x.lats.length c2) ∧ U.cell? ⟨w.heap.size, 3, none⟩ = some (.slice a3 x.outs.length c3) ∧ U.cell? ⟨w.heap.size, 4, none⟩ = some (.slice (some ⟨gb, ob, none⟩) x.bads.length c4) ∧ U.cell? ⟨w.heap.size, 5, none⟩ = some (.slice a5 x.invs.length c5) ∧ U.cell? ⟨w.heap.size, 6, none⟩ = some (.slice a6 x.ands.length c6) ∧ U.cell? ⟨w.heap.size, 7, none⟩ = some (.slice a7 x.names.length c7) ∧ U.cell? ⟨bt, ot + i, none⟩ = some (.string sB) ∧ U.cell? ⟨bq, oq + k, none⟩ = some (.string qB)) (by kernel_rfl) ?_
                (refine HeldAll.take (i := 0) (oi := _) (d := some 76) (v := ?_) rfl rfl (by kernel_rfl) (by kernel_rfl) (by kernel_rfl) (fun _ _ _ h => h) (Or.inl ⟨by rfl, ?_⟩) hS0 ?_; rotate_left; (focus (intro w hSw; (try dsimp only at hSw); go_simp; (try with_reducible rfl); done)); (try simp only [Act.put, List.setIfInBounds_toArray, List.set_cons_zero, List.set_cons_succ]))
                (refine HeldAll.take (i := 1) (oi := _) (d := some 77) (v := ?_) rfl rfl (by kernel_rfl) (by kernel_rfl) (by kernel_rfl) (fun _ _ _ h => h) (Or.inl ⟨by rfl, ?_⟩) hS0 ?_; rotate_left; (focus (intro w hSw; clear hSw; go_simp; (try with_reducible rfl); done)); (try simp only [Act.put, List.setIfInBounds_toArray, List.set_cons_zero, List.set_cons_succ]))
                (refine HeldAll.take (i := 2) (oi := _) (d := some 78) (v := ?_) rfl rfl (by kernel_rfl) (by kernel_rfl) (by kernel_rfl) (fun _ _ _ h => h) (Or.inl ⟨by rfl, ?_⟩) hS0 ?_; rotate_left; (focus (intro w hSw; clear hSw; go_simp; (try with_reducible rfl); done)); (try simp only [Act.put, List.setIfInBounds_toArray, List.set_cons_zero, List.set_cons_succ]))
                (refine HeldAll.take (i := 3) (oi := _) (d := some 79) (v := ?_) rfl rfl (by kernel_rfl) (by kernel_rfl) (by kernel_rfl) (fun _ _ _ h => h) (Or.inl ⟨by rfl, ?_⟩) hS0 ?_; rotate_left; (focus (intro w hSw; clear hSw; go_simp; (try with_reducible rfl); done)); (try simp only [Act.put, List.setIfInBounds_toArray, List.set_cons_zero, List.set_cons_succ]))
                (refine HeldAll.take (i := 4) (oi := _) (d := some 80) (v := ?_) rfl rfl (by kernel_rfl) (by kernel_rfl) (by kernel_rfl) (fun _ _ _ h => h) (Or.inl ⟨by rfl, ?_⟩) hS0 ?_; rotate_left; (focus (intro w hSw; (try dsimp only at hSw); go_simp; (try with_reducible rfl); done)); (try simp only [Act.put, List.setIfInBounds_toArray, List.set_cons_zero, List.set_cons_succ]))
                (refine HeldAll.take (i := 5) (oi := _) (d := some 81) (v := ?_) rfl rfl (by kernel_rfl) (by kernel_rfl) (by kernel_rfl) (fun _ _ _ h => h) (Or.inl ⟨by rfl, ?_⟩) hS0 ?_; rotate_left; (focus (intro w hSw; clear hSw; go_simp; (try with_reducible rfl); done)); (try simp only [Act.put, List.setIfInBounds_toArray, List.set_cons_zero, List.set_cons_succ]))
                (refine HeldAll.take (i := 6) (oi := _) (d := some 82) (v := ?_) rfl rfl (by kernel_rfl) (by kernel_rfl) (by kernel_rfl) (fun _ _ _ h => h) (Or.inl ⟨by rfl, ?_⟩) hS0 ?_; rotate_left; (focus (intro w hSw; clear hSw; go_simp; (try with_reducible rfl); done)); (try simp only [Act.put, List.setIfInBounds_toArray, List.set_cons_zero, List.set_cons_succ]))
                (refine HeldAll.take (i := 7) (oi := _) (d := some 83) (v := ?_) rfl rfl (by kernel_rfl) (by kernel_rfl) (by kernel_rfl) (fun _ _ _ h => h) (Or.inl ⟨by rfl, ?_⟩) hS0 ?_; rotate_left; (focus (intro w hSw; clear hSw; go_simp; (try with_reducible rfl); done)); (try simp only [Act.put, List.setIfInBounds_toArray, List.set_cons_zero, List.set_cons_succ]))
                (refine HeldAll.take (i := 8) (oi := _) (d := some 84) (v := ?_) rfl rfl (by kernel_rfl) (by kernel_rfl) (by kernel_rfl) (fun _ _ _ h => h) (Or.inl ⟨by rfl, ?_⟩) hS0 ?_; rotate_left; (focus (intro w hSw; (try dsimp only at hSw); go_simp; (try with_reducible rfl); done)); (try simp only [Act.put, List.setIfInBounds_toArray, List.set_cons_zero, List.set_cons_succ]))
                refine HeldAll.one (i := 9) (by kernel_rfl) ?_
                refine HeldAll.opCall (i := 9) (oi := _) (d := some 85) (R := fun v w' => v = .tuple #[.string st, .int .i64 0] ∧ Below w7.drew.heap.size w7.drew w') rfl rfl (by rfl) (by go_simp; done) (HCN2.out.mono fun e w' h => ⟨_, h.1, rfl, h.2⟩) ?_
                rintro v w8 ⟨rfl, hb8⟩
                refine ⟨hSK _ (HBD7.out.trans (hb8.mono HBD7.out.size)), ?_⟩
                (try simp only [Act.put, List.setIfInBounds_toArray, List.set_cons_zero, List.set_cons_succ])
                have hS0 := hSK _ (HBD7.out.trans (hb8.mono HBD7.out.size))
                (refine HeldAll.take (i := 10) (oi := _) (d := some 75) (v := ?_) rfl rfl (by kernel_rfl) (by kernel_rfl) (by kernel_rfl) (fun _ _ _ h => h) (Or.inl ⟨by rfl, ?_⟩) hS0 ?_; rotate_left; (focus (intro w hSw; clear hSw; go_simp; (try with_reducible rfl); done)); (try simp only [Act.put, List.setIfInBounds_toArray, List.set_cons_zero, List.set_cons_succ]))
                (refine HeldAll.take (i := 11) (oi := _) (d := some 86) (v := ?_) rfl rfl (by kernel_rfl) (by kernel_rfl) (by kernel_rfl) (fun _ _ _ h => h) (Or.inl ⟨by rfl, ?_⟩) hS0 ?_; rotate_left; (focus (intro w hSw; clear hSw; go_simp; (try with_reducible rfl); done)); (try simp only [Act.put, List.setIfInBounds_toArray, List.set_cons_zero, List.set_cons_succ]))
                (refine HeldAll.take (i := 12) (oi := _) (d := some 87) (v := ?_) rfl rfl (by kernel_rfl) (by kernel_rfl) (by kernel_rfl) (fun _ _ _ h => h) (Or.inl ⟨by rfl, ?_⟩) hS0 ?_; rotate_left; (focus (intro w hSw; clear hSw; go_simp; (try with_reducible rfl); done)); (try simp only [Act.put, List.setIfInBounds_toArray, List.set_cons_zero, List.set_cons_succ]))
                (refine HeldAll.take (i := 13) (oi := _) (d := some 16) (v := ?_) rfl rfl (by kernel_rfl) (by kernel_rfl) (by kernel_rfl) (fun _ _ _ h => h) (Or.inl ⟨by rfl, ?_⟩) hS0 ?_; rotate_left; (focus (intro w hSw; clear hSw; go_simp; (try with_reducible rfl); done)); (try simp only [Act.put, List.setIfInBounds_toArray, List.set_cons_zero, List.set_cons_succ]))
                (refine HeldAll.take (i := 14) (oi := _) (d := some 17) (v := ?_) rfl rfl (by kernel_rfl) (by kernel_rfl) (by kernel_rfl) (fun _ _ _ h => h) (Or.inl ⟨by rfl, ?_⟩) hS0 ?_; rotate_left; (focus (intro w hSw; clear hSw; go_simp; (try with_reducible rfl); done)); (try simp only [Act.put, List.setIfInBounds_toArray, List.set_cons_zero, List.set_cons_succ]))
                refine HeldAll.done (by kernel_rfl) ?_ _
                clear hS0 hSK hiI hkI
                have HB8 := Lib.hid (HBD7.out.trans (hb8.mono HBD7.out.size))
                clear hb8
                have hw8 := HB13.out.trans (HB8.out.mono HB13.out.size)
                have HI8 := Lib.hid (HIT2.out w8 hw8)
                have c := HX.out w8 hw8
                have k4 := c.k4
                try simp only at k4
                have eb := HBE.out w8 (HB1.out.trans (hw8.mono HB1.out.size))
                clear c hw8
                go_wp2_with fail
                with_reducible refine HI8.out.mono ?_
                rintro e w9 ⟨rfl, rfl⟩
                go_wp2_with fail
                with_reducible refine (HTQ2.out _).mono ?_
                rintro e w10 ⟨rfl, rfl⟩
                go_wp2_with fail
                go_roundw
                case rel => exact ⟨k + 1, by omega, by go_num, HB8.out⟩
                case measure => simp [intOf]; omega
          · have hd : decide ((k : Int) < (K : Int)) = false := decide_eq_false (by omega)
            go_wp2_with fail
            go_roundw
            case rel => exact ⟨i + 1, by omega, by go_num, hB.out⟩
            case measure => simp [intOf]; omega
      · have hbt := HPI.out rfl
        subst hbt
        have hSK : ∀ U : World, Below u2.heap.size u2 U → U.cell? ⟨w.heap.size, 0, none⟩ = some (.int .i64 x.max) ∧ U.cell? ⟨w.heap.size, 1, none⟩ = some (.slice a1 x.ins.length c1) ∧ U.cell? ⟨w.heap.size, 2, none⟩ = some (.slice a2 x.lats.length c2) ∧ U.cell? ⟨w.heap.size, 3, none⟩ = some (.slice a3 x.outs.length c3) ∧ U.cell? ⟨w.heap.size, 4, none⟩ = some (.slice (some ⟨gb, ob, none⟩) x.bads.length c4) ∧ U.cell? ⟨w.heap.size, 5, none⟩ = some (.slice a5 x.invs.length c5) ∧ U.cell? ⟨w.heap.size, 6, none⟩ = some (.slice a6 x.ands.length c6) ∧ U.cell? ⟨w.heap.size, 7, none⟩ = some (.slice a7 x.names.length c7) ∧ U.cell? ⟨bt, ot + i, none⟩ = some (.string sB) := fun U hU => by
          have c := HX.out U (HB13.out.trans (hU.mono HB13.out.size))
          exact ⟨c.k0, c.k1, c.k2, c.k3, c.k4, c.k5, c.k6, c.k7, D0.out U hU⟩
        have hS0 := hSK _ HBD.out
        have hiI : (i : Int) < (N : Int) := by omega
        go_upto_region 6 with fail
        refine HeldAll.region (fun U : World => U.cell? ⟨w.heap.size, 0, none⟩ = some (.int .i64 x.max) ∧ U.cell? ⟨w.heap.size, 1, none⟩ = some (.slice a1 x.ins.length c1) ∧ U.cell? ⟨w.heap.size, 2, none⟩ = some (.slice a2 x.lats.length c2) ∧ U.cell? ⟨w.heap.size, 3, none⟩ = some (.slice a3 x.outs.length c3) ∧ U.cell? ⟨w.heap.size, 4, none⟩ = some (.slice (some ⟨gb, ob, none⟩) x.bads.length c4) ∧ U.cell? ⟨w.heap.size, 5, none⟩ = some (.slice a5 x.invs.length c5) ∧ U.cell? ⟨w.heap.size, 6, none⟩ = some (.slice a6 x.ands.length c6) ∧ U.cell? ⟨w.heap.size, 7, none⟩ = some (.slice a7 x.names.length c7) ∧ U.cell? ⟨bt, ot + i, none⟩ = some (.string sB)) (by kernel_rfl) ?_
        (refine HeldAll.take (i := 0) (oi := _) (d := some 38) (v := ?_) rfl rfl (by kernel_rfl) (by kernel_rfl) (by kernel_rfl) (fun _ _ _ h => h) (Or.inl ⟨by rfl, ?_⟩) hS0 ?_; rotate_left; (focus (intro w hSw; (try dsimp only at hSw); go_simp; (try with_reducible rfl); done)); (try simp only [Act.put, List.setIfInBounds_toArray, List.set_cons_zero, List.set_cons_succ]))
        (refine HeldAll.take (i := 1) (oi := _) (d := some 39) (v := ?_) rfl rfl (by kernel_rfl) (by kernel_rfl) (by kernel_rfl) (fun _ _ _ h => h) (Or.inl ⟨by rfl, ?_⟩) hS0 ?_; rotate_left; (focus (intro w hSw; clear hSw; go_simp; (try with_reducible rfl); done)); (try simp only [Act.put, List.setIfInBounds_toArray, List.set_cons_zero, List.set_cons_succ]))
        (refine HeldAll.take (i := 2) (oi := _) (d := some 40) (v := ?_) rfl rfl (by kernel_rfl) (by kernel_rfl) (by kernel_rfl) (fun _ _ _ h => h) (Or.inl ⟨by rfl, ?_⟩) hS0 ?_; rotate_left; (focus (intro w hSw; clear hSw; go_simp; (try with_reducible rfl); done)); (try simp only [Act.put, List.setIfInBounds_toArray, List.set_cons_zero, List.set_cons_succ]))
        (refine HeldAll.take (i := 3) (oi := _) (d := some 41) (v := ?_) rfl rfl (by kernel_rfl) (by kernel_rfl) (by kernel_rfl) (fun _ _ _ h => h) (Or.inl ⟨by rfl, ?_⟩) hS0 ?_; rotate_left; (focus (intro w hSw; clear hSw; go_simp; (try with_reducible rfl); done)); (try simp only [Act.put, List.setIfInBounds_toArray, List.set_cons_zero, List.set_cons_succ]))
        (refine HeldAll.take (i := 4) (oi := _) (d := some 42) (v := ?_) rfl rfl (by kernel_rfl) (by kernel_rfl) (by kernel_rfl) (fun _ _ _ h => h) (Or.inl ⟨by rfl, ?_⟩) hS0 ?_; rotate_left; (focus (intro w hSw; (try dsimp only at hSw); go_simp; (try with_reducible rfl); done)); (try simp only [Act.put, List.setIfInBounds_toArray, List.set_cons_zero, List.set_cons_succ]))
        refine HeldAll.one (i := 5) (by kernel_rfl) ?_
        refine HeldAll.opCall (i := 5) (oi := _) (d := some 43) (R := fun v w' => v = .bool true ∧ Below wr.drew.heap.size wr.drew w') rfl rfl (by rfl) (by go_simp; done) (HIW.out.mono fun e w' h => ⟨_, h.1, rfl, h.2⟩) ?_
        rintro v w5 ⟨rfl, hb5⟩
        refine ⟨hSK _ (HBD.out.trans (hb5.mono HBD.out.size)), ?_⟩
        (try simp only [Act.put, List.setIfInBounds_toArray, List.set_cons_zero, List.set_cons_succ])
        have hS0 := hSK _ (HBD.out.trans (hb5.mono HBD.out.size))
        (refine HeldAll.take (i := 6) (oi := _) (d := some 44) (v := ?_) rfl rfl (by kernel_rfl) (by kernel_rfl) (by kernel_rfl) (fun _ _ _ h => h) (Or.inl ⟨by rfl, ?_⟩) hS0 ?_; rotate_left; (focus (intro w hSw; clear hSw; go_simp; (try with_reducible rfl); done)); (try simp only [Act.put, List.setIfInBounds_toArray, List.set_cons_zero, List.set_cons_succ]))
        (refine HeldAll.take (i := 7) (oi := _) (d := some 45) (v := ?_) rfl rfl (by kernel_rfl) (by kernel_rfl) (by kernel_rfl) (fun _ _ _ h => h) (Or.inl ⟨by rfl, ?_⟩) hS0 ?_; rotate_left; (focus (intro w hSw; clear hSw; go_simp; (try with_reducible rfl); done)); (try simp only [Act.put, List.setIfInBounds_toArray, List.set_cons_zero, List.set_cons_succ]))
        (refine HeldAll.take (i := 8) (oi := _) (d := some 46) (v := ?_) rfl rfl (by kernel_rfl) (by kernel_rfl) (by kernel_rfl) (fun _ _ _ h => h) (Or.inl ⟨by rfl, ?_⟩) hS0 ?_; rotate_left; (focus (intro w hSw; clear hSw; go_simp; (try with_reducible rfl); done)); (try simp only [Act.put, List.setIfInBounds_toArray, List.set_cons_zero, List.set_cons_succ]))
        (refine HeldAll.take (i := 9) (oi := _) (d := some 47) (v := ?_) rfl rfl (by kernel_rfl) (by kernel_rfl) (by kernel_rfl) (fun _ _ _ h => h) (Or.inl ⟨by rfl, ?_⟩) hS0 ?_; rotate_left; (focus (intro w hSw; clear hSw; go_simp; (try with_reducible rfl); done)); (try simp only [Act.put, List.setIfInBounds_toArray, List.set_cons_zero, List.set_cons_succ]))
        refine HeldAll.done (by kernel_rfl) ?_ _
        have HB5 := Lib.hid (HBD.out.trans (hb5.mono HBD.out.size))
        clear hS0 hSK hiI hb5
        go_wp2_with fail
        go_loopw [13] (fun u wr => ∃ (k : Nat), k ≤ K ∧ u = .int .i64 k ∧ Hid (Below u2.heap.size u2 wr)) (fun u _ => K - (intOf u).toNat)
        case atStart => exact ⟨0, Nat.zero_le _, rfl, HB5.out⟩
        case round =>
          clear HB5
          obtain ⟨k, hk, rfl, hB⟩ := hrel
          by_cases hkt : k < K
          · have hd : decide ((k : Int) < (K : Int)) = true := decide_eq_true (by omega)
            obtain ⟨bq, oq, q, haq, hbq, hq, d1⟩ := str_bs (HSI.out.next hB.out) hkt
            obtain ⟨_, _, _, ht2, hbq2, _⟩ := HSI.out.at hkt
            rw [haq] at ht2
            simp only [Option.some.injEq, Addr.mk.injEq] at ht2
            rw [← ht2.1] at hbq2
            clear ht2
            subst haq
            have hql := at_len _ _ _ hq
            have HBD := Lib.hid (hB.out.trans (Below.refl _ _).drew)
            have HCV := HVV.out wr.drew (HB13.out.trans (HBD.out.mono HB13.out.size)) s q HSL.out hql
            have HQL := Lib.hid hql
            have D0 : Hid (∀ U, Below u2.heap.size u2 U → U.cell? ⟨bt, ot + i, none⟩ = some (.string sB) ∧ U.cell? ⟨bq, oq + k, none⟩ = some (.string (bs q))) := fun U hU => ⟨D0.out U hU, (hU.cell (p := ⟨bq, oq + k, none⟩) hbq2).trans (((hB.out.cell (p := ⟨bq, oq + k, none⟩) hbq2).symm).trans d1)⟩
            clear hql hq d1 hB
            rw [HSB.out] at HCV
            generalize hqB : bs q = qB at *
            have HQB := Lib.hid hqB
            have HCV := Lib.hid HCV
            clear hqB
            have hSK : ∀ U : World, Below u2.heap.size u2 U → U.cell? ⟨w.heap.size, 0, none⟩ = some (.int .i64 x.max) ∧ U.cell? ⟨w.heap.size, 1, none⟩ = some (.slice a1 x.ins.length c1) ∧ U.cell? ⟨w.heap.size, 2, none⟩ = some (.slice a2 x.lats.length c2) ∧ U.cell? ⟨w.heap.size, 3, none⟩ = some (.slice a3 x.outs.length c3) ∧ U.cell? ⟨w.heap.size, 4, none⟩ = some (.slice (some ⟨gb, ob, none⟩) x.bads.length c4) ∧ U.cell? ⟨w.heap.size, 5, none⟩ = some (.slice a5 x.invs.length c5) ∧ U.cell? ⟨w.heap.size, 6, none⟩ = some (.slice a6 x.ands.length c6) ∧ U.cell? ⟨w.heap.size, 7, none⟩ = some (.slice a7 x.names.length c7) ∧ U.cell? ⟨bt, ot + i, none⟩ = some (.string sB) ∧ U.cell? ⟨bq, oq + k, none⟩ = some (.string qB) := fun U hU => by
              have c := HX.out U (HB13.out.trans (hU.mono HB13.out.size))
              exact ⟨c.k0, c.k1, c.k2, c.k3, c.k4, c.k5, c.k6, c.k7, (D0.out U hU).1, (D0.out U hU).2⟩
            have hS0 := hSK _ HBD.out
            have hiI : (i : Int) < (N : Int) := by omega
            have hkI : (k : Int) < (K : Int) := by omega
            go_upto_region 11 with fail
            refine HeldAll.region (fun U : World => U.cell? ⟨w.heap.size, 0, none⟩ = some (.int .i64 x.max) ∧ U.cell? ⟨w.heap.size, 1, none⟩ = some (.slice a1 x.ins.length c1) ∧ U.cell? ⟨w.heap.size, 2, none⟩ = some (.slice a2 x.lats.length c2) ∧ U.cell? ⟨w.heap.size, 3, none⟩ = some (.slice a3 x.outs.length c3) ∧ U.cell? ⟨w.heap.size, 4, none⟩ = some (.slice (some ⟨gb, ob, none⟩) x.bads.length c4) ∧ U.cell? ⟨w.heap.size, 5, none⟩ = some (.slice a5 x.invs.length c5) ∧ U.cell? ⟨w.heap.size, 6, none⟩ = some (.slice a6 x.ands.length c6) ∧ U.cell? ⟨w.heap.size, 7, none⟩ = some (.slice a7 x.names.length c7) ∧ U.cell? ⟨bt, ot + i, none⟩ = some (.string sB) ∧ U.cell? ⟨bq, oq + k, none⟩ = some (.string qB)) (by kernel_rfl) ?_
            (refine HeldAll.take (i := 0) (oi := _) (d := some 58) (v := ?_) rfl rfl (by kernel_rfl) (by kernel_rfl) (by kernel_rfl) (fun _ _ _ h => h) (Or.inl ⟨by rfl, ?_⟩) hS0 ?_; rotate_left; (focus (intro w hSw; (try dsimp only at hSw); go_simp; (try with_reducible rfl); done)); (try simp only [Act.put, List.setIfInBounds_toArray, List.set_cons_zero, List.set_cons_succ]))
            (refine HeldAll.take (i := 1) (oi := _) (d := some 59) (v := ?_) rfl rfl (by kernel_rfl) (by kernel_rfl) (by kernel_rfl) (fun _ _ _ h => h) (Or.inl ⟨by rfl, ?_⟩) hS0 ?_; rotate_left; (focus (intro w hSw; clear hSw; go_simp; (try with_reducible rfl); done)); (try simp only [Act.put, List.setIfInBounds_toArray, List.set_cons_zero, List.set_cons_succ]))
            (refine HeldAll.take (i := 2) (oi := _) (d := some 60) (v := ?_) rfl rfl (by kernel_rfl) (by kernel_rfl) (by kernel_rfl) (fun _ _ _ h => h) (Or.inl ⟨by rfl, ?_⟩) hS0 ?_; rotate_left; (focus (intro w hSw; clear hSw; go_simp; (try with_reducible rfl); done)); (try simp only [Act.put, List.setIfInBounds_toArray, List.set_cons_zero, List.set_cons_succ]))
            (refine HeldAll.take (i := 3) (oi := _) (d := some 61) (v := ?_) rfl rfl (by kernel_rfl) (by kernel_rfl) (by kernel_rfl) (fun _ _ _ h => h) (Or.inl ⟨by rfl, ?_⟩) hS0 ?_; rotate_left; (focus (intro w hSw; clear hSw; go_simp; (try with_reducible rfl); done)); (try simp only [Act.put, List.setIfInBounds_toArray, List.set_cons_zero, List.set_cons_succ]))
            (refine HeldAll.take (i := 4) (oi := _) (d := some 62) (v := ?_) rfl rfl (by kernel_rfl) (by kernel_rfl) (by kernel_rfl) (fun _ _ _ h => h) (Or.inl ⟨by rfl, ?_⟩) hS0 ?_; rotate_left; (focus (intro w hSw; (try dsimp only at hSw); go_simp; (try with_reducible rfl); done)); (try simp only [Act.put, List.setIfInBounds_toArray, List.set_cons_zero, List.set_cons_succ]))
            (refine HeldAll.take (i := 5) (oi := _) (d := some 63) (v := ?_) rfl rfl (by kernel_rfl) (by kernel_rfl) (by kernel_rfl) (fun _ _ _ h => h) (Or.inl ⟨by rfl, ?_⟩) hS0 ?_; rotate_left; (focus (intro w hSw; clear hSw; go_simp; (try with_reducible rfl); done)); (try simp only [Act.put, List.setIfInBounds_toArray, List.set_cons_zero, List.set_cons_succ]))
            (refine HeldAll.take (i := 6) (oi := _) (d := some 64) (v := ?_) rfl rfl (by kernel_rfl) (by kernel_rfl) (by kernel_rfl) (fun _ _ _ h => h) (Or.inl ⟨by rfl, ?_⟩) hS0 ?_; rotate_left; (focus (intro w hSw; clear hSw; go_simp; (try with_reducible rfl); done)); (try simp only [Act.put, List.setIfInBounds_toArray, List.set_cons_zero, List.set_cons_succ]))
            (refine HeldAll.take (i := 7) (oi := _) (d := some 65) (v := ?_) rfl rfl (by kernel_rfl) (by kernel_rfl) (by kernel_rfl) (fun _ _ _ h => h) (Or.inl ⟨by rfl, ?_⟩) hS0 ?_; rotate_left; (focus (intro w hSw; clear hSw; go_simp; (try with_reducible rfl); done)); (try simp only [Act.put, List.setIfInBounds_toArray, List.set_cons_zero, List.set_cons_succ]))
            (refine HeldAll.take (i := 8) (oi := _) (d := some 66) (v := ?_) rfl rfl (by kernel_rfl) (by kernel_rfl) (by kernel_rfl) (fun _ _ _ h => h) (Or.inl ⟨by rfl, ?_⟩) hS0 ?_; rotate_left; (focus (intro w hSw; (try dsimp only at hSw); go_simp; (try with_reducible rfl); done)); (try simp only [Act.put, List.setIfInBounds_toArray, List.set_cons_zero, List.set_cons_succ]))
            refine HeldAll.one (i := 9) (by kernel_rfl) ?_
            refine HeldAll.opCall (i := 9) (oi := _) (d := some 67) (R := fun v w' => v = .tuple #[.string (bs (vals x s q)), .int .i64 0] ∧ Below wr.drew.heap.size wr.drew w') rfl rfl (by rfl) (by go_simp; done) (HCV.out.mono fun e w' h => ⟨_, h.1, rfl, h.2⟩) ?_
            rintro v w6 ⟨rfl, hb6⟩
            refine ⟨hSK _ (HBD.out.trans (hb6.mono HBD.out.size)), ?_⟩
            (try simp only [Act.put, List.setIfInBounds_toArray, List.set_cons_zero, List.set_cons_succ])
            have hS0 := hSK _ (HBD.out.trans (hb6.mono HBD.out.size))
            (refine HeldAll.take (i := 10) (oi := _) (d := some 57) (v := ?_) rfl rfl (by kernel_rfl) (by kernel_rfl) (by kernel_rfl) (fun _ _ _ h => h) (Or.inl ⟨by rfl, ?_⟩) hS0 ?_; rotate_left; (focus (intro w hSw; clear hSw; go_simp; (try with_reducible rfl); done)); (try simp only [Act.put, List.setIfInBounds_toArray, List.set_cons_zero, List.set_cons_succ]))
            (refine HeldAll.take (i := 11) (oi := _) (d := some 68) (v := ?_) rfl rfl (by kernel_rfl) (by kernel_rfl) (by kernel_rfl) (fun _ _ _ h => h) (Or.inl ⟨by rfl, ?_⟩) hS0 ?_; rotate_left; (focus (intro w hSw; clear hSw; go_simp; (try with_reducible rfl); done)); (try simp only [Act.put, List.setIfInBounds_toArray, List.set_cons_zero, List.set_cons_succ]))
            (refine HeldAll.take (i := 12) (oi := _) (d := some 69) (v := ?_) rfl rfl (by kernel_rfl) (by kernel_rfl) (by kernel_rfl) (fun _ _ _ h => h) (Or.inl ⟨by rfl, ?_⟩) hS0 ?_; rotate_left; (focus (intro w hSw; clear hSw; go_simp; (try with_reducible rfl); done)); (try simp only [Act.put, List.setIfInBounds_toArray, List.set_cons_zero, List.set_cons_succ]))
            (refine HeldAll.take (i := 13) (oi := _) (d := some 14) (v := ?_) rfl rfl (by kernel_rfl) (by kernel_rfl) (by kernel_rfl) (fun _ _ _ h => h) (Or.inl ⟨by rfl, ?_⟩) hS0 ?_; rotate_left; (focus (intro w hSw; clear hSw; go_simp; (try with_reducible rfl); done)); (try simp only [Act.put, List.setIfInBounds_toArray, List.set_cons_zero, List.set_cons_succ]))
            (refine HeldAll.take (i := 14) (oi := _) (d := some 15) (v := ?_) rfl rfl (by kernel_rfl) (by kernel_rfl) (by kernel_rfl) (fun _ _ _ h => h) (Or.inl ⟨by rfl, ?_⟩) hS0 ?_; rotate_left; (focus (intro w hSw; clear hSw; go_simp; (try with_reducible rfl); done)); (try simp only [Act.put, List.setIfInBounds_toArray, List.set_cons_zero, List.set_cons_succ]))
            refine HeldAll.done (by kernel_rfl) ?_ _
            clear hS0 hSK hiI hkI
            have HB6 := Lib.hid (HBD.out.trans (hb6.mono HBD.out.size))
            clear hb6
            have HAC := HAV.out w6 (HB13.out.trans (HB6.out.mono HB13.out.size)) s q
            have HTQ := fun U => HTT.out U s q
            have HPS : Hid (allow x A (vals x s q) = true → inL L (next x s q) = true ∧ litV (vals x s q) bl = false) := fun ha => HP.out.step s q HSL.out HQL.out HBI.out ha
            have HTL : Hid ((next x s q).length = x.lats.length) := next_len _ _ _
            generalize hal : allow x A (vals x s q) = al at *
            generalize hlb : litV (vals x s q) bl = lb at *
            generalize bs (vals x s q) = sv at *
            have HAC2 := Lib.hid HAC
            have HTQ2 := Lib.hid HTQ
            clear hal hlb HAC HTQ
            have c := HX.out w6 (HB13.out.trans (HB6.out.mono HB13.out.size))
            have k0 := c.k0
            have k1 := c.k1
            have k2 := c.k2
            have k3 := c.k3
            have k4 := c.k4
            have k5 := c.k5
            have k6 := c.k6
            have k7 := c.k7
            try simp only at k0 k1 k2 k3 k4 k5 k6 k7
            clear c
            go_wp2_with fail
            with_reducible refine HAC2.out.mono ?_
            rintro e w7 ⟨rfl, hb7⟩
            have HB7 := Lib.hid (HB6.out.trans (hb7.mono HB6.out.size))
            clear k0 k1 k2 k3 k4 k5 k6 k7
            clear hb7
            cases al
            · go_wp2_with fail
              go_roundw
              case rel => exact ⟨k + 1, by omega, by go_num, HB7.out⟩
              case measure => simp [intOf]; omega
            · obtain ⟨hin1, rfl⟩ := HPS.out rfl
              have HBD7 := Lib.hid (HB7.out.trans (Below.refl _ _).drew)
              have HCN := HNV.out w7.drew (HB13.out.trans (HBD7.out.mono HB13.out.size)) s q HSL.out HQL.out
              rw [HSB.out, HQB.out] at HCN
              have HIT := fun (U : World) (hU : Below W1.heap.size W1 U) => HIC.out U hU (next x s q) HTL.out
              rw [hin1] at HIT
              generalize bs (next x s q) = st at *
              have HIT2 := Lib.hid HIT
              have HCN2 := Lib.hid HCN
              clear hin1 HCN HIT HPS
              have hSK : ∀ U : World, Below u2.heap.size u2 U → U.cell? ⟨w.heap.size, 0, none⟩ = some (.int .i64 x.max) ∧ U.cell? ⟨w.heap.size, 1, none⟩ = some (.slice a1 x.ins.length c1) ∧ U.cell? ⟨w.heap.size, 2, none⟩ = some (.slice a2 x.lats.length c2) ∧ U.cell? ⟨w.heap.size, 3, none⟩ = some (.slice a3 x.outs.length c3) ∧ U.cell? ⟨w.heap.size, 4, none⟩ = some (.slice (some ⟨gb, ob, none⟩) x.bads.length c4) ∧ U.cell? ⟨w.heap.size, 5, none⟩ = some (.slice a5 x.invs.length c5) ∧ U.cell? ⟨w.heap.size, 6, none⟩ = some (.slice a6 x.ands.length c6) ∧ U.cell? ⟨w.heap.size, 7, none⟩ = some (.slice a7 x.names.length c7) ∧ U.cell? ⟨bt, ot + i, none⟩ = some (.string sB) ∧ U.cell? ⟨bq, oq + k, none⟩ = some (.string qB) := fun U hU => by
                have c := HX.out U (HB13.out.trans (hU.mono HB13.out.size))
                exact ⟨c.k0, c.k1, c.k2, c.k3, c.k4, c.k5, c.k6, c.k7, (D0.out U hU).1, (D0.out U hU).2⟩
              have hS0 := hSK _ HBD7.out
              have hiI : (i : Int) < (N : Int) := by omega
              have hkI : (k : Int) < (K : Int) := by omega
              go_upto_region 13 with fail
              refine HeldAll.region (fun U : World => U.cell? ⟨w.heap.size, 0, none⟩ = some (.int .i64 x.max) ∧ U.cell? ⟨w.heap.size, 1, none⟩ = some (.slice a1 x.ins.length c1) ∧ U.cell? ⟨w.heap.size, 2, none⟩ = some (.slice a2 x.lats.length c2) ∧ U.cell? ⟨w.heap.size, 3, none⟩ = some (.slice a3 x.outs.length c3) ∧ U.cell? ⟨w.heap.size, 4, none⟩ = some (.slice (some ⟨gb, ob, none⟩) x.bads.length c4) ∧ U.cell? ⟨w.heap.size, 5, none⟩ = some (.slice a5 x.invs.length c5) ∧ U.cell? ⟨w.heap.size, 6, none⟩ = some (.slice a6 x.ands.length c6) ∧ U.cell? ⟨w.heap.size, 7, none⟩ = some (.slice a7 x.names.length c7) ∧ U.cell? ⟨bt, ot + i, none⟩ = some (.string sB) ∧ U.cell? ⟨bq, oq + k, none⟩ = some (.string qB)) (by kernel_rfl) ?_
              (refine HeldAll.take (i := 0) (oi := _) (d := some 76) (v := ?_) rfl rfl (by kernel_rfl) (by kernel_rfl) (by kernel_rfl) (fun _ _ _ h => h) (Or.inl ⟨by rfl, ?_⟩) hS0 ?_; rotate_left; (focus (intro w hSw; (try dsimp only at hSw); go_simp; (try with_reducible rfl); done)); (try simp only [Act.put, List.setIfInBounds_toArray, List.set_cons_zero, List.set_cons_succ]))
              (refine HeldAll.take (i := 1) (oi := _) (d := some 77) (v := ?_) rfl rfl (by kernel_rfl) (by kernel_rfl) (by kernel_rfl) (fun _ _ _ h => h) (Or.inl ⟨by rfl, ?_⟩) hS0 ?_; rotate_left; (focus (intro w hSw; clear hSw; go_simp; (try with_reducible rfl); done)); (try simp only [Act.put, List.setIfInBounds_toArray, List.set_cons_zero, List.set_cons_succ]))
              (refine HeldAll.take (i := 2) (oi := _) (d := some 78) (v := ?_) rfl rfl (by kernel_rfl) (by kernel_rfl) (by kernel_rfl) (fun _ _ _ h => h) (Or.inl ⟨by rfl, ?_⟩) hS0 ?_; rotate_left; (focus (intro w hSw; clear hSw; go_simp; (try with_reducible rfl); done)); (try simp only [Act.put, List.setIfInBounds_toArray, List.set_cons_zero, List.set_cons_succ]))
              (refine HeldAll.take (i := 3) (oi := _) (d := some 79) (v := ?_) rfl rfl (by kernel_rfl) (by kernel_rfl) (by kernel_rfl) (fun _ _ _ h => h) (Or.inl ⟨by rfl, ?_⟩) hS0 ?_; rotate_left; (focus (intro w hSw; clear hSw; go_simp; (try with_reducible rfl); done)); (try simp only [Act.put, List.setIfInBounds_toArray, List.set_cons_zero, List.set_cons_succ]))
              (refine HeldAll.take (i := 4) (oi := _) (d := some 80) (v := ?_) rfl rfl (by kernel_rfl) (by kernel_rfl) (by kernel_rfl) (fun _ _ _ h => h) (Or.inl ⟨by rfl, ?_⟩) hS0 ?_; rotate_left; (focus (intro w hSw; (try dsimp only at hSw); go_simp; (try with_reducible rfl); done)); (try simp only [Act.put, List.setIfInBounds_toArray, List.set_cons_zero, List.set_cons_succ]))
              (refine HeldAll.take (i := 5) (oi := _) (d := some 81) (v := ?_) rfl rfl (by kernel_rfl) (by kernel_rfl) (by kernel_rfl) (fun _ _ _ h => h) (Or.inl ⟨by rfl, ?_⟩) hS0 ?_; rotate_left; (focus (intro w hSw; clear hSw; go_simp; (try with_reducible rfl); done)); (try simp only [Act.put, List.setIfInBounds_toArray, List.set_cons_zero, List.set_cons_succ]))
              (refine HeldAll.take (i := 6) (oi := _) (d := some 82) (v := ?_) rfl rfl (by kernel_rfl) (by kernel_rfl) (by kernel_rfl) (fun _ _ _ h => h) (Or.inl ⟨by rfl, ?_⟩) hS0 ?_; rotate_left; (focus (intro w hSw; clear hSw; go_simp; (try with_reducible rfl); done)); (try simp only [Act.put, List.setIfInBounds_toArray, List.set_cons_zero, List.set_cons_succ]))
              (refine HeldAll.take (i := 7) (oi := _) (d := some 83) (v := ?_) rfl rfl (by kernel_rfl) (by kernel_rfl) (by kernel_rfl) (fun _ _ _ h => h) (Or.inl ⟨by rfl, ?_⟩) hS0 ?_; rotate_left; (focus (intro w hSw; clear hSw; go_simp; (try with_reducible rfl); done)); (try simp only [Act.put, List.setIfInBounds_toArray, List.set_cons_zero, List.set_cons_succ]))
              (refine HeldAll.take (i := 8) (oi := _) (d := some 84) (v := ?_) rfl rfl (by kernel_rfl) (by kernel_rfl) (by kernel_rfl) (fun _ _ _ h => h) (Or.inl ⟨by rfl, ?_⟩) hS0 ?_; rotate_left; (focus (intro w hSw; (try dsimp only at hSw); go_simp; (try with_reducible rfl); done)); (try simp only [Act.put, List.setIfInBounds_toArray, List.set_cons_zero, List.set_cons_succ]))
              refine HeldAll.one (i := 9) (by kernel_rfl) ?_
              refine HeldAll.opCall (i := 9) (oi := _) (d := some 85) (R := fun v w' => v = .tuple #[.string st, .int .i64 0] ∧ Below w7.drew.heap.size w7.drew w') rfl rfl (by rfl) (by go_simp; done) (HCN2.out.mono fun e w' h => ⟨_, h.1, rfl, h.2⟩) ?_
              rintro v w8 ⟨rfl, hb8⟩
              refine ⟨hSK _ (HBD7.out.trans (hb8.mono HBD7.out.size)), ?_⟩
              (try simp only [Act.put, List.setIfInBounds_toArray, List.set_cons_zero, List.set_cons_succ])
              have hS0 := hSK _ (HBD7.out.trans (hb8.mono HBD7.out.size))
              (refine HeldAll.take (i := 10) (oi := _) (d := some 75) (v := ?_) rfl rfl (by kernel_rfl) (by kernel_rfl) (by kernel_rfl) (fun _ _ _ h => h) (Or.inl ⟨by rfl, ?_⟩) hS0 ?_; rotate_left; (focus (intro w hSw; clear hSw; go_simp; (try with_reducible rfl); done)); (try simp only [Act.put, List.setIfInBounds_toArray, List.set_cons_zero, List.set_cons_succ]))
              (refine HeldAll.take (i := 11) (oi := _) (d := some 86) (v := ?_) rfl rfl (by kernel_rfl) (by kernel_rfl) (by kernel_rfl) (fun _ _ _ h => h) (Or.inl ⟨by rfl, ?_⟩) hS0 ?_; rotate_left; (focus (intro w hSw; clear hSw; go_simp; (try with_reducible rfl); done)); (try simp only [Act.put, List.setIfInBounds_toArray, List.set_cons_zero, List.set_cons_succ]))
              (refine HeldAll.take (i := 12) (oi := _) (d := some 87) (v := ?_) rfl rfl (by kernel_rfl) (by kernel_rfl) (by kernel_rfl) (fun _ _ _ h => h) (Or.inl ⟨by rfl, ?_⟩) hS0 ?_; rotate_left; (focus (intro w hSw; clear hSw; go_simp; (try with_reducible rfl); done)); (try simp only [Act.put, List.setIfInBounds_toArray, List.set_cons_zero, List.set_cons_succ]))
              (refine HeldAll.take (i := 13) (oi := _) (d := some 16) (v := ?_) rfl rfl (by kernel_rfl) (by kernel_rfl) (by kernel_rfl) (fun _ _ _ h => h) (Or.inl ⟨by rfl, ?_⟩) hS0 ?_; rotate_left; (focus (intro w hSw; clear hSw; go_simp; (try with_reducible rfl); done)); (try simp only [Act.put, List.setIfInBounds_toArray, List.set_cons_zero, List.set_cons_succ]))
              (refine HeldAll.take (i := 14) (oi := _) (d := some 17) (v := ?_) rfl rfl (by kernel_rfl) (by kernel_rfl) (by kernel_rfl) (fun _ _ _ h => h) (Or.inl ⟨by rfl, ?_⟩) hS0 ?_; rotate_left; (focus (intro w hSw; clear hSw; go_simp; (try with_reducible rfl); done)); (try simp only [Act.put, List.setIfInBounds_toArray, List.set_cons_zero, List.set_cons_succ]))
              refine HeldAll.done (by kernel_rfl) ?_ _
              clear hS0 hSK hiI hkI
              have HB8 := Lib.hid (HBD7.out.trans (hb8.mono HBD7.out.size))
              clear hb8
              have hw8 := HB13.out.trans (HB8.out.mono HB13.out.size)
              have HI8 := Lib.hid (HIT2.out w8 hw8)
              have c := HX.out w8 hw8
              have k4 := c.k4
              try simp only at k4
              have eb := HBE.out w8 (HB1.out.trans (hw8.mono HB1.out.size))
              clear c hw8
              go_wp2_with fail
              with_reducible refine HI8.out.mono ?_
              rintro e w9 ⟨rfl, rfl⟩
              go_wp2_with fail
              with_reducible refine (HTQ2.out _).mono ?_
              rintro e w10 ⟨rfl, rfl⟩
              go_wp2_with fail
              go_roundw
              case rel => exact ⟨k + 1, by omega, by go_num, HB8.out⟩
              case measure => simp [intOf]; omega
          · have hd : decide ((k : Int) < (K : Int)) = false := decide_eq_false (by omega)
            go_wp2_with fail
            go_roundw
            case rel => exact ⟨i + 1, by omega, by go_num, hB.out⟩
            case measure => simp [intOf]; omega
    · go_wp2_with fail
      go_ret
      exact ⟨rfl, HB1.out.trans ((HB13.out.trans (hB.out.mono HB13.out.size)).mono HB1.out.size)⟩
end RefIn
end Go.Proofs.YtjmmhbmbafjneaaGreatDoor

/-
  Plain: what a path of a circuit is told to be.
-/
namespace Go.Proofs.YtjmmhbmbafjneaaGreatDoor
open Go.RowKit Base
set_option linter.unusedVariables false
set_option linter.unusedSimpArgs false
namespace Spr
open Circuit StrashP Coi BadP

/-- What is told of a path, from a state on. -/
def loopP (x : Circ) (A : List (List Int)) (b : Int) : List Bool → List (List Bool) → Int
  | _, [] => 0
  | s, i :: r => if (allow x A (vals x s i) && (!r.isEmpty || litV (vals x s i) b)) = true then loopP x A b (next x s i) r else 51
def pathE (x : Circ) (A : List (List Int)) (b : Int) (s : List Bool) (inp : List (List Bool)) : Int := if inp = [] then 8 else loopP x A b s inp

end Spr
end Go.Proofs.YtjmmhbmbafjneaaGreatDoor

/-
  enum.Check, plain: what it tells is so.
-/
namespace Go.Proofs.YtjmmhbmbafjneaaGreatDoor
open Go.RowKit Base Go.Maps
set_option linter.unusedVariables false
set_option linter.unusedSimpArgs false
namespace EnumC
open Circuit BadP SimV EnumA EnumP GetI MapG Coi EnumW Order RefIn

section
variable {x : Circ} {A : List (List Int)} {O : Ord} {bl : Int}

theorem badIn_some {s i : List Bool} (h : badIn x A bl s = some i) : i.length = x.ins.length ∧ allow x A (vals x s i) = true ∧ litV (vals x s i) bl = true := by
  unfold badIn at h
  have h1 := List.find?_some h
  have h2 := List.mem_of_find?_eq_some h
  unfold hitB at h1
  simp only [Bool.and_eq_true] at h1
  exact ⟨all_mem.1 h2, h1.1, h1.2⟩
theorem badIn_none {s i : List Bool} (h : badIn x A bl s = none) (hi : i.length = x.ins.length) (ha : allow x A (vals x s i) = true) : litV (vals x s i) bl = false := by
  unfold badIn at h
  rw [List.find?_eq_none] at h
  have h1 := h i (all_mem.2 hi)
  unfold hitB at h1
  rw [ha, Bool.true_and] at h1
  simpa using h1
theorem step_mem (hK : Known x A O) {s : List Bool} {n : Nat} (h : (s, n) ∈ O) : stepO O s = n := by
  unfold stepO
  rw [(tbl_get hK.nodup s).1 n h]; rfl
theorem least_eq (hK : Known x A O) {s i : List Bool} {n : Nat} (hs : (s, n) ∈ O) (hb : badIn x A bl s = some i) (hl : ∀ e ∈ O, badIn x A bl e.1 ≠ none → ¬ ltO O e.1 s) {r : Int} (h : IsBad x A bl r) : r = n := by
  obtain ⟨h1, h2, h3⟩ := badIn_some hb
  have hit : Hit x A bl n := ⟨s, i, hK.sound _ hs, h1, h2, h3⟩
  rcases h with ⟨_, hno⟩ | ⟨m, rfl, hm, hle⟩
  · exact absurd hit (hno n)
  · obtain ⟨s', i', hr, g1, g2, g3⟩ := hm
    obtain ⟨k, hk, hkm⟩ := hK.all m s' hr
    have h4 := hl _ hk (fun hn => by have := badIn_none hn g1 g2; rw [g3] at this; cases this)
    have h5 : ¬ stepO O s' < stepO O s := fun h => h4 (Or.inl h)
    rw [step_mem hK hk, step_mem hK hs] at h5
    have := hle n hit
    omega
theorem none_eq (hK : Known x A O) (hno : ∀ e ∈ O, badIn x A bl e.1 = none) {r : Int} (h : IsBad x A bl r) : r = -1 := by
  rcases h with ⟨h, _⟩ | ⟨m, rfl, ⟨s', i', hr, g1, g2, g3⟩, _⟩
  · exact h
  · obtain ⟨k, hk, hkm⟩ := hK.all m s' hr
    have h5 : badIn x A bl s' = none := hno (s', k) hk
    have := badIn_none h5 g1 g2
    rw [g3] at this; cases this
theorem tail_loop {i0 : List Bool} : ∀ {r : List (List Bool)} {s0 : List Bool} {m : Nat} {s : List Bool} {n : Nat}, Tail x A O s0 m r s n → badIn x A bl s = some i0 → Spr.loopP x A bl s0 (r ++ [i0]) = 0
  | [], _, _, _, _, ⟨rfl, _⟩, hb => by
    obtain ⟨h1, h2, h3⟩ := badIn_some hb
    show (if (allow x A (vals x _ i0) && (!([] : List (List Bool)).isEmpty || litV (vals x _ i0) bl)) = true then Spr.loopP x A bl (next x _ i0) [] else (51 : Int)) = 0
    rw [h2, h3]; rfl
  | i :: r, s0, _, _, _, ⟨t, hb, ht⟩, h => by
    obtain ⟨_, h1, h2, h3⟩ := backIs_mem hb
    have ih := tail_loop ht h
    show (if (allow x A (vals x s0 i) && (!(r ++ [i0]).isEmpty || litV (vals x s0 i) bl)) = true then Spr.loopP x A bl (next x s0 i) (r ++ [i0]) else (51 : Int)) = 0
    have e : (r ++ [i0]).isEmpty = false := by cases r <;> rfl
    rw [h2, e, h3]
    exact ih
theorem tail_ins {i0 : List Bool} : ∀ {r : List (List Bool)} {s0 : List Bool} {m : Nat} {s : List Bool} {n : Nat}, Tail x A O s0 m r s n → ∀ i ∈ r, i.length = x.ins.length
  | [], _, _, _, _, _ => fun i h => by cases h
  | i :: r, s0, _, _, _, ⟨t, hb, ht⟩ => fun j hj => by
    rcases List.mem_cons.1 hj with rfl | hj
    · exact (backIs_mem hb).2.1
    · exact tail_ins (i0 := i0) ht j hj

theorem lit_at {s : List Bool} {i : Nat} {v : Bool} (hi : i < s.length) : litIn s (litAt i v) = (s.getD i false != v) := by
  unfold litAt
  cases v
  · rw [if_neg (by decide), litIn_pos, decide_eq_true hi, Bool.true_and]; simp
  · rw [if_pos rfl, show -(i : Int) - 1 = -((i : Int) + 1) from by omega, litIn_neg, decide_eq_true hi, Bool.true_and]; simp
theorem inC_cl {s t : List Bool} (h : s.length = t.length) : inC s (clOf t) = decide (s ≠ t) := by
  rw [Bool.eq_iff_iff, decide_eq_true_iff]
  unfold inC clOf
  rw [List.any_map, List.any_eq_true]
  constructor
  · rintro ⟨i, hi, hx⟩ rfl
    rw [List.mem_range] at hi
    have h2 : litIn s (litAt i (s.getD i false)) = true := hx
    rw [lit_at hi] at h2
    simp at h2
  · intro hne
    apply Classical.byContradiction
    intro hno
    apply hne
    apply List.ext_getElem h
    intro i h1 h2
    have h3 : ¬ litIn s (litAt i (t.getD i false)) = true := fun hx => hno ⟨i, List.mem_range.2 h2, hx⟩
    rw [lit_at h1] at h3
    have h4 : s.getD i false = t.getD i false := by simpa using h3
    rw [List.getD_eq_getElem?_getD, List.getD_eq_getElem?_getD, List.getElem?_eq_getElem h1, List.getElem?_eq_getElem h2] at h4
    exact h4
theorem some_has (hK : Known x A O) (s : List Bool) : (getI (tbl O) s).isSome = has O s := by
  rw [Bool.eq_iff_iff, has_iff]
  constructor
  · intro h
    cases hg : getI (tbl O) s with
    | none => rw [hg] at h; cases h
    | some v =>
      have h1 := getI_mem hg
      unfold tbl at h1
      rw [List.mem_reverse, List.mem_map] at h1
      obtain ⟨⟨t, n⟩, h2, h3⟩ := h1
      simp only [Prod.mk.injEq] at h3
      obtain ⟨rfl, _⟩ := h3
      exact ⟨n, h2⟩
  · rintro ⟨n, hn⟩
    rw [(tbl_get hK.nodup s).1 n hn]; rfl
theorem in_outs (hK : Known x A O) {s : List Bool} (hs : s.length = x.lats.length) : inL (outs O (allL x.lats.length)) s = has O s := by
  unfold inL outs
  rw [List.all_map]
  cases hh : has O s with
  | true =>
    rw [List.all_eq_true]
    intro t ht
    rw [List.mem_filter] at ht
    show inC s (clOf t) = true
    rw [inC_cl (by rw [hs, all_mem.1 ht.1]), decide_eq_true_iff]
    rintro rfl
    rw [some_has hK, hh] at ht
    cases ht.2
  | false =>
    rw [List.all_eq_false]
    refine ⟨s, List.mem_filter.2 ⟨all_mem.2 hs, by rw [some_has hK, hh]; rfl⟩, ?_⟩
    show ¬ inC s (clOf s) = true
    rw [inC_cl rfl]; simp
theorem outs_prf (hK : Known x A O) (hno : ∀ e ∈ O, badIn x A bl e.1 = none) : Prf x A (outs O (allL x.lats.length)) bl := by
  refine ⟨fun s hs hi => ?_, fun s q hs hq hin ha => ?_⟩
  · rw [in_outs hK hs, has_iff]
    obtain ⟨n, hn, _⟩ := hK.all 0 s hi
    exact ⟨n, hn⟩
  · rw [in_outs hK hs, has_iff] at hin
    obtain ⟨n, hn⟩ := hin
    have h5 : badIn x A bl s = none := hno (s, n) hn
    refine ⟨?_, badIn_none h5 hq ha⟩
    rw [in_outs hK (next_len _ _ _), has_iff]
    obtain ⟨k, hk, _⟩ := hK.all (n + 1) (next x s q) ⟨s, q, hK.sound _ hn, hq, ha, rfl⟩
    exact ⟨k, hk⟩
theorem sorted_len (hK : Known x A O) : (sortedO x.lats.length O).length = O.length := by
  have hlen : ∀ e ∈ O, e.1.length = x.lats.length := fun e he => R_len (hK.sound e he)
  have h := congrArg List.length (merge_oct hK.nodup hlen)
  rw [List.length_mergeSort, List.length_map, List.length_map] at h
  exact h.symm
theorem filter_both {α : Type} (p : α → Bool) : ∀ L : List α, (L.filter p).length + (L.filter fun a => !p a).length = L.length
  | [] => rfl
  | a :: r => by
    have ih := filter_both p r
    cases h : p a
    · rw [List.filter_cons_of_neg (by rw [h]; decide), List.filter_cons_of_pos (by rw [h]; rfl), List.length_cons, List.length_cons]; omega
    · rw [List.filter_cons_of_pos h, List.filter_cons_of_neg (by rw [h]; decide), List.length_cons, List.length_cons]; omega
theorem outs_used (hK : Known x A O) : O.length + (outs O (allL x.lats.length)).length = 2 ^ x.lats.length := by
  have h1 := filter_both (has O) (allL x.lats.length)
  rw [allL_len] at h1
  have h2 := sorted_len hK
  unfold sortedO at h2
  unfold outs
  have e : (fun s => !(getI (tbl O) s).isSome) = fun s => !has O s := funext fun s => by rw [some_has hK]
  rw [List.length_map, ← h2, ← h1, e]
theorem outs_bnd {N : Nat} (hN : N ≤ 10) : ∀ y ∈ (outs O (allL N)).flatten, -1000000 ≤ y ∧ y ≤ 1000000 := by
  intro y hy
  obtain ⟨l, hl, hyl⟩ := List.mem_flatten.1 hy
  unfold outs at hl
  obtain ⟨s, hs, rfl⟩ := List.mem_map.1 hl
  have h1 := all_mem.1 (List.mem_filter.1 hs).1
  unfold clOf at hyl
  obtain ⟨i, hi, rfl⟩ := List.mem_map.1 hyl
  rw [List.mem_range] at hi
  unfold litAt
  split <;> omega
end
end EnumC
end Go.Proofs.YtjmmhbmbafjneaaGreatDoor

/-
  The least of the shortest paths, plain: each round of the law finds what the path tells.
-/
namespace Go.Proofs.YtjmmhbmbafjneaaGreatDoor
open Go.RowKit Base Go.Maps
set_option linter.unusedVariables false
set_option linter.unusedSimpArgs false
namespace EnumC
open Circuit BadP SimV EnumA EnumP GetI MapG Coi EnumW Order RefIn

section
variable {x : Circ} {A : List (List Int)} {O : Ord} {bl : Int} {out : List Int}

/-- What a round of the law looks for. -/
def hitL (x : Circ) (A : List (List Int)) (bl : Int) (lb : Bool) (gs : ByteArray) (s q : List Bool) : Bool :=
  allow x A (vals x s q) && (lb && litV (vals x s q) bl || (!lb && ((bs (next x s q)).toList == gs.toList)))
def fullL (x : Circ) (A : List (List Int)) (bl : Int) (O : Ord) (lb : Bool) (gs : ByteArray) (a : Nat) (s : List Bool) : Bool :=
  decide (getI (tbl O) s = some (a : Int)) && (allL x.ins.length).any (hitL x A bl lb gs s)
structure FindL (x : Circ) (A : List (List Int)) (bl : Int) (O : Ord) (lb : Bool) (gs : ByteArray) (a : Nat) (ss qq : List Bool) : Prop where
  st : (allL x.lats.length).find? (fullL x A bl O lb gs a) = some ss
  ip : (allL x.ins.length).find? (hitL x A bl lb gs ss) = some qq

theorem steps_get (hS : SOut x A out) (hK : Known x A O) {i a : Nat} {s : List Bool} {v : Int} (hs : (allL x.lats.length)[i]? = some s) (hv : out[i]? = some v) : (v == (a : Int)) = decide (getI (tbl O) s = some (a : Int)) := by
  rw [Bool.eq_iff_iff, decide_eq_true_iff, beq_iff_eq]
  constructor
  · rintro rfl
    obtain ⟨h1, h2⟩ := seen_yes hS hK hs hv (by omega)
    obtain ⟨n, hn⟩ := has_iff.1 h1
    rw [(tbl_get hK.nodup s).1 n hn]
    rw [step_mem hK hn] at h2
    rw [h2]
  · intro h
    have hm := tbl_mem h
    by_cases h0 : v < 0
    · have := seen_no hS hK hs hv h0
      rw [has_iff.2 ⟨a, hm⟩] at this; cases this
    · obtain ⟨_, h2⟩ := seen_yes hS hK hs hv (by omega)
      rw [step_mem hK hm] at h2
      exact h2.symm
theorem find_cong {α : Type} {p q : α → Bool} {L : List α} (h : ∀ a, p a = q a) : L.find? p = L.find? q := by
  rw [show p = q from funext h]
theorem hit_last (gs : ByteArray) (s q : List Bool) : hitL x A bl true gs s q = hitB x A bl s q := by
  unfold hitL hitB
  cases allow x A (vals x s q) <;> cases litV (vals x s q) bl <;> rfl
theorem hit_back (g s q : List Bool) : hitL x A bl false (bs g) s q = stp x A s g q := by
  unfold hitL stp
  rw [bs_eq (next x s q) g]
  cases allow x A (vals x s q) <;> cases decide (next x s q = g) <;> rfl
/-- The first that is so: it is so, and none ahead of it is. -/
theorem find_first {α : Type} {p : α → Bool} : ∀ {L : List α} {a : α} (r : α → α → Prop), L.Pairwise r → a ∈ L → p a = true → (∀ b ∈ L, p b = true → r b a → False) → L.find? p = some a
  | [], _, _, _, h, _, _ => by cases h
  | b :: t, a, r, hp, hm, ha, hno => by
    rw [List.pairwise_cons] at hp
    rcases List.mem_cons.1 hm with rfl | hm
    · rw [List.find?_cons_of_pos ha]
    · cases hb : p b with
      | true => exact absurd (hno b (List.mem_cons_self ..) hb (hp.1 a hm)) id
      | false =>
        rw [List.find?_cons_of_neg (by rw [hb]; decide)]
        exact find_first r hp.2 hm ha (fun c hc => hno c (List.mem_cons_of_mem _ hc))
theorem rnd_last (hK : Known x A O) {s i : List Bool} {n : Nat} (hs : (s, n) ∈ O) (hb : badIn x A bl s = some i) (hl : ∀ e ∈ O, badIn x A bl e.1 ≠ none → ¬ ltO O e.1 s) (gs : ByteArray) : FindL x A bl O true gs n s i := by
  obtain ⟨h1, h2, h3⟩ := badIn_some hb
  refine ⟨find_first _ (all_sorted _) (all_mem.2 (R_len (hK.sound _ hs))) ?_ (fun t ht hp hlt => ?_), ?_⟩
  · unfold fullL
    rw [(tbl_get hK.nodup s).1 n hs, Bool.and_eq_true]
    refine ⟨by simp, List.any_eq_true.2 ⟨i, all_mem.2 h1, ?_⟩⟩
    rw [hit_last]; unfold hitB; rw [h2, h3]; rfl
  · unfold fullL at hp
    simp only [Bool.and_eq_true, decide_eq_true_iff] at hp
    have hm := tbl_mem hp.1
    obtain ⟨q, hq, hh⟩ := List.any_eq_true.1 hp.2
    rw [hit_last] at hh
    have h5 : badIn x A bl t ≠ none := fun hn => by
      unfold badIn at hn
      rw [List.find?_eq_none] at hn
      exact hn q hq hh
    exact hl (t, n) hm h5 (Or.inr ⟨by rw [step_mem hK hm, step_mem hK hs], hlt⟩)
  · rw [find_cong (q := hitB x A bl s) (hit_last gs s)]
    exact hb
theorem rnd_back {g t i : List Bool} {a : Nat} (h : BackIs x A O a g t i) : FindL x A bl O false (bs g) a t i := by
  refine ⟨?_, ?_⟩
  · rw [← h.1]
    refine find_cong fun s => ?_
    unfold fullL bck
    congr 1
    rw [show hitL x A bl false (bs g) s = stp x A s g from funext (hit_back g s)]
  · rw [← h.2]
    exact find_cong (hit_back g t)
theorem tail_snoc {i : List Bool} : ∀ {r : List (List Bool)} {s0 : List Bool} {m : Nat} {g : List Bool} {n : Nat}, Tail x A O s0 m (r ++ [i]) g n → ∃ t, Tail x A O s0 m r t (m + r.length) ∧ BackIs x A O (m + r.length) g t i
  | [], s0, m, g, n, ⟨t, hb, ht⟩ => by
    obtain ⟨rfl, rfl⟩ := ht
    exact ⟨s0, ⟨rfl, rfl⟩, hb⟩
  | j :: r, s0, m, g, n, ⟨t, hb, ht⟩ => by
    obtain ⟨u, h1, h2⟩ := tail_snoc ht
    have e : m + 1 + r.length = m + (j :: r).length := by rw [List.length_cons]; omega
    rw [e] at h1 h2
    exact ⟨u, ⟨t, hb, h1⟩, h2⟩
/-- A round: what is found is what the path tells. -/
theorem rnd (hK : Known x A O) {s s0 ib : List Bool} {ins : List (List Bool)} {n : Nat} (hs : (s, n) ∈ O) (hb : badIn x A bl s = some ib) (hl : ∀ e ∈ O, badIn x A bl e.1 ≠ none → ¬ ltO O e.1 s) (hT : Tail x A O s0 0 ins s n)
    {a : Nat} (ha : a ≤ n) {gs : ByteArray} (h : a = n ∨ a < n ∧ ∃ g, gs = bs g ∧ Tail x A O s0 0 (ins.take (a + 1)) g (a + 1)) :
    ∃ ss qq, FindL x A bl O (decide (a = n)) gs a ss qq ∧ (ins ++ [ib])[a]? = some qq ∧ Tail x A O s0 0 (ins.take a) ss a := by
  have hn : ins.length = n := by have := tail_len hT; omega
  rcases h with rfl | ⟨hlt, g, rfl, ht⟩
  · refine ⟨s, ib, by rw [decide_eq_true rfl]; exact rnd_last hK hs hb hl gs, by rw [← hn]; simp, ?_⟩
    rw [← hn] at hT ⊢
    rw [List.take_length]; exact hT
  · have e : ins.take (a + 1) = ins.take a ++ [ins[a]] := List.take_succ_eq_append_getElem (by omega)
    rw [e] at ht
    obtain ⟨t, h1, h2⟩ := tail_snoc ht
    have el : 0 + (ins.take a).length = a := by rw [List.length_take]; omega
    rw [el] at h1 h2
    exact ⟨t, ins[a], by rw [decide_eq_false (by omega)]; exact rnd_back h2, by rw [List.getElem?_append_left (by omega), List.getElem?_eq_getElem], h1⟩
end
end EnumC
end Go.Proofs.YtjmmhbmbafjneaaGreatDoor

/-
  interlocklaw28.alive; interlockplain.Texts of equal lists (written by enuml.py).
-/
namespace Go.Proofs.YtjmmhbmbafjneaaGreatDoor
open Go.RowKit Base
set_option linter.unusedVariables false
set_option linter.unusedSimpArgs false
namespace EnumL
open Circuit BadP SimV EnumA

set_option maxHeartbeats 2000000 in
theorem alive_any (w : World) : Calls Tryz.prog 7 #[] w fun e w2 => e = .returned (.bool true) ∧ Below w.heap.size w w2 := by
  have HA := all_any w 1 (by decide)
  have e2 : (2 : Nat) ^ 1 = 2 := rfl
  rw [e2, show ((1 : Nat) : Int) = 1 from rfl] at HA
  have HA := Lib.hid HA
  go_enter Tryz.func7, Tryz.ntmps7
  go_wp2_with fail
  with_reducible refine HA.out.mono ?_
  rintro e w2 ⟨a, c, rfl, ho, hb⟩
  have hs := own_sl' ho
  obtain ⟨b0, o0, hx0, ha0, _, d0⟩ := txt_at hs (k := 0) (by decide)
  obtain ⟨b1, o1, hx1, ha1, _, d1⟩ := txt_at hs (k := 1) (by decide)
  subst ha0
  simp only [Option.some.injEq, Addr.mk.injEq, and_true] at ha1
  obtain ⟨rfl, rfl⟩ := ha1
  have f0 : bs (allL 1)[0] = ⟨#[48]⟩ := rfl
  have f1 : bs (allL 1)[1] = ⟨#[49]⟩ := rfl
  rw [f0, Nat.add_zero] at d0
  rw [f1] at d1
  have hc := hs.cap
  have hg := hs.big
  have HB := Lib.hid hb
  clear ho hs hb hx0 hx1 f0 f1
  go_wp2_with fail
  go_ret
  exact ⟨by first | rfl | simp, HB.out⟩

theorem strs_txt (n : Nat) : AllS.strs (AllS.allS n) = txt (allL n) := by
  unfold AllS.strs txt
  rw [allS_bs, List.map_map]; rfl

set_option maxHeartbeats 4000000 in
theorem texts_any (w : World) (a1 : Option Addr) (n c1 : Nat) (L : List (List Bool)) (h1 : Sl w a1 n c1 (txt L)) (a2 : Option Addr) (c2 : Nat) (h2 : Sl w a2 n c2 (txt L)) :
    Calls Tryz.prog 9 #[.slice a1 n c1, .slice a2 n c2] w fun e w2 => e = .returned (.bool true) ∧ Below w.heap.size w w2 := by
  have hc1 := h1.cap
  have hg1 := h1.big
  have hc2 := h2.cap
  have hg2 := h2.big
  have H1 := Lib.hid h1
  have H2 := Lib.hid h2
  clear h1 h2
  go_enter Tryz.func9, Tryz.ntmps9
  go_wp2_with fail
  go_loopw [5] (fun i wr => ∃ k : Nat, k ≤ n ∧ i = .int .i64 k ∧ Hid (Below w.heap.size w wr)) (fun i _ => n - (intOf i).toNat)
  case atStart => exact ⟨0, Nat.zero_le _, rfl, Below.refl _ _⟩
  case round =>
    obtain ⟨k, hk, rfl, hB⟩ := hrel
    generalize wr = ws at *
    by_cases hlt : k < n
    · obtain ⟨b1, o1, hx1, hae1, _, d1⟩ := txt_at (H1.out.next hB.out) hlt
      obtain ⟨b2, o2, hx2, hae2, _, d2⟩ := txt_at (H2.out.next hB.out) hlt
      subst hae1
      subst hae2
      generalize bs L[k] = ss at *
      clear hx1 hx2
      have hS0 : ws.drew.cell? ⟨b1, o1 + k, none⟩ = some (.string ss) ∧ ws.drew.cell? ⟨b2, o2 + k, none⟩ = some (.string ss) ∧ Hid (Below w.heap.size w ws.drew) := ⟨by rw [World.cell?_drew]; exact d1, by rw [World.cell?_drew]; exact d2, hB.out.drew⟩
      go_upto_region 6 with fail
      refine Lex.region (fun w' => (fun w9 : World => w9.cell? ⟨b1, o1 + k, none⟩ = some (.string ss) ∧ w9.cell? ⟨b2, o2 + k, none⟩ = some (.string ss) ∧ Hid (Below w.heap.size w w9)) w') (by kernel_rfl) (by kernel_rfl) hS0 ?_
      (refine Lex.step_val (v := ?_) ?_ (fun w' hSw => ?_) ?_; rotate_left; (focus rfl); (focus (clear hSw; go_simp; (try with_reducible rfl); done)); (try simp only [Act.put, List.setIfInBounds_toArray, List.set_cons_zero, List.set_cons_succ]))
      (refine Lex.step_val (v := ?_) ?_ (fun w' hSw => ?_) ?_; rotate_left; (focus rfl); (focus (clear hSw; go_simp; (try with_reducible rfl); done)); (try simp only [Act.put, List.setIfInBounds_toArray, List.set_cons_zero, List.set_cons_succ]))
      (refine Lex.step_val (v := ?_) ?_ (fun w' hSw => ?_) ?_; rotate_left; (focus rfl); (focus (clear hSw; go_simp; (try with_reducible rfl); done)); (try simp only [Act.put, List.setIfInBounds_toArray, List.set_cons_zero, List.set_cons_succ]))
      (refine Lex.step_val (v := ?_) ?_ (fun w' hSw => ?_) ?_; rotate_left; (focus rfl); (focus ((try dsimp only at hSw); go_simp; (try with_reducible rfl); done)); (try simp only [Act.put, List.setIfInBounds_toArray, List.set_cons_zero, List.set_cons_succ]))
      (refine Lex.step_val (v := ?_) ?_ (fun w' hSw => ?_) ?_; rotate_left; (focus rfl); (focus (clear hSw; go_simp; (try with_reducible rfl); done)); (try simp only [Act.put, List.setIfInBounds_toArray, List.set_cons_zero, List.set_cons_succ]))
      (refine Lex.step_val (v := ?_) ?_ (fun w' hSw => ?_) ?_; rotate_left; (focus rfl); (focus (clear hSw; go_simp; (try with_reducible rfl); done)); (try simp only [Act.put, List.setIfInBounds_toArray, List.set_cons_zero, List.set_cons_succ]))
      (refine Lex.step_val (v := ?_) ?_ (fun w' hSw => ?_) ?_; rotate_left; (focus rfl); (focus (clear hSw; go_simp; (try with_reducible rfl); done)); (try simp only [Act.put, List.setIfInBounds_toArray, List.set_cons_zero, List.set_cons_succ]))
      (refine Lex.step_val (v := ?_) ?_ (fun w' hSw => ?_) ?_; rotate_left; (focus rfl); (focus ((try dsimp only at hSw); go_simp; (try with_reducible rfl); done)); (try simp only [Act.put, List.setIfInBounds_toArray, List.set_cons_zero, List.set_cons_succ]))
      (refine Lex.step_val (v := ?_) ?_ (fun w' hSw => ?_) ?_; rotate_left; (focus rfl); (focus (clear hSw; go_simp; (try with_reducible rfl); done)); (try simp only [Act.put, List.setIfInBounds_toArray, List.set_cons_zero, List.set_cons_succ]))
      refine Lex.step_nil ?_
      intro wz hz
      
      have HBZ := hz.2.2
      clear hz hS0 hB d1 d2
      go_wp2_with fail
      go_roundw
      case rel => exact ⟨k + 1, by omega, by go_num, HBZ⟩
      case measure => simp [intOf]; omega
    · clear hk
      have HBE := Lib.hid hB.out
      clear hB
      go_wp2_with fail
      go_ret
      exact ⟨rfl, HBE.out⟩
end EnumL
end Go.Proofs.YtjmmhbmbafjneaaGreatDoor

/-
  interlockref07's Bad (written by badbad.py).
-/
namespace Go.Proofs.YtjmmhbmbafjneaaGreatDoor
open Go.RowKit Base
set_option linter.unusedVariables false
set_option linter.unusedSimpArgs false
namespace BadP
open Circuit Coi

set_option maxRecDepth 8000 in
set_option maxHeartbeats 16000000 in
theorem bad_any (w : World) (x : Circ) (p : At) (hin : InCirc w x p) (hw : WfC x) (hok : CheckOk x) (hza : x.ands.length * 24 ≤ 140737488355328) (hl4 : x.lats.length ≤ 4) (hi3 : x.ins.length ≤ 3)
    (aA : Option Addr) (n cA : Nat) (vs : List Value) (A : List (List Int)) (hA : Sl2 w aA n cA vs A) (hA64 : ∀ y ∈ A.flatten, -9223372036854775808 ≤ y ∧ y ≤ 9223372036854775807) (kb : Nat) (hkb : kb < x.bads.length) :
    Calls Tryz.prog 17 #[.agg (cells x p), .slice aA n cA, .int .i64 kb] w fun e w' => ∃ r, e = .returned (.int .i64 r) ∧ IsBad x A x.bads[kb] r ∧ Below w.heap.size w w' := by
  obtain ⟨W1, hW1⟩ : ∃ U, w.alloc (.cells (cells x p) 27) = U := ⟨_, rfl⟩
  obtain ⟨hb1, hx1⟩ := cbox_new w x p W1 hW1
  have HB1 := Lib.hid hb1
  have HX := Lib.hid (fun (U : World) (hU : Below W1.heap.size W1 U) => hx1.next hU (Nat.le_refl _))
  have HIN := fun (U : World) (hU : Below W1.heap.size W1 U) => (hin.next hb1).next hU
  have HVA := fun (U : World) (hU : Below W1.heap.size W1 U) (s i : List Bool) (hs : s.length = x.lats.length) (hi : i.length = x.ins.length) => values_any U x p (HIN U hU) hw hok hza s i hs hi
  have hvl : ∀ s i, (vals x s i).length ≤ 9223372036854775807 := fun s i => by rw [vals_len]; have := hok.1.2.1; omega
  have HAA := fun (U : World) (hU : Below W1.heap.size W1 U) (s i : List Bool) => allowed_any U x p (HIN U hU) (vals x s i) (hvl s i) (lits_in hok hw).2.1 aA n cA vs A ((hA.next hb1).next hU) hA64
  have HST := fun (U : World) (hU : Below W1.heap.size W1 U) => steps_any U x p (HIN U hU) hw hok hza hl4 hi3 aA n cA vs A ((hA.next hb1).next hU) hA64
  have HL1 := Lib.hid (fun (U : World) => AllS.all_any U x.lats.length (by omega))
  have HL2 := Lib.hid (fun (U : World) => AllS.all_any U x.ins.length (by omega))
  have hbl := (lits_in hok hw).1 x.bads[kb] (List.getElem_mem _)
  have HTT := Lib.hid (fun (U : World) (s i : List Bool) => refTrue_any U (vals x s i) x.bads[kb] (by have := hbl.1; omega) hbl.2 (hvl s i))
  obtain ⟨gb, ob, hxb, hab, hgb, hcb⟩ := hin.bads.int hkb
  have hcapb := hin.bads.cap
  have hbigb := hin.bads.big
  have HBE := Lib.hid (fun (U : World) (hU : Below w.heap.size w U) => (hU.cell (p := ⟨gb, ob + kb, none⟩) hgb).trans hcb)
  obtain ⟨N, hN⟩ : ∃ m, 2 ^ x.lats.length = m := ⟨_, rfl⟩
  obtain ⟨K, hK⟩ : ∃ m, 2 ^ x.ins.length = m := ⟨_, rfl⟩
  have hN16 : N ≤ 16 := by rw [← hN]; exact Nat.pow_le_pow_right (by decide) hl4
  have hK8 : K ≤ 8 := by rw [← hK]; exact Nat.pow_le_pow_right (by decide) hi3
  rw [AllS.allS_len, hN] at HL1
  rw [AllS.allS_len, hK] at HL2
  simp only [hN] at HST
  have HNN := Lib.hid hN
  have HKK := Lib.hid hK
  have c0 := hx1
  have hc2 := hin.lats.cap
  have hg2 := hin.lats.big
  have hc1 := hin.ins.cap
  have hg1 := hin.ins.big
  have hkbI : (kb : Int) < (x.bads.length : Int) := by omega
  generalize x.bads[kb] = bl at *
  obtain ⟨a1, c1, a2, c2, a3, c3, a4, c4, a5, c5, a6, c6, a7, c7⟩ := p
  simp only [cells] at hW1 HVA HAA HST hc2 hg2 hc1 hg1 hab hcapb hbigb ⊢
  subst hab
  have k0 := c0.k0
  have k1 := c0.k1
  have k2 := c0.k2
  have k3 := c0.k3
  have k4 := c0.k4
  have k5 := c0.k5
  have k6 := c0.k6
  have k7 := c0.k7
  try simp only at k0 k1 k2 k3 k4 k5 k6 k7
  have HVV := Lib.hid HVA
  have HAV := Lib.hid HAA
  have HSW := Lib.hid (HST W1 (Below.refl _ _))
  clear hin hw hok hza hA hA64 hb1 hx1 HIN HVA HAA HST hvl hN hK c0 hl4 hi3 hbl hxb hgb hcb
  go_enter Tryz.func17, Tryz.ntmps17
  go_wp2_with fail
  clear hW1
  with_reducible refine HSW.out.mono ?_
  rintro e w2 ⟨g, out, rfl, hbx, hso, hgeg, hb2⟩
  have HB2 := Lib.hid hb2
  have HSO := Lib.hid hso
  have HBX := Lib.hid hbx
  clear k0 k1 k2 k3 k4 k5 k6 k7 hbx hso hgeg hb2
  have c := HX.out w2 HB2.out
  have k1 := c.k1
  have k2 := c.k2
  try simp only at k1 k2
  clear c
  go_wp2_with fail
  have hSK : ∀ U : World, Below w2.heap.size w2 U → U.cell? ⟨w.heap.size, 1, none⟩ = some (.slice a1 x.ins.length c1) ∧ U.cell? ⟨w.heap.size, 2, none⟩ = some (.slice a2 x.lats.length c2) := fun U hU => by
    have c := HX.out U ((fun (U : World) (hU : Below w2.heap.size w2 U) => HB2.out.trans (hU.mono HB2.out.size)) U hU)
    exact ⟨c.k1, c.k2⟩
  have b00 : Below w2.heap.size w2 w2.drew := (Below.refl _ _).drew
  have hS0 := hSK _ b00
  refine HeldAll.region (fun U : World => U.cell? ⟨w.heap.size, 1, none⟩ = some (.slice a1 x.ins.length c1) ∧ U.cell? ⟨w.heap.size, 2, none⟩ = some (.slice a2 x.lats.length c2)) (by kernel_rfl) ?_
  (refine HeldAll.take (i := 0) (oi := _) (d := some 18) (v := ?_) rfl rfl (by kernel_rfl) (by kernel_rfl) (by kernel_rfl) (fun _ _ _ h => h) (Or.inl ⟨by rfl, ?_⟩) hS0 ?_; rotate_left; (focus (intro w hSw; clear hSw; go_simp; (try with_reducible rfl); done)); (try simp only [Act.put, List.setIfInBounds_toArray, List.set_cons_zero, List.set_cons_succ]))
  (refine HeldAll.take (i := 1) (oi := _) (d := some 19) (v := ?_) rfl rfl (by kernel_rfl) (by kernel_rfl) (by kernel_rfl) (fun _ _ _ h => h) (Or.inl ⟨by rfl, ?_⟩) hS0 ?_; rotate_left; (focus (intro w hSw; (try dsimp only at hSw); go_simp; (try with_reducible rfl); done)); (try simp only [Act.put, List.setIfInBounds_toArray, List.set_cons_zero, List.set_cons_succ]))
  (refine HeldAll.take (i := 2) (oi := _) (d := some 20) (v := ?_) rfl rfl (by kernel_rfl) (by kernel_rfl) (by kernel_rfl) (fun _ _ _ h => h) (Or.inl ⟨by rfl, ?_⟩) hS0 ?_; rotate_left; (focus (intro w hSw; clear hSw; go_simp; (try with_reducible rfl); done)); (try simp only [Act.put, List.setIfInBounds_toArray, List.set_cons_zero, List.set_cons_succ]))
  (refine HeldAll.take (i := 4) (oi := _) (d := some 22) (v := ?_) rfl rfl (by kernel_rfl) (by kernel_rfl) (by kernel_rfl) (fun _ _ _ h => h) (Or.inl ⟨by rfl, ?_⟩) hS0 ?_; rotate_left; (focus (intro w hSw; clear hSw; go_simp; (try with_reducible rfl); done)); (try simp only [Act.put, List.setIfInBounds_toArray, List.set_cons_zero, List.set_cons_succ]))
  (refine HeldAll.take (i := 5) (oi := _) (d := some 23) (v := ?_) rfl rfl (by kernel_rfl) (by kernel_rfl) (by kernel_rfl) (fun _ _ _ h => h) (Or.inl ⟨by rfl, ?_⟩) hS0 ?_; rotate_left; (focus (intro w hSw; (try dsimp only at hSw); go_simp; (try with_reducible rfl); done)); (try simp only [Act.put, List.setIfInBounds_toArray, List.set_cons_zero, List.set_cons_succ]))
  (refine HeldAll.take (i := 6) (oi := _) (d := some 24) (v := ?_) rfl rfl (by kernel_rfl) (by kernel_rfl) (by kernel_rfl) (fun _ _ _ h => h) (Or.inl ⟨by rfl, ?_⟩) hS0 ?_; rotate_left; (focus (intro w hSw; clear hSw; go_simp; (try with_reducible rfl); done)); (try simp only [Act.put, List.setIfInBounds_toArray, List.set_cons_zero, List.set_cons_succ]))
  refine HeldAll.one (i := 3) (by kernel_rfl) ?_
  refine HeldAll.opCall (i := 3) (oi := _) (d := some 21) (R := fun v w' => ∃ a c, v = .slice a N c ∧ w'.ownsRow w2.drew.heap.size 9 1 (.slice a N c) N (AllS.strs (AllS.allS x.lats.length)) ∧ Below w2.drew.heap.size w2.drew w') rfl rfl (by rfl) (by go_simp; done) ((HL1.out w2.drew).mono fun e w' h => by obtain ⟨a, c, he, ho, hb⟩ := h; exact ⟨_, he, a, c, rfl, ho, hb⟩) ?_
  rintro v u1 ⟨aS, cS, rfl, oS, su1⟩
  have b1 : Below w2.heap.size w2 u1 := b00.trans (su1.mono b00.size)
  refine ⟨hSK _ b1, ?_⟩
  (try simp only [Act.put, List.setIfInBounds_toArray, List.set_cons_zero, List.set_cons_succ])
  refine HeldAll.one (i := 7) (by kernel_rfl) ?_
  refine HeldAll.opCall (i := 7) (oi := _) (d := some 25) (R := fun v w' => ∃ a c, v = .slice a K c ∧ w'.ownsRow u1.heap.size 9 1 (.slice a K c) K (AllS.strs (AllS.allS x.ins.length)) ∧ Below u1.heap.size u1 w') rfl rfl (by rfl) (by go_simp; done) ((HL2.out u1).mono fun e w' h => by obtain ⟨a, c, he, ho, hb⟩ := h; exact ⟨_, he, a, c, rfl, ho, hb⟩) ?_
  rintro v u2 ⟨aI, cI, rfl, oI, su2⟩
  have b2 : Below w2.heap.size w2 u2 := b1.trans (su2.mono b1.size)
  refine ⟨hSK _ b2, ?_⟩
  (try simp only [Act.put, List.setIfInBounds_toArray, List.set_cons_zero, List.set_cons_succ])
  have hS0 := hSK _ b2
  (refine HeldAll.take (i := 8) (oi := _) (d := some 8) (v := ?_) rfl rfl (by kernel_rfl) (by kernel_rfl) (by kernel_rfl) (fun _ _ _ h => h) (Or.inl ⟨by rfl, ?_⟩) hS0 ?_; rotate_left; (focus (intro w hSw; clear hSw; go_simp; (try with_reducible rfl); done)); (try simp only [Act.put, List.setIfInBounds_toArray, List.set_cons_zero, List.set_cons_succ]))
  (refine HeldAll.take (i := 9) (oi := _) (d := some 9) (v := ?_) rfl rfl (by kernel_rfl) (by kernel_rfl) (by kernel_rfl) (fun _ _ _ h => h) (Or.inl ⟨by rfl, ?_⟩) hS0 ?_; rotate_left; (focus (intro w hSw; clear hSw; go_simp; (try with_reducible rfl); done)); (try simp only [Act.put, List.setIfInBounds_toArray, List.set_cons_zero, List.set_cons_succ]))
  refine HeldAll.done (by kernel_rfl) ?_ _
  have HSS := Lib.hid (own_sl' (own_next oS su2))
  have HSI := Lib.hid (own_sl' oI)
  have hcS := HSS.out.cap
  have hgS := HSS.out.big
  have hcI := HSI.out.cap
  have hgI := HSI.out.big
  have HB13 := Lib.hid (HB2.out.trans (b2.mono HB2.out.size))
  have HGX := Lib.hid (fun (U : World) (hU : Below u2.heap.size u2 U) => (HBX.out.next b2 HBX.out.lt).next hU (Nat.lt_of_lt_of_le HBX.out.lt b2.size))
  clear oS oI su1 su2 b1 b2 b00 hSK hS0 k1 k2 hc1 hg1 hc2 hg2
  go_wp2_with fail
  go_loopw [10, 11] (fun bst u wr => ∃ (i : Nat) (best : Int), i ≤ N ∧ u = .int .i64 i ∧ bst = .int .i64 best ∧ Hid (BI x A bl out i 0 best) ∧ Hid (Below u2.heap.size u2 wr)) (fun _ u _ => N - (intOf u).toNat)
  case atStart => exact ⟨0, -1, Nat.zero_le _, rfl, rfl, bi_start _ _, Below.refl _ _⟩
  case round =>
    obtain ⟨i, best, hi, rfl, rfl, hI, hB⟩ := hrel
    by_cases hli : i < N
    · skip
      have HI0 := hI
      clear hI
      go_wp2_with fail
      go_loopw [10, 12] (fun bst u wr => ∃ (k : Nat) (best : Int), k ≤ K ∧ u = .int .i64 k ∧ bst = .int .i64 best ∧ Hid (BI x A bl out i k best) ∧ Hid (Below u2.heap.size u2 wr)) (fun _ u _ => K - (intOf u).toNat)
      case atStart => exact ⟨0, best, Nat.zero_le _, rfl, rfl, HI0.out, hB.out⟩
      case round =>
        clear HI0 hB
        obtain ⟨k, best, hk, rfl, rfl, hI, hB⟩ := hrel
        have hol : i < out.length := by rw [HSO.out.len, HNN.out]; exact hli
        obtain ⟨v0, hv0⟩ : ∃ v, out[i]? = some v := ⟨_, List.getElem?_eq_getElem hol⟩
        have HV0 := Lib.hid hv0
        have e0 := (HGX.out wr hB.out).at' i _ (ints_get hv0)
        clear hol hv0
        by_cases hkt : k < K
        · skip
          have hd : decide ((k : Int) < (K : Int)) = true := decide_eq_true (by omega)
          by_cases hpos : 0 ≤ v0
          · skip
            have hq0 : decide (0 ≤ v0) = true := decide_eq_true hpos
            obtain ⟨bt, ot, s, hae, hbt, hs, d0⟩ := str_bs (HSS.out.next hB.out) hli
            obtain ⟨bq, oq, q, haq, hbq, hq, d1⟩ := str_bs (HSI.out.next hB.out) hkt
            obtain ⟨_, _, _, ht1, hbs2, _⟩ := HSS.out.at hli
            obtain ⟨_, _, _, ht2, hbq2, _⟩ := HSI.out.at hkt
            rw [hae] at ht1
            rw [haq] at ht2
            simp only [Option.some.injEq, Addr.mk.injEq] at ht1 ht2
            rw [← ht1.1] at hbs2
            rw [← ht2.1] at hbq2
            clear ht1 ht2
            subst hae
            subst haq
            have hsl := at_len _ _ _ hs
            have hql := at_len _ _ _ hq
            have HBD := Lib.hid (hB.out.trans (Below.refl _ _).drew)
            have HCV := Lib.hid (HVV.out wr.drew (HB13.out.trans (HBD.out.mono HB13.out.size)) s q hsl hql)
            have HS0 := Lib.hid hs
            have HQ0 := Lib.hid hq
            have D0 : Hid (∀ U, Below u2.heap.size u2 U → U.cell? ⟨bt, ot + i, none⟩ = some (.string (bs s)) ∧ U.cell? ⟨bq, oq + k, none⟩ = some (.string (bs q))) := fun U hU => ⟨(hU.cell (p := ⟨bt, ot + i, none⟩) hbs2).trans (((hB.out.cell (p := ⟨bt, ot + i, none⟩) hbs2).symm).trans d0), (hU.cell (p := ⟨bq, oq + k, none⟩) hbq2).trans (((hB.out.cell (p := ⟨bq, oq + k, none⟩) hbq2).symm).trans d1)⟩
            clear hsl hql hs hq d0 d1 hB
            generalize hsB : bs s = sB at *
            generalize hqB : bs q = qB at *
            clear hsB hqB
            have hSK : ∀ U : World, Below u2.heap.size u2 U → U.cell? ⟨w.heap.size, 0, none⟩ = some (.int .i64 x.max) ∧ U.cell? ⟨w.heap.size, 1, none⟩ = some (.slice a1 x.ins.length c1) ∧ U.cell? ⟨w.heap.size, 2, none⟩ = some (.slice a2 x.lats.length c2) ∧ U.cell? ⟨w.heap.size, 3, none⟩ = some (.slice a3 x.outs.length c3) ∧ U.cell? ⟨w.heap.size, 4, none⟩ = some (.slice (some ⟨gb, ob, none⟩) x.bads.length c4) ∧ U.cell? ⟨w.heap.size, 5, none⟩ = some (.slice a5 x.invs.length c5) ∧ U.cell? ⟨w.heap.size, 6, none⟩ = some (.slice a6 x.ands.length c6) ∧ U.cell? ⟨w.heap.size, 7, none⟩ = some (.slice a7 x.names.length c7) ∧ U.cell? ⟨bt, ot + i, none⟩ = some (.string sB) ∧ U.cell? ⟨bq, oq + k, none⟩ = some (.string qB) := fun U hU => by
              have c := HX.out U (HB13.out.trans (hU.mono HB13.out.size))
              exact ⟨c.k0, c.k1, c.k2, c.k3, c.k4, c.k5, c.k6, c.k7, (D0.out U hU).1, (D0.out U hU).2⟩
            have hS0 := hSK _ HBD.out
            have hiI : (i : Int) < (N : Int) := by omega
            have hkI : (k : Int) < (K : Int) := by omega
            go_upto_region 10 with fail
            refine HeldAll.region (fun U : World => U.cell? ⟨w.heap.size, 0, none⟩ = some (.int .i64 x.max) ∧ U.cell? ⟨w.heap.size, 1, none⟩ = some (.slice a1 x.ins.length c1) ∧ U.cell? ⟨w.heap.size, 2, none⟩ = some (.slice a2 x.lats.length c2) ∧ U.cell? ⟨w.heap.size, 3, none⟩ = some (.slice a3 x.outs.length c3) ∧ U.cell? ⟨w.heap.size, 4, none⟩ = some (.slice (some ⟨gb, ob, none⟩) x.bads.length c4) ∧ U.cell? ⟨w.heap.size, 5, none⟩ = some (.slice a5 x.invs.length c5) ∧ U.cell? ⟨w.heap.size, 6, none⟩ = some (.slice a6 x.ands.length c6) ∧ U.cell? ⟨w.heap.size, 7, none⟩ = some (.slice a7 x.names.length c7) ∧ U.cell? ⟨bt, ot + i, none⟩ = some (.string sB) ∧ U.cell? ⟨bq, oq + k, none⟩ = some (.string qB)) (by kernel_rfl) ?_
            (refine HeldAll.take (i := 0) (oi := _) (d := some 46) (v := ?_) rfl rfl (by kernel_rfl) (by kernel_rfl) (by kernel_rfl) (fun _ _ _ h => h) (Or.inl ⟨by rfl, ?_⟩) hS0 ?_; rotate_left; (focus (intro w hSw; (try dsimp only at hSw); go_simp; (try with_reducible rfl); done)); (try simp only [Act.put, List.setIfInBounds_toArray, List.set_cons_zero, List.set_cons_succ]))
            (refine HeldAll.take (i := 1) (oi := _) (d := some 47) (v := ?_) rfl rfl (by kernel_rfl) (by kernel_rfl) (by kernel_rfl) (fun _ _ _ h => h) (Or.inl ⟨by rfl, ?_⟩) hS0 ?_; rotate_left; (focus (intro w hSw; clear hSw; go_simp; (try with_reducible rfl); done)); (try simp only [Act.put, List.setIfInBounds_toArray, List.set_cons_zero, List.set_cons_succ]))
            (refine HeldAll.take (i := 2) (oi := _) (d := some 48) (v := ?_) rfl rfl (by kernel_rfl) (by kernel_rfl) (by kernel_rfl) (fun _ _ _ h => h) (Or.inl ⟨by rfl, ?_⟩) hS0 ?_; rotate_left; (focus (intro w hSw; clear hSw; go_simp; (try with_reducible rfl); done)); (try simp only [Act.put, List.setIfInBounds_toArray, List.set_cons_zero, List.set_cons_succ]))
            (refine HeldAll.take (i := 3) (oi := _) (d := some 49) (v := ?_) rfl rfl (by kernel_rfl) (by kernel_rfl) (by kernel_rfl) (fun _ _ _ h => h) (Or.inl ⟨by rfl, ?_⟩) hS0 ?_; rotate_left; (focus (intro w hSw; clear hSw; go_simp; (try with_reducible rfl); done)); (try simp only [Act.put, List.setIfInBounds_toArray, List.set_cons_zero, List.set_cons_succ]))
            (refine HeldAll.take (i := 4) (oi := _) (d := some 50) (v := ?_) rfl rfl (by kernel_rfl) (by kernel_rfl) (by kernel_rfl) (fun _ _ _ h => h) (Or.inl ⟨by rfl, ?_⟩) hS0 ?_; rotate_left; (focus (intro w hSw; (try dsimp only at hSw); go_simp; (try with_reducible rfl); done)); (try simp only [Act.put, List.setIfInBounds_toArray, List.set_cons_zero, List.set_cons_succ]))
            (refine HeldAll.take (i := 5) (oi := _) (d := some 51) (v := ?_) rfl rfl (by kernel_rfl) (by kernel_rfl) (by kernel_rfl) (fun _ _ _ h => h) (Or.inl ⟨by rfl, ?_⟩) hS0 ?_; rotate_left; (focus (intro w hSw; clear hSw; go_simp; (try with_reducible rfl); done)); (try simp only [Act.put, List.setIfInBounds_toArray, List.set_cons_zero, List.set_cons_succ]))
            (refine HeldAll.take (i := 6) (oi := _) (d := some 52) (v := ?_) rfl rfl (by kernel_rfl) (by kernel_rfl) (by kernel_rfl) (fun _ _ _ h => h) (Or.inl ⟨by rfl, ?_⟩) hS0 ?_; rotate_left; (focus (intro w hSw; clear hSw; go_simp; (try with_reducible rfl); done)); (try simp only [Act.put, List.setIfInBounds_toArray, List.set_cons_zero, List.set_cons_succ]))
            (refine HeldAll.take (i := 7) (oi := _) (d := some 53) (v := ?_) rfl rfl (by kernel_rfl) (by kernel_rfl) (by kernel_rfl) (fun _ _ _ h => h) (Or.inl ⟨by rfl, ?_⟩) hS0 ?_; rotate_left; (focus (intro w hSw; clear hSw; go_simp; (try with_reducible rfl); done)); (try simp only [Act.put, List.setIfInBounds_toArray, List.set_cons_zero, List.set_cons_succ]))
            (refine HeldAll.take (i := 8) (oi := _) (d := some 54) (v := ?_) rfl rfl (by kernel_rfl) (by kernel_rfl) (by kernel_rfl) (fun _ _ _ h => h) (Or.inl ⟨by rfl, ?_⟩) hS0 ?_; rotate_left; (focus (intro w hSw; (try dsimp only at hSw); go_simp; (try with_reducible rfl); done)); (try simp only [Act.put, List.setIfInBounds_toArray, List.set_cons_zero, List.set_cons_succ]))
            refine HeldAll.one (i := 9) (by kernel_rfl) ?_
            refine HeldAll.opCall (i := 9) (oi := _) (d := some 55) (R := fun v w' => v = .tuple #[.string (bs (vals x s q)), .int .i64 0] ∧ Below wr.drew.heap.size wr.drew w') rfl rfl (by rfl) (by go_simp; done) (HCV.out.mono fun e w' h => ⟨_, h.1, rfl, h.2⟩) ?_
            rintro v w6 ⟨rfl, hb6⟩
            refine ⟨hSK _ (HBD.out.trans (hb6.mono HBD.out.size)), ?_⟩
            (try simp only [Act.put, List.setIfInBounds_toArray, List.set_cons_zero, List.set_cons_succ])
            have hS0 := hSK _ (HBD.out.trans (hb6.mono HBD.out.size))
            (refine HeldAll.take (i := 10) (oi := _) (d := some 45) (v := ?_) rfl rfl (by kernel_rfl) (by kernel_rfl) (by kernel_rfl) (fun _ _ _ h => h) (Or.inl ⟨by rfl, ?_⟩) hS0 ?_; rotate_left; (focus (intro w hSw; clear hSw; go_simp; (try with_reducible rfl); done)); (try simp only [Act.put, List.setIfInBounds_toArray, List.set_cons_zero, List.set_cons_succ]))
            (refine HeldAll.take (i := 11) (oi := _) (d := some 56) (v := ?_) rfl rfl (by kernel_rfl) (by kernel_rfl) (by kernel_rfl) (fun _ _ _ h => h) (Or.inl ⟨by rfl, ?_⟩) hS0 ?_; rotate_left; (focus (intro w hSw; clear hSw; go_simp; (try with_reducible rfl); done)); (try simp only [Act.put, List.setIfInBounds_toArray, List.set_cons_zero, List.set_cons_succ]))
            (refine HeldAll.take (i := 12) (oi := _) (d := some 57) (v := ?_) rfl rfl (by kernel_rfl) (by kernel_rfl) (by kernel_rfl) (fun _ _ _ h => h) (Or.inl ⟨by rfl, ?_⟩) hS0 ?_; rotate_left; (focus (intro w hSw; clear hSw; go_simp; (try with_reducible rfl); done)); (try simp only [Act.put, List.setIfInBounds_toArray, List.set_cons_zero, List.set_cons_succ]))
            (refine HeldAll.take (i := 13) (oi := _) (d := some 13) (v := ?_) rfl rfl (by kernel_rfl) (by kernel_rfl) (by kernel_rfl) (fun _ _ _ h => h) (Or.inl ⟨by rfl, ?_⟩) hS0 ?_; rotate_left; (focus (intro w hSw; clear hSw; go_simp; (try with_reducible rfl); done)); (try simp only [Act.put, List.setIfInBounds_toArray, List.set_cons_zero, List.set_cons_succ]))
            (refine HeldAll.take (i := 14) (oi := _) (d := some 14) (v := ?_) rfl rfl (by kernel_rfl) (by kernel_rfl) (by kernel_rfl) (fun _ _ _ h => h) (Or.inl ⟨by rfl, ?_⟩) hS0 ?_; rotate_left; (focus (intro w hSw; clear hSw; go_simp; (try with_reducible rfl); done)); (try simp only [Act.put, List.setIfInBounds_toArray, List.set_cons_zero, List.set_cons_succ]))
            refine HeldAll.done (by kernel_rfl) ?_ _
            clear hS0 hSK hiI hkI
            have HB6 := Lib.hid (HBD.out.trans (hb6.mono HBD.out.size))
            clear hb6 e0
            have HAC := HAV.out w6 (HB13.out.trans (HB6.out.mono HB13.out.size)) s q
            have HTQ := fun U => HTT.out U s q
            have HSTAY : Hid ((allow x A (vals x s q) = true → litV (vals x s q) bl = true → 0 ≤ best ∧ best ≤ v0) → BI x A bl out i (k + 1) best) := fun hh => bi_stay hI.out (fun s' q' v' g1 g2 g3 g4 g5 g6 => by
              rw [HS0.out] at g1; rw [HQ0.out] at g2; rw [HV0.out] at g3
              cases g1; cases g2; cases g3
              exact hh g5 g6)
            have HNEW : Hid (allow x A (vals x s q) = true → litV (vals x s q) bl = true → best < 0 ∨ v0 < best → BI x A bl out i (k + 1) v0) := fun g5 g6 hh => bi_new hI.out HSO.out HS0.out HQ0.out HV0.out hpos g5 g6 hh
            generalize hal : allow x A (vals x s q) = al at *
            generalize hlb : litV (vals x s q) bl = lb at *
            generalize bs (vals x s q) = sv at *
            have HAC2 := Lib.hid HAC
            have HTQ2 := Lib.hid HTQ
            clear hal hlb HAC HTQ hI
            have c := HX.out w6 (HB13.out.trans (HB6.out.mono HB13.out.size))
            have k0 := c.k0
            have k1 := c.k1
            have k2 := c.k2
            have k3 := c.k3
            have k4 := c.k4
            have k5 := c.k5
            have k6 := c.k6
            have k7 := c.k7
            try simp only at k0 k1 k2 k3 k4 k5 k6 k7
            clear c
            go_wp2_with fail
            with_reducible refine HAC2.out.mono ?_
            rintro e w7 ⟨rfl, hb7⟩
            have HB7 := Lib.hid (HB6.out.trans (hb7.mono HB6.out.size))
            clear k0 k1 k2 k3 k4 k5 k6 k7
            clear hb7
            have c := HX.out w7 (HB13.out.trans (HB7.out.mono HB13.out.size))
            have k4 := c.k4
            try simp only at k4
            clear c
            have eb := HBE.out w7 (HB1.out.trans ((HB13.out.trans (HB7.out.mono HB13.out.size)).mono HB1.out.size))
            have e0 := (HGX.out w7 HB7.out).at' i _ (ints_get HV0.out)
            cases al
            · skip
              have HB9 : Hid (BI x A bl out i (k + 1) best) := HSTAY.out (fun h => by cases h)
              clear HSTAY HNEW
              go_wp2_with fail
              go_roundw
              case rel => exact ⟨k + 1, best, by omega, by go_num, rfl, HB9.out, HB7.out⟩
              case measure => simp [intOf]; omega
            · cases lb
              · skip
                have HB9 : Hid (BI x A bl out i (k + 1) best) := HSTAY.out (fun _ h => by cases h)
                clear HSTAY HNEW
                go_wp2_with fail
                with_reducible refine (HTQ2.out _).mono ?_
                rintro e w8 ⟨rfl, rfl⟩
                go_wp2_with fail
                go_roundw
                case rel => exact ⟨k + 1, best, by omega, by go_num, rfl, HB9.out, HB7.out⟩
                case measure => simp [intOf]; omega
              · skip
                by_cases hb0 : best < 0
                · skip
                  have hd2 : decide (best < 0) = true := decide_eq_true hb0
                  have HB9 : Hid (BI x A bl out i (k + 1) v0) := HNEW.out rfl rfl (Or.inl hb0)
                  clear HSTAY HNEW
                  go_wp2_with fail
                  with_reducible refine (HTQ2.out _).mono ?_
                  rintro e w8 ⟨rfl, rfl⟩
                  go_wp2_with fail
                  go_roundw
                  case rel => exact ⟨k + 1, v0, by omega, by go_num, rfl, HB9.out, HB7.out⟩
                  case measure => simp [intOf]; omega
                · skip
                  have hd2 : decide (best < 0) = false := decide_eq_false hb0
                  by_cases hvb : v0 < best
                  · skip
                    have hd3 : decide (v0 < best) = true := decide_eq_true hvb
                    have HB9 : Hid (BI x A bl out i (k + 1) v0) := HNEW.out rfl rfl (Or.inr hvb)
                    clear HSTAY HNEW
                    go_wp2_with fail
                    with_reducible refine (HTQ2.out _).mono ?_
                    rintro e w8 ⟨rfl, rfl⟩
                    go_wp2_with fail
                    go_roundw
                    case rel => exact ⟨k + 1, v0, by omega, by go_num, rfl, HB9.out, HB7.out⟩
                    case measure => simp [intOf]; omega
                  · skip
                    have hd3 : decide (v0 < best) = false := decide_eq_false hvb
                    have HB9 : Hid (BI x A bl out i (k + 1) best) := HSTAY.out (fun _ _ => by omega)
                    clear HSTAY HNEW
                    go_wp2_with fail
                    with_reducible refine (HTQ2.out _).mono ?_
                    rintro e w8 ⟨rfl, rfl⟩
                    go_wp2_with fail
                    go_roundw
                    case rel => exact ⟨k + 1, best, by omega, by go_num, rfl, HB9.out, HB7.out⟩
                    case measure => simp [intOf]; omega
          · skip
            have hq0 : decide (0 ≤ v0) = false := decide_eq_false hpos
            have HRW : Hid (BI x A bl out (i + 1) 0 best) := bi_row hI.out (Or.inr (fun v hv => by rw [HV0.out] at hv; injection hv with hv; omega))
            clear hI
            go_wp2_with fail
            go_roundw
            case rel => exact ⟨i + 1, best, by omega, by go_num, rfl, HRW.out, hB.out⟩
            case measure => simp [intOf]; omega
        · skip
          have hd : decide ((k : Int) < (K : Int)) = false := decide_eq_false (by omega)
          have HRW : Hid (BI x A bl out (i + 1) 0 best) := bi_row hI.out (Or.inl (by rw [HKK.out]; omega))
          clear hI
          go_wp2_with fail
          go_roundw
          case rel => exact ⟨i + 1, best, by omega, by go_num, rfl, HRW.out, hB.out⟩
          case measure => simp [intOf]; omega
    · skip
      have HE : Hid (IsBad x A bl best) := bi_end hI.out HSO.out (by rw [HNN.out]; omega)
      go_wp2_with fail
      go_ret
      exact ⟨best, rfl, HE.out, HB1.out.trans ((HB13.out.trans (hB.out.mono HB13.out.size)).mono HB1.out.size)⟩
end BadP
end Go.Proofs.YtjmmhbmbafjneaaGreatDoor
