/-
  Several texts in one (written by merge2.py): XTells
-/
import Derived.Test.YtninglnchengeaaGreatCoiTellsM2
import Derived.Test.YtninglnchengeaaGreatOpenCirc
/-
  interlocklaw35.CoiTells: the walk.
-/
namespace Go.Proofs.YtninglnchengeaaGreat.coiTells
open Go.RowKit Base Circuit Coi StrashP LitsC
set_option linter.unusedVariables false
set_option linter.unusedSimpArgs false

def rowsI (l : List Int) : List (List Value) := l.map fun y => [.int .i64 y]
theorem rowsI_flat (l : List Int) : (rowsI l).flatten = ints l := by
  induction l with
  | nil => rfl
  | cons v r ih => unfold rowsI at ih ⊢; rw [List.map_cons, List.flatten_cons, ih]; rfl
theorem box_grown {N : Nat} {cs : List Value} {w w' : World} (h : BoxN N cs w) {row : Option Nat} (hg : w.grownBy w' row) (hne : some N ≠ row) : BoxN N cs w' := by
  have hblk := hg.block N h.lt hne
  refine ⟨Nat.lt_of_lt_of_le h.lt hg.size, fun j u hu => ?_, fun j => ?_⟩
  · exact (World.cell?_of_block (w := w) (a := ⟨N, j, none⟩) hblk).trans (h.at' j u hu)
  · exact (World.frozen?_of_block (w := w) (a := ⟨N, j, none⟩) hblk).trans (h.fz j)
theorem own_in {x : Circ} (hok : CheckOk x) : ∀ y ∈ ownL x, 0 ≤ y ∧ y ≤ 9223372036854775807 := fun y hy => by
  have h1 := (StrashP.ownOk_iff.1 hok.2.1.1).1 y hy
  have h2 := hok.1.2.1
  have h3 := h1.2.2
  have h4 := h1.1
  unfold var at h3
  omega
theorem not_strange {mx : Int} {A : List (List Int)} (h : A.any (strangeL mx) = false) : ∀ y ∈ A.flatten, 0 ≤ y := fun y hy => by
  obtain ⟨l, hl, hyl⟩ := List.mem_flatten.1 hy
  have h1 := List.any_eq_false.1 h l hl
  have h2 : oddM mx y = false := by
    cases hq : oddM mx y with
    | false => rfl
    | true => exact absurd (List.any_eq_true.2 ⟨y, hyl, hq⟩) h1
  unfold oddM at h2
  simp at h2
  omega

set_option maxRecDepth 8000 in
set_option maxHeartbeats 16000000 in
theorem walk_ok (w : World) (x : Circ) (p : At) (hin : InCirc w x p) (hw : WfC x) (aA : Option Addr) (n cA : Nat) (vals : List Value) (A : List (List Int)) (hA : Sl2 w aA n cA vals A) (hA64 : ∀ y ∈ A.flatten, Circuit.I64 y) (k : Nat) (hk : k < x.bads.length) (hok : askE x A k = 0)
    (hz1 : n ≤ 4000000) (hz2 : A.flatten.length ≤ 4000000) (hz3 : x.ands.length ≤ 4000000) :
    Calls Tryz.prog 3 #[.agg (cells x p), .slice aA n cA, .int .i64 k] w fun e w' => e = .returned (.bool true) ∧ Below w.heap.size w w' := by
  obtain ⟨W1, hW1⟩ : ∃ W1, w.alloc (.cells (cells x p) 27) = W1 := ⟨_, rfl⟩
  obtain ⟨hb1, hc1⟩ := cbox_new w x p W1 hW1
  have HB1 := Lib.hid hb1
  have HAL := Lib.hid (alive_any W1)
  have HCB := Lib.hid (fun (U : World) (hU : Below W1.heap.size W1 U) => hc1.next hU (Nat.le_refl _))
  have HIN := Lib.hid (fun (U : World) (hU : Below W1.heap.size W1 U) => (hin.next hb1).next hU)
  obtain ⟨hck, _, _, hst⟩ := askE_zero hok
  have hA0 := not_strange hst
  have HND := fun (U : World) (hU : Below W1.heap.size W1 U) => needed_ok U x p ((hin.next hb1).next hU) hw aA n cA vals A ((hA.next hb1).next hU) hA64 k hk hok hz1 hz2 hz3
  have HRD := fun (U : World) (hU : Below W1.heap.size W1 U) => reduce_ok U x p ((hin.next hb1).next hU) hw aA n cA vals A ((hA.next hb1).next hU) hA64 k hk hok hz1 hz2 hz3
  have HAK := fun (U : World) (hU : Below W1.heap.size W1 U) => lawAsked_any U x p ((hin.next hb1).next hU) hw aA n cA vals A ((hA.next hb1).next hU) hA64 k (by omega) (by have := hck.1.2.2.2.2.2.1; omega) (by omega)
  rw [hok] at HAK
  have HLN := fun (U : World) (hU : Below W1.heap.size W1 U) => lawNeeded_any U x p ((hin.next hb1).next hU) hw hck aA n cA vals A ((hA.next hb1).next hU) (fun y hy => ⟨hA0 y hy, (hA64 y hy).2⟩) k hk hz2 hz3
  have HOWN := Lib.hid (own_in hck)
  have hsz : x.ins.length ≤ 64 ∧ x.lats.length ≤ 64 ∧ x.ands.length ≤ 4000000 := ⟨hck.1.2.2.1, hck.1.2.2.2.1, hz3⟩
  have HSZ := Lib.hid hsz
  have hbm : x.bads[k] ∈ x.bads := List.getElem_mem _
  have HKL := Lib.hid hk
  obtain ⟨gb, ob, hxb, hab, hgb, hcb⟩ := hin.bads.int hk
  have hcapb := hin.bads.cap
  have hbigb := hin.bads.big
  have HBE := Lib.hid (fun (U : World) (hU : Below w.heap.size w U) => (hU.cell (p := ⟨gb, ob + k, none⟩) hgb).trans hcb)
  generalize hbl : x.bads[k] = bl at *
  obtain ⟨l, hl⟩ : ∃ l, A.flatten ++ x.invs ++ [bl] = l := ⟨_, rfl⟩
  simp only [hl] at HRD HND HLN
  obtain ⟨fI, hfI⟩ : ∃ f, x.ins.filter (fun t : Int => cnt x l t) = f := ⟨_, rfl⟩
  obtain ⟨fL, hfL⟩ : ∃ f, x.lats.filter (fun t : Tri => cnt x l t.1) = f := ⟨_, rfl⟩
  obtain ⟨fA, hfA⟩ : ∃ f, x.ands.filter (fun t : Tri => cnt x l t.1) = f := ⟨_, rfl⟩
  have hy : reduced x l bl = (⟨x.max, fI, fL, [], [bl], x.invs, fA, []⟩ : Circ) := by rw [← hfI, ← hfL, ← hfA]; rfl
  have hyok : CheckOk (⟨x.max, fI, fL, [], [bl], x.invs, fA, []⟩ : Circ) := by rw [← hy]; exact red_ok hck hbm (by rw [← hl]; simp) (fun m hm => by rw [← hl]; simp [hm])
  have hywf : WfC (⟨x.max, fI, fL, [], [bl], x.invs, fA, []⟩ : Circ) := by rw [← hy]; exact ⟨hw.mx, fun m hm => hw.ins m (List.mem_filter.1 hm).1, fun t ht => hw.lats t (List.mem_filter.1 ht).1, fun m hm => (by cases hm), fun m hm => by rw [List.mem_singleton.1 hm]; exact hw.bads bl hbm, hw.invs, fun t ht => hw.ands t (List.mem_filter.1 ht).1, fun t ht => (by cases ht)⟩
  have hya : fA.length ≤ x.ands.length := by rw [← hfA]; exact List.length_filter_le _ _
  have HSM := Lib.hid (fun U q1 q2 h1 h2 => refSame_any U (⟨x.max, fI, fL, [], [bl], x.invs, fA, []⟩ : Circ) q1 q2 h1 h2)
  have hrc : refchk (⟨x.max, fI, fL, [], [bl], x.invs, fA, []⟩ : Circ) = 0 := by rw [refchk_eq]; exact (refchk_eq _).symm.trans (refchk_pos ((check_iff _).1 hyok))
  have HRC := Lib.hid (fun U q1 h1 => refCheck_any U (⟨x.max, fI, fL, [], [bl], x.invs, fA, []⟩ : Circ) q1 h1 hywf (by show fA.length * 24 ≤ _; omega))
  rw [hrc] at HRC
  rw [hy] at HRD
  have HfI := Lib.hid hfI
  have HfL := Lib.hid hfL
  have HfA := Lib.hid hfA
  obtain ⟨a1, c1, a2, c2, a3, c3, a4, c4, a5, c5, a6, c6, a7, c7⟩ := p
  simp only [cells, List.length_nil, List.length_cons, Nat.zero_add] at hW1 HRD HND HAK HLN hab ⊢
  subst hab
  have HR := Lib.hid HRD
  have HN := Lib.hid HND
  have HK := Lib.hid HAK
  have HL := Lib.hid HLN
  clear hin hw hA hA64 hb1 hc1 hok hck hst hA0 HRD HND HAK HLN hz1 hz2 hz3 hsz hbm hxb hgb hcb hbl hl hfI hfL hfA hy hyok hywf hya hrc hk
  go_enter Tryz.func3, Tryz.ntmps3
  go_wp2_with fail
  clear hW1
  with_reducible refine HAL.out.mono ?_
  rintro e w2 ⟨rfl, hb2⟩
  have HB2 := Lib.hid hb2
  have HN2 := Lib.hid (HN.out w2 hb2)
  have hcw := HCB.out w2 hb2
  have k0 := hcw.k0
  have k1 := hcw.k1
  have k2 := hcw.k2
  have k3 := hcw.k3
  have k4 := hcw.k4
  have k5 := hcw.k5
  have k6 := hcw.k6
  have k7 := hcw.k7
  skip
  clear hb2 hcw
  go_wp2_with fail
  with_reducible refine HN2.out.mono ?_
  rintro e w3 ⟨aT, cT, T0, rfl, hsT, hT1, hT2, hb3⟩
  have hb13 := HB2.out.trans (hb3.mono HB2.out.size)
  have HB3 := Lib.hid hb13
  have HR3 := Lib.hid (HR.out w3 hb13)
  have HST := Lib.hid hsT
  have HT01 := Lib.hid hT1
  have HT02 := Lib.hid hT2
  clear k0 k1 k2 k3 k4 k5 k6 k7
  have hcw := HCB.out w3 hb13
  have k0 := hcw.k0
  have k1 := hcw.k1
  have k2 := hcw.k2
  have k3 := hcw.k3
  have k4 := hcw.k4
  have k5 := hcw.k5
  have k6 := hcw.k6
  have k7 := hcw.k7
  skip
  clear hb3 hb13 hcw hsT hT1 hT2 HN2
  go_wp2_with fail
  with_reducible refine HR3.out.mono ?_
  rintro e w4 ⟨p', rfl, hin4, hb4⟩
  obtain ⟨W5, hW5⟩ : ∃ U, w4.alloc (.cells (cells (⟨x.max, fI, fL, [], [bl], x.invs, fA, []⟩ : Circ) p') 27) = U := ⟨_, rfl⟩
  obtain ⟨hb5, hc5⟩ := cbox_new w4 (⟨x.max, fI, fL, [], [bl], x.invs, fA, []⟩ : Circ) p' W5 hW5
  have hb35 : Below w3.heap.size w3 W5 := hb4.trans (hb5.mono hb4.size)
  have hb15 : Below W1.heap.size W1 W5 := HB3.out.trans (hb35.mono HB3.out.size)
  have HB5 := Lib.hid hb15
  have HB35 := Lib.hid hb35
  have HI5 := Lib.hid (hin4.next hb5)
  obtain ⟨b1, d1, b2, d2, b3, d3, b4, d4, b5, d5, b6, d6, b7, d7⟩ := p'
  have hf0 : TH w.heap.size w4.heap.size x (⟨x.max, fI, fL, [], [bl], x.invs, fA, []⟩ : Circ) ⟨a1, c1, a2, c2, a3, c3, some ⟨gb, ob, none⟩, c4, a5, c5, a6, c6, a7, c7⟩ ⟨b1, d1, b2, d2, b3, d3, b4, d4, b5, d5, b6, d6, b7, d7⟩ W5 W5.drew := ⟨(Below.refl _ _).drew, (HCB.out W5 hb15).next (Below.refl _ _).drew (Nat.le_refl _), hc5.next (Below.refl _ _).drew (Nat.le_refl _)⟩
  have HF := th_all hf0
  have C8' := call_keep (S := fun U => TAll w.heap.size w4.heap.size x (⟨x.max, fI, fL, [], [bl], x.invs, fA, []⟩ : Circ) ⟨a1, c1, a2, c2, a3, c3, some ⟨gb, ob, none⟩, c4, a5, c5, a6, c6, a7, c7⟩ ⟨b1, d1, b2, d2, b3, d3, b4, d4, b5, d5, b6, d6, b7, d7⟩ W5 U) (fun U hU => (num_any U 0).mono fun e U' h => ⟨h.1, h.2 ▸ Below.refl _ _⟩) (fun U U' h hb => th_all (h.1.more hb))
  have C8 := Lib.hid C8'
  have C9' := call_keep (S := fun U => TAll w.heap.size w4.heap.size x (⟨x.max, fI, fL, [], [bl], x.invs, fA, []⟩ : Circ) ⟨a1, c1, a2, c2, a3, c3, some ⟨gb, ob, none⟩, c4, a5, c5, a6, c6, a7, c7⟩ ⟨b1, d1, b2, d2, b3, d3, b4, d4, b5, d5, b6, d6, b7, d7⟩ W5 U) (fun U hU => HK.out U (HB5.out.trans (hU.1.below.mono HB5.out.size))) (fun U U' h hb => th_all (h.1.more hb))
  have C9 := Lib.hid C9'
  simp only [cells, List.length_nil, List.length_cons, Nat.zero_add] at hW5 ⊢
  have HW5 := Lib.hid hW5
  clear C8' C9' hb4 hb5 hb15 hb35 hf0 k0 k1 k2 k3 k4 k5 k6 k7 hc5 hW5 hin4 HR3
  go_upto_region 5 with fail
  rw [HW5.out]
  refine Lex.region (fun w' => TAll w.heap.size w4.heap.size x (⟨x.max, fI, fL, [], [bl], x.invs, fA, []⟩ : Circ) ⟨a1, c1, a2, c2, a3, c3, some ⟨gb, ob, none⟩, c4, a5, c5, a6, c6, a7, c7⟩ ⟨b1, d1, b2, d2, b3, d3, b4, d4, b5, d5, b6, d6, b7, d7⟩ W5 w') (by kernel_rfl) (by kernel_rfl) HF ?_
  (refine Lex.step_val (v := ?_) ?_ (fun w' hSw => ?_) ?_; rotate_left; (focus rfl); (focus (clear hSw; go_simp; (try with_reducible rfl); done)); (try simp only [Act.put, List.setIfInBounds_toArray, List.set_cons_zero, List.set_cons_succ]))
  (refine Lex.step_call (v := ?_) (f := ?_) (args := ?_) ?_ (fun w' hSw => ?_) ?_ ?_; rotate_left 3; (focus rfl); (focus (clear hSw; go_simp; (refine And.intro ?_ ?_ <;> with_reducible rfl); done)); (focus (first | with_reducible exact C8.out | with_reducible exact C9.out)); (try simp only [Act.put, List.setIfInBounds_toArray, List.set_cons_zero, List.set_cons_succ]))
  (refine Lex.step_val (v := ?_) ?_ (fun w' hSw => ?_) ?_; rotate_left; (focus rfl); (focus ((try dsimp only at hSw); go_simp; (try with_reducible rfl); done)); (try simp only [Act.put, List.setIfInBounds_toArray, List.set_cons_zero, List.set_cons_succ]))
  (refine Lex.step_val (v := ?_) ?_ (fun w' hSw => ?_) ?_; rotate_left; (focus rfl); (focus (clear hSw; go_simp; (try with_reducible rfl); done)); (try simp only [Act.put, List.setIfInBounds_toArray, List.set_cons_zero, List.set_cons_succ]))
  (refine Lex.step_val (v := ?_) ?_ (fun w' hSw => ?_) ?_; rotate_left; (focus rfl); (focus (clear hSw; go_simp; (try with_reducible rfl); done)); (try simp only [Act.put, List.setIfInBounds_toArray, List.set_cons_zero, List.set_cons_succ]))
  (refine Lex.step_call (v := ?_) (f := ?_) (args := ?_) ?_ (fun w' hSw => ?_) ?_ ?_; rotate_left 3; (focus rfl); (focus (clear hSw; go_simp; (refine And.intro ?_ ?_ <;> with_reducible rfl); done)); (focus (first | with_reducible exact C8.out | with_reducible exact C9.out)); (try simp only [Act.put, List.setIfInBounds_toArray, List.set_cons_zero, List.set_cons_succ]))
  (refine Lex.step_val (v := ?_) ?_ (fun w' hSw => ?_) ?_; rotate_left; (focus rfl); (focus (clear hSw; go_simp; (try with_reducible rfl); done)); (try simp only [Act.put, List.setIfInBounds_toArray, List.set_cons_zero, List.set_cons_succ]))
  (refine Lex.step_val (v := ?_) ?_ (fun w' hSw => ?_) ?_; rotate_left; (focus rfl); (focus (clear hSw; go_simp; (try with_reducible rfl); done)); (try simp only [Act.put, List.setIfInBounds_toArray, List.set_cons_zero, List.set_cons_succ]))
  (refine Lex.step_val (v := ?_) ?_ (fun w' hSw => ?_) ?_; rotate_left; (focus (go_simp; done)); (focus (clear hSw; go_simp; (try with_reducible rfl); done)); (try simp only [Act.put, List.setIfInBounds_toArray, List.set_cons_zero, List.set_cons_succ]))
  (refine Lex.step_val (v := ?_) ?_ (fun w' hSw => ?_) ?_; rotate_left; (focus (go_simp; done)); (focus (clear hSw; go_simp; (try with_reducible rfl); done)); (try simp only [Act.put, List.setIfInBounds_toArray, List.set_cons_zero, List.set_cons_succ]))
  (refine Lex.step_val (v := ?_) ?_ (fun w' hSw => ?_) ?_; rotate_left; (focus (go_simp; done)); (focus (clear hSw; go_simp; (try with_reducible rfl); done)); (try simp only [Act.put, List.setIfInBounds_toArray, List.set_cons_zero, List.set_cons_succ]))
  (refine Lex.step_val (v := ?_) ?_ (fun w' hSw => ?_) ?_; rotate_left; (focus rfl); (focus (clear hSw; go_simp; (try with_reducible rfl); done)); (try simp only [Act.put, List.setIfInBounds_toArray, List.set_cons_zero, List.set_cons_succ]))
  refine Lex.step_nil ?_
  intro W6 hz
  have h56 := hz.1.below
  have h16 : Below W1.heap.size W1 W6 := HB5.out.trans (h56.mono HB5.out.size)
  have HB6 := Lib.hid h16
  have HBx := Lib.hid (fun (U : World) (hU : Below W6.heap.size W6 U) => h16.trans (hU.mono h16.size))
  have HCB6 := Lib.hid (fun (U : World) (hU : Below W6.heap.size W6 U) => HCB.out U (HBx.out U hU))
  have HIN6 := Lib.hid (fun (U : World) (hU : Below W6.heap.size W6 U) => HIN.out U (HBx.out U hU))
  have HCD6 := Lib.hid (fun (U : World) (hU : Below W6.heap.size W6 U) => hz.1.b3.next hU (Nat.le_refl _))
  have HID6 := Lib.hid (fun (U : World) (hU : Below W6.heap.size W6 U) => (HI5.out.next h56).next hU)
  have h36 : Below w3.heap.size w3 W6 := HB35.out.trans (h56.mono HB35.out.size)
  have HLS6 := Lib.hid (fun (U : World) (hU : Below W6.heap.size W6 U) => (HST.out.next h36).next hU)
  have HLN6 := Lib.hid (fun (U : World) (hU : Below W6.heap.size W6 U) => HL.out U (HBx.out U hU))
  have HBE6 := Lib.hid (fun (U : World) (hU : Below W6.heap.size W6 U) => HBE.out U (HB1.out.trans ((HBx.out U hU).mono HB1.out.size)))
  clear hz HF h56 h16 h36 HW5 C8 C9
  go_upto_region 9 with fail
  go_cut [11] from 54 to 65 (fun u11 wx => ∃ (N gB : Nat), u11 = .pointer (some ⟨N, 0, none⟩) ∧ Hid (W6.heap.size ≤ N) ∧ Hid (BoxN N [.int .i64 x.max, .slice none 0 0, .slice none 0 0, .slice none 0 0, .slice (some ⟨gB, 0, none⟩) 1 1, .slice a5 x.invs.length c5, .slice none 0 0, .slice none 0 0] wx) ∧ Hid (wx.ownsRow W6.heap.size 3 1 (.slice (some ⟨gB, 0, none⟩) 1 1) 1 (ints [bl])) ∧ Hid ((Value.slice (some ⟨gB, 0, none⟩) 1 1).ownBlock ≠ some N) ∧ Hid (Below W6.heap.size W6 wx))
  case first =>
    have hSK : ∀ U : World, Below W6.heap.size W6 U → U.cell? ⟨w.heap.size, 0, none⟩ = some (.int .i64 x.max) ∧ U.cell? ⟨w.heap.size, 4, none⟩ = some (.slice (some ⟨gb, ob, none⟩) x.bads.length c4) ∧ U.cell? ⟨w.heap.size, 5, none⟩ = some (.slice a5 x.invs.length c5) ∧ U.cell? ⟨gb, ob + k, none⟩ = some (.int .i64 bl) := fun U hU => by
      have c := HCB6.out U hU
      exact ⟨c.k0, c.k4, c.k5, HBE6.out U hU⟩
    have b00 : Below W6.heap.size W6 W6.drew := (Below.refl _ _).drew
    have hkl : (k : Int) < (x.bads.length : Int) := by have := HKL.out; omega
    refine HeldAll.region (fun U : World => U.cell? ⟨w.heap.size, 0, none⟩ = some (.int .i64 x.max) ∧ U.cell? ⟨w.heap.size, 4, none⟩ = some (.slice (some ⟨gb, ob, none⟩) x.bads.length c4) ∧ U.cell? ⟨w.heap.size, 5, none⟩ = some (.slice a5 x.invs.length c5) ∧ U.cell? ⟨gb, ob + k, none⟩ = some (.int .i64 bl)) (by kernel_rfl) ?_
    obtain ⟨u0, hu0⟩ : ∃ U, W6.drew = U := ⟨_, rfl⟩
    rw [hu0]
    have b0 : Below W6.heap.size W6 u0 := by rw [← hu0]; exact b00
    have hS0 := hSK _ b0
    (refine HeldAll.take (i := 0) (oi := _) (d := some 54) (v := ?_) rfl rfl (by kernel_rfl) (by kernel_rfl) (by kernel_rfl) (fun _ _ _ h => h) (Or.inl ⟨by rfl, ?_⟩) hS0 ?_; rotate_left; (focus (intro w hSw; clear hSw; go_simp; (try with_reducible rfl); done)); (try simp only [Act.put, List.setIfInBounds_toArray, List.set_cons_zero, List.set_cons_succ]))
    (refine HeldAll.take (i := 1) (oi := _) (d := some 55) (v := ?_) rfl rfl (by kernel_rfl) (by kernel_rfl) (by kernel_rfl) (fun _ _ _ h => h) (Or.inl ⟨by rfl, ?_⟩) hS0 ?_; rotate_left; (focus (intro w hSw; (try dsimp only at hSw); go_simp; (try with_reducible rfl); done)); (try simp only [Act.put, List.setIfInBounds_toArray, List.set_cons_zero, List.set_cons_succ]))
    (refine HeldAll.take (i := 2) (oi := _) (d := some 56) (v := ?_) rfl rfl (by kernel_rfl) (by kernel_rfl) (by kernel_rfl) (fun _ _ _ h => h) (Or.inl ⟨by rfl, ?_⟩) hS0 ?_; rotate_left; (focus (intro w hSw; clear hSw; go_simp; (try with_reducible rfl); done)); (try simp only [Act.put, List.setIfInBounds_toArray, List.set_cons_zero, List.set_cons_succ]))
    (refine HeldAll.take (i := 3) (oi := _) (d := some 57) (v := ?_) rfl rfl (by kernel_rfl) (by kernel_rfl) (by kernel_rfl) (fun _ _ _ h => h) (Or.inl ⟨by rfl, ?_⟩) hS0 ?_; rotate_left; (focus (intro w hSw; (try dsimp only at hSw); go_simp; (try with_reducible rfl); done)); (try simp only [Act.put, List.setIfInBounds_toArray, List.set_cons_zero, List.set_cons_succ]))
    (refine HeldAll.take (i := 4) (oi := _) (d := some 58) (v := ?_) rfl rfl (by kernel_rfl) (by kernel_rfl) (by kernel_rfl) (fun _ _ _ h => h) (Or.inl ⟨by rfl, ?_⟩) hS0 ?_; rotate_left; (focus (intro w hSw; clear hSw; go_simp; (try with_reducible rfl); done)); (try simp only [Act.put, List.setIfInBounds_toArray, List.set_cons_zero, List.set_cons_succ]))
    (refine HeldAll.take (i := 5) (oi := _) (d := some 59) (v := ?_) rfl rfl (by kernel_rfl) (by kernel_rfl) (by kernel_rfl) (fun _ _ _ h => h) (Or.inl ⟨by rfl, ?_⟩) hS0 ?_; rotate_left; (focus (intro w hSw; clear hSw; go_simp; (try with_reducible rfl); done)); (try simp only [Act.put, List.setIfInBounds_toArray, List.set_cons_zero, List.set_cons_succ]))
    (refine HeldAll.take (i := 6) (oi := _) (d := some 60) (v := ?_) rfl rfl (by kernel_rfl) (by kernel_rfl) (by kernel_rfl) (fun _ _ _ h => h) (Or.inl ⟨by rfl, ?_⟩) hS0 ?_; rotate_left; (focus (intro w hSw; (try dsimp only at hSw); go_simp; (try with_reducible rfl); done)); (try simp only [Act.put, List.setIfInBounds_toArray, List.set_cons_zero, List.set_cons_succ]))
    (refine HeldAll.take (i := 8) (oi := _) (d := some 62) (v := ?_) rfl rfl (by kernel_rfl) (by kernel_rfl) (by kernel_rfl) (fun _ _ _ h => h) (Or.inl ⟨by rfl, ?_⟩) hS0 ?_; rotate_left; (focus (intro w hSw; clear hSw; go_simp; (try with_reducible rfl); done)); (try simp only [Act.put, List.setIfInBounds_toArray, List.set_cons_zero, List.set_cons_succ]))
    (refine HeldAll.take (i := 9) (oi := _) (d := some 63) (v := ?_) rfl rfl (by kernel_rfl) (by kernel_rfl) (by kernel_rfl) (fun _ _ _ h => h) (Or.inl ⟨by rfl, ?_⟩) hS0 ?_; rotate_left; (focus (intro w hSw; (try dsimp only at hSw); go_simp; (try with_reducible rfl); done)); (try simp only [Act.put, List.setIfInBounds_toArray, List.set_cons_zero, List.set_cons_succ]))
    refine HeldAll.two (i := 7) (j := 11) (by kernel_rfl) ?_ ?_
    · skip
      obtain ⟨u1, hu1⟩ : ∃ V, u0.alloc (.cells #[.int .i64 bl] 3) = V := ⟨_, rfl⟩
      have su1 : Below u0.heap.size u0 u1 := by rw [← hu1]; exact (Below.refl _ _).alloc (Nat.le_refl _) _
      have bu1 : Below W6.heap.size W6 u1 := b0.trans (su1.mono b0.size)
      have oB0 : u1.ownsRow u0.heap.size 3 1 (.slice (some ⟨u0.heap.size, 0, none⟩) 1 1) 1 (ints [bl]) := by rw [← hu1]; exact World.ownsRow_lit u0 #[.int .i64 bl] 1 (Nat.le_refl _) (by unfold maxLen; omega) rfl
      refine HeldAll.opVal (i := 7) (oi := _) (d := some 61) (v := .slice (some ⟨u0.heap.size, 0, none⟩) 1 1) (w2 := u1) rfl rfl (by rfl) (by rw [← hu1]; go_simp; done) (hSK _ bu1) ?_
      (try simp only [Act.put, List.setIfInBounds_toArray, List.set_cons_zero, List.set_cons_succ])
      refine HeldAll.take (i := 10) (oi := _) (d := some 64) (v := .agg #[.int .i64 x.max, .slice none 0 0, .slice none 0 0, .slice none 0 0, .slice (some ⟨u0.heap.size, 0, none⟩) 1 1, .slice a5 x.invs.length c5, .slice none 0 0, .slice none 0 0]) rfl rfl (by kernel_rfl) (by kernel_rfl) (by kernel_rfl) (fun _ _ _ h => h) (Or.inl ⟨by rfl, fun w hSw => by clear hSw; go_simp; done⟩) (hSK _ bu1) ?_
      (try simp only [Act.put, List.setIfInBounds_toArray, List.set_cons_zero, List.set_cons_succ])
      refine HeldAll.one (i := 11) (by kernel_rfl) ?_
      obtain ⟨u2, hu2⟩ : ∃ V, u1.alloc (.cells #[.int .i64 0, .slice none 0 0, .slice none 0 0, .slice none 0 0, .slice none 0 0, .slice none 0 0, .slice none 0 0, .slice none 0 0] 27) = V := ⟨_, rfl⟩
      have su2 : Below u1.heap.size u1 u2 := by rw [← hu2]; exact (Below.refl _ _).alloc (Nat.le_refl _) _
      have bu2 : Below W6.heap.size W6 u2 := bu1.trans (su2.mono bu1.size)
      have bx : BoxN u1.heap.size [.int .i64 0, .slice none 0 0, .slice none 0 0, .slice none 0 0, .slice none 0 0, .slice none 0 0, .slice none 0 0, .slice none 0 0] u2 := by rw [← hu2]; exact BoxN.new u1 _ _
      have oB := own_next oB0 su2
      have nB := own_not oB0 (Nat.le_refl u1.heap.size)
      have geN : W6.heap.size ≤ u1.heap.size := bu1.size
      refine HeldAll.opVal (i := 11) (oi := _) (d := some 11) (v := .pointer (some ⟨u1.heap.size, 0, none⟩)) (w2 := u2) rfl rfl (by rfl) (by rw [← hu2]; go_simp; done) (hSK _ bu2) ?_
      (try simp only [Act.put, List.setIfInBounds_toArray, List.set_cons_zero, List.set_cons_succ])
      have y0 := bx.at' 0 _ rfl
      have z0 := bx.fz 0
      have y1 := bx.at' 1 _ rfl
      have z1 := bx.fz 1
      have y2 := bx.at' 2 _ rfl
      have z2 := bx.fz 2
      have y3 := bx.at' 3 _ rfl
      have z3 := bx.fz 3
      have y4 := bx.at' 4 _ rfl
      have z4 := bx.fz 4
      have y5 := bx.at' 5 _ rfl
      have z5 := bx.fz 5
      have y6 := bx.at' 6 _ rfl
      have z6 := bx.fz 6
      have y7 := bx.at' 7 _ rfl
      have z7 := bx.fz 7
      refine HeldAll.one (i := 12) (by kernel_rfl) ?_
      refine HeldAll.opStore (i := 12) (oi := _) (d := none) (w2 := (((((((((u2.setCell ⟨u1.heap.size, 0, none⟩ (.int .i64 x.max)).setCell ⟨u1.heap.size, 1, none⟩ (.slice none 0 0)).setCell ⟨u1.heap.size, 2, none⟩ (.slice none 0 0)).setCell ⟨u1.heap.size, 3, none⟩ (.slice none 0 0)).setCell ⟨u1.heap.size, 4, none⟩ (.slice (some ⟨u0.heap.size, 0, none⟩) 1 1)).setCell ⟨u1.heap.size, 5, none⟩ (.slice a5 x.invs.length c5)).setCell ⟨u1.heap.size, 6, none⟩ (.slice none 0 0)).setCell ⟨u1.heap.size, 7, none⟩ (.slice none 0 0)))) rfl rfl (by rfl) (by go_simp; done) (hSK _ (below_set8 bu2 geN (.int .i64 x.max) (.slice none 0 0) (.slice none 0 0) (.slice none 0 0) (.slice (some ⟨u0.heap.size, 0, none⟩) 1 1) (.slice a5 x.invs.length c5) (.slice none 0 0) (.slice none 0 0))) ?_
      (try simp only [Act.put, List.setIfInBounds_toArray, List.set_cons_zero, List.set_cons_succ])
      refine HeldAll.done (by kernel_rfl) ?_ _
      (try go_wp2_with fail)
      go_meet
      exact ⟨u1.heap.size, u0.heap.size, rfl, geN, box_set8 bx (.int .i64 x.max) (.slice none 0 0) (.slice none 0 0) (.slice none 0 0) (.slice (some ⟨u0.heap.size, 0, none⟩) 1 1) (.slice a5 x.invs.length c5) (.slice none 0 0) (.slice none 0 0), own_set8 (own_mono oB b0.size) nB (.int .i64 x.max) (.slice none 0 0) (.slice none 0 0) (.slice none 0 0) (.slice (some ⟨u0.heap.size, 0, none⟩) 1 1) (.slice a5 x.invs.length c5) (.slice none 0 0) (.slice none 0 0), nB, below_set8 bu2 geN (.int .i64 x.max) (.slice none 0 0) (.slice none 0 0) (.slice none 0 0) (.slice (some ⟨u0.heap.size, 0, none⟩) 1 1) (.slice a5 x.invs.length c5) (.slice none 0 0) (.slice none 0 0)⟩
    · skip
      obtain ⟨u1, hu1⟩ : ∃ V, u0.alloc (.cells #[.int .i64 0, .slice none 0 0, .slice none 0 0, .slice none 0 0, .slice none 0 0, .slice none 0 0, .slice none 0 0, .slice none 0 0] 27) = V := ⟨_, rfl⟩
      have su1 : Below u0.heap.size u0 u1 := by rw [← hu1]; exact (Below.refl _ _).alloc (Nat.le_refl _) _
      have bu1 : Below W6.heap.size W6 u1 := b0.trans (su1.mono b0.size)
      have bx0 : BoxN u0.heap.size [.int .i64 0, .slice none 0 0, .slice none 0 0, .slice none 0 0, .slice none 0 0, .slice none 0 0, .slice none 0 0, .slice none 0 0] u1 := by rw [← hu1]; exact BoxN.new u0 _ _
      have geN : W6.heap.size ≤ u0.heap.size := b0.size
      refine HeldAll.opVal (i := 11) (oi := _) (d := some 11) (v := .pointer (some ⟨u0.heap.size, 0, none⟩)) (w2 := u1) rfl rfl (by rfl) (by rw [← hu1]; go_simp; done) (hSK _ bu1) ?_
      (try simp only [Act.put, List.setIfInBounds_toArray, List.set_cons_zero, List.set_cons_succ])
      refine HeldAll.one (i := 7) (by kernel_rfl) ?_
      obtain ⟨u2, hu2⟩ : ∃ V, u1.alloc (.cells #[.int .i64 bl] 3) = V := ⟨_, rfl⟩
      have su2 : Below u1.heap.size u1 u2 := by rw [← hu2]; exact (Below.refl _ _).alloc (Nat.le_refl _) _
      have bu2 : Below W6.heap.size W6 u2 := bu1.trans (su2.mono bu1.size)
      have oB : u2.ownsRow u1.heap.size 3 1 (.slice (some ⟨u1.heap.size, 0, none⟩) 1 1) 1 (ints [bl]) := by rw [← hu2]; exact World.ownsRow_lit u1 #[.int .i64 bl] 1 (Nat.le_refl _) (by unfold maxLen; omega) rfl
      have nB := own_not' oB bx0.lt
      have bx := bx0.next su2 bx0.lt
      refine HeldAll.opVal (i := 7) (oi := _) (d := some 61) (v := .slice (some ⟨u1.heap.size, 0, none⟩) 1 1) (w2 := u2) rfl rfl (by rfl) (by rw [← hu2]; go_simp; done) (hSK _ bu2) ?_
      (try simp only [Act.put, List.setIfInBounds_toArray, List.set_cons_zero, List.set_cons_succ])
      refine HeldAll.take (i := 10) (oi := _) (d := some 64) (v := .agg #[.int .i64 x.max, .slice none 0 0, .slice none 0 0, .slice none 0 0, .slice (some ⟨u1.heap.size, 0, none⟩) 1 1, .slice a5 x.invs.length c5, .slice none 0 0, .slice none 0 0]) rfl rfl (by kernel_rfl) (by kernel_rfl) (by kernel_rfl) (fun _ _ _ h => h) (Or.inl ⟨by rfl, fun w hSw => by clear hSw; go_simp; done⟩) (hSK _ bu2) ?_
      (try simp only [Act.put, List.setIfInBounds_toArray, List.set_cons_zero, List.set_cons_succ])
      have y0 := bx.at' 0 _ rfl
      have z0 := bx.fz 0
      have y1 := bx.at' 1 _ rfl
      have z1 := bx.fz 1
      have y2 := bx.at' 2 _ rfl
      have z2 := bx.fz 2
      have y3 := bx.at' 3 _ rfl
      have z3 := bx.fz 3
      have y4 := bx.at' 4 _ rfl
      have z4 := bx.fz 4
      have y5 := bx.at' 5 _ rfl
      have z5 := bx.fz 5
      have y6 := bx.at' 6 _ rfl
      have z6 := bx.fz 6
      have y7 := bx.at' 7 _ rfl
      have z7 := bx.fz 7
      refine HeldAll.one (i := 12) (by kernel_rfl) ?_
      refine HeldAll.opStore (i := 12) (oi := _) (d := none) (w2 := (((((((((u2.setCell ⟨u0.heap.size, 0, none⟩ (.int .i64 x.max)).setCell ⟨u0.heap.size, 1, none⟩ (.slice none 0 0)).setCell ⟨u0.heap.size, 2, none⟩ (.slice none 0 0)).setCell ⟨u0.heap.size, 3, none⟩ (.slice none 0 0)).setCell ⟨u0.heap.size, 4, none⟩ (.slice (some ⟨u1.heap.size, 0, none⟩) 1 1)).setCell ⟨u0.heap.size, 5, none⟩ (.slice a5 x.invs.length c5)).setCell ⟨u0.heap.size, 6, none⟩ (.slice none 0 0)).setCell ⟨u0.heap.size, 7, none⟩ (.slice none 0 0)))) rfl rfl (by rfl) (by go_simp; done) (hSK _ (below_set8 bu2 geN (.int .i64 x.max) (.slice none 0 0) (.slice none 0 0) (.slice none 0 0) (.slice (some ⟨u1.heap.size, 0, none⟩) 1 1) (.slice a5 x.invs.length c5) (.slice none 0 0) (.slice none 0 0))) ?_
      (try simp only [Act.put, List.setIfInBounds_toArray, List.set_cons_zero, List.set_cons_succ])
      refine HeldAll.done (by kernel_rfl) ?_ _
      (try go_wp2_with fail)
      go_meet
      exact ⟨u0.heap.size, u1.heap.size, rfl, geN, box_set8 bx (.int .i64 x.max) (.slice none 0 0) (.slice none 0 0) (.slice none 0 0) (.slice (some ⟨u1.heap.size, 0, none⟩) 1 1) (.slice a5 x.invs.length c5) (.slice none 0 0) (.slice none 0 0), own_set8 (own_mono oB bu1.size) nB (.int .i64 x.max) (.slice none 0 0) (.slice none 0 0) (.slice none 0 0) (.slice (some ⟨u1.heap.size, 0, none⟩) 1 1) (.slice a5 x.invs.length c5) (.slice none 0 0) (.slice none 0 0), nB, below_set8 bu2 geN (.int .i64 x.max) (.slice none 0 0) (.slice none 0 0) (.slice none 0 0) (.slice (some ⟨u1.heap.size, 0, none⟩) 1 1) (.slice a5 x.invs.length c5) (.slice none 0 0) (.slice none 0 0)⟩
  case rest =>
    obtain ⟨N, gB, rfl, hgeN, hbx, hgo, hgn, hbN⟩ := hcut
    generalize wc = w7 at *
    have hcw := HCB6.out w7 hbN
    have k0 := hcw.k0
    have k1 := hcw.k1
    have k2 := hcw.k2
    have k3 := hcw.k3
    have k4 := hcw.k4
    have k5 := hcw.k5
    have k6 := hcw.k6
    have k7 := hcw.k7
    skip
    have HC7 := Lib.hid (HLN6.out w7 hbN)
    have HX7 := Lib.hid hbx.out
    have HGO := Lib.hid hgo.out
    have HGN := Lib.hid hgeN.out
    have HGG := Lib.hid hgn.out
    have HB7 := Lib.hid hbN.out
    clear hcw hgeN hbx hgo hgn hbN
    simp only at k0 k1 k2 k3 k4 k5 k6 k7
    go_wp2_with fail
    with_reducible refine HC7.out.mono ?_
    rintro e w8 ⟨aN, cN, T, rfl, hTo, hT1, hT2, hb8⟩
    have HX1 := Lib.hid (HX7.out.next hb8 HX7.out.lt)
    have HBS1 := Lib.hid (HB7.out.trans (hb8.mono HB7.out.size))
    have HNL1 : Hid (N < w8.heap.size) := HX1.out.lt
    have HT1 := Lib.hid hTo
    have HTN : Hid ((Value.slice aN T.length cN).ownBlock ≠ some N) := own_not' hTo HX7.out.lt
    have HGO1 := Lib.hid (own_next HGO.out hb8)
    have HEQ : Hid (T0 = T) := RefS.strict_ext HT01.out hT1 (fun v => (HT02.out v).trans (hT2 v).symm)
    have HFC : Hid (∀ m, tt (var m ∈ T) = cnt x l m) := fun m => by unfold cnt; exact tt_congr (hT2 (var m))
    clear hTo hT1 hT2 hb8 k0 k1 k2 k3 k4 k5 k6 k7 HC7 HX7 HGO
    go_wp2_with fail
    go_loopw [13] (fun u wx => ∃ (i : Nat) (aI : Option Addr) (cI : Nat), i ≤ x.ins.length ∧ u = .int .i64 i ∧ Hid (BoxN N [.int .i64 x.max, .slice aI ((x.ins.take i).filter (fun t : Int => cnt x l t)).length cI, .slice none 0 0, .slice none 0 0, .slice (some ⟨gB, 0, none⟩) 1 1, .slice a5 x.invs.length c5, .slice none 0 0, .slice none 0 0] wx) ∧ Hid (wx.ownsRow w8.heap.size 3 1 (.slice aI ((x.ins.take i).filter (fun t : Int => cnt x l t)).length cI) ((x.ins.take i).filter (fun t : Int => cnt x l t)).length ((rowsI ((x.ins.take i).filter (fun t : Int => cnt x l t)))).flatten) ∧ Hid (OffB N w8 wx)) (fun u _ => x.ins.length - (intOf u).toNat)
    case atStart => exact ⟨0, none, 0, Nat.zero_le _, rfl, HX1.out, World.ownsRow_nil _ _ _ _, OffB.refl _ _⟩
    case round =>
      obtain ⟨i, g1, h1, hi, rfl, hbx, hrow, hoff⟩ := hrel
      have hbw : Below W6.heap.size W6 wr := hoff.out.base HBS1.out HBS1.out.size HGN.out
      have HBW := Lib.hid hbw
      have m1 := (HCB6.out wr hbw).k1
      have hla := (HIN6.out W6 (Below.refl _ _)).ins
      have hca := hla.cap
      have hga := hla.big
      simp only at m1 hca hga
      by_cases hlt : i < x.ins.length
      · skip
        obtain ⟨bt, ot, hxt, hae, hbt, d0'⟩ := hla.int hlt
        simp only at hae
        subst hae
        have hlit : 0 ≤ x.ins[i] ∧ x.ins[i] ≤ 9223372036854775807 := HOWN.out _ (by unfold ownL; exact List.mem_append_left _ (List.mem_append_left _ (List.getElem_mem hxt)))
        obtain ⟨vq, hvq, hvq2⟩ : ∃ v : Int, Int.tdiv x.ins[i] 2 = v ∧ v = var x.ins[i] := ⟨_, rfl, by unfold var; rw [Int.max_eq_left hlit.1]; exact Int.tdiv_eq_ediv_of_nonneg hlit.1⟩
        have hwq : IntKind.i64.wrap vq = vq := IntWalk.i64_in _ (by rw [hvq2]; unfold var; omega)
        have HHAS := Lib.hid (Circuit.has_any wr aN T.length cN T (own_sl' (hoff.out.own HT1.out HTN.out)) vq)
        rw [hvq2, HFC.out x.ins[i], ← hvq2] at HHAS
        have HNX : Hid (((x.ins.take (i + 1)).filter (fun t : Int => cnt x l t)) = ((x.ins.take i).filter (fun t : Int => cnt x l t)) ++ if cnt x l x.ins[i] = true then [x.ins[i]] else []) := by
          show _ = _
          rw [List.take_succ_eq_append_getElem hxt, List.filter_append]
          by_cases h : cnt x l x.ins[i] = true <;> simp [h]
        have HEL : Hid (∀ U, Below W6.heap.size W6 U → U.cell? ⟨bt, ot + i, none⟩ = some (.int .i64 x.ins[i])) := fun U hU => (hU.cell (p := ⟨bt, ot + i, none⟩) hbt).trans d0'
        obtain ⟨fi, hfi⟩ : ∃ f9, ((x.ins.take i).filter (fun t : Int => cnt x l t)) = f9 := ⟨_, rfl⟩
        rw [hfi] at HNX hbx hrow
        have HCN : Hid (cnt x l x.ins[i] = cnt x l x.ins[i]) := rfl
        generalize hm : x.ins[i] = t at *
        clear hfi hm hlit hvq2 d0' hla
        have hel := HEL.out wr HBW.out
        have d0 := hel
        clear hel
        by_cases hin : cnt x l t = true
        · skip
          have HN2 := HNX
          rw [if_pos hin] at HN2
          rw [hin] at HHAS
          clear hin HNX HCN
          have hfl : fi.length ≤ i := by
            have h := congrArg List.length HN2.out
            have h2 := List.length_filter_le (fun t : Int => cnt x l t) (x.ins.take (i + 1))
            rw [List.length_take] at h2
            simp only [List.length_append, List.length_singleton] at h
            omega
          have HFLE := Lib.hid hfl
          clear hfl
          go_upto_region 15 with fail
          with_reducible refine HHAS.out.mono ?_
          rintro e wx ⟨rfl, rfl⟩
          go_upto_region 15 with fail
          have hSK : ∀ U : World, BoxN N [.int .i64 x.max, .slice g1 fi.length h1, .slice none 0 0, .slice none 0 0, .slice (some ⟨gB, 0, none⟩) 1 1, .slice a5 x.invs.length c5, .slice none 0 0, .slice none 0 0] U → Below W6.heap.size W6 U → U.cell? ⟨N, 1, none⟩ = some (.slice g1 fi.length h1) ∧ U.cell? ⟨w.heap.size, 1, none⟩ = some (.slice (some ⟨bt, ot, none⟩) x.ins.length c1) ∧ U.cell? ⟨bt, ot + i, none⟩ = some (.int .i64 t) := fun U hx hU => ⟨hx.at' 1 _ rfl, (HCB6.out U hU).k1, HEL.out U hU⟩
          have hlt2 : (i : Int) < (x.ins.length : Int) := by omega
          refine HeldTo.region (fun U : World => U.cell? ⟨N, 1, none⟩ = some (.slice g1 fi.length h1) ∧ U.cell? ⟨w.heap.size, 1, none⟩ = some (.slice (some ⟨bt, ot, none⟩) x.ins.length c1) ∧ U.cell? ⟨bt, ot + i, none⟩ = some (.int .i64 t)) 10 (by kernel_rfl) ?_
          obtain ⟨u0, hu0⟩ : ∃ U, wr.drew = U := ⟨_, rfl⟩
          rw [hu0]
          have s0 : Below wr.heap.size wr u0 := by rw [← hu0]; exact (Below.refl _ _).drew
          have off0 := hoff.out.below s0
          have bx0 := hbx.out.next s0 hbx.out.lt
          have ro0 := own_next hrow.out s0
          have bw0 : Below W6.heap.size W6 u0 := off0.base HBS1.out HBS1.out.size HGN.out
          have hS0 := hSK _ bx0 bw0
          (refine HeldTo.plain (i := 0) (oi := _) (d := some 84) (v := ?_) rfl rfl (by kernel_rfl) (by kernel_rfl) (by kernel_rfl) (by kernel_rfl) (fun _ _ _ h => h) (Or.inl ⟨by rfl, ?_⟩) (fun _ => hS0) ?_; rotate_left; (focus (intro w hSw; clear hSw; go_simp; (try with_reducible rfl); done)); (try simp only [Act.put, List.setIfInBounds_toArray, List.set_cons_zero, List.set_cons_succ]))
          (refine HeldTo.take (i := 1) (oi := _) (d := some 85) (v := ?_) rfl rfl (by kernel_rfl) (by kernel_rfl) (by kernel_rfl) (by kernel_rfl) (by kernel_rfl) (by kernel_rfl) (fun _ _ _ h => h) (Or.inl ⟨by rfl, ?_⟩) hS0 ?_; rotate_left; (focus (intro w hSw; (try dsimp only at hSw); go_simp; (try with_reducible rfl); done)); (try simp only [Act.put, List.setIfInBounds_toArray, List.set_cons_zero, List.set_cons_succ]))
          (refine HeldTo.plain (i := 2) (oi := _) (d := some 86) (v := ?_) rfl rfl (by kernel_rfl) (by kernel_rfl) (by kernel_rfl) (by kernel_rfl) (fun _ _ _ h => h) (Or.inl ⟨by rfl, ?_⟩) (fun _ => hS0) ?_; rotate_left; (focus (intro w hSw; clear hSw; go_simp; (try with_reducible rfl); done)); (try simp only [Act.put, List.setIfInBounds_toArray, List.set_cons_zero, List.set_cons_succ]))
          (refine HeldTo.take (i := 3) (oi := _) (d := some 87) (v := ?_) rfl rfl (by kernel_rfl) (by kernel_rfl) (by kernel_rfl) (by kernel_rfl) (by kernel_rfl) (by kernel_rfl) (fun _ _ _ h => h) (Or.inl ⟨by rfl, ?_⟩) hS0 ?_; rotate_left; (focus (intro w hSw; (try dsimp only at hSw); go_simp; (try with_reducible rfl); done)); (try simp only [Act.put, List.setIfInBounds_toArray, List.set_cons_zero, List.set_cons_succ]))
          (refine HeldTo.plain (i := 4) (oi := _) (d := some 88) (v := ?_) rfl rfl (by kernel_rfl) (by kernel_rfl) (by kernel_rfl) (by kernel_rfl) (fun _ _ _ h => h) (Or.inl ⟨by rfl, ?_⟩) (fun _ => hS0) ?_; rotate_left; (focus (intro w hSw; clear hSw; go_simp; (try with_reducible rfl); done)); (try simp only [Act.put, List.setIfInBounds_toArray, List.set_cons_zero, List.set_cons_succ]))
          (refine HeldTo.plain (i := 5) (oi := _) (d := some 89) (v := ?_) rfl rfl (by kernel_rfl) (by kernel_rfl) (by kernel_rfl) (by kernel_rfl) (fun _ _ _ h => h) (Or.inl ⟨by rfl, ?_⟩) (fun _ => hS0) ?_; rotate_left; (focus (intro w hSw; clear hSw; go_simp; (try with_reducible rfl); done)); (try simp only [Act.put, List.setIfInBounds_toArray, List.set_cons_zero, List.set_cons_succ]))
          (refine HeldTo.take (i := 6) (oi := _) (d := some 90) (v := ?_) rfl rfl (by kernel_rfl) (by kernel_rfl) (by kernel_rfl) (by kernel_rfl) (by kernel_rfl) (by kernel_rfl) (fun _ _ _ h => h) (Or.inl ⟨by rfl, ?_⟩) hS0 ?_; rotate_left; (focus (intro w hSw; (try dsimp only at hSw); go_simp; (try with_reducible rfl); done)); (try simp only [Act.put, List.setIfInBounds_toArray, List.set_cons_zero, List.set_cons_succ]))
          obtain ⟨u1, hu1⟩ : ∃ V, u0.alloc (.cells #[.int .i64 t] 3) = V := ⟨_, rfl⟩
          have s1 : Below u0.heap.size u0 u1 := by rw [← hu1]; exact (Below.refl _ _).alloc (Nat.le_refl _) _
          have off1 := off0.below s1
          have bx1 := bx0.next s1 bx0.lt
          have ro1 := own_next ro0 s1
          have bw1 : Below W6.heap.size W6 u1 := off1.base HBS1.out HBS1.out.size HGN.out
          have so1 : SlT u1 1 (some ⟨u0.heap.size, 0, none⟩) 1 1 [[.int .i64 t]] := by rw [← hu1]; exact App2.sl_one u0 [.int .i64 t] 3 1 rfl
          obtain ⟨A', C', u2, r1, ho2, hg2⟩ := App2.runV (P := Tryz.prog) (t := 22) 22 (by decide : 0 < 1) info_i1 Tryz.underlying22 rfl u1 w8.heap.size off1.size (.slice g1 fi.length h1) fi.length ((rowsI fi)) ro1 (some ⟨u0.heap.size, 0, none⟩) 1 1 [[.int .i64 t]] so1 (by simp) (by simp [Value.oneCell']) (by have := HFLE.out; have := HSZ.out; omega) (by have := HFLE.out; have := HSZ.out; omega)
          have hne2 : some N ≠ (Value.slice g1 fi.length h1).ownBlock := fun e => by have := (ro1.lt N e.symm).1; have := HNL1.out; omega
          have bx2 := box_grown bx1 hg2 hne2
          have off2 := off1.grown hg2 (fun q hq => (ro1.lt q hq).1)
          have bw2 : Below W6.heap.size W6 u2 := off2.base HBS1.out HBS1.out.size HGN.out
          refine HeldTo.one (i := 7) (by kernel_rfl) ?_
          refine HeldTo.opVal (i := 7) (oi := _) (d := some 91) (v := .slice (some ⟨u0.heap.size, 0, none⟩) 1 1) (w2 := u1) rfl rfl (by rfl) (by rw [← hu1]; go_simp; done) (hSK _ bx1 bw1) ?_
          (try simp only [Act.put, List.setIfInBounds_toArray, List.set_cons_zero, List.set_cons_succ])
          refine HeldTo.one (i := 8) (by kernel_rfl) ?_
          refine HeldTo.opVal (i := 8) (oi := _) (d := some 92) (v := .slice A' (fi.length + 1) C') (w2 := u2) rfl rfl (by rfl) (App2.exec_append rfl rfl rfl r1) (hSK _ bx2 bw2) ?_
          (try simp only [Act.put, List.setIfInBounds_toArray, List.set_cons_zero, List.set_cons_succ])
          have hS0 := hSK _ bx2 bw2
          (refine HeldTo.plain (i := 9) (oi := _) (d := some 93) (v := ?_) rfl rfl (by kernel_rfl) (by kernel_rfl) (by kernel_rfl) (by kernel_rfl) (fun _ _ _ h => h) (Or.inl ⟨by rfl, ?_⟩) (fun _ => hS0) ?_; rotate_left; (focus (intro w hSw; clear hSw; go_simp; (try with_reducible rfl); done)); (try simp only [Act.put, List.setIfInBounds_toArray, List.set_cons_zero, List.set_cons_succ]))
          have g0 := bx2.at' 1 _ rfl
          have z0 := bx2.fz 1
          refine HeldTo.store (i := 10) (oi := _) (d := none) (w2 := u2.setCell ⟨N, 1, none⟩ (.slice A' (fi.length + 1) C')) rfl rfl (by kernel_rfl) (by kernel_rfl) (by rfl) (by go_simp; done) ?_
          (try simp only [Act.put, List.setIfInBounds_toArray, List.set_cons_zero, List.set_cons_succ])
          refine HeldTo.done (by kernel_rfl) ?_ _
          have e1 : (fi ++ [t]).length = fi.length + 1 := List.length_append
          have HX9 : Hid (BoxN N [.int .i64 x.max, .slice A' (fi ++ [t]).length C', .slice none 0 0, .slice none 0 0, .slice (some ⟨gB, 0, none⟩) 1 1, .slice a5 x.invs.length c5, .slice none 0 0, .slice none 0 0] (u2.setCell ⟨N, 1, none⟩ (.slice A' (fi.length + 1) C'))) := by rw [e1]; exact bx2.set 1 _
          have HR9 : Hid ((u2.setCell ⟨N, 1, none⟩ (.slice A' (fi.length + 1) C')).ownsRow w8.heap.size 3 1 (.slice A' (fi ++ [t]).length C') (fi ++ [t]).length ((rowsI (fi ++ [t]))).flatten) := by
            rw [e1]
            have h := ((OffB.refl N u2).set 1 (.slice A' (fi.length + 1) C')).own ho2 (own_not' ho2 HNL1.out)
            have e : (rowsI (fi ++ [t])) = (rowsI fi) ++ [[.int .i64 t]] := by simp [rowsI]
            show World.ownsRow _ _ _ _ _ _ _
            rw [e]; exact h
          have HO9 := Lib.hid (off2.set 1 (.slice A' (fi.length + 1) C'))
          clear off0 bx0 ro0 bw0 hS0 off1 bx1 ro1 bw1 so1 ho2 hg2 hne2 bx2 off2 bw2 g0 z0 r1 hSK s0 s1 hu0 hu1
          (try go_wp2_with fail)
          go_roundw
          case rel => exact ⟨i + 1, A', C', by omega, by go_num, (by rw [HN2.out]; exact HX9.out), (by rw [HN2.out]; exact HR9.out), HO9.out⟩
          case measure => simp [intOf]; omega
        · skip
          have HN2 := HNX
          rw [if_neg hin, List.append_nil] at HN2
          have hfalse : cnt x l t = false := by simpa using hin
          rw [hfalse] at HHAS
          clear hfalse hin HNX HCN
          go_wp2_with fail
          with_reducible refine HHAS.out.mono ?_
          rintro e wx ⟨rfl, rfl⟩
          go_wp2_with fail
          go_roundw
          case rel => exact ⟨i + 1, g1, h1, by omega, by go_num, (by rw [HN2.out]; exact hbx.out), (by rw [HN2.out]; exact hrow.out), hoff.out⟩
          case measure => simp [intOf]; omega
      · skip
        have hall : ((x.ins.take i).filter (fun t : Int => cnt x l t)) = fI := by rw [List.take_of_length_le (by omega), ← HfI.out]
        rw [hall] at hbx hrow
        generalize wr = w1e at *
        clear hall hbw
        have HX2 := hbx
        have HBS2 := Lib.hid (hoff.out.base HBS1.out HBS1.out.size HGN.out)
        have HNL2 : Hid (N < w1e.heap.size) := hbx.out.lt
        have HT2 := Lib.hid (hoff.out.own HT1.out HTN.out)
        have HGO2 := Lib.hid (hoff.out.own HGO1.out HGG.out)
        have HR1_2 := hrow
        have HRN1 : Hid ((Value.slice g1 fI.length h1).ownBlock ≠ some N) := own_not' hrow.out HNL1.out
        clear HX1 HBS1 HT1 HGO1 hbx hrow hoff
        go_wp2_with fail
        clear hla hca hga m1 hlt hi
        go_loopw [14] (fun u wx => ∃ (i : Nat) (aI : Option Addr) (cI : Nat), i ≤ x.lats.length ∧ u = .int .i64 i ∧ Hid (BoxN N [.int .i64 x.max, .slice g1 fI.length h1, .slice aI ((x.lats.take i).filter (fun t : Tri => cnt x l t.1)).length cI, .slice none 0 0, .slice (some ⟨gB, 0, none⟩) 1 1, .slice a5 x.invs.length c5, .slice none 0 0, .slice none 0 0] wx) ∧ Hid (wx.ownsRow w1e.heap.size 41 3 (.slice aI ((x.lats.take i).filter (fun t : Tri => cnt x l t.1)).length cI) ((x.lats.take i).filter (fun t : Tri => cnt x l t.1)).length ((tris ((x.lats.take i).filter (fun t : Tri => cnt x l t.1)))).flatten) ∧ Hid (OffB N w1e wx)) (fun u _ => x.lats.length - (intOf u).toNat)
        case atStart => exact ⟨0, none, 0, Nat.zero_le _, rfl, HX2.out, World.ownsRow_nil _ _ _ _, OffB.refl _ _⟩
        case round =>
          obtain ⟨i, g2, h2, hi, rfl, hbx, hrow, hoff⟩ := hrel
          have hbw : Below W6.heap.size W6 wr := hoff.out.base HBS2.out HBS2.out.size HGN.out
          have HBW := Lib.hid hbw
          have m2 := (HCB6.out wr hbw).k2
          have hla := (HIN6.out W6 (Below.refl _ _)).lats
          have hca := hla.cap
          have hga := hla.big
          simp only at m2 hca hga
          by_cases hlt : i < x.lats.length
          · skip
            obtain ⟨bt, ot, hxt, hae, hbt, d0', d1', d2'⟩ := hla.tri hlt
            simp only at hae
            subst hae
            have hlit : 0 ≤ x.lats[i].1 ∧ x.lats[i].1 ≤ 9223372036854775807 := HOWN.out _ (by unfold ownL; exact List.mem_append_left _ (List.mem_append_right _ (List.mem_map.2 ⟨_, List.getElem_mem hxt, rfl⟩)))
            obtain ⟨vq, hvq, hvq2⟩ : ∃ v : Int, Int.tdiv x.lats[i].1 2 = v ∧ v = var x.lats[i].1 := ⟨_, rfl, by unfold var; rw [Int.max_eq_left hlit.1]; exact Int.tdiv_eq_ediv_of_nonneg hlit.1⟩
            have hwq : IntKind.i64.wrap vq = vq := IntWalk.i64_in _ (by rw [hvq2]; unfold var; omega)
            have HHAS := Lib.hid (Circuit.has_any wr aN T.length cN T (own_sl' (hoff.out.own HT2.out HTN.out)) vq)
            rw [hvq2, HFC.out x.lats[i].1, ← hvq2] at HHAS
            have HNX : Hid (((x.lats.take (i + 1)).filter (fun t : Tri => cnt x l t.1)) = ((x.lats.take i).filter (fun t : Tri => cnt x l t.1)) ++ if cnt x l x.lats[i].1 = true then [x.lats[i]] else []) := by
              show _ = _
              rw [List.take_succ_eq_append_getElem hxt, List.filter_append]
              by_cases h : cnt x l x.lats[i].1 = true <;> simp [h]
            have HEL : Hid (∀ U, Below W6.heap.size W6 U → U.cell? ⟨bt, ot + i * 3, none⟩ = some (.int .i64 x.lats[i].1) ∧ U.cell? ⟨bt, ot + i * 3 + 1, none⟩ = some (.int .i64 x.lats[i].2.1) ∧ U.cell? ⟨bt, ot + i * 3 + 2, none⟩ = some (.int .i64 x.lats[i].2.2)) := fun U hU => ⟨(hU.cell (p := ⟨bt, ot + i * 3, none⟩) hbt).trans d0', (hU.cell (p := ⟨bt, ot + i * 3 + 1, none⟩) hbt).trans d1', (hU.cell (p := ⟨bt, ot + i * 3 + 2, none⟩) hbt).trans d2'⟩
            obtain ⟨fi, hfi⟩ : ∃ f9, ((x.lats.take i).filter (fun t : Tri => cnt x l t.1)) = f9 := ⟨_, rfl⟩
            rw [hfi] at HNX hbx hrow
            have HCN : Hid (cnt x l x.lats[i].1 = cnt x l x.lats[i].1) := rfl
            generalize hm : x.lats[i] = t at *
            clear hfi hm hlit hvq2 d0' d1' d2' hla
            have hel := HEL.out wr HBW.out
            have d0 := hel.1
            have d1 := hel.2.1
            have d2 := hel.2.2
            clear hel
            by_cases hin : cnt x l t.1 = true
            · skip
              have HN2 := HNX
              rw [if_pos hin] at HN2
              rw [hin] at HHAS
              clear hin HNX HCN
              have hfl : fi.length ≤ i := by
                have h := congrArg List.length HN2.out
                have h2 := List.length_filter_le (fun t : Tri => cnt x l t.1) (x.lats.take (i + 1))
                rw [List.length_take] at h2
                simp only [List.length_append, List.length_singleton] at h
                omega
              have HFLE := Lib.hid hfl
              clear hfl
              go_upto_region 20 with fail
              with_reducible refine HHAS.out.mono ?_
              rintro e wx ⟨rfl, rfl⟩
              go_upto_region 20 with fail
              have hSK : ∀ U : World, BoxN N [.int .i64 x.max, .slice g1 fI.length h1, .slice g2 fi.length h2, .slice none 0 0, .slice (some ⟨gB, 0, none⟩) 1 1, .slice a5 x.invs.length c5, .slice none 0 0, .slice none 0 0] U → Below W6.heap.size W6 U → U.cell? ⟨N, 2, none⟩ = some (.slice g2 fi.length h2) ∧ U.cell? ⟨w.heap.size, 2, none⟩ = some (.slice (some ⟨bt, ot, none⟩) x.lats.length c2) ∧ U.cell? ⟨bt, ot + i * 3, none⟩ = some (.int .i64 t.1) ∧ U.cell? ⟨bt, ot + i * 3 + 1, none⟩ = some (.int .i64 t.2.1) ∧ U.cell? ⟨bt, ot + i * 3 + 2, none⟩ = some (.int .i64 t.2.2) := fun U hx hU => ⟨hx.at' 2 _ rfl, (HCB6.out U hU).k2, HEL.out U hU⟩
              have hlt2 : (i : Int) < (x.lats.length : Int) := by omega
              refine HeldTo.region (fun U : World => U.cell? ⟨N, 2, none⟩ = some (.slice g2 fi.length h2) ∧ U.cell? ⟨w.heap.size, 2, none⟩ = some (.slice (some ⟨bt, ot, none⟩) x.lats.length c2) ∧ U.cell? ⟨bt, ot + i * 3, none⟩ = some (.int .i64 t.1) ∧ U.cell? ⟨bt, ot + i * 3 + 1, none⟩ = some (.int .i64 t.2.1) ∧ U.cell? ⟨bt, ot + i * 3 + 2, none⟩ = some (.int .i64 t.2.2)) 10 (by kernel_rfl) ?_
              obtain ⟨u0, hu0⟩ : ∃ U, wr.drew = U := ⟨_, rfl⟩
              rw [hu0]
              have s0 : Below wr.heap.size wr u0 := by rw [← hu0]; exact (Below.refl _ _).drew
              have off0 := hoff.out.below s0
              have bx0 := hbx.out.next s0 hbx.out.lt
              have ro0 := own_next hrow.out s0
              have bw0 : Below W6.heap.size W6 u0 := off0.base HBS2.out HBS2.out.size HGN.out
              have hS0 := hSK _ bx0 bw0
              (refine HeldTo.plain (i := 0) (oi := _) (d := some 110) (v := ?_) rfl rfl (by kernel_rfl) (by kernel_rfl) (by kernel_rfl) (by kernel_rfl) (fun _ _ _ h => h) (Or.inl ⟨by rfl, ?_⟩) (fun _ => hS0) ?_; rotate_left; (focus (intro w hSw; clear hSw; go_simp; (try with_reducible rfl); done)); (try simp only [Act.put, List.setIfInBounds_toArray, List.set_cons_zero, List.set_cons_succ]))
              (refine HeldTo.take (i := 1) (oi := _) (d := some 111) (v := ?_) rfl rfl (by kernel_rfl) (by kernel_rfl) (by kernel_rfl) (by kernel_rfl) (by kernel_rfl) (by kernel_rfl) (fun _ _ _ h => h) (Or.inl ⟨by rfl, ?_⟩) hS0 ?_; rotate_left; (focus (intro w hSw; (try dsimp only at hSw); go_simp; (try with_reducible rfl); done)); (try simp only [Act.put, List.setIfInBounds_toArray, List.set_cons_zero, List.set_cons_succ]))
              (refine HeldTo.plain (i := 2) (oi := _) (d := some 112) (v := ?_) rfl rfl (by kernel_rfl) (by kernel_rfl) (by kernel_rfl) (by kernel_rfl) (fun _ _ _ h => h) (Or.inl ⟨by rfl, ?_⟩) (fun _ => hS0) ?_; rotate_left; (focus (intro w hSw; clear hSw; go_simp; (try with_reducible rfl); done)); (try simp only [Act.put, List.setIfInBounds_toArray, List.set_cons_zero, List.set_cons_succ]))
              (refine HeldTo.take (i := 3) (oi := _) (d := some 113) (v := ?_) rfl rfl (by kernel_rfl) (by kernel_rfl) (by kernel_rfl) (by kernel_rfl) (by kernel_rfl) (by kernel_rfl) (fun _ _ _ h => h) (Or.inl ⟨by rfl, ?_⟩) hS0 ?_; rotate_left; (focus (intro w hSw; (try dsimp only at hSw); go_simp; (try with_reducible rfl); done)); (try simp only [Act.put, List.setIfInBounds_toArray, List.set_cons_zero, List.set_cons_succ]))
              (refine HeldTo.plain (i := 4) (oi := _) (d := some 114) (v := ?_) rfl rfl (by kernel_rfl) (by kernel_rfl) (by kernel_rfl) (by kernel_rfl) (fun _ _ _ h => h) (Or.inl ⟨by rfl, ?_⟩) (fun _ => hS0) ?_; rotate_left; (focus (intro w hSw; clear hSw; go_simp; (try with_reducible rfl); done)); (try simp only [Act.put, List.setIfInBounds_toArray, List.set_cons_zero, List.set_cons_succ]))
              (refine HeldTo.plain (i := 5) (oi := _) (d := some 115) (v := ?_) rfl rfl (by kernel_rfl) (by kernel_rfl) (by kernel_rfl) (by kernel_rfl) (fun _ _ _ h => h) (Or.inl ⟨by rfl, ?_⟩) (fun _ => hS0) ?_; rotate_left; (focus (intro w hSw; clear hSw; go_simp; (try with_reducible rfl); done)); (try simp only [Act.put, List.setIfInBounds_toArray, List.set_cons_zero, List.set_cons_succ]))
              (refine HeldTo.take (i := 6) (oi := _) (d := some 116) (v := ?_) rfl rfl (by kernel_rfl) (by kernel_rfl) (by kernel_rfl) (by kernel_rfl) (by kernel_rfl) (by kernel_rfl) (fun _ _ _ h => h) (Or.inl ⟨by rfl, ?_⟩) hS0 ?_; rotate_left; (focus (intro w hSw; (try dsimp only at hSw); go_simp; (try with_reducible rfl); done)); (try simp only [Act.put, List.setIfInBounds_toArray, List.set_cons_zero, List.set_cons_succ]))
              obtain ⟨u1, hu1⟩ : ∃ V, u0.alloc (.cells #[.int .i64 t.1, .int .i64 t.2.1, .int .i64 t.2.2] 41) = V := ⟨_, rfl⟩
              have s1 : Below u0.heap.size u0 u1 := by rw [← hu1]; exact (Below.refl _ _).alloc (Nat.le_refl _) _
              have off1 := off0.below s1
              have bx1 := bx0.next s1 bx0.lt
              have ro1 := own_next ro0 s1
              have bw1 : Below W6.heap.size W6 u1 := off1.base HBS2.out HBS2.out.size HGN.out
              have so1 : SlT u1 3 (some ⟨u0.heap.size, 0, none⟩) 1 1 [[.int .i64 t.1, .int .i64 t.2.1, .int .i64 t.2.2]] := by rw [← hu1]; exact App2.sl_one u0 [.int .i64 t.1, .int .i64 t.2.1, .int .i64 t.2.2] 41 3 rfl
              obtain ⟨A', C', u2, r1, ho2, hg2⟩ := App2.runV (P := Tryz.prog) (t := 23) 23 (by decide : 0 < 3) CloneT.info_latch Tryz.underlying23 rfl u1 w1e.heap.size off1.size (.slice g2 fi.length h2) fi.length ((tris fi)) ro1 (some ⟨u0.heap.size, 0, none⟩) 1 1 [[.int .i64 t.1, .int .i64 t.2.1, .int .i64 t.2.2]] so1 (by simp) (by simp [Value.oneCell']) (by have := HFLE.out; have := HSZ.out; omega) (by have := HFLE.out; have := HSZ.out; omega)
              have hne2 : some N ≠ (Value.slice g2 fi.length h2).ownBlock := fun e => by have := (ro1.lt N e.symm).1; have := HNL2.out; omega
              have bx2 := box_grown bx1 hg2 hne2
              have off2 := off1.grown hg2 (fun q hq => (ro1.lt q hq).1)
              have bw2 : Below W6.heap.size W6 u2 := off2.base HBS2.out HBS2.out.size HGN.out
              refine HeldTo.one (i := 7) (by kernel_rfl) ?_
              refine HeldTo.opVal (i := 7) (oi := _) (d := some 117) (v := .slice (some ⟨u0.heap.size, 0, none⟩) 1 1) (w2 := u1) rfl rfl (by rfl) (by rw [← hu1]; go_simp; done) (hSK _ bx1 bw1) ?_
              (try simp only [Act.put, List.setIfInBounds_toArray, List.set_cons_zero, List.set_cons_succ])
              refine HeldTo.one (i := 8) (by kernel_rfl) ?_
              refine HeldTo.opVal (i := 8) (oi := _) (d := some 118) (v := .slice A' (fi.length + 1) C') (w2 := u2) rfl rfl (by rfl) (App2.exec_append rfl rfl rfl r1) (hSK _ bx2 bw2) ?_
              (try simp only [Act.put, List.setIfInBounds_toArray, List.set_cons_zero, List.set_cons_succ])
              have hS0 := hSK _ bx2 bw2
              (refine HeldTo.plain (i := 9) (oi := _) (d := some 119) (v := ?_) rfl rfl (by kernel_rfl) (by kernel_rfl) (by kernel_rfl) (by kernel_rfl) (fun _ _ _ h => h) (Or.inl ⟨by rfl, ?_⟩) (fun _ => hS0) ?_; rotate_left; (focus (intro w hSw; clear hSw; go_simp; (try with_reducible rfl); done)); (try simp only [Act.put, List.setIfInBounds_toArray, List.set_cons_zero, List.set_cons_succ]))
              have g0 := bx2.at' 2 _ rfl
              have z0 := bx2.fz 2
              refine HeldTo.store (i := 10) (oi := _) (d := none) (w2 := u2.setCell ⟨N, 2, none⟩ (.slice A' (fi.length + 1) C')) rfl rfl (by kernel_rfl) (by kernel_rfl) (by rfl) (by go_simp; done) ?_
              (try simp only [Act.put, List.setIfInBounds_toArray, List.set_cons_zero, List.set_cons_succ])
              refine HeldTo.done (by kernel_rfl) ?_ _
              have e1 : (fi ++ [t]).length = fi.length + 1 := List.length_append
              have HX9 : Hid (BoxN N [.int .i64 x.max, .slice g1 fI.length h1, .slice A' (fi ++ [t]).length C', .slice none 0 0, .slice (some ⟨gB, 0, none⟩) 1 1, .slice a5 x.invs.length c5, .slice none 0 0, .slice none 0 0] (u2.setCell ⟨N, 2, none⟩ (.slice A' (fi.length + 1) C'))) := by rw [e1]; exact bx2.set 2 _
              have HR9 : Hid ((u2.setCell ⟨N, 2, none⟩ (.slice A' (fi.length + 1) C')).ownsRow w1e.heap.size 41 3 (.slice A' (fi ++ [t]).length C') (fi ++ [t]).length ((tris (fi ++ [t]))).flatten) := by
                rw [e1]
                have h := ((OffB.refl N u2).set 2 (.slice A' (fi.length + 1) C')).own ho2 (own_not' ho2 HNL2.out)
                have e : (tris (fi ++ [t])) = (tris fi) ++ [[.int .i64 t.1, .int .i64 t.2.1, .int .i64 t.2.2]] := by simp [tris]
                show World.ownsRow _ _ _ _ _ _ _
                rw [e]; exact h
              have HO9 := Lib.hid (off2.set 2 (.slice A' (fi.length + 1) C'))
              clear off0 bx0 ro0 bw0 hS0 off1 bx1 ro1 bw1 so1 ho2 hg2 hne2 bx2 off2 bw2 g0 z0 r1 hSK s0 s1 hu0 hu1
              (try go_wp2_with fail)
              go_roundw
              case rel => exact ⟨i + 1, A', C', by omega, by go_num, (by rw [HN2.out]; exact HX9.out), (by rw [HN2.out]; exact HR9.out), HO9.out⟩
              case measure => simp [intOf]; omega
            · skip
              have HN2 := HNX
              rw [if_neg hin, List.append_nil] at HN2
              have hfalse : cnt x l t.1 = false := by simpa using hin
              rw [hfalse] at HHAS
              clear hfalse hin HNX HCN
              go_wp2_with fail
              with_reducible refine HHAS.out.mono ?_
              rintro e wx ⟨rfl, rfl⟩
              go_wp2_with fail
              go_roundw
              case rel => exact ⟨i + 1, g2, h2, by omega, by go_num, (by rw [HN2.out]; exact hbx.out), (by rw [HN2.out]; exact hrow.out), hoff.out⟩
              case measure => simp [intOf]; omega
          · skip
            have hall : ((x.lats.take i).filter (fun t : Tri => cnt x l t.1)) = fL := by rw [List.take_of_length_le (by omega), ← HfL.out]
            rw [hall] at hbx hrow
            generalize wr = w2e at *
            clear hall hbw
            have HX6 := hbx
            have HBS6 := Lib.hid (hoff.out.base HBS2.out HBS2.out.size HGN.out)
            have HNL6 : Hid (N < w2e.heap.size) := hbx.out.lt
            have HT6 := Lib.hid (hoff.out.own HT2.out HTN.out)
            have HGO6 := Lib.hid (hoff.out.own HGO2.out HGG.out)
            have HR2_6 := hrow
            have HRN2 : Hid ((Value.slice g2 fL.length h2).ownBlock ≠ some N) := own_not' hrow.out HNL2.out
            have HR1_6 := Lib.hid (hoff.out.own HR1_2.out HRN1.out)
            clear HX2 HBS2 HT2 HGO2 hbx hrow hoff HR1_2
            go_wp2_with fail
            clear hla hca hga m2 hlt hi
            go_loopw [15] (fun u wx => ∃ (i : Nat) (aI : Option Addr) (cI : Nat), i ≤ x.ands.length ∧ u = .int .i64 i ∧ Hid (BoxN N [.int .i64 x.max, .slice g1 fI.length h1, .slice g2 fL.length h2, .slice none 0 0, .slice (some ⟨gB, 0, none⟩) 1 1, .slice a5 x.invs.length c5, .slice aI ((x.ands.take i).filter (fun t : Tri => cnt x l t.1)).length cI, .slice none 0 0] wx) ∧ Hid (wx.ownsRow w2e.heap.size 43 3 (.slice aI ((x.ands.take i).filter (fun t : Tri => cnt x l t.1)).length cI) ((x.ands.take i).filter (fun t : Tri => cnt x l t.1)).length ((tris ((x.ands.take i).filter (fun t : Tri => cnt x l t.1)))).flatten) ∧ Hid (OffB N w2e wx)) (fun u _ => x.ands.length - (intOf u).toNat)
            case atStart => exact ⟨0, none, 0, Nat.zero_le _, rfl, HX6.out, World.ownsRow_nil _ _ _ _, OffB.refl _ _⟩
            case round =>
              obtain ⟨i, g6, h6, hi, rfl, hbx, hrow, hoff⟩ := hrel
              have hbw : Below W6.heap.size W6 wr := hoff.out.base HBS6.out HBS6.out.size HGN.out
              have HBW := Lib.hid hbw
              have m6 := (HCB6.out wr hbw).k6
              have hla := (HIN6.out W6 (Below.refl _ _)).ands
              have hca := hla.cap
              have hga := hla.big
              simp only at m6 hca hga
              by_cases hlt : i < x.ands.length
              · skip
                obtain ⟨bt, ot, hxt, hae, hbt, d0', d1', d2'⟩ := hla.tri hlt
                simp only at hae
                subst hae
                have hlit : 0 ≤ x.ands[i].1 ∧ x.ands[i].1 ≤ 9223372036854775807 := HOWN.out _ (by unfold ownL; exact List.mem_append_right _ (List.mem_map.2 ⟨_, List.getElem_mem hxt, rfl⟩))
                obtain ⟨vq, hvq, hvq2⟩ : ∃ v : Int, Int.tdiv x.ands[i].1 2 = v ∧ v = var x.ands[i].1 := ⟨_, rfl, by unfold var; rw [Int.max_eq_left hlit.1]; exact Int.tdiv_eq_ediv_of_nonneg hlit.1⟩
                have hwq : IntKind.i64.wrap vq = vq := IntWalk.i64_in _ (by rw [hvq2]; unfold var; omega)
                have HHAS := Lib.hid (Circuit.has_any wr aN T.length cN T (own_sl' (hoff.out.own HT6.out HTN.out)) vq)
                rw [hvq2, HFC.out x.ands[i].1, ← hvq2] at HHAS
                have HNX : Hid (((x.ands.take (i + 1)).filter (fun t : Tri => cnt x l t.1)) = ((x.ands.take i).filter (fun t : Tri => cnt x l t.1)) ++ if cnt x l x.ands[i].1 = true then [x.ands[i]] else []) := by
                  show _ = _
                  rw [List.take_succ_eq_append_getElem hxt, List.filter_append]
                  by_cases h : cnt x l x.ands[i].1 = true <;> simp [h]
                have HEL : Hid (∀ U, Below W6.heap.size W6 U → U.cell? ⟨bt, ot + i * 3, none⟩ = some (.int .i64 x.ands[i].1) ∧ U.cell? ⟨bt, ot + i * 3 + 1, none⟩ = some (.int .i64 x.ands[i].2.1) ∧ U.cell? ⟨bt, ot + i * 3 + 2, none⟩ = some (.int .i64 x.ands[i].2.2)) := fun U hU => ⟨(hU.cell (p := ⟨bt, ot + i * 3, none⟩) hbt).trans d0', (hU.cell (p := ⟨bt, ot + i * 3 + 1, none⟩) hbt).trans d1', (hU.cell (p := ⟨bt, ot + i * 3 + 2, none⟩) hbt).trans d2'⟩
                obtain ⟨fi, hfi⟩ : ∃ f9, ((x.ands.take i).filter (fun t : Tri => cnt x l t.1)) = f9 := ⟨_, rfl⟩
                rw [hfi] at HNX hbx hrow
                have HCN : Hid (cnt x l x.ands[i].1 = cnt x l x.ands[i].1) := rfl
                generalize hm : x.ands[i] = t at *
                clear hfi hm hlit hvq2 d0' d1' d2' hla
                have hel := HEL.out wr HBW.out
                have d0 := hel.1
                have d1 := hel.2.1
                have d2 := hel.2.2
                clear hel
                by_cases hin : cnt x l t.1 = true
                · skip
                  have HN2 := HNX
                  rw [if_pos hin] at HN2
                  rw [hin] at HHAS
                  clear hin HNX HCN
                  have hfl : fi.length ≤ i := by
                    have h := congrArg List.length HN2.out
                    have h2 := List.length_filter_le (fun t : Tri => cnt x l t.1) (x.ands.take (i + 1))
                    rw [List.length_take] at h2
                    simp only [List.length_append, List.length_singleton] at h
                    omega
                  have HFLE := Lib.hid hfl
                  clear hfl
                  go_upto_region 25 with fail
                  with_reducible refine HHAS.out.mono ?_
                  rintro e wx ⟨rfl, rfl⟩
                  go_upto_region 25 with fail
                  have hSK : ∀ U : World, BoxN N [.int .i64 x.max, .slice g1 fI.length h1, .slice g2 fL.length h2, .slice none 0 0, .slice (some ⟨gB, 0, none⟩) 1 1, .slice a5 x.invs.length c5, .slice g6 fi.length h6, .slice none 0 0] U → Below W6.heap.size W6 U → U.cell? ⟨N, 6, none⟩ = some (.slice g6 fi.length h6) ∧ U.cell? ⟨w.heap.size, 6, none⟩ = some (.slice (some ⟨bt, ot, none⟩) x.ands.length c6) ∧ U.cell? ⟨bt, ot + i * 3, none⟩ = some (.int .i64 t.1) ∧ U.cell? ⟨bt, ot + i * 3 + 1, none⟩ = some (.int .i64 t.2.1) ∧ U.cell? ⟨bt, ot + i * 3 + 2, none⟩ = some (.int .i64 t.2.2) := fun U hx hU => ⟨hx.at' 6 _ rfl, (HCB6.out U hU).k6, HEL.out U hU⟩
                  have hlt2 : (i : Int) < (x.ands.length : Int) := by omega
                  refine HeldTo.region (fun U : World => U.cell? ⟨N, 6, none⟩ = some (.slice g6 fi.length h6) ∧ U.cell? ⟨w.heap.size, 6, none⟩ = some (.slice (some ⟨bt, ot, none⟩) x.ands.length c6) ∧ U.cell? ⟨bt, ot + i * 3, none⟩ = some (.int .i64 t.1) ∧ U.cell? ⟨bt, ot + i * 3 + 1, none⟩ = some (.int .i64 t.2.1) ∧ U.cell? ⟨bt, ot + i * 3 + 2, none⟩ = some (.int .i64 t.2.2)) 10 (by kernel_rfl) ?_
                  obtain ⟨u0, hu0⟩ : ∃ U, wr.drew = U := ⟨_, rfl⟩
                  rw [hu0]
                  have s0 : Below wr.heap.size wr u0 := by rw [← hu0]; exact (Below.refl _ _).drew
                  have off0 := hoff.out.below s0
                  have bx0 := hbx.out.next s0 hbx.out.lt
                  have ro0 := own_next hrow.out s0
                  have bw0 : Below W6.heap.size W6 u0 := off0.base HBS6.out HBS6.out.size HGN.out
                  have hS0 := hSK _ bx0 bw0
                  (refine HeldTo.plain (i := 0) (oi := _) (d := some 136) (v := ?_) rfl rfl (by kernel_rfl) (by kernel_rfl) (by kernel_rfl) (by kernel_rfl) (fun _ _ _ h => h) (Or.inl ⟨by rfl, ?_⟩) (fun _ => hS0) ?_; rotate_left; (focus (intro w hSw; clear hSw; go_simp; (try with_reducible rfl); done)); (try simp only [Act.put, List.setIfInBounds_toArray, List.set_cons_zero, List.set_cons_succ]))
                  (refine HeldTo.take (i := 1) (oi := _) (d := some 137) (v := ?_) rfl rfl (by kernel_rfl) (by kernel_rfl) (by kernel_rfl) (by kernel_rfl) (by kernel_rfl) (by kernel_rfl) (fun _ _ _ h => h) (Or.inl ⟨by rfl, ?_⟩) hS0 ?_; rotate_left; (focus (intro w hSw; (try dsimp only at hSw); go_simp; (try with_reducible rfl); done)); (try simp only [Act.put, List.setIfInBounds_toArray, List.set_cons_zero, List.set_cons_succ]))
                  (refine HeldTo.plain (i := 2) (oi := _) (d := some 138) (v := ?_) rfl rfl (by kernel_rfl) (by kernel_rfl) (by kernel_rfl) (by kernel_rfl) (fun _ _ _ h => h) (Or.inl ⟨by rfl, ?_⟩) (fun _ => hS0) ?_; rotate_left; (focus (intro w hSw; clear hSw; go_simp; (try with_reducible rfl); done)); (try simp only [Act.put, List.setIfInBounds_toArray, List.set_cons_zero, List.set_cons_succ]))
                  (refine HeldTo.take (i := 3) (oi := _) (d := some 139) (v := ?_) rfl rfl (by kernel_rfl) (by kernel_rfl) (by kernel_rfl) (by kernel_rfl) (by kernel_rfl) (by kernel_rfl) (fun _ _ _ h => h) (Or.inl ⟨by rfl, ?_⟩) hS0 ?_; rotate_left; (focus (intro w hSw; (try dsimp only at hSw); go_simp; (try with_reducible rfl); done)); (try simp only [Act.put, List.setIfInBounds_toArray, List.set_cons_zero, List.set_cons_succ]))
                  (refine HeldTo.plain (i := 4) (oi := _) (d := some 140) (v := ?_) rfl rfl (by kernel_rfl) (by kernel_rfl) (by kernel_rfl) (by kernel_rfl) (fun _ _ _ h => h) (Or.inl ⟨by rfl, ?_⟩) (fun _ => hS0) ?_; rotate_left; (focus (intro w hSw; clear hSw; go_simp; (try with_reducible rfl); done)); (try simp only [Act.put, List.setIfInBounds_toArray, List.set_cons_zero, List.set_cons_succ]))
                  (refine HeldTo.plain (i := 5) (oi := _) (d := some 141) (v := ?_) rfl rfl (by kernel_rfl) (by kernel_rfl) (by kernel_rfl) (by kernel_rfl) (fun _ _ _ h => h) (Or.inl ⟨by rfl, ?_⟩) (fun _ => hS0) ?_; rotate_left; (focus (intro w hSw; clear hSw; go_simp; (try with_reducible rfl); done)); (try simp only [Act.put, List.setIfInBounds_toArray, List.set_cons_zero, List.set_cons_succ]))
                  (refine HeldTo.take (i := 6) (oi := _) (d := some 142) (v := ?_) rfl rfl (by kernel_rfl) (by kernel_rfl) (by kernel_rfl) (by kernel_rfl) (by kernel_rfl) (by kernel_rfl) (fun _ _ _ h => h) (Or.inl ⟨by rfl, ?_⟩) hS0 ?_; rotate_left; (focus (intro w hSw; (try dsimp only at hSw); go_simp; (try with_reducible rfl); done)); (try simp only [Act.put, List.setIfInBounds_toArray, List.set_cons_zero, List.set_cons_succ]))
                  obtain ⟨u1, hu1⟩ : ∃ V, u0.alloc (.cells #[.int .i64 t.1, .int .i64 t.2.1, .int .i64 t.2.2] 43) = V := ⟨_, rfl⟩
                  have s1 : Below u0.heap.size u0 u1 := by rw [← hu1]; exact (Below.refl _ _).alloc (Nat.le_refl _) _
                  have off1 := off0.below s1
                  have bx1 := bx0.next s1 bx0.lt
                  have ro1 := own_next ro0 s1
                  have bw1 : Below W6.heap.size W6 u1 := off1.base HBS6.out HBS6.out.size HGN.out
                  have so1 : SlT u1 3 (some ⟨u0.heap.size, 0, none⟩) 1 1 [[.int .i64 t.1, .int .i64 t.2.1, .int .i64 t.2.2]] := by rw [← hu1]; exact App2.sl_one u0 [.int .i64 t.1, .int .i64 t.2.1, .int .i64 t.2.2] 43 3 rfl
                  obtain ⟨A', C', u2, r1, ho2, hg2⟩ := App2.runV (P := Tryz.prog) (t := 24) 24 (by decide : 0 < 3) CloneT.info_and Tryz.underlying24 rfl u1 w2e.heap.size off1.size (.slice g6 fi.length h6) fi.length ((tris fi)) ro1 (some ⟨u0.heap.size, 0, none⟩) 1 1 [[.int .i64 t.1, .int .i64 t.2.1, .int .i64 t.2.2]] so1 (by simp) (by simp [Value.oneCell']) (by have := HFLE.out; have := HSZ.out; omega) (by have := HFLE.out; have := HSZ.out; omega)
                  have hne2 : some N ≠ (Value.slice g6 fi.length h6).ownBlock := fun e => by have := (ro1.lt N e.symm).1; have := HNL6.out; omega
                  have bx2 := box_grown bx1 hg2 hne2
                  have off2 := off1.grown hg2 (fun q hq => (ro1.lt q hq).1)
                  have bw2 : Below W6.heap.size W6 u2 := off2.base HBS6.out HBS6.out.size HGN.out
                  refine HeldTo.one (i := 7) (by kernel_rfl) ?_
                  refine HeldTo.opVal (i := 7) (oi := _) (d := some 143) (v := .slice (some ⟨u0.heap.size, 0, none⟩) 1 1) (w2 := u1) rfl rfl (by rfl) (by rw [← hu1]; go_simp; done) (hSK _ bx1 bw1) ?_
                  (try simp only [Act.put, List.setIfInBounds_toArray, List.set_cons_zero, List.set_cons_succ])
                  refine HeldTo.one (i := 8) (by kernel_rfl) ?_
                  refine HeldTo.opVal (i := 8) (oi := _) (d := some 144) (v := .slice A' (fi.length + 1) C') (w2 := u2) rfl rfl (by rfl) (App2.exec_append rfl rfl rfl r1) (hSK _ bx2 bw2) ?_
                  (try simp only [Act.put, List.setIfInBounds_toArray, List.set_cons_zero, List.set_cons_succ])
                  have hS0 := hSK _ bx2 bw2
                  (refine HeldTo.plain (i := 9) (oi := _) (d := some 145) (v := ?_) rfl rfl (by kernel_rfl) (by kernel_rfl) (by kernel_rfl) (by kernel_rfl) (fun _ _ _ h => h) (Or.inl ⟨by rfl, ?_⟩) (fun _ => hS0) ?_; rotate_left; (focus (intro w hSw; clear hSw; go_simp; (try with_reducible rfl); done)); (try simp only [Act.put, List.setIfInBounds_toArray, List.set_cons_zero, List.set_cons_succ]))
                  have g0 := bx2.at' 6 _ rfl
                  have z0 := bx2.fz 6
                  refine HeldTo.store (i := 10) (oi := _) (d := none) (w2 := u2.setCell ⟨N, 6, none⟩ (.slice A' (fi.length + 1) C')) rfl rfl (by kernel_rfl) (by kernel_rfl) (by rfl) (by go_simp; done) ?_
                  (try simp only [Act.put, List.setIfInBounds_toArray, List.set_cons_zero, List.set_cons_succ])
                  refine HeldTo.done (by kernel_rfl) ?_ _
                  have e1 : (fi ++ [t]).length = fi.length + 1 := List.length_append
                  have HX9 : Hid (BoxN N [.int .i64 x.max, .slice g1 fI.length h1, .slice g2 fL.length h2, .slice none 0 0, .slice (some ⟨gB, 0, none⟩) 1 1, .slice a5 x.invs.length c5, .slice A' (fi ++ [t]).length C', .slice none 0 0] (u2.setCell ⟨N, 6, none⟩ (.slice A' (fi.length + 1) C'))) := by rw [e1]; exact bx2.set 6 _
                  have HR9 : Hid ((u2.setCell ⟨N, 6, none⟩ (.slice A' (fi.length + 1) C')).ownsRow w2e.heap.size 43 3 (.slice A' (fi ++ [t]).length C') (fi ++ [t]).length ((tris (fi ++ [t]))).flatten) := by
                    rw [e1]
                    have h := ((OffB.refl N u2).set 6 (.slice A' (fi.length + 1) C')).own ho2 (own_not' ho2 HNL6.out)
                    have e : (tris (fi ++ [t])) = (tris fi) ++ [[.int .i64 t.1, .int .i64 t.2.1, .int .i64 t.2.2]] := by simp [tris]
                    show World.ownsRow _ _ _ _ _ _ _
                    rw [e]; exact h
                  have HO9 := Lib.hid (off2.set 6 (.slice A' (fi.length + 1) C'))
                  clear off0 bx0 ro0 bw0 hS0 off1 bx1 ro1 bw1 so1 ho2 hg2 hne2 bx2 off2 bw2 g0 z0 r1 hSK s0 s1 hu0 hu1
                  (try go_wp2_with fail)
                  go_roundw
                  case rel => exact ⟨i + 1, A', C', by omega, by go_num, (by rw [HN2.out]; exact HX9.out), (by rw [HN2.out]; exact HR9.out), HO9.out⟩
                  case measure => simp [intOf]; omega
                · skip
                  have HN2 := HNX
                  rw [if_neg hin, List.append_nil] at HN2
                  have hfalse : cnt x l t.1 = false := by simpa using hin
                  rw [hfalse] at HHAS
                  clear hfalse hin HNX HCN
                  go_wp2_with fail
                  with_reducible refine HHAS.out.mono ?_
                  rintro e wx ⟨rfl, rfl⟩
                  go_wp2_with fail
                  go_roundw
                  case rel => exact ⟨i + 1, g6, h6, by omega, by go_num, (by rw [HN2.out]; exact hbx.out), (by rw [HN2.out]; exact hrow.out), hoff.out⟩
                  case measure => simp [intOf]; omega
              · skip
                have hall : ((x.ands.take i).filter (fun t : Tri => cnt x l t.1)) = fA := by rw [List.take_of_length_le (by omega), ← HfA.out]
                rw [hall] at hbx hrow
                generalize wr = w6e at *
                clear hall hbw
                have HX9 := hbx
                have HBS9 := Lib.hid (hoff.out.base HBS6.out HBS6.out.size HGN.out)
                have HNL9 : Hid (N < w6e.heap.size) := hbx.out.lt
                have HT9 := Lib.hid (hoff.out.own HT6.out HTN.out)
                have HGO9 := Lib.hid (hoff.out.own HGO6.out HGG.out)
                have HR6_9 := hrow
                have HRN6 : Hid ((Value.slice g6 fA.length h6).ownBlock ≠ some N) := own_not' hrow.out HNL6.out
                have HR1_9 := Lib.hid (hoff.out.own HR1_6.out HRN1.out)
                have HR2_9 := Lib.hid (hoff.out.own HR2_6.out HRN2.out)
                clear HX6 HBS6 HT6 HGO6 hbx hrow hoff HR1_6 HR2_6
                have HRII := Lib.hid (Plain.ints_any w6e aT aN T0.length T.length cT cN T0 T (HLS6.out w6e HBS9.out) (own_sl' HT9.out))
                rw [decide_eq_true HEQ.out] at HRII
                go_wp2_with fail
                clear hla hca hga m6 hlt hi
                with_reducible refine HRII.out.mono ?_
                rintro e w9 ⟨rfl, hb9⟩
                have h69 := HBS9.out.trans (hb9.mono HBS9.out.size)
                have HB9 := Lib.hid h69
                have hx9 := HX9.out.next hb9 HX9.out.lt
                have hcd := HCD6.out w9 h69
                have n0 := hcd.k0
                have n1 := hcd.k1
                have n2 := hcd.k2
                have n3 := hcd.k3
                have n4 := hcd.k4
                have n5 := hcd.k5
                have n6 := hcd.k6
                have n7 := hcd.k7
                simp only [List.length_nil, List.length_cons, Nat.zero_add] at n0 n1 n2 n3 n4 n5 n6 n7
                have y0 := hx9.at' 0 _ rfl
                have y1 := hx9.at' 1 _ rfl
                have y2 := hx9.at' 2 _ rfl
                have y3 := hx9.at' 3 _ rfl
                have y4 := hx9.at' 4 _ rfl
                have y5 := hx9.at' 5 _ rfl
                have y6 := hx9.at' 6 _ rfl
                have y7 := hx9.at' 7 _ rfl
                have hiw : InCirc w9 (⟨x.max, fI, fL, [], [bl], x.invs, fA, []⟩ : Circ) ⟨g1, h1, g2, h2, none, 0, some ⟨gB, 0, none⟩, 1, a5, c5, g6, h6, none, 0⟩ := ⟨own_sl' (by have h := own_next HR1_9.out hb9; rw [rowsI_flat] at h; exact h), own_slT' (tris_row _) (tris_len _) (own_next HR2_9.out hb9), Sl.nil _, own_sl' (own_next HGO9.out hb9), (HIN6.out w9 h69).invs, own_slT' (tris_row _) (tris_len _) (own_next HR6_9.out hb9), Coi.slT_none _ 3⟩
                have hsm := HSM.out w9 ⟨b1, d1, b2, d2, b3, d3, b4, d4, b5, d5, b6, d6, b7, d7⟩ ⟨g1, h1, g2, h2, none, 0, some ⟨gB, 0, none⟩, 1, a5, c5, g6, h6, none, 0⟩ (HID6.out w9 h69) hiw
                simp only [cells, List.length_nil, List.length_cons, Nat.zero_add] at hsm
                have HSS := Lib.hid hsm
                clear hsm hiw hb9 hx9 hcd HR1_9 HR2_9 HR6_9 h69
                go_wp2_with fail
                with_reducible refine HSS.out.mono ?_
                rintro e w10 ⟨rfl, hb10⟩
                have h610 := HB9.out.trans (hb10.mono HB9.out.size)
                have HB10 := Lib.hid h610
                clear n0 n1 n2 n3 n4 n5 n6 n7 y0 y1 y2 y3 y4 y5 y6 y7
                have hcd := HCD6.out w10 h610
                have n0 := hcd.k0
                have n1 := hcd.k1
                have n2 := hcd.k2
                have n3 := hcd.k3
                have n4 := hcd.k4
                have n5 := hcd.k5
                have n6 := hcd.k6
                have n7 := hcd.k7
                simp only [List.length_nil, List.length_cons, Nat.zero_add] at n0 n1 n2 n3 n4 n5 n6 n7
                have hrc := HRC.out w10 ⟨b1, d1, b2, d2, b3, d3, b4, d4, b5, d5, b6, d6, b7, d7⟩ (HID6.out w10 h610)
                simp only [cells, List.length_nil, List.length_cons, Nat.zero_add] at hrc
                have HRR := Lib.hid hrc
                clear hrc hcd hb10 h610
                go_wp2_with fail
                with_reducible refine HRR.out.mono ?_
                rintro e w11 ⟨rfl, hb11⟩
                go_wp2_with fail
                go_ret
                exact ⟨rfl, HB1.out.trans ((HBx.out w11 (HB10.out.trans (hb11.mono HB10.out.size))).mono HB1.out.size)⟩

theorem flat_le (A : List (List Int)) : A.flatten.length ≤ Open.bulkRows A ∧ A.length ≤ Open.bulkRows A := by
  unfold Open.bulkRows
  induction A with
  | nil => simp
  | cons y r ih =>
    have h := Open.bulkInts_eq y
    simp only [List.flatten_cons, List.length_append, List.map_cons, List.sum_cons, List.length_cons]
    omega

theorem walk (x : Circ) (p : At) {w : World} (hin : InCirc w x p) (hw : WfC x) (hz : Open.bulkCirc x ≤ 1048576) (aA : Option Addr) (cA : Nat) (A : List (List Int)) (vals : List Value) (hA : Sl2 w aA A.length cA vals A) (hwA : ∀ l ∈ A, Clause.Wf l) (hzA : Open.bulkRows A ≤ 1048576)
    (bad : Int) (hb : -9223372036854775808 ≤ bad ∧ bad ≤ 9223372036854775807) (W : World) (hW : W = w) :
    Calls Tryz.prog 3 #[.agg (cells x p), .slice aA A.length cA, .int .i64 bad] W fun e W' => e = .returned (.bool true) ∧ Below W.heap.size W W' := by
  subst hW
  have h64 : ∀ y ∈ A.flatten, Circuit.I64 y := fun y hy => by
    obtain ⟨l, hl, hyl⟩ := List.mem_flatten.1 hy
    exact hwA l hl y hyl
  obtain ⟨h1, h2⟩ := flat_le A
  have h3 : x.ands.length ≤ 4000000 := by unfold Open.bulkCirc at hz; omega
  by_cases hok : askE x A bad = 0
  · obtain ⟨_, g0, g1, _⟩ := askE_zero hok
    obtain ⟨k, rfl⟩ : ∃ k : Nat, bad = (k : Int) := ⟨bad.toNat, by omega⟩
    exact walk_ok W x p hin hw aA A.length cA vals A hA h64 k (by omega) hok (by omega) (by omega) h3
  · exact walk_no W x p hin hw aA A.length cA vals A hA h64 bad hb.1 hb.2 hok (by omega)
end Go.Proofs.YtninglnchengeaaGreat.coiTells
