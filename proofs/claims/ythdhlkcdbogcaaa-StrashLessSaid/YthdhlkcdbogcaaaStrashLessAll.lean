/-
  Several texts in one (written by merge.py): XHashH XHashN XBitL XStrashM XEqR XSameR XStrashLess
-/
import Derived.Test.YthdhlkcdbogcaaaHashM
import Derived.Test.YthdhlkcdbogcaaaRefSmall
import Derived.Test.YthdhlkcdbogcaaaHeldBr
import Derived.Deep.DeepCutAuto
import Derived.BigQuiet
import Derived.Test.YthdhlkcdbogcaaaStrashQ
import Derived.Test.YthdhlkcdbogcaaaNot
import Derived.Deep.QuietTactic
import Derived.Test.YthdhlkcdbogcaaaCBox
import Derived.Test.YthdhlkcdbogcaaaOwnC
import Derived.Test.YthdhlkcdbogcaaaOpenCirc
import Derived.Test.YthdhlkcdbogcaaaLex
/-
  strash.Hash.
-/
namespace Go.Proofs.Ythdhlkcdbogcaaa
open Go.RowKit Base
set_option linter.unusedVariables false
set_option linter.unusedSimpArgs false
namespace StrashP
open Circuit GetI

theorem box8S {N : Nat} {c0 c1 c2 c3 c4 c5 c6 c7 : Value} {w : World} (h : BoxN N [c0, c1, c2, c3, c4, c5, c6, c7] w) : w.cell? ⟨N, 0, none⟩ = some c0 ∧ w.cell? ⟨N, 1, none⟩ = some c1 ∧ w.cell? ⟨N, 2, none⟩ = some c2 ∧ w.cell? ⟨N, 3, none⟩ = some c3 ∧ w.cell? ⟨N, 4, none⟩ = some c4 ∧ w.cell? ⟨N, 5, none⟩ = some c5 ∧ w.cell? ⟨N, 6, none⟩ = some c6 ∧ w.cell? ⟨N, 7, none⟩ = some c7 :=
  ⟨h.at' 0 _ rfl, h.at' 1 _ rfl, h.at' 2 _ rfl, h.at' 3 _ rfl, h.at' 4 _ rfl, h.at' 5 _ rfl, h.at' 6 _ rfl, h.at' 7 _ rfl⟩

theorem foldG_take {l : List Tri} {k : Nat} (hk : k < l.length) : foldG (l.take (k + 1)) = gateS (foldG (l.take k)) l[k] := by
  rw [List.take_succ_eq_append_getElem hk, foldG_snoc]

theorem and_bounds {x : Circ} (h : CheckOk x) (hw : WfC x) {t : Tri} (ht : t ∈ x.ands) : (0 ≤ t.1 ∧ t.1 ≤ 9223372036854775807) ∧ (0 ≤ t.2.1 ∧ t.2.1 ≤ 9223372036854775807) ∧ (0 ≤ t.2.2 ∧ t.2.2 ≤ 9223372036854775807) := by
  have hf := (ord_of h).fine t ht
  obtain ⟨k1, k2, _⟩ := h.2.2.2.1 t ht
  obtain ⟨i1, i2, i3⟩ := hw.ands t ht
  unfold I64 at i1 i2 i3
  have := hf.1
  have := k1.1
  have := k2.1
  omega
theorem told_bounds {x : Circ} (h : CheckOk x) (hw : WfC x) {m : Int} (hm : m ∈ told x) : 0 ≤ m ∧ m ≤ 9223372036854775807 := by
  refine ⟨(told_known h hm).1, ?_⟩
  unfold told at hm
  simp only [List.mem_append] at hm
  rcases hm with ((hm | hm) | hm) | hm
  · obtain ⟨t, ht, rfl⟩ := List.mem_map.1 hm
    exact (hw.lats t ht).2.1.2
  · exact (hw.outs m hm).2
  · exact (hw.bads m hm).2
  · exact (hw.invs m hm).2

/-- append of one struct of k cells, the block that it grew in told. -/
theorem wpL_pushKS {P : Program} {w : World} {ops : Array Oper} {rest : List Oper} {dst : Option Tmp} {ty : TypeId} {pos : String} {af : Array Edge} {a : Act} {Q : Exit → Act → World → Prop}
    {s x : Operand} {t e : TypeId} {z : Value} {k bytes : Nat} (hk : 0 < k) (B : Nat) (v : Value) (n : Nat) (vs : List (List Value)) (ad : Addr) (c : Nat) (u : List Value)
    (hinfo : (P.info? e).map (fun i => (i.zero, i.size, i.bytes)) = some (some z, k, bytes)) (ht : P.underlying t = some (.slice e)) (hzs : z.cells.size = k)
    (hs : a.eval s = v) (hx : a.eval x = .slice (some ad) 1 c) (hu : ∀ y ∈ u, y.oneCell' = true) (hul : u.length = k)
    (hown : w.ownsRow B e k v n vs.flatten) (hc : ∀ (j : Nat) (y : Value), u[j]? = some y → w.cell? (ad.add j) = some y) (hB : B ≤ w.heap.size) (hn : (n + 1) * bytes ≤ 140737488355328) (hn' : n + 1 ≤ 9223372036854775807)
    (hK : ∀ a' c' w1, w1.ownsRow B e k (.slice a' (n + 1) c') (n + 1) (vs ++ [u]).flatten → w.grownBy w1 v.ownBlock → wpList P ops Q rest (a.put dst (.slice a' (n + 1) c')) w1) :
    wpList P ops Q (⟨dst, .call { callee := .builtin .append, args := #[s, x], argTypes := #[t, t] }, ty, pos, af, none⟩ :: rest) a w := by
  obtain ⟨i, hi, hz0, hz1, hz2⟩ := info_parts hinfo
  refine wpList_append_own _ rfl s x t rfl B e i z k bytes ht hi hz0 hz1 hz2 hzs hk v n vs.flatten hs hown ad 1 c u hx (by omega) hc hu
    (by unfold maxLen; omega) hn hB ?_
  intro v' w1 hown' hgrow _
  obtain ⟨g, cap, rfl⟩ : ∃ g cap, v' = .slice (some ⟨g, 0, none⟩) (n + 1) cap := by
    rcases hown'.2 with ⟨_, h0⟩ | ⟨g, cap, _, rfl, _⟩
    · omega
    · exact ⟨g, cap, rfl⟩
  exact hK _ _ w1 (by rw [List.flatten_append]; simpa using hown') hgrow

theorem mid_in {U : World} {x : Circ} {B1 B2 B3 B4 B5 B6 B7 : Nat} {b1 : Option Addr} {d1 : Nat} {b2 : Option Addr} {d2 : Nat} {m3 : Option Addr} {q3 : Nat} {m4 : Option Addr} {q4 : Nat} {m5 : Option Addr} {q5 : Nat} {aK : Option Addr} {cK : Nat} {b7 : Option Addr} {d7 : Nat}
    (h1 : U.ownsRow B1 3 1 (.slice b1 x.ins.length d1) x.ins.length (ints x.ins)) (h2 : U.ownsRow B2 39 3 (.slice b2 x.lats.length d2) x.lats.length (tris (mid x).lats).flatten)
    (h3 : U.ownsRow B3 3 1 (.slice m3 x.outs.length q3) x.outs.length (ints (x.outs.map (litS (stOf x).S)))) (h4 : U.ownsRow B4 3 1 (.slice m4 x.bads.length q4) x.bads.length (ints (x.bads.map (litS (stOf x).S))))
    (h5 : U.ownsRow B5 3 1 (.slice m5 x.invs.length q5) x.invs.length (ints (x.invs.map (litS (stOf x).S)))) (A : List Tri) (h6 : U.ownsRow B6 43 3 (.slice aK A.length cK) A.length (tris A).flatten)
    (h7 : U.ownsRow B7 65 3 (.slice b7 x.names.length d7) x.names.length (namesV x.names).flatten) : InCirc U { mid x with ands := A } ⟨b1, d1, b2, d2, m3, q3, m4, q4, m5, q5, aK, cK, b7, d7⟩ := by
  have e2 : (mid x).lats.length = x.lats.length := by simp [mid]
  have e3 : (x.outs.map (litS (stOf x).S)).length = x.outs.length := by simp
  have e4 : (x.bads.map (litS (stOf x).S)).length = x.bads.length := by simp
  have e5 : (x.invs.map (litS (stOf x).S)).length = x.invs.length := by simp
  refine ⟨own_sl' h1, ?_, ?_, ?_, ?_, own_slT' (tris_row _) (tris_len _) h6, own_slT' (names_row _) (names_len _) h7⟩
  · show SlT U 3 b2 (mid x).lats.length d2 (tris (mid x).lats)
    rw [e2]
    exact own_slT' (tris_row _) (by rw [tris_len, e2]) h2
  · show Sl U m3 (x.outs.map (litS (stOf x).S)).length q3 _
    rw [e3]
    exact own_sl' h3
  · show Sl U m4 (x.bads.map (litS (stOf x).S)).length q4 _
    rw [e4]
    exact own_sl' h4
  · show Sl U m5 (x.invs.map (litS (stOf x).S)).length q5 _
    rw [e5]
    exact own_sl' h5

theorem var_64 {t : Int} (h : I64 t) : I64 (var t) := by unfold I64 var at *; omega
theorem rch_64 {A : List Tri} {l : List Int} {v : Int} (ha : WfT A) (hl : ∀ t ∈ l, I64 t) (h : Rch A l v) : I64 v := by
  cases h with
  | lit ht => exact var_64 (hl _ ht)
  | left _ _ hg => exact var_64 (ha _ (gate_mem hg)).2.1
  | right _ _ hg => exact var_64 (ha _ (gate_mem hg)).2.2
theorem k_wf {x : Circ} (h : CheckOk x) (hw : WfC x) : WfT (stOf x).K := by
  intro t ht
  have hf := (kOrd h).fine t ht
  have hs := (inv_of h).sub
  have h1 : t.1 ∈ x.ands.map (·.1) := hs.subset (List.mem_map.2 ⟨t, ht, rfl⟩)
  obtain ⟨u, hu, he⟩ := List.mem_map.1 h1
  have := (hw.ands u hu).1
  unfold I64 at *
  obtain ⟨f1, f2, f3, f4, f5, f6⟩ := hf
  omega
theorem mid_told {x : Circ} (h : CheckOk x) (hw : WfC x) (hs : WfS (stOf x)) {t : Int} (ht : t ∈ told (mid x)) : I64 t := by
  obtain ⟨m, hm, rfl⟩ := told_lit ht
  obtain ⟨h0, h1⟩ := told_bounds h hw hm
  have := lit_64 hs h0 h1
  unfold I64
  omega
theorem told_len (x : Circ) : (told (mid x)).length = x.lats.length + x.outs.length + x.bads.length + x.invs.length := by unfold told mid; simp; omega
theorem offb_at {b : Nat} {w w2 w3 : World} (h : OffB b w w2) (hg : w2.grownBy w3 (some b)) : OffB b w w3 :=
  ⟨hg.os.trans h.os, hg.tape.trans h.tape, hg.output.trans h.output, Nat.le_trans h.size hg.size, fun k hk hne => (hg.block k (Nat.lt_of_lt_of_le hk h.size) (by simpa using hne)).trans (h.block k hk hne)⟩

set_option maxRecDepth 8000 in
set_option maxHeartbeats 2000000 in
theorem hash_ok (w : World) (x : Circ) (p : At) (hin : InCirc w x p) (hw : WfC x) (hfit : Fits x) (hok : CheckOk x) :
    Calls Try.prog 7 #[.agg (cells x p)] w fun e w' => ∃ p', e = .returned (.tuple #[.agg (cells (hashed x) p'), .int .i64 0]) ∧ InCirc w' (hashed x) p' ∧ Below w.heap.size w w' := by
  obtain ⟨W1, hW1⟩ : ∃ U, w.alloc (.cells (cells x p) 27) = U := ⟨_, rfl⟩
  obtain ⟨W2, hW2⟩ : ∃ U, W1.alloc (.cells #[.int .i64 0, .slice none 0 0, .slice none 0 0, .slice none 0 0, .slice none 0 0, .slice none 0 0, .slice none 0 0, .slice none 0 0] 27) = U := ⟨_, rfl⟩
  have b1 : Below w.heap.size w W1 := by rw [← hW1]; exact (Below.refl _ _).alloc (Nat.le_refl _) _
  have b2 : Below W1.heap.size W1 W2 := by rw [← hW2]; exact (Below.refl _ _).alloc (Nat.le_refl _) _
  have b12 := b1.trans (b2.mono b1.size)
  have x1 : BoxN w.heap.size (cells x p).toList W2 := by
    have h := BoxN.new w (cells x p) 27
    rw [hW1] at h
    exact h.next b2 h.lt
  have x2 : BoxN W1.heap.size [.int .i64 0, .slice none 0 0, .slice none 0 0, .slice none 0 0, .slice none 0 0, .slice none 0 0, .slice none 0 0, .slice none 0 0] W2 := by
    have h := BoxN.new W1 #[.int .i64 0, .slice none 0 0, .slice none 0 0, .slice none 0 0, .slice none 0 0, .slice none 0 0, .slice none 0 0, .slice none 0 0] 27
    rw [hW2] at h
    exact h
  have hc := check_any W2 x p (hin.next b12) hw.ins hw.outs hw.bads hw.invs hw.lats hw.ands hw.mx
  rw [chk_pos hok] at hc
  have HC := Lib.hid hc
  have HIN := Lib.hid (fun (U : World) (hU : Below w.heap.size w U) => hin.next hU)
  have HA := Lib.hid (fun t ht => and_bounds hok hw (t := t) ht)
  have HT := Lib.hid (fun m hm => told_bounds hok hw (m := m) hm)
  have HKW := Lib.hid (k_wf hok hw)
  have HTW := Lib.hid (fun (hs : WfS (stOf x)) (t : Int) ht => mid_told hok hw hs (t := t) ht)
  have HFIT := Lib.hid hfit
  have HFEW := Lib.hid hok.1
  have HOK := Lib.hid hok
  have HX1 := Lib.hid x1
  have HX2 := Lib.hid x2
  have HW1 : Hid (w.heap.size ≤ W1.heap.size) := b1.size
  have HB2 := Lib.hid b12
  obtain ⟨a1, c1, a2, c2, a3, c3, a4, c4, a5, c5, a6, c6, a7, c7⟩ := p
  simp only [cells] at *
  obtain ⟨n0, n1, n2, n3, n4, n5, n6, n7⟩ := box8S HX1.out
  clear hin hw hfit hok x1 x2 b1 b2 b12 hc
  go_enter Try.func7, Try.ntmps7
  go_wp2_with fail
  clear hW1 hW2 n0 n1 n2 n3 n4 n5 n6 n7
  with_reducible refine HC.out.mono ?_
  rintro e w3 ⟨rfl, hb3⟩
  obtain ⟨V1, hV1⟩ : ∃ U, w3.alloc (.map #[] 0) = U := ⟨_, rfl⟩
  obtain ⟨V2, hV2⟩ : ∃ U, V1.alloc (.map #[] 0) = U := ⟨_, rfl⟩
  obtain ⟨V3, hV3⟩ : ∃ U, V2.alloc (.cells #[.map (some w3.heap.size), .map (some V1.heap.size), .slice none 0 0] 53) = U := ⟨_, rfl⟩
  have f1 : Below w3.heap.size w3 V1 := by rw [← hV1]; exact (Below.refl _ _).alloc (Nat.le_refl _) _
  have f2 : Below V1.heap.size V1 V2 := by rw [← hV2]; exact (Below.refl _ _).alloc (Nat.le_refl _) _
  have f3 : Below V2.heap.size V2 V3 := by rw [← hV3]; exact (Below.refl _ _).alloc (Nat.le_refl _) _
  have e1 : w3.heap.size < V1.heap.size := by rw [← hV1]; simp
  have e2 : V1.heap.size < V2.heap.size := by rw [← hV2]; simp
  have hmS : SMap V1 w3.heap.size 0 [] := by rw [← hV1]; exact MapG.made _ _ _ _ _ w3
  have hmM : MMap V2 V1.heap.size 0 [] := by rw [← hV2]; exact MapG.made _ _ _ _ _ V1
  have hbx : BoxN V2.heap.size [.map (some w3.heap.size), .map (some V1.heap.size), .slice none 0 0] V3 := by
    have h := BoxN.new V2 #[.map (some w3.heap.size), .map (some V1.heap.size), .slice none 0 0] 53
    rw [hV3] at h
    exact h
  have hh : HsIs V3 w3.heap.size V2.heap.size 0 ⟨[], [], []⟩ w3.heap.size V1.heap.size none 0 :=
    ⟨hbx, Nat.le_refl _, e1, e2, ⟨0, Nat.le_refl _, (hmS.next f2).next f3⟩, ⟨0, Nat.le_refl _, hmM.next f3⟩, World.ownsRow_nil _ _ _ _, Nat.le_refl _, ⟨fun u v h => by simp [getI] at h, fun u v h => by simp [getI] at h⟩⟩
  have HH0 := Lib.hid hh
  have HB3 := Lib.hid (HB2.out.trans (hb3.mono HB2.out.size))
  have f23 := f2.trans (f3.mono f2.size)
  have f13 := f1.trans (f23.mono f1.size)
  have HBV := Lib.hid f13
  have x13 := HX1.out.next (hb3.trans (f13.mono hb3.size)) HX1.out.lt
  have HX2B := Lib.hid (HX2.out.next hb3 HX2.out.lt)
  have HX1B := Lib.hid (HX1.out.next hb3 HX1.out.lt)
  have n6 := x13.at' 6 _ rfl
  have hsa := (HIN.out w3 HB3.out).ands
  have hca := hsa.cap
  have hga := hsa.big
  have HSA := Lib.hid hsa
  have hmm := @run_makeMap Try.prog
  clear hb3 f1 f2 f3 e1 e2 hmS hmM hbx hh f23 f13 x13 hsa
  go_wp2_with fail
  clear n6 hV1 hV2 hV3 hmm
  go_loopw [28] (fun s wr => ∃ (k : Nat) (aK : Option Addr) (cK : Nat), k ≤ x.ands.length ∧ s = .int .i64 k ∧ Hid (HsIs wr w3.heap.size V2.heap.size k (foldG (x.ands.take k)) w3.heap.size V1.heap.size aK cK) ∧ Hid (Below w3.heap.size w3 wr)) (fun s _ => x.ands.length - (intOf s).toNat)
  case atStart => exact ⟨0, none, 0, Nat.zero_le _, rfl, HH0.out, HBV.out⟩
  case round =>
    obtain ⟨k, aK, cK, hk, rfl, hH, hB⟩ := hrel
    by_cases hlt : k < x.ands.length
    · obtain ⟨b, o, hx, rfl, hbs, hc0, hc1, hc2⟩ := HSA.out.tri hlt
      have d0 := (hB.out.cell (p := ⟨b, o + k * 3, none⟩) hbs).trans hc0
      have d1 := (hB.out.cell (p := ⟨b, o + k * 3 + 1, none⟩) hbs).trans hc1
      have d2 := (hB.out.cell (p := ⟨b, o + k * 3 + 2, none⟩) hbs).trans hc2
      have HF := Lib.hid (foldG_take hx)
      obtain ⟨⟨g0, g1⟩, ⟨g2, g3⟩, ⟨g4, g5⟩⟩ := HA.out _ (List.getElem_mem hx)
      clear hc0 hc1 hc2
      generalize x.ands[k] = t at *
      obtain ⟨U, hU⟩ : ∃ U, wr.alloc (.cells (triC t) 43) = U := ⟨_, rfl⟩
      obtain ⟨hbU, htb⟩ := tbox_new wr t 43 U hU
      have HG := Lib.hid (gate_any U (hH.out.next hbU) t.1 t.2.1 t.2.2 g0 g1 g2 g3 g4 g5 (by have := HFIT.out.ands; omega))
      have t0 := htb.t0
      have t1 := htb.t1
      have t2 := htb.t2
      have HBU := Lib.hid (hB.out.trans (hbU.mono hB.out.size))
      simp only [triC] at hU
      clear hbU htb g0 g1 g2 g3 g4 g5 hH hB
      go_wp2_with fail
      with_reducible refine HG.out.mono ?_
      rintro e w5 ⟨rfl, aK', cK', hh5, hb5⟩
      have HH5 := Lib.hid hh5
      have HB5 := Lib.hid (HBU.out.trans hb5)
      clear hh5 hb5
      go_wp2_with fail
      go_roundw
      case rel => exact ⟨k + 1, aK', cK', by omega, by go_num, by rw [HF.out]; exact HH5.out, HB5.out⟩
      case measure => simp [intOf]; omega
    · have hke : k = x.ands.length := by omega
      obtain ⟨wA, hwA⟩ : ∃ U : World, U = wr := ⟨_, rfl⟩
      subst hwA
      have hH' : HsIs wA w3.heap.size V2.heap.size x.ands.length (stOf x) w3.heap.size V1.heap.size aK cK := by
        have h := hH.out
        rw [hke, List.take_length] at h
        exact h
      have HHR := Lib.hid hH'
      have HBR := Lib.hid hB.out
      have HB4 := Lib.hid (HB3.out.trans (hB.out.mono HB3.out.size))
      have hcp := copy_any wA x ⟨a1, c1, a2, c2, a3, c3, a4, c4, a5, c5, a6, c6, a7, c7⟩ (HIN.out wA HB4.out) HFIT.out
      have hx1r : BoxN w.heap.size _ wA := HX1B.out.next hB.out HX1B.out.lt
      obtain ⟨n0, n1, n2, n3, n4, n5, n6, n7⟩ := box8S hx1r
      have HX1R := Lib.hid hx1r
      have HX2R := Lib.hid (HX2B.out.next hB.out HX2B.out.lt)
      simp only [cells] at hcp
      have HCP := Lib.hid hcp
      clear hH hB hH' hcp hx1r HSA hca hga hke
      go_wp2_with fail
      with_reducible refine HCP.out.mono ?_
      rintro e w5 ⟨q, rfl, hown, hb5⟩
      obtain ⟨b1, d1, b2, d2, b3, d3, b4, d4, b5, d5, b6, d6, b7, d7⟩ := q
      simp only [cells]
      obtain ⟨W6, hW6⟩ : ∃ U, w5.alloc (.cells #[.int .i64 x.max, .slice b1 x.ins.length d1, .slice b2 x.lats.length d2, .slice b3 x.outs.length d3, .slice b4 x.bads.length d4, .slice b5 x.invs.length d5, .slice b6 x.ands.length d6, .slice b7 x.names.length d7] 27) = U := ⟨_, rfl⟩
      have hb6 : Below w5.heap.size w5 W6 := by rw [← hW6]; exact (Below.refl _ _).alloc (Nat.le_refl _) _
      have hx6 : BoxN w5.heap.size [.int .i64 x.max, .slice b1 x.ins.length d1, .slice b2 x.lats.length d2, .slice b3 x.outs.length d3, .slice b4 x.bads.length d4, .slice b5 x.invs.length d5, .slice b6 x.ands.length d6, .slice b7 x.names.length d7] W6 := by
        have h := BoxN.new w5 #[.int .i64 x.max, .slice b1 x.ins.length d1, .slice b2 x.lats.length d2, .slice b3 x.outs.length d3, .slice b4 x.bads.length d4, .slice b5 x.invs.length d5, .slice b6 x.ands.length d6, .slice b7 x.names.length d7] 27
        rw [hW6] at h
        exact h
      have HB56 := Lib.hid (hb5.trans (hb6.mono hb5.size))
      have HNI : Hid ((Value.slice b1 x.ins.length d1).ownBlock ≠ some w5.heap.size) := own_not hown.ins (Nat.le_refl _)
      have HNL : Hid ((Value.slice b2 x.lats.length d2).ownBlock ≠ some w5.heap.size) := own_not hown.lats (Nat.le_refl _)
      have HNN : Hid ((Value.slice b7 x.names.length d7).ownBlock ≠ some w5.heap.size) := own_not hown.names (Nat.le_refl _)
      have HOI := Lib.hid (own_next hown.ins hb6)
      have HOL := Lib.hid (own_next hown.lats hb6)
      have HON := Lib.hid (own_next hown.names hb6)
      have HL5 : Hid (wA.heap.size ≤ w5.heap.size) := hb5.size
      have HX6 := Lib.hid hx6
      have m2 := hx6.at' 2 _ rfl
      clear hown hb5 hb6 hx6 n0 n1 n2 n3 n4 n5 n6 n7
      go_wp2_with fail
      clear m2 hW6
      go_loopw [41] (fun s wr => ∃ (k : Nat), k ≤ x.lats.length ∧ s = .int .i64 k ∧ Hid (wr.ownsRow wA.heap.size 39 3 (.slice b2 x.lats.length d2) x.lats.length (tris (updL (stOf x).S x.lats k)).flatten) ∧ Hid (wr.ownsRow wA.heap.size 3 1 (.slice b1 x.ins.length d1) x.ins.length (ints x.ins)) ∧ Hid (wr.ownsRow wA.heap.size 65 3 (.slice b7 x.names.length d7) x.names.length (namesV x.names).flatten) ∧ Hid (BoxN w5.heap.size [.int .i64 x.max, .slice b1 x.ins.length d1, .slice b2 x.lats.length d2, .slice b3 x.outs.length d3, .slice b4 x.bads.length d4, .slice b5 x.invs.length d5, .slice b6 x.ands.length d6, .slice b7 x.names.length d7] wr) ∧ Hid (Below wA.heap.size wA wr)) (fun s _ => x.lats.length - (intOf s).toNat)
      case atStart => exact ⟨0, Nat.zero_le _, rfl, by rw [updL_zero]; exact HOL.out, HOI.out, HON.out, HX6.out, HB56.out⟩
      case round =>
        obtain ⟨k, hk, rfl, hL, hI, hN, hX, hB⟩ := hrel
        by_cases hlt : k < x.lats.length
        · obtain ⟨g, rfl⟩ := own_some_at hL.out hlt
          have hl64 := HFEW.out.2.2.2.1
          have hq := updL_at (stOf x).S x.lats hlt
          obtain ⟨hgB, hgl, _, hgc, _, _⟩ := own_tri_set hL.out (updL_len _ _ hk) hq 0
          have HST := Lib.hid (updL_step (stOf x).S x.lats hlt)
          have HQ := Lib.hid hq
          obtain ⟨h0, h1⟩ := HT.out x.lats[k].2.1 (by unfold told; simp only [List.mem_append]; exact Or.inl (Or.inl (Or.inl (List.mem_map.2 ⟨_, List.getElem_mem hlt, rfl⟩))))
          have hcl := (own_slT' (tris_row _) (by rw [tris_len]; exact updL_len _ _ hk) hL.out).cap
          generalize x.lats[k] = t at *
          have HGB := Lib.hid hgB
          have hb0 : Below wr.heap.size wr wr.drew := (Below.refl _ _).drew
          have HP := Lib.hid (lit_any wr.drew ((HHR.out.next hB.out).next hb0) t.2.1 h0 h1)
          have hgl' := hgl
          clear hq hgB h0 h1
          go_upto_region 14 with fail
          have hSK : ∀ U : World, Below wr.heap.size wr U → U.cell? ⟨w5.heap.size, 2, none⟩ = some (.slice (some ⟨g, 0, none⟩) x.lats.length d2) ∧ U.cell? ⟨g, k * 3 + 1, none⟩ = some (.int .i64 t.2.1) := fun U hU =>
            ⟨(hX.out.next hU hX.out.lt).at' 2 _ rfl, (hU.cell (p := ⟨g, k * 3 + 1, none⟩) hgl').trans hgc⟩
          have hS := hSK _ hb0
          refine HeldTo.region (fun U : World => U.cell? ⟨w5.heap.size, 2, none⟩ = some (.slice (some ⟨g, 0, none⟩) x.lats.length d2) ∧ U.cell? ⟨g, k * 3 + 1, none⟩ = some (.int .i64 t.2.1)) 13 (by kernel_rfl) ?_
          (refine HeldTo.plain (i := 0) (oi := _) (d := some 44) (v := ?_) rfl rfl (by kernel_rfl) (by kernel_rfl) (by kernel_rfl) (by kernel_rfl) (fun _ _ _ h => h) (Or.inl ⟨by rfl, ?_⟩) (fun _ => hS) ?_; rotate_left; (focus (intro w hSw; clear hSw; go_simp; (try with_reducible rfl); done)); (try simp only [Act.put, List.setIfInBounds_toArray, List.set_cons_zero, List.set_cons_succ]))
          (refine HeldTo.take (i := 1) (oi := _) (d := some 45) (v := ?_) rfl rfl (by kernel_rfl) (by kernel_rfl) (by kernel_rfl) (by kernel_rfl) (by kernel_rfl) (by kernel_rfl) (fun _ _ _ h => h) (Or.inl ⟨by rfl, ?_⟩) hS ?_; rotate_left; (focus (intro w hSw; (try dsimp only at hSw); go_simp; (try with_reducible rfl); done)); (try simp only [Act.put, List.setIfInBounds_toArray, List.set_cons_zero, List.set_cons_succ]))
          (refine HeldTo.plain (i := 2) (oi := _) (d := some 46) (v := ?_) rfl rfl (by kernel_rfl) (by kernel_rfl) (by kernel_rfl) (by kernel_rfl) (fun _ _ _ h => h) (Or.inl ⟨by rfl, ?_⟩) (fun _ => hS) ?_; rotate_left; (focus (intro w hSw; clear hSw; go_simp; (try with_reducible rfl); done)); (try simp only [Act.put, List.setIfInBounds_toArray, List.set_cons_zero, List.set_cons_succ]))
          (refine HeldTo.plain (i := 3) (oi := _) (d := some 47) (v := ?_) rfl rfl (by kernel_rfl) (by kernel_rfl) (by kernel_rfl) (by kernel_rfl) (fun _ _ _ h => h) (Or.inl ⟨by rfl, ?_⟩) (fun _ => hS) ?_; rotate_left; (focus (intro w hSw; clear hSw; go_simp; (try with_reducible rfl); done)); (try simp only [Act.put, List.setIfInBounds_toArray, List.set_cons_zero, List.set_cons_succ]))
          (refine HeldTo.plain (i := 4) (oi := _) (d := some 48) (v := ?_) rfl rfl (by kernel_rfl) (by kernel_rfl) (by kernel_rfl) (by kernel_rfl) (fun _ _ _ h => h) (Or.inl ⟨by rfl, ?_⟩) (fun _ => hS) ?_; rotate_left; (focus (intro w hSw; clear hSw; go_simp; (try with_reducible rfl); done)); (try simp only [Act.put, List.setIfInBounds_toArray, List.set_cons_zero, List.set_cons_succ]))
          (refine HeldTo.take (i := 5) (oi := _) (d := some 49) (v := ?_) rfl rfl (by kernel_rfl) (by kernel_rfl) (by kernel_rfl) (by kernel_rfl) (by kernel_rfl) (by kernel_rfl) (fun _ _ _ h => h) (Or.inl ⟨by rfl, ?_⟩) hS ?_; rotate_left; (focus (intro w hSw; (try dsimp only at hSw); go_simp; (try with_reducible rfl); done)); (try simp only [Act.put, List.setIfInBounds_toArray, List.set_cons_zero, List.set_cons_succ]))
          (refine HeldTo.plain (i := 6) (oi := _) (d := some 50) (v := ?_) rfl rfl (by kernel_rfl) (by kernel_rfl) (by kernel_rfl) (by kernel_rfl) (fun _ _ _ h => h) (Or.inl ⟨by rfl, ?_⟩) (fun _ => hS) ?_; rotate_left; (focus (intro w hSw; clear hSw; go_simp; (try with_reducible rfl); done)); (try simp only [Act.put, List.setIfInBounds_toArray, List.set_cons_zero, List.set_cons_succ]))
          (refine HeldTo.plain (i := 7) (oi := _) (d := some 51) (v := ?_) rfl rfl (by kernel_rfl) (by kernel_rfl) (by kernel_rfl) (by kernel_rfl) (fun _ _ _ h => h) (Or.inl ⟨by rfl, ?_⟩) (fun _ => hS) ?_; rotate_left; (focus (intro w hSw; clear hSw; go_simp; (try with_reducible rfl); done)); (try simp only [Act.put, List.setIfInBounds_toArray, List.set_cons_zero, List.set_cons_succ]))
          (refine HeldTo.plain (i := 8) (oi := _) (d := some 52) (v := ?_) rfl rfl (by kernel_rfl) (by kernel_rfl) (by kernel_rfl) (by kernel_rfl) (fun _ _ _ h => h) (Or.inl ⟨by rfl, ?_⟩) (fun _ => hS) ?_; rotate_left; (focus (intro w hSw; clear hSw; go_simp; (try with_reducible rfl); done)); (try simp only [Act.put, List.setIfInBounds_toArray, List.set_cons_zero, List.set_cons_succ]))
          (refine HeldTo.take (i := 9) (oi := _) (d := some 53) (v := ?_) rfl rfl (by kernel_rfl) (by kernel_rfl) (by kernel_rfl) (by kernel_rfl) (by kernel_rfl) (by kernel_rfl) (fun _ _ _ h => h) (Or.inl ⟨by rfl, ?_⟩) hS ?_; rotate_left; (focus (intro w hSw; (try dsimp only at hSw); go_simp; (try with_reducible rfl); done)); (try simp only [Act.put, List.setIfInBounds_toArray, List.set_cons_zero, List.set_cons_succ]))
          refine HeldTo.call (i := 10) (oi := _) (d := some 54) (R := fun v w' => v = .int .i64 (litS (stOf x).S t.2.1) ∧ Below wr.drew.heap.size wr.drew w') rfl rfl (by kernel_rfl) (by rfl) (by go_simp; done) (HP.out.mono fun e w' h => ⟨_, h.1, rfl, by obtain ⟨_, q, h2⟩ := h; rw [h2]; exact below_drewN (Below.refl _ _) q⟩) ?_
          rintro v wk11 ⟨rfl, hbk11⟩
          have hB11 := hb0.trans (hbk11.mono hb0.size)
          have hS11 := hSK _ hB11
          refine ⟨hS11, ?_⟩
          (try simp only [Act.put, List.setIfInBounds_toArray, List.set_cons_zero, List.set_cons_succ])
          (refine HeldTo.plain (i := 11) (oi := _) (d := some 55) (v := ?_) rfl rfl (by kernel_rfl) (by kernel_rfl) (by kernel_rfl) (by kernel_rfl) (fun _ _ _ h => h) (Or.inl ⟨by rfl, ?_⟩) (fun _ => hS11) ?_; rotate_left; (focus (intro w hSw; clear hSw; go_simp; (try with_reducible rfl); done)); (try simp only [Act.put, List.setIfInBounds_toArray, List.set_cons_zero, List.set_cons_succ]))
          (refine HeldTo.plain (i := 12) (oi := _) (d := some 56) (v := ?_) rfl rfl (by kernel_rfl) (by kernel_rfl) (by kernel_rfl) (by kernel_rfl) (fun _ _ _ h => h) (Or.inl ⟨by rfl, ?_⟩) (fun _ => hS11) ?_; rotate_left; (focus (intro w hSw; clear hSw; go_simp; (try with_reducible rfl); done)); (try simp only [Act.put, List.setIfInBounds_toArray, List.set_cons_zero, List.set_cons_succ]))
          obtain ⟨w12, hw12⟩ : ∃ U, wk11.setCell ⟨g, k * 3 + 1, none⟩ (.int .i64 (litS (stOf x).S t.2.1)) = U := ⟨_, rfl⟩
          obtain ⟨_, _, ⟨cur, hcur⟩, g12, z12, ho12⟩ := own_tri_set (own_next hL.out hB11) (updL_len _ _ hk) HQ.out (litS (stOf x).S t.2.1)
          rw [hw12] at ho12
          (refine HeldTo.store (i := 13) (oi := _) (d := none) (w2 := w12) rfl rfl (by kernel_rfl) (by kernel_rfl) (by rfl) (by go_simp; done) ?_; (try simp only [Act.put, List.setIfInBounds_toArray, List.set_cons_zero, List.set_cons_succ]))
          refine HeldTo.done (by kernel_rfl) ?_ _
          have hne : w5.heap.size ≠ g := fun e => HNL.out (by rw [e]; rfl)
          have HL12 := Lib.hid ho12
          have hI12 := own_otherS (own_next hI.out hB11) hcur (by decide) (k * 3 + 1) (.int .i64 (litS (stOf x).S t.2.1))
          rw [hw12] at hI12
          have HI12 := Lib.hid hI12
          have hN12 := own_otherS (own_next hN.out hB11) hcur (by decide) (k * 3 + 1) (.int .i64 (litS (stOf x).S t.2.1))
          rw [hw12] at hN12
          have HN12 := Lib.hid hN12
          have hX12 := (hX.out.next hB11 hX.out.lt).other (a := ⟨g, k * 3 + 1, none⟩) (fun e => hne e.symm) (.int .i64 (litS (stOf x).S t.2.1))
          rw [hw12] at hX12
          have HX12 := Lib.hid hX12
          have hB12 := (hB.out.trans (hB11.mono hB.out.size)).setCell (p := ⟨g, k * 3 + 1, none⟩) HGB.out (.int .i64 (litS (stOf x).S t.2.1))
          rw [hw12] at hB12
          have HB12 := Lib.hid hB12
          clear g12 z12 ho12 hI12 hN12 hX12 hB12 hbk11 hB11 hS11 hS hSK hw12 hcur hgc hgl hgl' hne hb0 hcl hI hN hX hL hB
          go_wp2_with fail
          go_roundw
          case rel => exact ⟨k + 1, by omega, by go_num, by rw [← HST.out]; exact HL12.out, HI12.out, HN12.out, HX12.out, HB12.out⟩
          case measure => simp [intOf]; omega
        · have hke : k = x.lats.length := by omega
          obtain ⟨wB, hwB⟩ : ∃ U : World, U = wr := ⟨_, rfl⟩
          subst hwB
          have hL' : wB.ownsRow wA.heap.size 39 3 (.slice b2 x.lats.length d2) x.lats.length (tris (mid x).lats).flatten := by
            have h := hL.out
            rw [hke, updL_full] at h
            exact h
          have HLB := Lib.hid hL'
          have HIB1 := hI
          have HNB := hN
          have HXB := hX
          have HBB := hB
          have HHB := Lib.hid (fun (U : World) (hU : OffB w5.heap.size wB U) => HHR.out.next (hU.base HBB.out (Nat.le_trans HL5.out (Nat.le_of_lt HXB.out.lt)) HL5.out))
          have HIB := Lib.hid (fun (U : World) (hU : OffB w5.heap.size wB U) => HIN.out U (HB4.out.trans ((hU.base HBB.out (Nat.le_trans HL5.out (Nat.le_of_lt HXB.out.lt)) HL5.out).mono HB4.out.size)))
          have HT3 : Hid (∀ y ∈ x.outs, 0 ≤ y ∧ y ≤ 9223372036854775807) := fun y hy => HT.out y (by unfold told; simp only [List.mem_append]; exact Or.inl (Or.inl (Or.inr hy)))
          have HT4 : Hid (∀ y ∈ x.bads, 0 ≤ y ∧ y ≤ 9223372036854775807) := fun y hy => HT.out y (by unfold told; simp only [List.mem_append]; exact Or.inl (Or.inr hy))
          have HT5 : Hid (∀ y ∈ x.invs, 0 ≤ y ∧ y ≤ 9223372036854775807) := fun y hy => HT.out y (by unfold told; simp only [List.mem_append]; exact Or.inr hy)
          have HF3 := Lib.hid HFIT.out.outs
          have HF4 := Lib.hid HFIT.out.bads
          have HF5 := Lib.hid HFIT.out.invs
          have hx1b := HX1R.out.next HBB.out HX1R.out.lt
          have HLT5 : Hid (w5.heap.size < wB.heap.size) := HXB.out.lt
          have HNE1 : Hid (w.heap.size ≠ w5.heap.size) := by show _ ≠ _; have := HX1R.out.lt; have := HL5.out; omega
          have HX1B2 := Lib.hid hx1b
          clear hL hI hN hX hB hL' hk hx1b hke
          go_upto_region 16 with fail
          go_cut [58] from 58 to 73 (fun u58 wx => ∃ (m3 : Option Addr) (q3 : Nat) (m4 : Option Addr) (q4 : Nat) (m5 : Option Addr) (q5 : Nat), Hid (wx.ownsRow wB.heap.size 3 1 (.slice m3 x.outs.length q3) x.outs.length (ints (x.outs.map (litS (stOf x).S)))) ∧ Hid (wx.ownsRow wB.heap.size 3 1 (.slice m4 x.bads.length q4) x.bads.length (ints (x.bads.map (litS (stOf x).S)))) ∧ Hid (wx.ownsRow wB.heap.size 3 1 (.slice m5 x.invs.length q5) x.invs.length (ints (x.invs.map (litS (stOf x).S)))) ∧ Hid (BoxN w5.heap.size [.int .i64 x.max, .slice b1 x.ins.length d1, .slice b2 x.lats.length d2, .slice m3 x.outs.length q3, .slice m4 x.bads.length q4, .slice m5 x.invs.length q5, .slice b6 x.ands.length d6, .slice b7 x.names.length d7] wx) ∧ Hid (OffB w5.heap.size wB wx))
          case first =>
            have hb0 : OffB w5.heap.size wB wB.drew := (OffB.refl _ _).below ((Below.refl _ _).drew)
            have bx0 := HXB.out.next ((Below.refl _ _).drew : Below wB.heap.size wB wB.drew) HXB.out.lt
            have hlt5 := HLT5.out
            have hSK : ∀ U : World, OffB w5.heap.size wB U → U.cell? ⟨w.heap.size, 3, none⟩ = some (.slice a3 x.outs.length c3) ∧ U.cell? ⟨w.heap.size, 4, none⟩ = some (.slice a4 x.bads.length c4) ∧ U.cell? ⟨w.heap.size, 5, none⟩ = some (.slice a5 x.invs.length c5) := fun U hU => by
              have h := hU.box HX1B2.out HNE1.out
              exact ⟨h.at' 3 _ rfl, h.at' 4 _ rfl, h.at' 5 _ rfl⟩
            have hS := hSK _ hb0
            refine HeldTo.region (fun U : World => U.cell? ⟨w.heap.size, 3, none⟩ = some (.slice a3 x.outs.length c3) ∧ U.cell? ⟨w.heap.size, 4, none⟩ = some (.slice a4 x.bads.length c4) ∧ U.cell? ⟨w.heap.size, 5, none⟩ = some (.slice a5 x.invs.length c5)) 17 (by kernel_rfl) ?_
            (refine HeldTo.plain (i := 0) (oi := _) (d := some 58) (v := ?_) rfl rfl (by kernel_rfl) (by kernel_rfl) (by kernel_rfl) (by kernel_rfl) (fun _ _ _ h => h) (Or.inl ⟨by rfl, ?_⟩) (fun _ => hS) ?_; rotate_left; (focus (intro w hSw; clear hSw; go_simp; (try with_reducible rfl); done)); (try simp only [Act.put, List.setIfInBounds_toArray, List.set_cons_zero, List.set_cons_succ]))
            (refine HeldTo.plain (i := 1) (oi := _) (d := some 59) (v := ?_) rfl rfl (by kernel_rfl) (by kernel_rfl) (by kernel_rfl) (by kernel_rfl) (fun _ _ _ h => h) (Or.inl ⟨by rfl, ?_⟩) (fun _ => hS) ?_; rotate_left; (focus (intro w hSw; clear hSw; go_simp; (try with_reducible rfl); done)); (try simp only [Act.put, List.setIfInBounds_toArray, List.set_cons_zero, List.set_cons_succ]))
            (refine HeldTo.take (i := 2) (oi := _) (d := some 60) (v := ?_) rfl rfl (by kernel_rfl) (by kernel_rfl) (by kernel_rfl) (by kernel_rfl) (by kernel_rfl) (by kernel_rfl) (fun _ _ _ h => h) (Or.inl ⟨by rfl, ?_⟩) hS ?_; rotate_left; (focus (intro w hSw; (try dsimp only at hSw); go_simp; (try with_reducible rfl); done)); (try simp only [Act.put, List.setIfInBounds_toArray, List.set_cons_zero, List.set_cons_succ]))
            (refine HeldTo.plain (i := 4) (oi := _) (d := some 62) (v := ?_) rfl rfl (by kernel_rfl) (by kernel_rfl) (by kernel_rfl) (by kernel_rfl) (fun _ _ _ h => h) (Or.inl ⟨by rfl, ?_⟩) (fun _ => hS) ?_; rotate_left; (focus (intro w hSw; clear hSw; go_simp; (try with_reducible rfl); done)); (try simp only [Act.put, List.setIfInBounds_toArray, List.set_cons_zero, List.set_cons_succ]))
            (refine HeldTo.plain (i := 5) (oi := _) (d := some 63) (v := ?_) rfl rfl (by kernel_rfl) (by kernel_rfl) (by kernel_rfl) (by kernel_rfl) (fun _ _ _ h => h) (Or.inl ⟨by rfl, ?_⟩) (fun _ => hS) ?_; rotate_left; (focus (intro w hSw; clear hSw; go_simp; (try with_reducible rfl); done)); (try simp only [Act.put, List.setIfInBounds_toArray, List.set_cons_zero, List.set_cons_succ]))
            (refine HeldTo.take (i := 6) (oi := _) (d := some 64) (v := ?_) rfl rfl (by kernel_rfl) (by kernel_rfl) (by kernel_rfl) (by kernel_rfl) (by kernel_rfl) (by kernel_rfl) (fun _ _ _ h => h) (Or.inl ⟨by rfl, ?_⟩) hS ?_; rotate_left; (focus (intro w hSw; (try dsimp only at hSw); go_simp; (try with_reducible rfl); done)); (try simp only [Act.put, List.setIfInBounds_toArray, List.set_cons_zero, List.set_cons_succ]))
            (refine HeldTo.plain (i := 8) (oi := _) (d := some 66) (v := ?_) rfl rfl (by kernel_rfl) (by kernel_rfl) (by kernel_rfl) (by kernel_rfl) (fun _ _ _ h => h) (Or.inl ⟨by rfl, ?_⟩) (fun _ => hS) ?_; rotate_left; (focus (intro w hSw; clear hSw; go_simp; (try with_reducible rfl); done)); (try simp only [Act.put, List.setIfInBounds_toArray, List.set_cons_zero, List.set_cons_succ]))
            (refine HeldTo.plain (i := 9) (oi := _) (d := some 67) (v := ?_) rfl rfl (by kernel_rfl) (by kernel_rfl) (by kernel_rfl) (by kernel_rfl) (fun _ _ _ h => h) (Or.inl ⟨by rfl, ?_⟩) (fun _ => hS) ?_; rotate_left; (focus (intro w hSw; clear hSw; go_simp; (try with_reducible rfl); done)); (try simp only [Act.put, List.setIfInBounds_toArray, List.set_cons_zero, List.set_cons_succ]))
            (refine HeldTo.take (i := 10) (oi := _) (d := some 68) (v := ?_) rfl rfl (by kernel_rfl) (by kernel_rfl) (by kernel_rfl) (by kernel_rfl) (by kernel_rfl) (by kernel_rfl) (fun _ _ _ h => h) (Or.inl ⟨by rfl, ?_⟩) hS ?_; rotate_left; (focus (intro w hSw; (try dsimp only at hSw); go_simp; (try with_reducible rfl); done)); (try simp only [Act.put, List.setIfInBounds_toArray, List.set_cons_zero, List.set_cons_succ]))
            refine HeldTo.one (i := 3) (by kernel_rfl) ?_
            refine HeldTo.opCall (i := 3) (oi := _) (d := some 61) (R := fun v w' => ∃ a' c', v = .slice a' x.outs.length c' ∧ w'.ownsRow wB.drew.heap.size 3 1 (.slice a' x.outs.length c') x.outs.length (ints (x.outs.map (litS (stOf x).S))) ∧ Below wB.drew.heap.size wB.drew w') rfl rfl (by rfl) (by go_simp; done) ((all_any wB.drew (HHB.out wB.drew hb0) a3 c3 x.outs (HIB.out wB.drew hb0).outs HT3.out HF3.out).mono fun e w' h => by obtain ⟨a', c', he, ho, hb⟩ := h; exact ⟨_, he, a', c', rfl, ho, hb⟩) ?_
            rintro v wk101 ⟨m101, q101, rfl, ho101, hbk101⟩
            have ob101 := hb0.below hbk101
            have bx101 : BoxN w5.heap.size [.int .i64 x.max, .slice b1 x.ins.length d1, .slice b2 x.lats.length d2, .slice b3 x.outs.length d3, .slice b4 x.bads.length d4, .slice b5 x.invs.length d5, .slice b6 x.ands.length d6, .slice b7 x.names.length d7] wk101 := bx0.next hbk101 bx0.lt
            have ro101 := own_mono ho101 hb0.size
            have hS101 := hSK _ ob101
            refine ⟨hS101, ?_⟩
            (try simp only [Act.put, List.setIfInBounds_toArray, List.set_cons_zero, List.set_cons_succ])
            (refine HeldTo.plain (i := 12) (oi := _) (d := some 70) (v := ?_) rfl rfl (by kernel_rfl) (by kernel_rfl) (by kernel_rfl) (by kernel_rfl) (fun _ _ _ h => h) (Or.inl ⟨by rfl, ?_⟩) (fun _ => hS101) ?_; rotate_left; (focus (intro w hSw; clear hSw; go_simp; (try with_reducible rfl); done)); (try simp only [Act.put, List.setIfInBounds_toArray, List.set_cons_zero, List.set_cons_succ]))
            refine HeldTo.one (i := 7) (by kernel_rfl) ?_
            refine HeldTo.opCall (i := 7) (oi := _) (d := some 65) (R := fun v w' => ∃ a' c', v = .slice a' x.bads.length c' ∧ w'.ownsRow wk101.heap.size 3 1 (.slice a' x.bads.length c') x.bads.length (ints (x.bads.map (litS (stOf x).S))) ∧ Below wk101.heap.size wk101 w') rfl rfl (by rfl) (by go_simp; done) ((all_any wk101 (HHB.out wk101 ob101) a4 c4 x.bads (HIB.out wk101 ob101).bads HT4.out HF4.out).mono fun e w' h => by obtain ⟨a', c', he, ho, hb⟩ := h; exact ⟨_, he, a', c', rfl, ho, hb⟩) ?_
            rintro v wk102 ⟨m102, q102, rfl, ho102, hbk102⟩
            have ob102 := ob101.below hbk102
            have bx102 : BoxN w5.heap.size [.int .i64 x.max, .slice b1 x.ins.length d1, .slice b2 x.lats.length d2, .slice b3 x.outs.length d3, .slice b4 x.bads.length d4, .slice b5 x.invs.length d5, .slice b6 x.ands.length d6, .slice b7 x.names.length d7] wk102 := bx101.next hbk102 bx101.lt
            have ro102 := own_mono ho102 ob101.size
            have ro102_3 := own_next ro101 hbk102
            have hS102 := hSK _ ob102
            refine ⟨hS102, ?_⟩
            (try simp only [Act.put, List.setIfInBounds_toArray, List.set_cons_zero, List.set_cons_succ])
            refine HeldTo.one (i := 11) (by kernel_rfl) ?_
            refine HeldTo.opCall (i := 11) (oi := _) (d := some 69) (R := fun v w' => ∃ a' c', v = .slice a' x.invs.length c' ∧ w'.ownsRow wk102.heap.size 3 1 (.slice a' x.invs.length c') x.invs.length (ints (x.invs.map (litS (stOf x).S))) ∧ Below wk102.heap.size wk102 w') rfl rfl (by rfl) (by go_simp; done) ((all_any wk102 (HHB.out wk102 ob102) a5 c5 x.invs (HIB.out wk102 ob102).invs HT5.out HF5.out).mono fun e w' h => by obtain ⟨a', c', he, ho, hb⟩ := h; exact ⟨_, he, a', c', rfl, ho, hb⟩) ?_
            rintro v wk103 ⟨m103, q103, rfl, ho103, hbk103⟩
            have ob103 := ob102.below hbk103
            have bx103 : BoxN w5.heap.size [.int .i64 x.max, .slice b1 x.ins.length d1, .slice b2 x.lats.length d2, .slice b3 x.outs.length d3, .slice b4 x.bads.length d4, .slice b5 x.invs.length d5, .slice b6 x.ands.length d6, .slice b7 x.names.length d7] wk103 := bx102.next hbk103 bx102.lt
            have ro103 := own_mono ho103 ob102.size
            have ro103_3 := own_next ro102_3 hbk103
            have ro103_4 := own_next ro102 hbk103
            have hS103 := hSK _ ob103
            refine ⟨hS103, ?_⟩
            (try simp only [Act.put, List.setIfInBounds_toArray, List.set_cons_zero, List.set_cons_succ])
            obtain ⟨w104, hw104⟩ : ∃ U, wk103.setCell ⟨w5.heap.size, 3, none⟩ (.slice m101 x.outs.length q101) = U := ⟨_, rfl⟩
            have ob104 := ob103.set 3 (.slice m101 x.outs.length q101)
            rw [hw104] at ob104
            have g104 := bx103.at' 3 _ rfl
            have z104 := bx103.fz 3
            have bx104' := bx103.set 3 (.slice m101 x.outs.length q101)
            rw [hw104] at bx104'
            have bx104 : BoxN w5.heap.size [.int .i64 x.max, .slice b1 x.ins.length d1, .slice b2 x.lats.length d2, .slice m101 x.outs.length q101, .slice b4 x.bads.length d4, .slice b5 x.invs.length d5, .slice b6 x.ands.length d6, .slice b7 x.names.length d7] w104 := bx104'
            have ro104_3 := ownsRow_setCell_below ro103_3 (a := ⟨w5.heap.size, 3, none⟩) hlt5 (.slice m101 x.outs.length q101)
            rw [hw104] at ro104_3
            have ro104_4 := ownsRow_setCell_below ro103_4 (a := ⟨w5.heap.size, 3, none⟩) hlt5 (.slice m101 x.outs.length q101)
            rw [hw104] at ro104_4
            have ro104_5 := ownsRow_setCell_below ro103 (a := ⟨w5.heap.size, 3, none⟩) hlt5 (.slice m101 x.outs.length q101)
            rw [hw104] at ro104_5
            have hS104 := hSK _ ob104
            refine HeldTo.one (i := 13) (by kernel_rfl) ?_
            refine HeldTo.opStore (i := 13) (oi := _) (d := none) (w2 := w104) rfl rfl (by rfl) (by go_simp; done) hS104 ?_
            (try simp only [Act.put, List.setIfInBounds_toArray, List.set_cons_zero, List.set_cons_succ])
            clear g104 z104
            (refine HeldTo.plain (i := 14) (oi := _) (d := some 71) (v := ?_) rfl rfl (by kernel_rfl) (by kernel_rfl) (by kernel_rfl) (by kernel_rfl) (fun _ _ _ h => h) (Or.inl ⟨by rfl, ?_⟩) (fun _ => hS104) ?_; rotate_left; (focus (intro w hSw; clear hSw; go_simp; (try with_reducible rfl); done)); (try simp only [Act.put, List.setIfInBounds_toArray, List.set_cons_zero, List.set_cons_succ]))
            obtain ⟨w105, hw105⟩ : ∃ U, w104.setCell ⟨w5.heap.size, 4, none⟩ (.slice m102 x.bads.length q102) = U := ⟨_, rfl⟩
            have ob105 := ob104.set 4 (.slice m102 x.bads.length q102)
            rw [hw105] at ob105
            have g105 := bx104.at' 4 _ rfl
            have z105 := bx104.fz 4
            have bx105' := bx104.set 4 (.slice m102 x.bads.length q102)
            rw [hw105] at bx105'
            have bx105 : BoxN w5.heap.size [.int .i64 x.max, .slice b1 x.ins.length d1, .slice b2 x.lats.length d2, .slice m101 x.outs.length q101, .slice m102 x.bads.length q102, .slice b5 x.invs.length d5, .slice b6 x.ands.length d6, .slice b7 x.names.length d7] w105 := bx105'
            have ro105_3 := ownsRow_setCell_below ro104_3 (a := ⟨w5.heap.size, 4, none⟩) hlt5 (.slice m102 x.bads.length q102)
            rw [hw105] at ro105_3
            have ro105_4 := ownsRow_setCell_below ro104_4 (a := ⟨w5.heap.size, 4, none⟩) hlt5 (.slice m102 x.bads.length q102)
            rw [hw105] at ro105_4
            have ro105_5 := ownsRow_setCell_below ro104_5 (a := ⟨w5.heap.size, 4, none⟩) hlt5 (.slice m102 x.bads.length q102)
            rw [hw105] at ro105_5
            have hS105 := hSK _ ob105
            refine HeldTo.one (i := 15) (by kernel_rfl) ?_
            refine HeldTo.opStore (i := 15) (oi := _) (d := none) (w2 := w105) rfl rfl (by rfl) (by go_simp; done) hS105 ?_
            (try simp only [Act.put, List.setIfInBounds_toArray, List.set_cons_zero, List.set_cons_succ])
            clear g105 z105
            (refine HeldTo.plain (i := 16) (oi := _) (d := some 72) (v := ?_) rfl rfl (by kernel_rfl) (by kernel_rfl) (by kernel_rfl) (by kernel_rfl) (fun _ _ _ h => h) (Or.inl ⟨by rfl, ?_⟩) (fun _ => hS105) ?_; rotate_left; (focus (intro w hSw; clear hSw; go_simp; (try with_reducible rfl); done)); (try simp only [Act.put, List.setIfInBounds_toArray, List.set_cons_zero, List.set_cons_succ]))
            obtain ⟨w106, hw106⟩ : ∃ U, w105.setCell ⟨w5.heap.size, 5, none⟩ (.slice m103 x.invs.length q103) = U := ⟨_, rfl⟩
            have ob106 := ob105.set 5 (.slice m103 x.invs.length q103)
            rw [hw106] at ob106
            have g106 := bx105.at' 5 _ rfl
            have z106 := bx105.fz 5
            have bx106' := bx105.set 5 (.slice m103 x.invs.length q103)
            rw [hw106] at bx106'
            have bx106 : BoxN w5.heap.size [.int .i64 x.max, .slice b1 x.ins.length d1, .slice b2 x.lats.length d2, .slice m101 x.outs.length q101, .slice m102 x.bads.length q102, .slice m103 x.invs.length q103, .slice b6 x.ands.length d6, .slice b7 x.names.length d7] w106 := bx106'
            have ro106_3 := ownsRow_setCell_below ro105_3 (a := ⟨w5.heap.size, 5, none⟩) hlt5 (.slice m103 x.invs.length q103)
            rw [hw106] at ro106_3
            have ro106_4 := ownsRow_setCell_below ro105_4 (a := ⟨w5.heap.size, 5, none⟩) hlt5 (.slice m103 x.invs.length q103)
            rw [hw106] at ro106_4
            have ro106_5 := ownsRow_setCell_below ro105_5 (a := ⟨w5.heap.size, 5, none⟩) hlt5 (.slice m103 x.invs.length q103)
            rw [hw106] at ro106_5
            have hS106 := hSK _ ob106
            refine HeldTo.one (i := 17) (by kernel_rfl) ?_
            refine HeldTo.opStore (i := 17) (oi := _) (d := none) (w2 := w106) rfl rfl (by rfl) (by go_simp; done) hS106 ?_
            (try simp only [Act.put, List.setIfInBounds_toArray, List.set_cons_zero, List.set_cons_succ])
            clear g106 z106
            refine HeldTo.done (by kernel_rfl) ?_ _
            (try go_wp2_with fail)
            go_meet
            exact ⟨m101, q101, m102, q102, m103, q103, ro106_3, ro106_4, ro106_5, bx106, ob106⟩
          case rest =>
            obtain ⟨m3, q3, m4, q4, m5, q5, P3, P4, P5, HX22, HOB22⟩ := hcut
            generalize wc = w22 at *
            have P1 := Lib.hid (HOB22.out.own HIB1.out HNI.out)
            have P2 := Lib.hid (HOB22.out.own HLB.out HNL.out)
            have P7 := Lib.hid (HOB22.out.own HNB.out HNN.out)
            have BA22 := HOB22.out.base HBB.out (Nat.le_trans HL5.out (Nat.le_of_lt HLT5.out)) HL5.out
            have hh22 := HHR.out.next BA22
            have HBA22 := Lib.hid BA22
            have HH22 := Lib.hid hh22
            have hd2 := hh22.box.at' 2 _ rfl
            have x6 := HX22.out.at' 6 _ rfl
            have y6 := HX22.out.fz 6
            obtain ⟨w23, hw23⟩ : ∃ U, w22.setCell ⟨w5.heap.size, 6, none⟩ (.slice aK (stOf x).K.length cK) = U := ⟨_, rfl⟩
            obtain ⟨w24, hw24⟩ : ∃ U, w23.alloc (.map #[] 0) = U := ⟨_, rfl⟩
            have X23 := HX22.out.set 6 (.slice aK (stOf x).K.length cK)
            rw [hw23] at X23
            have b24 : Below w23.heap.size w23 w24 := by rw [← hw24]; exact (Below.refl _ _).alloc (Nat.le_refl _) _
            have s24 : SetI.SetIs w24 w23.heap.size 0 [] := by rw [← hw24]; exact SetI.set_made w23
            have ob23 := (OffB.refl w5.heap.size w22).set 6 (.slice aK (stOf x).K.length cK)
            rw [hw23] at ob23
            have ob24 := ob23.below b24
            have hlt23 : w22.heap.size ≤ w23.heap.size := ob23.size
            have X24 : BoxN w5.heap.size [.int .i64 x.max, .slice b1 x.ins.length d1, .slice b2 x.lats.length d2, .slice m3 x.outs.length q3, .slice m4 x.bads.length q4, .slice m5 x.invs.length q5, .slice aK (stOf x).K.length cK, .slice b7 x.names.length d7] w24 := X23.next b24 X23.lt
            have HOB24 := Lib.hid ob24
            have HS24 := Lib.hid s24
            have HX24 := Lib.hid X24
            have HL22 : Hid (wB.heap.size ≤ w22.heap.size) := HOB22.out.size
            have HL23 := Lib.hid hlt23
            have HL24 : Hid (w23.heap.size < w24.heap.size) := by show _ < _; rw [← hw24]; simp
            have hmm := @run_makeMap Try.prog
            clear X23 ob23 ob24 X24 BA22 hh22 hlt23 b24 s24
            go_upto_region 19 with fail
            clear hw23 hw24 hd2 x6 y6 hmm
            have hKn : (Value.slice aK (stOf x).K.length cK).ownBlock ≠ some w5.heap.size := own_not HHR.out.k HL5.out
            have HKN := Lib.hid hKn
            have hmid : InCirc w24 (mid x) ⟨b1, d1, b2, d2, m3, q3, m4, q4, m5, q5, aK, cK, b7, d7⟩ := mid_in (HOB24.out.own P1.out HNI.out) (HOB24.out.own P2.out HNL.out) (HOB24.out.own P3.out (own_not' P3.out HLT5.out)) (HOB24.out.own P4.out (own_not' P4.out HLT5.out)) (HOB24.out.own P5.out (own_not' P5.out HLT5.out)) (stOf x).K (HOB24.out.own HH22.out.k hKn) (HOB24.out.own P7.out HNN.out)
            have hml := told_len x
            have hfew := HFEW.out
            obtain ⟨_, _, f1, f2, f3, f4, f5⟩ := hfew
            have hkl : (stOf x).K.length ≤ x.ands.length := HHR.out.few
            have hfa := HFIT.out.ands
            have hce : cells (mid x) ⟨b1, d1, b2, d2, m3, q3, m4, q4, m5, q5, aK, cK, b7, d7⟩ = #[.int .i64 x.max, .slice b1 x.ins.length d1, .slice b2 x.lats.length d2, .slice m3 x.outs.length q3, .slice m4 x.bads.length q4, .slice m5 x.invs.length q5, .slice aK (stOf x).K.length cK, .slice b7 x.names.length d7] := by simp only [cells, mid, List.length_map]
            have htd := fun (U : World) (hU : Below w24.heap.size w24 U) => told_any U (mid x) ⟨b1, d1, b2, d2, m3, q3, m4, q4, m5, q5, aK, cK, b7, d7⟩ (hmid.next hU) (by simp only [mid, List.length_map]; omega)
            have hcn := fun (U : World) (hU : Below w24.heap.size w24 U) (a' : Option Addr) (c' : Nat) hsl => cone_any U (mid x) ⟨b1, d1, b2, d2, m3, q3, m4, q4, m5, q5, aK, cK, b7, d7⟩ (hmid.next hU) HKW.out a' c' (told (mid x)) hsl (fun y hy => HTW.out HH22.out.wf y hy) (by have e : (mid x).ands = (stOf x).K := rfl; rw [hml, e]; omega)
            simp only [hce] at htd hcn
            have htw : ∀ t ∈ told (mid x), I64 t := fun y hy => HTW.out HH22.out.wf y hy
            have HTV := Lib.hid htw
            have HTD := Lib.hid htd
            have HCN := Lib.hid hcn
            have HWT : Hid (∀ t, wants x t = tt (Rch (stOf x).K (told (mid x)) (var t.1))) := fun t => rfl
            clear hmid hml f1 f2 f3 f4 f5 hkl hfa hce htd hcn htw hKn
            generalize told (mid x) = TL at *
            have hb0 : Below w24.heap.size w24 w24.drew := (Below.refl _ _).drew
            have hSK : ∀ U : World, Below w24.heap.size w24 U → U.cell? ⟨w5.heap.size, 0, none⟩ = some (.int .i64 x.max) ∧ U.cell? ⟨w5.heap.size, 1, none⟩ = some (.slice b1 x.ins.length d1) ∧ U.cell? ⟨w5.heap.size, 2, none⟩ = some (.slice b2 x.lats.length d2) ∧ U.cell? ⟨w5.heap.size, 3, none⟩ = some (.slice m3 x.outs.length q3) ∧ U.cell? ⟨w5.heap.size, 4, none⟩ = some (.slice m4 x.bads.length q4) ∧ U.cell? ⟨w5.heap.size, 5, none⟩ = some (.slice m5 x.invs.length q5) ∧ U.cell? ⟨w5.heap.size, 6, none⟩ = some (.slice aK (stOf x).K.length cK) ∧ U.cell? ⟨w5.heap.size, 7, none⟩ = some (.slice b7 x.names.length d7) := fun U hU => by
              have h := HX24.out.next hU HX24.out.lt
              exact box8S h
            have hS := hSK _ hb0
            refine HeldTo.region (fun U : World => U.cell? ⟨w5.heap.size, 0, none⟩ = some (.int .i64 x.max) ∧ U.cell? ⟨w5.heap.size, 1, none⟩ = some (.slice b1 x.ins.length d1) ∧ U.cell? ⟨w5.heap.size, 2, none⟩ = some (.slice b2 x.lats.length d2) ∧ U.cell? ⟨w5.heap.size, 3, none⟩ = some (.slice m3 x.outs.length q3) ∧ U.cell? ⟨w5.heap.size, 4, none⟩ = some (.slice m4 x.bads.length q4) ∧ U.cell? ⟨w5.heap.size, 5, none⟩ = some (.slice m5 x.invs.length q5) ∧ U.cell? ⟨w5.heap.size, 6, none⟩ = some (.slice aK (stOf x).K.length cK) ∧ U.cell? ⟨w5.heap.size, 7, none⟩ = some (.slice b7 x.names.length d7)) 3 (by kernel_rfl) ?_
            (refine HeldTo.plain (i := 5) (oi := _) (d := some 84) (v := ?_) rfl rfl (by kernel_rfl) (by kernel_rfl) (by kernel_rfl) (by kernel_rfl) (fun _ _ _ h => h) (Or.inl ⟨by rfl, ?_⟩) (fun _ => hS) ?_; rotate_left; (focus (intro w hSw; clear hSw; go_simp; (try with_reducible rfl); done)); (try simp only [Act.put, List.setIfInBounds_toArray, List.set_cons_zero, List.set_cons_succ]))
            (refine HeldTo.take (i := 0) (oi := _) (d := some 79) (v := ?_) rfl rfl (by kernel_rfl) (by kernel_rfl) (by kernel_rfl) (by kernel_rfl) (by kernel_rfl) (by kernel_rfl) (fun _ _ _ h => h) (Or.inl ⟨by rfl, ?_⟩) hS ?_; rotate_left; (focus (intro w hSw; (try dsimp only at hSw); go_simp; (try with_reducible rfl); done)); (try simp only [Act.put, List.setIfInBounds_toArray, List.set_cons_zero, List.set_cons_succ]))
            refine HeldTo.one (i := 1) (by kernel_rfl) ?_
            (refine HeldTo.opVal (i := 1) (oi := _) (d := some 80) (v := .agg #[.int .i64 x.max, .slice b1 x.ins.length d1, .slice b2 x.lats.length d2, .slice m3 x.outs.length q3, .slice m4 x.bads.length q4, .slice m5 x.invs.length q5, .slice aK (stOf x).K.length cK, .slice b7 x.names.length d7]) (w2 := w24.drew) rfl rfl (by rfl) ?_ hS ?_; (focus (obtain ⟨s0, s1, s2, s3, s4, s5, s6, s7⟩ := hS; go_simp; done)); (try simp only [Act.put, List.setIfInBounds_toArray, List.set_cons_zero, List.set_cons_succ]))
            refine HeldTo.call (i := 2) (oi := _) (d := some 81) (R := fun v w' => ∃ a' c', v = .slice a' TL.length c' ∧ w'.ownsRow w24.drew.heap.size 3 1 (.slice a' TL.length c') TL.length (ints TL) ∧ Below w24.drew.heap.size w24.drew w') rfl rfl (by kernel_rfl) (by rfl) (by go_simp; done) ((HTD.out w24.drew hb0).mono fun e w' h => by obtain ⟨a', c', he, ho, hb⟩ := h; exact ⟨_, he, a', c', rfl, ho, hb⟩) ?_
            rintro v wk2 ⟨a9, c9, rfl, ho2, hbk2⟩
            have hB2 := hb0.trans (hbk2.mono hb0.size)
            have hS2 := hSK _ hB2
            refine ⟨hS2, ?_⟩
            (try simp only [Act.put, List.setIfInBounds_toArray, List.set_cons_zero, List.set_cons_succ])
            refine HeldTo.call (i := 3) (oi := _) (d := some 82) (R := fun v w' => ∃ a' c' vs, v = .slice a' vs.length c' ∧ w'.ownsRow wk2.heap.size 3 1 (.slice a' vs.length c') vs.length (ints vs) ∧ (∀ y, y ∈ vs ↔ y ≠ 0 ∧ Rch (stOf x).K TL y) ∧ Below wk2.heap.size wk2 w') rfl rfl (by kernel_rfl) (by rfl) (by go_simp; done) ((HCN.out wk2 hB2 a9 c9 (own_sl' ho2)).mono fun e w' h => by obtain ⟨a', c', vs, he, ho, _, hv, hb⟩ := h; exact ⟨_, he, a', c', vs, rfl, ho, hv, hb⟩) ?_
            rintro v wk3 ⟨a10, c10, vs, rfl, ho3, hvs, hbk3⟩
            have hB3 := hB2.trans (hbk3.mono hB2.size)
            have hS3 := hSK _ hB3
            refine ⟨hS3, ?_⟩
            (try simp only [Act.put, List.setIfInBounds_toArray, List.set_cons_zero, List.set_cons_succ])
            (refine HeldTo.plain (i := 4) (oi := _) (d := some 83) (v := ?_) rfl rfl (by kernel_rfl) (by kernel_rfl) (by kernel_rfl) (by kernel_rfl) (fun _ _ _ h => h) (Or.inl ⟨by rfl, ?_⟩) (fun h => absurd h (by decide)) ?_; rotate_left; (focus (intro w hSw; clear hSw; go_simp; (try with_reducible rfl); done)); (try simp only [Act.put, List.setIfInBounds_toArray, List.set_cons_zero, List.set_cons_succ]))
            refine HeldTo.done (by kernel_rfl) ?_ _
            generalize wk3 = w26 at *
            have HV := Lib.hid ho3
            have HVS := Lib.hid hvs
            have HB26 := Lib.hid hB3
            have HMV : Hid (w23.heap.size < wk2.heap.size) := Nat.lt_of_lt_of_le HL24.out hB2.size
            have HS26 := Lib.hid (HS24.out.next hB3)
            have hvc := (own_sl' ho3).cap
            have hvb := (own_sl' ho3).big
            clear ho2 hbk2 ho3 hvs hbk3 hB2 hB3 hS hS2 hS3 hSK hb0
            go_wp2_with fail
            go_loopw [84] (fun s wr => ∃ k : Nat, k ≤ vs.length ∧ s = .int .i64 k ∧ Hid (SetI.SetIs wr w23.heap.size k (vs.take k)) ∧ Hid (OffB w23.heap.size w26 wr)) (fun s _ => vs.length - (intOf s).toNat)
            case atStart => exact ⟨0, Nat.zero_le _, rfl, HS26.out, OffB.refl _ _⟩
            case round =>
              obtain ⟨k, hk, rfl, hS, hO⟩ := hrel
              by_cases hlt : k < vs.length
              · obtain ⟨b, o, hx, rfl, hbs, hc⟩ := (own_sl' (hO.out.own HV.out (own_not' HV.out HMV.out))).int hlt
                have h64 : I64 vs[k] := rch_64 HKW.out HTV.out ((HVS.out _).1 (List.getElem_mem hx)).2
                have HTK : Hid (vs.take (k + 1) = vs.take k ++ [vs[k]]) := List.take_succ_eq_append_getElem hx
                generalize vs[k] = v at *
                obtain ⟨w9, hrun, hs9, hg9⟩ := set_store hS.out (show SetI.I64 v from h64) (by omega)
                have HS9 := Lib.hid hs9
                have HO9 := Lib.hid (offb_at hO.out hg9)
                clear hs9 hg9 h64 hbs
                go_wp2_with fail
                go_roundw
                case rel => exact ⟨k + 1, by omega, by go_num, by rw [HTK.out]; exact HS9.out, HO9.out⟩
                case measure => simp [intOf]; omega
              · have hke : k = vs.length := by omega
                obtain ⟨w29, hw29⟩ : ∃ U : World, U = wr := ⟨_, rfl⟩
                subst hw29
                have hS' : SetI.SetIs w29 w23.heap.size vs.length vs := by
                  have h := hS.out
                  rw [hke, List.take_length] at h
                  exact h
                have z1 := HL5.out
                have z2 := HLT5.out
                have z3 := HL22.out
                have z4 := HL23.out
                have z5 := HL24.out
                have z6 := HB26.out.size
                have z7 := HBA22.out.size
                have hne : w5.heap.size ≠ w23.heap.size := by omega
                have x29 : BoxN w5.heap.size [.int .i64 x.max, .slice b1 x.ins.length d1, .slice b2 x.lats.length d2, .slice m3 x.outs.length q3, .slice m4 x.bads.length q4, .slice m5 x.invs.length q5, .slice aK (stOf x).K.length cK, .slice b7 x.names.length d7] w29 := hO.out.box (HX24.out.next HB26.out HX24.out.lt) hne
                have ba24 := HOB24.out.base HBA22.out z7 HL5.out
                have ba26 := ba24.trans (HB26.out.mono ba24.size)
                have ba29 := hO.out.base ba26 ba26.size (by omega)
                obtain ⟨w30, hw30⟩ : ∃ U, w29.setCell ⟨w5.heap.size, 6, none⟩ (.slice none 0 0) = U := ⟨_, rfl⟩
                have ob30 := (OffB.refl w5.heap.size w29).set 6 (.slice none 0 0)
                rw [hw30] at ob30
                have x30' := x29.set 6 (.slice none 0 0)
                rw [hw30] at x30'
                have x30 : BoxN w5.heap.size [.int .i64 x.max, .slice b1 x.ins.length d1, .slice b2 x.lats.length d2, .slice m3 x.outs.length q3, .slice m4 x.bads.length q4, .slice m5 x.invs.length q5, .slice none 0 0, .slice b7 x.names.length d7] w30 := x30'
                have ba30 := ob30.base ba29 ba29.size HL5.out
                have s30 := ob30.seti hS' (fun e => hne e.symm)
                have hpr : ∀ {B : Nat} {e : TypeId} {sz : Nat} {v : Value} {n : Nat} {us : List Value}, w22.ownsRow B e sz v n us → v.ownBlock ≠ some w5.heap.size → w30.ownsRow B e sz v n us := fun h1 h2 =>
                  ob30.own (hO.out.own (own_next (HOB24.out.own h1 h2) HB26.out) (own_not h1 z4)) h2
                have HQ1 := Lib.hid (hpr P1.out HNI.out)
                have HQ2 := Lib.hid (hpr P2.out HNL.out)
                have HQ3 := Lib.hid (hpr P3.out (own_not' P3.out HLT5.out))
                have HQ4 := Lib.hid (hpr P4.out (own_not' P4.out HLT5.out))
                have HQ5 := Lib.hid (hpr P5.out (own_not' P5.out HLT5.out))
                have HQ7 := Lib.hid (hpr P7.out HNN.out)
                have hkr := hpr HH22.out.k HKN.out
                have HKR := Lib.hid hkr
                have hkc := (own_slT' (tris_row _) (tris_len _) hkr).cap
                have hkb := (own_slT' (tris_row _) (tris_len _) hkr).big
                have hd2 := (HHR.out.next ba30).box.at' 2 _ rfl
                have x6 := x29.at' 6 _ rfl
                have y6 := x29.fz 6
                have HX30 := Lib.hid x30
                have HBA30 := Lib.hid ba30
                have HS30 := Lib.hid s30
                have HNE := Lib.hid hne
                have HL30 : Hid (w5.heap.size < w30.heap.size) := by show _ < _; have := ba30.size; have := ob30.size; have := hO.out.size; omega
                have HKO := Lib.hid (kOrd HOK.out)
                have hK24 : ((stOf x).K.length + 1) * 24 ≤ 140737488355328 + 24 := by have := HHR.out.few; have := HFIT.out.ands; omega
                have HK24 := Lib.hid hK24
                clear x29 ba24 ba26 ba29 ob30 x30' x30 ba30 s30 hpr hkr hS' z1 z2 z3 z4 z5 z6 z7 hne hK24 hS hO hk hvc hvb hke
                go_wp2_with fail
                clear hw30 hd2 x6 y6
                go_loopw [97] (fun s wr => ∃ (k : Nat) (a6' : Option Addr) (c6' : Nat), k ≤ (stOf x).K.length ∧ s = .int .i64 k ∧ Hid (BoxN w5.heap.size [.int .i64 x.max, .slice b1 x.ins.length d1, .slice b2 x.lats.length d2, .slice m3 x.outs.length q3, .slice m4 x.bads.length q4, .slice m5 x.invs.length q5, .slice a6' (((stOf x).K.take k).filter (wants x)).length c6', .slice b7 x.names.length d7] wr) ∧ Hid (wr.ownsRow w30.heap.size 43 3 (.slice a6' (((stOf x).K.take k).filter (wants x)).length c6') (((stOf x).K.take k).filter (wants x)).length (tris (((stOf x).K.take k).filter (wants x))).flatten) ∧ Hid (OffB w5.heap.size w30 wr)) (fun s _ => (stOf x).K.length - (intOf s).toNat)
                case atStart => exact ⟨0, none, 0, Nat.zero_le _, rfl, HX30.out, World.ownsRow_nil _ _ _ _, OffB.refl _ _⟩
                case round =>
                  obtain ⟨k, a6', c6', hk, rfl, hX, hF, hO⟩ := hrel
                  by_cases hlt2 : k < (stOf x).K.length
                  · obtain ⟨b, o, hx, rfl, hbs, hc0, hc1, hc2⟩ := (own_slT' (tris_row _) (tris_len _) (hO.out.own HKR.out HKN.out)).tri hlt2
                    have hmem := List.getElem_mem hx
                    have ht64 := (HKW.out _ hmem).1
                    have hge : 2 ≤ (stOf x).K[k].1 := (HKO.out.fine _ hmem).1
                    have HWW := Lib.hid (HWT.out (stOf x).K[k])
                    have HFT : Hid (((stOf x).K.take (k + 1)).filter (wants x) = ((stOf x).K.take k).filter (wants x) ++ (if wants x (stOf x).K[k] = true then [(stOf x).K[k]] else [])) := by
                      show _ = _
                      rw [List.take_succ_eq_append_getElem hx, List.filter_append]
                      congr 1
                      by_cases hh : wants x (stOf x).K[k] = true <;> simp [hh]
                    have hFl : (((stOf x).K.take k).filter (wants x)).length ≤ k := Nat.le_trans (List.length_filter_le _ _) (by rw [List.length_take]; omega)
                    generalize (stOf x).K[k] = t at *
                    generalize ((stOf x).K.take k).filter (wants x) = F at *
                    have HFL := Lib.hid hFl
                    obtain ⟨U, hU⟩ : ∃ U, wr.alloc (.cells (triC t) 43) = U := ⟨_, rfl⟩
                    obtain ⟨hbU, htb⟩ := tbox_new wr t 43 U hU
                    have t0 := htb.t0
                    have t1 := htb.t1
                    have t2 := htb.t2
                    have hsU := (hO.out.seti HS30.out (fun e => HNE.out e.symm)).next hbU
                    have hl := SetI.set_look hsU (x := var t.1) (show SetI.I64 _ from var_64 ht64)
                    have VA := Lib.hid (fun (V : World) => var_any t.1 (by omega) (by unfold I64 at ht64; omega) V)
                    have hxU := hX.out.next hbU hX.out.lt
                    have hoU := hO.out.below hbU
                    have hfU := own_next hF.out hbU
                    have hv0 : var t.1 ≠ 0 := by unfold var; omega
                    simp only [triC] at hU
                    have HXU := Lib.hid hxU
                    have HOU := Lib.hid hoU
                    have HFU := Lib.hid hfU
                    clear hbU htb hsU hxU hoU hfU hX hF hO hbs ht64 hge hmem hFl
                    by_cases hwn : Rch (stOf x).K TL (var t.1)
                    · have hix : SetI.inX vs (var t.1) = true := SetI.inX_iff.2 ((HVS.out _).2 ⟨hv0, hwn⟩)
                      have hwt : wants x t = true := by rw [HWW.out]; exact tt_pos hwn
                      have HFT2 := Lib.hid HFT.out
                      rw [if_pos hwt] at HFT2
                      rw [hix] at hl
                      obtain ⟨W7, hW7⟩ : ∃ V, U.alloc (.cells #[.int .i64 t.1, .int .i64 t.2.1, .int .i64 t.2.2] 43) = V := ⟨_, rfl⟩
                      have hb7 : Below U.heap.size U W7 := by rw [← hW7]; exact (Below.refl _ _).alloc (Nat.le_refl _) _
                      have hx7 : BoxN U.heap.size [.int .i64 t.1, .int .i64 t.2.1, .int .i64 t.2.2] W7 := by
                        have h := BoxN.new U #[.int .i64 t.1, .int .i64 t.2.1, .int .i64 t.2.2] 43
                        rw [hW7] at h
                        exact h
                      have hf7 := own_next HFU.out hb7
                      have HX7 := Lib.hid hx7
                      have HF7 := Lib.hid hf7
                      have HXW7 := Lib.hid (HXU.out.next hb7 HXU.out.lt)
                      have HO7 := Lib.hid (HOU.out.below hb7)
                      have HZ7 : Hid (w30.heap.size ≤ W7.heap.size) := HO7.out.size
                      have n6 := HXU.out.at' 6 _ rfl
                      have HFX : Hid ((tris (F ++ [t])).flatten = (tris F ++ [[Value.int .i64 t.1, Value.int .i64 t.2.1, Value.int .i64 t.2.2]]).flatten) := by show _ = _; simp [tris]
                      have HN24 : Hid ((F.length + 1) * 24 ≤ 140737488355328) := by show _ ≤ _; have := HK24.out; have := HFL.out; omega
                      clear hix hwt hwn hv0 HFT HWW hb7 hx7 hf7
                      go_wp2_with fail
                      with_reducible refine (VA.out _).mono ?_
                      rintro e w2 ⟨rfl, rfl⟩
                      go_wp2_with ((with_reducible refine wpL_pushKS (k := 3) (by decide) w30.heap.size (.slice a6' F.length c6') F.length (tris F) ⟨U.heap.size, 0, none⟩ 1 [.int .i64 t.1, .int .i64 t.2.1, .int .i64 t.2.2] info_and Try.underlying24 rfl ?_ ?_ ?_ rfl HF7.out ?_ HZ7.out HN24.out ?_ ?_); rfl; rfl; (intro u hu; simp only [List.mem_cons, List.not_mem_nil, or_false] at hu; rcases hu with rfl | rfl | rfl <;> rfl); (intro j y hy; rw [Addr.add_lit, Nat.zero_add]; exact HX7.out.at' j y hy); (have := HN24.out; omega); (intro a8 c8 w8 hown8 hg8; have bx8 := box_grown HXW7.out hg8 (own_block HF7.out HL30.out); have n8 := bx8.at' 6 _ rfl; have f8 := bx8.fz 6; have HX8 := Lib.hid (bx8.set 6 (.slice a8 (F.length + 1) c8)); have HO8 := Lib.hid ((HO7.out.grown hg8 (fun q hq => (HF7.out.lt q hq).1)).set 6 (.slice a8 (F.length + 1) c8)); have HF8 := Lib.hid (ownsRow_setCell_below hown8 (a := ⟨w5.heap.size, 6, none⟩) HL30.out (.slice a8 (F.length + 1) c8)); clear bx8 hown8 hg8))
                      go_wp2_with fail
                      go_roundw
                      case rel => exact ⟨k + 1, a8, c8, by omega, by go_num, by rw [HFT2.out, List.length_append]; exact HX8.out, by rw [HFT2.out, List.length_append, HFX.out]; exact HF8.out, HO8.out⟩
                      case measure => simp [intOf]; omega
                    · have hix : SetI.inX vs (var t.1) = false := by
                        rw [Bool.eq_false_iff]
                        exact fun e => hwn ((HVS.out _).1 (SetI.inX_iff.1 e)).2
                      have hwt : ¬ wants x t = true := by rw [HWW.out, tt_neg hwn]; decide
                      have HFT2 := Lib.hid HFT.out
                      rw [if_neg hwt, List.append_nil] at HFT2
                      rw [hix] at hl
                      clear hix hwt hwn hv0 HFT HWW
                      go_wp2_with fail
                      with_reducible refine (VA.out _).mono ?_
                      rintro e w2 ⟨rfl, rfl⟩
                      go_wp2_with fail
                      go_roundw
                      case rel => exact ⟨k + 1, a6', c6', by omega, by go_num, by rw [HFT2.out]; exact HXU.out, by rw [HFT2.out]; exact HFU.out, HOU.out⟩
                      case measure => simp [intOf]; omega
                  · have hke2 : k = (stOf x).K.length := by omega
                    obtain ⟨w31, hw31⟩ : ∃ U : World, U = wr := ⟨_, rfl⟩
                    subst hw31
                    have hE : ((stOf x).K.take k).filter (wants x) = (hashed x).ands := by rw [hke2, List.take_length]; rfl
                    rw [hE] at hX hF
                    obtain ⟨F, hFe⟩ : ∃ F, (hashed x).ands = F := ⟨_, rfl⟩
                    have HHX : Hid (hashed x = { mid x with ands := F }) := by show _ = _; rw [← hFe]; rfl
                    rw [hFe] at hX hF
                    have hba31 := hO.out.base HBA30.out HBA30.out.size HL5.out
                    obtain ⟨r0, r1, r2, r3, r4, r5, r6, r7⟩ := box8S hX.out
                    obtain ⟨s0, s1, s2, s3, s4, s5, s6, s7⟩ := box8S (HX2R.out.next hba31 HX2R.out.lt)
                    have y0 := (HX2R.out.next hba31 HX2R.out.lt).fz 0
                    have y1 := (HX2R.out.next hba31 HX2R.out.lt).fz 1
                    have y2 := (HX2R.out.next hba31 HX2R.out.lt).fz 2
                    have y3 := (HX2R.out.next hba31 HX2R.out.lt).fz 3
                    have y4 := (HX2R.out.next hba31 HX2R.out.lt).fz 4
                    have y5 := (HX2R.out.next hba31 HX2R.out.lt).fz 5
                    have y6 := (HX2R.out.next hba31 HX2R.out.lt).fz 6
                    have y7 := (HX2R.out.next hba31 HX2R.out.lt).fz 7
                    have HBA31 := Lib.hid hba31
                    clear hba31 hke2 hE hFe
                    go_wp2_with fail
                    refine bodyPost_ret (v := .tuple #[.agg #[.int .i64 x.max, .slice b1 x.ins.length d1, .slice b2 x.lats.length d2, .slice m3 x.outs.length q3, .slice m4 x.bads.length q4, .slice m5 x.invs.length q5, .slice a6' F.length c6', .slice b7 x.names.length d7], .int .i64 0]) (by simp [results, Try.results7, go_sem, s0, s1, s2, s3, s4, s5, s6, s7]) rfl ?_
                    refine ⟨⟨b1, d1, b2, d2, m3, q3, m4, q4, m5, q5, a6', c6', b7, d7⟩, ?_, ?_, ?_⟩
                    · rw [HHX.out]
                      simp only [cells, mid, List.length_map]
                    · rw [HHX.out]
                      have l1 := HX2R.out.lt
                      have l2 := HBB.out.size
                      have l3 := HL22.out
                      have l4 := HBA30.out.size
                      have l5 := HLT5.out
                      have l6 := HL5.out
                      have ob : OffB W1.heap.size w31 _ := ((((((((OffB.refl W1.heap.size w31).set 0 (.int .i64 x.max)).set 1 (.slice b1 x.ins.length d1)).set 2 (.slice b2 x.lats.length d2)).set 3 (.slice m3 x.outs.length q3)).set 4 (.slice m4 x.bads.length q4)).set 5 (.slice m5 x.invs.length q5)).set 6 (.slice a6' F.length c6')).set 7 (.slice b7 x.names.length d7)
                      exact mid_in (ob.own (hO.out.own HQ1.out HNI.out) (own_not' HQ1.out l1)) (ob.own (hO.out.own HQ2.out HNL.out) (own_not' HQ2.out l1)) (ob.own (hO.out.own HQ3.out (own_not' P3.out HLT5.out)) (own_not' HQ3.out (by omega))) (ob.own (hO.out.own HQ4.out (own_not' P4.out HLT5.out)) (own_not' HQ4.out (by omega))) (ob.own (hO.out.own HQ5.out (own_not' P5.out HLT5.out)) (own_not' HQ5.out (by omega))) F (ob.own hF.out (own_not' hF.out (by omega))) (ob.own (hO.out.own HQ7.out HNN.out) (own_not' HQ7.out l1))
                    · have ob : OffB W1.heap.size w31 _ := ((((((((OffB.refl W1.heap.size w31).set 0 (.int .i64 x.max)).set 1 (.slice b1 x.ins.length d1)).set 2 (.slice b2 x.lats.length d2)).set 3 (.slice m3 x.outs.length q3)).set 4 (.slice m4 x.bads.length q4)).set 5 (.slice m5 x.invs.length q5)).set 6 (.slice a6' F.length c6')).set 7 (.slice b7 x.names.length d7)
                      have hb := HB4.out.trans (HBA31.out.mono HB4.out.size)
                      exact ob.base hb hb.size HW1.out
end StrashP
end Go.Proofs.Ythdhlkcdbogcaaa

/-
  strash.Hash of a circuit that may not be.
-/
namespace Go.Proofs.Ythdhlkcdbogcaaa
open Go.RowKit Base
set_option linter.unusedVariables false
set_option linter.unusedSimpArgs false
namespace StrashP
open Circuit GetI

set_option maxRecDepth 8000 in
set_option maxHeartbeats 2000000 in
theorem hash_no (w : World) (x : Circ) (p : At) (hin : InCirc w x p) (hw : WfC x) (hno : ¬ CheckOk x) :
    Calls Try.prog 7 #[.agg (cells x p)] w fun e w' => e = .returned (.tuple #[.agg #[.int .i64 0, .slice none 0 0, .slice none 0 0, .slice none 0 0, .slice none 0 0, .slice none 0 0, .slice none 0 0, .slice none 0 0], .int .i64 9]) ∧ Below w.heap.size w w' := by
  obtain ⟨W1, hW1⟩ : ∃ U, w.alloc (.cells (cells x p) 27) = U := ⟨_, rfl⟩
  obtain ⟨W2, hW2⟩ : ∃ U, W1.alloc (.cells #[.int .i64 0, .slice none 0 0, .slice none 0 0, .slice none 0 0, .slice none 0 0, .slice none 0 0, .slice none 0 0, .slice none 0 0] 27) = U := ⟨_, rfl⟩
  have b1 : Below w.heap.size w W1 := by rw [← hW1]; exact (Below.refl _ _).alloc (Nat.le_refl _) _
  have b2 : Below W1.heap.size W1 W2 := by rw [← hW2]; exact (Below.refl _ _).alloc (Nat.le_refl _) _
  have b12 := b1.trans (b2.mono b1.size)
  have x1 : BoxN w.heap.size (cells x p).toList W2 := by
    have h := BoxN.new w (cells x p) 27
    rw [hW1] at h
    exact h.next b2 h.lt
  have x2 : BoxN W1.heap.size [.int .i64 0, .slice none 0 0, .slice none 0 0, .slice none 0 0, .slice none 0 0, .slice none 0 0, .slice none 0 0, .slice none 0 0] W2 := by
    have h := BoxN.new W1 #[.int .i64 0, .slice none 0 0, .slice none 0 0, .slice none 0 0, .slice none 0 0, .slice none 0 0, .slice none 0 0, .slice none 0 0] 27
    rw [hW2] at h
    exact h
  have hc := check_any W2 x p (hin.next b12) hw.ins hw.outs hw.bads hw.invs hw.lats hw.ands hw.mx
  rw [chk_neg hno] at hc
  have HC := Lib.hid hc
  have HX1 := Lib.hid x1
  have HX2 := Lib.hid x2
  have HW1 : Hid (w.heap.size ≤ W1.heap.size) := b1.size
  have HB2 := Lib.hid b12
  obtain ⟨a1, c1, a2, c2, a3, c3, a4, c4, a5, c5, a6, c6, a7, c7⟩ := p
  simp only [cells] at *
  obtain ⟨n0, n1, n2, n3, n4, n5, n6, n7⟩ := box8S HX1.out
  clear hin hw hno x1 x2 b1 b2 b12 hc
  go_enter Try.func7, Try.ntmps7
  go_wp2_with fail
  clear hW1 hW2 n0 n1 n2 n3 n4 n5 n6 n7
  with_reducible refine HC.out.mono ?_
  rintro e w3 ⟨rfl, hb3⟩
  have hx3 := HX2.out.next hb3 HX2.out.lt
  obtain ⟨s0, s1, s2, s3, s4, s5, s6, s7⟩ := box8S hx3
  have y0 := hx3.fz 0
  have y1 := hx3.fz 1
  have y2 := hx3.fz 2
  have y3 := hx3.fz 3
  have y4 := hx3.fz 4
  have y5 := hx3.fz 5
  have y6 := hx3.fz 6
  have y7 := hx3.fz 7
  have HB3 := Lib.hid (HB2.out.trans (hb3.mono HB2.out.size))
  clear hx3 hb3
  go_wp2_with fail
  refine bodyPost_ret (v := .tuple #[.agg #[.int .i64 0, .slice none 0 0, .slice none 0 0, .slice none 0 0, .slice none 0 0, .slice none 0 0, .slice none 0 0, .slice none 0 0], .int .i64 9]) (by simp [results, Try.results7, go_sem, s0, s1, s2, s3, s4, s5, s6, s7]) rfl ?_
  refine ⟨rfl, ?_⟩
  have ob : OffB W1.heap.size w3 _ := ((((((((OffB.refl W1.heap.size w3).set 0 (.int .i64 0)).set 1 (.slice none 0 0)).set 2 (.slice none 0 0)).set 3 (.slice none 0 0)).set 4 (.slice none 0 0)).set 5 (.slice none 0 0)).set 6 (.slice none 0 0)).set 7 (.slice none 0 0)
  exact ob.base HB3.out HB3.out.size HW1.out
end StrashP
end Go.Proofs.Ythdhlkcdbogcaaa

/-
  interlocklaw06's alive and bit; the reference's Var and Neg.
-/
namespace Go.Proofs.Ythdhlkcdbogcaaa
open Go.RowKit Base
set_option linter.unusedVariables false
set_option linter.unusedSimpArgs false
namespace StrashP
open Circuit GetI

theorem refVar_any (a : Int) (h0 : 0 ≤ a) (h1 : a ≤ 9223372036854775807) (w : World) : Calls Try.prog 28 #[.int .i64 a] w fun e w' => e = .returned (.int .i64 (var a)) ∧ w' = w := by
  have hn : ¬ a < 0 := by omega
  have HV : Hid (var a = a / 2) := by show _ = _; unfold var; omega
  have HD : Hid (Int.tdiv a 2 = a / 2) := Int.tdiv_eq_ediv_of_nonneg h0
  go_enter Try.func28, Try.ntmps28
  go_wp2
  all_goals
    go_ret
    exact ⟨ret_int (by have := HV.out; have := HD.out; first | omega | (rw [HV.out, HD.out]) | (rw [HV.out])), rfl⟩

theorem refNeg_any (a : Int) (h0 : 0 ≤ a) (h1 : a ≤ 9223372036854775807) (w : World) : Calls Try.prog 29 #[.int .i64 a] w fun e w' => e = .returned (.bool (neg a)) ∧ w' = w := by
  have HV : Hid (neg a = (a % 2 == 1)) := by show _ = _; unfold neg; rw [if_neg (by omega)]
  go_enter Try.func29, Try.ntmps29
  go_wp2
  all_goals
    go_ret
    exact ⟨ret_bool (by rw [HV.out]; first | done | (have hz : a = 0 := (by omega); subst hz; decide)), rfl⟩

set_option maxHeartbeats 400000 in
theorem alive_any (w : World) : Calls Try.prog 6 #[] w fun e w' => e = .returned (.bool true) ∧ w' = w := by
  have h := plain_nn 4 5 (by decide) (by decide) (by decide) (by decide) w
  have e : plainV 4 5 = .tuple #[.int .i64 0, .bool true] := by unfold plainV; rfl
  rw [e] at h
  have H := Lib.hid h
  clear h e
  go_enter Try.func6, Try.ntmps6
  go_wp2_with fail
  with_reducible refine H.out.mono ?_
  rintro e w2 ⟨rfl, rfl⟩
  go_wp2_with fail
  go_ret
  exact ⟨rfl, rfl⟩

def bools (l : List Bool) : List Value := l.map .bool
/-- A literal's value among values. -/
def bitL (vs : List Bool) (l : Int) : Bool := vs.getD (var l).toNat false != neg l

set_option maxHeartbeats 1000000 in
theorem bit_any (w : World) (a : Option Addr) (c : Nat) (vs : List Bool) (hs : Sl w a vs.length c (bools vs)) (l : Int) (h0 : 0 ≤ l) (h1 : l ≤ 9223372036854775807) :
    Calls Try.prog 12 #[.slice a vs.length c, .int .i64 l] w fun e w' => e = .returned (.bool (bitL vs l)) ∧ ∃ q, w' = w.drewN q := by
  have HVV := Lib.hid (fun U => refVar_any l h0 h1 U)
  have HN := Lib.hid (fun U => refNeg_any l h0 h1 U)
  have hv0 : 0 ≤ var l := by unfold var; omega
  have hv1 : var l ≤ 9223372036854775807 := by unfold var; omega
  have hcap := hs.cap
  have hbig := hs.big
  by_cases hlt : (var l).toNat < vs.length
  · have hg : (bools vs)[(var l).toNat]? = some (.bool vs[(var l).toNat]) := by unfold bools; rw [List.getElem?_map, List.getElem?_eq_getElem hlt]; rfl
    obtain ⟨b, o, rfl, hb, hc⟩ := hs.cell _ _ hg
    have HR : Hid (bitL vs l = (vs[(var l).toNat] != neg l)) := by show _ = _; unfold bitL; rw [List.getD_eq_getElem?_getD, List.getElem?_eq_getElem hlt]; rfl
    generalize vs[(var l).toNat] = y at *
    generalize neg l = g at *
    obtain ⟨k, hk⟩ : ∃ k : Nat, var l = (k : Int) := ⟨(var l).toNat, by omega⟩
    rw [hk] at HVV
    have hkt : (var l).toNat = k := by omega
    rw [hkt] at hc hlt
    have hl2 : (k : Int) < (vs.length : Int) := by omega
    clear hs hg h0 h1 hv0 hv1 hk hkt hb
    generalize vs.length = m at *
    go_enter Try.func12, Try.ntmps12
    go_wp2_with fail
    with_reducible refine (HVV.out _).mono ?_
    rintro e w2 ⟨rfl, rfl⟩
    go_wp2_with fail
    go_quiet ((go_at_call 29; exact Calls.quiet_of_same (HN.out _)))
    go_wp2_with fail
    go_ret
    exact ⟨by rw [HR.out]; rfl, _, rfl⟩
  · have HR : Hid (bitL vs l = neg l) := by show _ = _; unfold bitL; rw [List.getD_eq_getElem?_getD, List.getElem?_eq_none (by omega)]; cases neg l <;> rfl
    generalize neg l = g at *
    obtain ⟨k, hk⟩ : ∃ k : Nat, var l = (k : Int) := ⟨(var l).toNat, by omega⟩
    rw [hk] at HVV
    have hkt : (var l).toNat = k := by omega
    rw [hkt] at hlt
    have hl2 : ¬ (k : Int) < (vs.length : Int) := by omega
    clear hs h0 h1 hv0 hv1 hk hkt
    generalize vs.length = m at *
    go_enter Try.func12, Try.ntmps12
    go_wp2_with fail
    with_reducible refine (HVV.out _).mono ?_
    rintro e w2 ⟨rfl, rfl⟩
    go_wp2_with fail
    go_quiet ((go_at_call 29; exact Calls.quiet_of_same (HN.out _)))
    go_wp2_with fail
    go_ret
    exact ⟨by rw [HR.out]; rfl, _, rfl⟩
end StrashP
end Go.Proofs.Ythdhlkcdbogcaaa

/-
  Plain: a circuit that may be, with names that are read, is of integers; it, hashed, is no longer.
-/
namespace Go.Proofs.Ythdhlkcdbogcaaa
open Go.RowKit Base
set_option linter.unusedVariables false
set_option linter.unusedSimpArgs false
namespace StrashP
open Circuit GetI

theorem known_64 {y : Circ} (h : CheckOk y) {l : Int} (hk : knownV (vsOf y) l) : I64 l := by
  obtain ⟨h0, h1⟩ := hk
  have hm := h.1.2.1
  rcases h1 with h1 | h1
  · unfold I64; omega
  · unfold vsOf at h1
    obtain ⟨m, hm2, he⟩ := List.mem_map.1 h1
    have := ((ownOk_iff.1 h.2.1.1).1 m hm2).2.2
    rw [he] at this
    unfold I64; unfold var at this; omega
theorem own_64 {y : Circ} (h : CheckOk y) {m : Int} (hm : m ∈ ownL y) : I64 m := by
  have h1 := ((ownOk_iff.1 h.2.1.1).1 m hm)
  have h2 := h.1.2.1
  obtain ⟨g1, _, g3⟩ := h1
  unfold I64; unfold var at g3; omega
theorem ok_wf {y : Circ} (h : CheckOk y) (hn : ∀ t ∈ y.names, I64 t.2.1) : WfC y := by
  have hl : ∀ t ∈ y.lats, I64 t.1 := fun t ht => own_64 h (by unfold ownL; exact List.mem_append_left _ (List.mem_append_right _ (List.mem_map.2 ⟨t, ht, rfl⟩)))
  have ha : ∀ t ∈ y.ands, I64 t.1 := fun t ht => own_64 h (by unfold ownL; exact List.mem_append_right _ (List.mem_map.2 ⟨t, ht, rfl⟩))
  refine ⟨by have h1 := h.1.1; have h2 := h.1.2.1; unfold I64; omega, fun l hl' => own_64 h (by unfold ownL; exact List.mem_append_left _ (List.mem_append_left _ hl')), fun t ht => ⟨hl t ht, known_64 h (h.2.2.1 t ht), ?_⟩, fun l hl' => known_64 h (h.2.2.2.2.1 l hl'), fun l hl' => known_64 h (h.2.2.2.2.2.1 l hl'), fun l hl' => known_64 h (h.2.2.2.2.2.2.1 l hl'), fun t ht => ⟨ha t ht, known_64 h (h.2.2.2.1 t ht).1, known_64 h (h.2.2.2.1 t ht).2.1⟩, hn⟩
  have h1 := hl t ht
  rcases h.2.1.2.1 t ht with e | e | e
  · rw [e]; unfold I64; omega
  · rw [e]; unfold I64; omega
  · rw [e]; exact h1
theorem hashed_wf {x : Circ} (h : CheckOk x) (hw : WfC x) : WfC (hashed x) := ok_wf (hashed_ok h) hw.names
theorem hashed_fits {x : Circ} (h : CheckOk x) (hf : Fits x) : Fits (hashed x) := by
  obtain ⟨_, _, f2, f3, f4, f5, f6⟩ := (hashed_ok h).1
  have hle := f_few h
  have h6 := hf.ands
  exact ⟨by omega, by omega, by omega, by omega, by omega, by omega, hf.names⟩

theorem num_any (w : World) (n : Int) : Calls Try.prog 8 #[.int .i64 n] w fun e w' => e = .returned (.int .i64 n) ∧ w = w' := by
  go_enter Try.func8, Try.ntmps8
  go_wp2
  go_ret
  exact ⟨rfl, rfl⟩

/-- The empty circuit. -/
def noC : Circ := ⟨0, [], [], [], [], [], [], []⟩
def noA : At := ⟨none, 0, none, 0, none, 0, none, 0, none, 0, none, 0, none, 0⟩
theorem noC_cells : cells noC noA = #[.int .i64 0, .slice none 0 0, .slice none 0 0, .slice none 0 0, .slice none 0 0, .slice none 0 0, .slice none 0 0, .slice none 0 0] := rfl
theorem slT_none (w : World) (k : Nat) : SlT w k none 0 0 [] := ⟨rfl, Nat.le_refl _, by omega, fun _ => ⟨rfl, rfl⟩, fun i r h => by simp at h⟩
theorem noC_in (w : World) : InCirc w noC noA := ⟨Sl.nil w, slT_none w 3, Sl.nil w, Sl.nil w, Sl.nil w, slT_none w 3, slT_none w 3⟩
end StrashP
end Go.Proofs.Ythdhlkcdbogcaaa

/-
  slices.Equal of slices of structs, and the reference's of []int: one and the same list.
-/

namespace Go.Proofs.Ythdhlkcdbogcaaa
open Go.RowKit Base
set_option linter.unusedVariables false
set_option linter.unusedSimpArgs false
namespace EqT

theorem drew_moreR {w wr : World} (h : ∃ m, wr = w.drewN m) (k : Nat) : ∃ m, wr.drewN k = w.drewN m := by
  obtain ⟨m, rfl⟩ := h
  exact ⟨m + k, World.drewN_drewN _ _ _⟩


set_option maxHeartbeats 4000000 in
theorem same (w : World) (a1 a2 : Option Addr) (c1 c2 : Nat) (l : List (Int)) (h1 : Sl w  a1 l.length c1 (ints l)) (h2 : Sl w  a2 l.length c2 (ints l)) :
    Calls Try.prog 27 #[.slice a1 l.length c1, .slice a2 l.length c2] w fun e w' => e = .returned (.bool true) ∧ ∃ m, w' = w.drewN m := by
  have hb1 := h1.cap
  have hb2 := h1.big
  have hb3 := h2.cap
  have hb4 := h2.big
  go_enter Try.func27, Try.ntmps27
  go_wp2
  go_loopw [5] (fun i wr => ∃ k : Nat, k ≤ l.length ∧ i = .int .i64 k ∧ Hid (∃ m, wr = w.drewN m)) (fun i _ => l.length - (intOf i).toNat)
  case atStart => exact ⟨0, Nat.zero_le _, rfl, 0, rfl⟩
  case round =>
    obtain ⟨k, hk, rfl, hdr⟩ := hrel
    have hbr : Below w.heap.size w wr := by obtain ⟨q, rfl⟩ := hdr.out; exact below_drewN (Below.refl _ _) q
    by_cases hlt : k < l.length
    · obtain ⟨b, o, hx, rfl, hbs, d0⟩ := Sl.int h1 hlt
      obtain ⟨b', o', hy, rfl, hbs', e0⟩ := Sl.int h2 hlt
      have r0 := (hbr.cell (p := ⟨b, o + k, none⟩) hbs).trans d0
      have s0 := (hbr.cell (p := ⟨b', o' + k, none⟩) hbs').trans e0
      clear d0 e0
      generalize l[k] = t at *
      clear hx hy

      go_wp2_with fail
      go_quiet (fail)
      go_wp2
      go_roundw
      case rel => exact ⟨k + 1, by omega, by go_num, drew_moreR hdr.out _⟩
      case measure => simp [intOf]; omega
    · go_wp2
      go_ret
      exact ⟨rfl, hdr.out⟩

end EqT
end Go.Proofs.Ythdhlkcdbogcaaa

/-
  The reference's Same: of one and the same circuit.
-/
namespace Go.Proofs.Ythdhlkcdbogcaaa
open Go.RowKit Base
set_option linter.unusedVariables false
set_option linter.unusedSimpArgs false
namespace Circuit


set_option maxRecDepth 8000 in
set_option maxHeartbeats 16000000 in
theorem refSame_any (w : World) (x : Circ) (p q : At) (hin : InCirc w x p) (hiq : InCirc w x q) :
    Calls Try.prog 10 #[.agg (cells x p), .agg (cells x q)] w fun e w' => e = .returned (.bool true) ∧ Below w.heap.size w w' := by
  obtain ⟨a1, c1, a2, c2, a3, c3, a4, c4, a5, c5, a6, c6, a7, c7⟩ := p
  obtain ⟨b1, d1, b2, d2, b3, d3, b4, d4, b5, d5, b6, d6, b7, d7⟩ := q
  obtain ⟨mx, ins, lats, outs, bads, invs, ands, names⟩ := x
  obtain ⟨i1, i2, i3, i4, i5, i6, i7⟩ := hin
  obtain ⟨j1, j2, j3, j4, j5, j6, j7⟩ := hiq
  simp only [cells] at *
  obtain ⟨W1, hW1⟩ : ∃ W1, w.alloc (.cells #[.int .i64 mx, .slice a1 ins.length c1, .slice a2 lats.length c2, .slice a3 outs.length c3, .slice a4 bads.length c4, .slice a5 invs.length c5, .slice a6 ands.length c6, .slice a7 names.length c7] 27) = W1 := ⟨_, rfl⟩
  obtain ⟨W2, hW2⟩ : ∃ W2, W1.alloc (.cells #[.int .i64 mx, .slice b1 ins.length d1, .slice b2 lats.length d2, .slice b3 outs.length d3, .slice b4 bads.length d4, .slice b5 invs.length d5, .slice b6 ands.length d6, .slice b7 names.length d7] 27) = W2 := ⟨_, rfl⟩
  have h1 : Below w.heap.size w W1 := by rw [← hW1]; exact (Below.refl _ _).alloc (Nat.le_refl _) _
  have h2 : Below W1.heap.size W1 W2 := by rw [← hW2]; exact (Below.refl _ _).alloc (Nat.le_refl _) _
  have X1 : BoxN w.heap.size [.int .i64 mx, .slice a1 ins.length c1, .slice a2 lats.length c2, .slice a3 outs.length c3, .slice a4 bads.length c4, .slice a5 invs.length c5, .slice a6 ands.length c6, .slice a7 names.length c7] W2 := by
    have h := BoxN.new w #[.int .i64 mx, .slice a1 ins.length c1, .slice a2 lats.length c2, .slice a3 outs.length c3, .slice a4 bads.length c4, .slice a5 invs.length c5, .slice a6 ands.length c6, .slice a7 names.length c7] 27
    rw [hW1] at h
    exact h.next h2 h.lt
  have X2 : BoxN W1.heap.size [.int .i64 mx, .slice b1 ins.length d1, .slice b2 lats.length d2, .slice b3 outs.length d3, .slice b4 bads.length d4, .slice b5 invs.length d5, .slice b6 ands.length d6, .slice b7 names.length d7] W2 := by
    have h := BoxN.new W1 #[.int .i64 mx, .slice b1 ins.length d1, .slice b2 lats.length d2, .slice b3 outs.length d3, .slice b4 bads.length d4, .slice b5 invs.length d5, .slice b6 ands.length d6, .slice b7 names.length d7] 27
    rw [hW2] at h
    exact h
  have HB2 := Lib.hid (h1.trans (h2.mono h1.size))
  have HX1 := Lib.hid X1
  have HX2 := Lib.hid X2
  have HQ1 := Lib.hid (fun (U : World) (hU : Below W2.heap.size W2 U) => EqT.same U a1 b1 c1 d1 ins (i1.next (HB2.out.trans (hU.mono HB2.out.size))) (j1.next (HB2.out.trans (hU.mono HB2.out.size))))
  have HQ3 := Lib.hid (fun (U : World) (hU : Below W2.heap.size W2 U) => EqT.same U a3 b3 c3 d3 outs (i3.next (HB2.out.trans (hU.mono HB2.out.size))) (j3.next (HB2.out.trans (hU.mono HB2.out.size))))
  have HQ4 := Lib.hid (fun (U : World) (hU : Below W2.heap.size W2 U) => EqT.same U a4 b4 c4 d4 bads (i4.next (HB2.out.trans (hU.mono HB2.out.size))) (j4.next (HB2.out.trans (hU.mono HB2.out.size))))
  have HQ5 := Lib.hid (fun (U : World) (hU : Below W2.heap.size W2 U) => EqT.same U a5 b5 c5 d5 invs (i5.next (HB2.out.trans (hU.mono HB2.out.size))) (j5.next (HB2.out.trans (hU.mono HB2.out.size))))
  have S2 := Lib.hid (fun (U : World) (hU : Below w.heap.size w U) => i2.next hU)
  have R2 := Lib.hid (fun (U : World) (hU : Below w.heap.size w U) => j2.next hU)
  have l2 := i2.cap
  have g2 := i2.big
  have lq2 := j2.cap
  have gq2 := j2.big
  have S6 := Lib.hid (fun (U : World) (hU : Below w.heap.size w U) => i6.next hU)
  have R6 := Lib.hid (fun (U : World) (hU : Below w.heap.size w U) => j6.next hU)
  have l6 := i6.cap
  have g6 := i6.big
  have lq6 := j6.cap
  have gq6 := j6.big
  have S7 := Lib.hid (fun (U : World) (hU : Below w.heap.size w U) => i7.next hU)
  have R7 := Lib.hid (fun (U : World) (hU : Below w.heap.size w U) => j7.next hU)
  have l7 := i7.cap
  have g7 := i7.big
  have lq7 := j7.cap
  have gq7 := j7.big
  clear h1 h2 X1 X2 i1 i2 i3 i4 i5 i6 i7 j1 j2 j3 j4 j5 j6 j7
  go_enter Try.func10, Try.ntmps10
  go_upto_region 1 with fail
  clear hW1 hW2
  have HD0 : Hid (Below W2.heap.size W2 W2) := Below.refl _ _

  have HC1 := Lib.hid (HQ1.out W2 HD0.out)
  have m0 := (HX1.out.next HD0.out HX1.out.lt).at' 0 _ rfl
  have n0 := (HX2.out.next HD0.out HX2.out.lt).at' 0 _ rfl
  have m1 := (HX1.out.next HD0.out HX1.out.lt).at' 1 _ rfl
  have n1 := (HX2.out.next HD0.out HX2.out.lt).at' 1 _ rfl
  go_wp2_with fail
  with_reducible refine HC1.out.mono ?_
  rintro e w1 ⟨rfl, hd⟩
  have HD1 : Hid (Below W2.heap.size W2 w1) := by obtain ⟨m, rfl⟩ := hd; exact below_drewN HD0.out m
  clear m1 n1 hd m0 n0
  have HC2 := Lib.hid (HQ3.out w1 HD1.out)
  have m1 := (HX1.out.next HD1.out HX1.out.lt).at' 3 _ rfl
  have n1 := (HX2.out.next HD1.out HX2.out.lt).at' 3 _ rfl
  go_wp2_with fail
  with_reducible refine HC2.out.mono ?_
  rintro e w2 ⟨rfl, hd⟩
  have HD2 : Hid (Below W2.heap.size W2 w2) := by obtain ⟨m, rfl⟩ := hd; exact below_drewN HD1.out m
  clear m1 n1 hd
  have HC3 := Lib.hid (HQ4.out w2 HD2.out)
  have m1 := (HX1.out.next HD2.out HX1.out.lt).at' 4 _ rfl
  have n1 := (HX2.out.next HD2.out HX2.out.lt).at' 4 _ rfl
  go_wp2_with fail
  with_reducible refine HC3.out.mono ?_
  rintro e w3 ⟨rfl, hd⟩
  have HD3 : Hid (Below W2.heap.size W2 w3) := by obtain ⟨m, rfl⟩ := hd; exact below_drewN HD2.out m
  clear m1 n1 hd
  have HC4 := Lib.hid (HQ5.out w3 HD3.out)
  have m1 := (HX1.out.next HD3.out HX1.out.lt).at' 5 _ rfl
  have n1 := (HX2.out.next HD3.out HX2.out.lt).at' 5 _ rfl
  go_wp2_with fail
  with_reducible refine HC4.out.mono ?_
  rintro e w4 ⟨rfl, hd⟩
  have HD4 : Hid (Below W2.heap.size W2 w4) := by obtain ⟨m, rfl⟩ := hd; exact below_drewN HD3.out m
  clear m1 n1 hd
  have m2 := (HX1.out.next HD4.out HX1.out.lt).at' 2 _ rfl
  have n2 := (HX2.out.next HD4.out HX2.out.lt).at' 2 _ rfl
  have m6 := (HX1.out.next HD4.out HX1.out.lt).at' 6 _ rfl
  have n6 := (HX2.out.next HD4.out HX2.out.lt).at' 6 _ rfl
  have m7 := (HX1.out.next HD4.out HX1.out.lt).at' 7 _ rfl
  have n7 := (HX2.out.next HD4.out HX2.out.lt).at' 7 _ rfl
  go_wp2_with fail
  clear m2 n2 m6 n6 m7 n7
  go_loopw [5] (fun s wr => ∃ k : Nat, k ≤ lats.length ∧ s = .int .i64 k ∧ Hid (Below W2.heap.size W2 wr)) (fun s _ => lats.length - (intOf s).toNat)
  case atStart => exact ⟨0, Nat.zero_le _, rfl, HD4⟩
  case round =>
    obtain ⟨k, hk, rfl, hb⟩ := hrel
    have mj := (HX1.out.next hb.out HX1.out.lt).at' 2 _ rfl
    have nj := (HX2.out.next hb.out HX2.out.lt).at' 2 _ rfl
    by_cases hlt : k < lats.length
    · obtain ⟨b, o, hx, hae, hbs, e0, e1, e2⟩ := SlT.tri (S2.out wr (HB2.out.trans (hb.out.mono HB2.out.size))) hlt
      obtain ⟨b', o', hy, hae', hbs', f0, f1, f2⟩ := SlT.tri (R2.out wr (HB2.out.trans (hb.out.mono HB2.out.size))) hlt
      subst hae hae'
      generalize lats[k] = t at *
      obtain ⟨t0, t1, t2⟩ := t
      simp only at e0 e1 e2 f0 f1 f2
      clear hx hy hbs hbs'
      go_wp2_with fail
      go_quiet (fail)
      go_wp2_with fail
      go_roundw
      case rel => exact ⟨k + 1, by omega, by go_num, below_drewN hb.out _⟩
      case measure => simp [intOf]; omega
    · have HL1 := hb
      generalize wr = v1 at *
      clear hb
      go_wp2_with fail
      clear hk hlt mj nj
      go_loopw [6] (fun s wr => ∃ k : Nat, k ≤ ands.length ∧ s = .int .i64 k ∧ Hid (Below W2.heap.size W2 wr)) (fun s _ => ands.length - (intOf s).toNat)
      case atStart => exact ⟨0, Nat.zero_le _, rfl, HL1⟩
      case round =>
        obtain ⟨k, hk, rfl, hb⟩ := hrel
        have mj := (HX1.out.next hb.out HX1.out.lt).at' 6 _ rfl
        have nj := (HX2.out.next hb.out HX2.out.lt).at' 6 _ rfl
        by_cases hlt : k < ands.length
        · obtain ⟨b, o, hx, hae, hbs, e0, e1, e2⟩ := SlT.tri (S6.out wr (HB2.out.trans (hb.out.mono HB2.out.size))) hlt
          obtain ⟨b', o', hy, hae', hbs', f0, f1, f2⟩ := SlT.tri (R6.out wr (HB2.out.trans (hb.out.mono HB2.out.size))) hlt
          subst hae hae'
          generalize ands[k] = t at *
          obtain ⟨t0, t1, t2⟩ := t
          simp only at e0 e1 e2 f0 f1 f2
          clear hx hy hbs hbs'
          go_wp2_with fail
          go_quiet (fail)
          go_wp2_with fail
          go_roundw
          case rel => exact ⟨k + 1, by omega, by go_num, below_drewN hb.out _⟩
          case measure => simp [intOf]; omega
        · have HL2 := hb
          generalize wr = v2 at *
          clear hb
          go_wp2_with fail
          clear hk hlt mj nj
          go_loopw [7] (fun s wr => ∃ k : Nat, k ≤ names.length ∧ s = .int .i64 k ∧ Hid (Below W2.heap.size W2 wr)) (fun s _ => names.length - (intOf s).toNat)
          case atStart => exact ⟨0, Nat.zero_le _, rfl, HL2⟩
          case round =>
            obtain ⟨k, hk, rfl, hb⟩ := hrel
            have mj := (HX1.out.next hb.out HX1.out.lt).at' 7 _ rfl
            have nj := (HX2.out.next hb.out HX2.out.lt).at' 7 _ rfl
            by_cases hlt : k < names.length
            · obtain ⟨b, o, hx, hae, hbs, e0, e1, e2⟩ := Circuit.SlT.name (S7.out wr (HB2.out.trans (hb.out.mono HB2.out.size))) hlt
              obtain ⟨b', o', hy, hae', hbs', f0, f1, f2⟩ := Circuit.SlT.name (R7.out wr (HB2.out.trans (hb.out.mono HB2.out.size))) hlt
              subst hae hae'
              generalize names[k] = t at *
              obtain ⟨t0, t1, t2⟩ := t
              simp only at e0 e1 e2 f0 f1 f2
              clear hx hy hbs hbs'
              go_wp2_with fail
              go_quiet (fail)
              go_wp2_with fail
              go_roundw
              case rel => exact ⟨k + 1, by omega, by go_num, below_drewN hb.out _⟩
              case measure => simp [intOf]; omega
            · have HL3 := hb
              generalize wr = v3 at *
              clear hb
              go_wp2_with fail
              go_ret
              exact ⟨rfl, HB2.out.trans (HL3.out.mono HB2.out.size)⟩
end Circuit
end Go.Proofs.Ythdhlkcdbogcaaa
/-
  interlocklaw06.StrashLess: the walk.
-/
namespace Go.Proofs.Ythdhlkcdbogcaaa.strashLess
open Go.RowKit Base Circuit GetI StrashP
set_option linter.unusedVariables false
set_option linter.unusedSimpArgs false

set_option maxRecDepth 8000 in
set_option maxHeartbeats 4000000 in
theorem walk_no (x : Circ) (p : At) {W : World} (hin : InCirc W x p) (hw : WfC x) (hno : ¬ CheckOk x) :
    Calls Try.prog 4 #[.agg (cells x p)] W fun e W' => e = .returned (.bool true) ∧ Below W.heap.size W W' := by
  obtain ⟨W1, hW1⟩ : ∃ W1, W.alloc (.cells (cells x p) 27) = W1 := ⟨_, rfl⟩
  obtain ⟨hb1, hc1⟩ := cbox_new W x p W1 hW1
  have HB1 := Lib.hid hb1
  have HAL := Lib.hid (alive_any W1)
  have HH := Lib.hid (hash_no W1 x p (hin.next hb1) hw hno)
  have HSZ := Lib.hid (fun U => size_any U noC noA)
  have HNU := Lib.hid num_any
  rw [noC_cells] at HSZ
  have k0 := hc1.k0
  have k1 := hc1.k1
  have k2 := hc1.k2
  have k3 := hc1.k3
  have k4 := hc1.k4
  have k5 := hc1.k5
  have k6 := hc1.k6
  have k7 := hc1.k7
  obtain ⟨a1, c1, a2, c2, a3, c3, a4, c4, a5, c5, a6, c6, a7, c7⟩ := p
  simp only [cells] at *
  clear hin hw hno hb1 hc1
  go_enter Try.func4, Try.ntmps4
  go_wp2_with fail
  with_reducible refine HAL.out.mono ?_
  rintro e w2 ⟨rfl, rfl⟩
  go_wp2_with fail
  with_reducible refine HH.out.mono ?_
  rintro e w3 ⟨rfl, hb3⟩
  have HB3 := Lib.hid hb3
  clear hb3 k0 k1 k2 k3 k4 k5 k6 k7 hW1
  go_wp2_with fail
  with_reducible refine (HNU.out _ _).mono ?_
  rintro e w4 ⟨rfl, rfl⟩
  go_wp2_with fail
  with_reducible refine (HSZ.out _).mono ?_
  rintro e w5 ⟨rfl, hb5⟩
  go_wp2_with fail
  go_ret
  refine ⟨rfl, HB1.out.trans ((HB3.out.trans ?_).mono HB1.out.size)⟩
  exact ((Below.refl w3.heap.size w3).alloc (Nat.le_refl _) _ |>.trans (hb5.mono (by simp))).mono HB3.out.size

structure LH (N1 N3 N5 : Nat) (x y : Circ) (p q r : At) (wq w' : World) : Prop where
  below : Below wq.heap.size wq w'
  b1 : CBox N1 x p w'
  b3 : CBox N3 y q w'
  b5 : CBox N5 y r w'
theorem LH.more {N1 N3 N5 : Nat} {x y : Circ} {p q r : At} {wq w1 w2 : World} (h : LH N1 N3 N5 x y p q r wq w1) (hb : Below w1.heap.size w1 w2) : LH N1 N3 N5 x y p q r wq w2 :=
  ⟨h.below.trans (hb.mono h.below.size), h.b1.next hb (Nat.le_refl _), h.b3.next hb (Nat.le_refl _), h.b5.next hb (Nat.le_refl _)⟩
abbrev C8 (N : Nat) (x : Circ) (p : At) (w' : World) : Prop := w'.cell? ⟨N, 0, none⟩ = some (.int .i64 x.max) ∧ w'.cell? ⟨N, 1, none⟩ = some (.slice p.a1 x.ins.length p.c1) ∧ w'.cell? ⟨N, 2, none⟩ = some (.slice p.a2 x.lats.length p.c2) ∧ w'.cell? ⟨N, 3, none⟩ = some (.slice p.a3 x.outs.length p.c3) ∧ w'.cell? ⟨N, 4, none⟩ = some (.slice p.a4 x.bads.length p.c4) ∧ w'.cell? ⟨N, 5, none⟩ = some (.slice p.a5 x.invs.length p.c5) ∧ w'.cell? ⟨N, 6, none⟩ = some (.slice p.a6 x.ands.length p.c6) ∧ w'.cell? ⟨N, 7, none⟩ = some (.slice p.a7 x.names.length p.c7)
theorem c8 {N : Nat} {x : Circ} {p : At} {w' : World} (h : CBox N x p w') : C8 N x p w' := ⟨h.k0, h.k1, h.k2, h.k3, h.k4, h.k5, h.k6, h.k7⟩
abbrev LAll (N1 N3 N5 : Nat) (x y : Circ) (p q r : At) (wq w' : World) : Prop := LH N1 N3 N5 x y p q r wq w' ∧ C8 N1 x p w' ∧ C8 N3 y q w' ∧ C8 N5 y r w'
theorem lh_all {N1 N3 N5 : Nat} {x y : Circ} {p q r : At} {wq w' : World} (h : LH N1 N3 N5 x y p q r wq w') : LAll N1 N3 N5 x y p q r wq w' := ⟨h, c8 h.b1, c8 h.b3, c8 h.b5⟩

theorem call_keep {P : Program} {f : FuncId} {args : Array Value} {v : Value} {S : World → Prop} (hc : ∀ U, S U → Calls P f args U fun e U' => e = .returned v ∧ Below U.heap.size U U') (hs : ∀ U U', S U → Below U.heap.size U U' → S U') :
    ∀ U, S U → Calls P f args U fun e U' => e = .returned v ∧ S U' := fun U hU => (hc U hU).mono fun e U' h => ⟨h.1, hs U U' hU h.2⟩

theorem min_max_ne {a b : Tri} (h : pairS a.2.1 a.2.2 ≠ pairS b.2.1 b.2.2) (hm : min a.2.1 a.2.2 = min b.2.1 b.2.2) : max a.2.1 a.2.2 ≠ max b.2.1 b.2.2 := fun e => h (by unfold pairS; rw [hm, e])

set_option maxRecDepth 8000 in
set_option maxHeartbeats 4000000 in
theorem walk_ok (x : Circ) (p : At) {W : World} (hin : InCirc W x p) (hw : WfC x) (hfit : Fits x) (hok : CheckOk x) :
    Calls Try.prog 4 #[.agg (cells x p)] W fun e W' => e = .returned (.bool true) ∧ Below W.heap.size W W' := by
  obtain ⟨W1, hW1⟩ : ∃ W1, W.alloc (.cells (cells x p) 27) = W1 := ⟨_, rfl⟩
  obtain ⟨hb1, hc1⟩ := cbox_new W x p W1 hW1
  have HB1 := Lib.hid hb1
  have HC1 := Lib.hid hc1
  have HAL := Lib.hid (alive_any W1)
  have HH := Lib.hid (hash_ok W1 x p (hin.next hb1) hw hfit hok)
  have HNU := Lib.hid num_any
  have HY1 := Lib.hid (hashed_ok hok)
  have HY2 := Lib.hid (hashed_wf hok hw)
  have HY3 := Lib.hid (hashed_fits hok hfit)
  have HY4 := Lib.hid (f_plain hok)
  have HY5 := Lib.hid (f_pairs hok)
  have HY6 := Lib.hid (f_few hok)
  have HY7 := Lib.hid (hashed_again hok)
  have HY8 := Lib.hid (ord_of (hashed_ok hok))
  generalize hashed x = y at *
  have k0 := hc1.k0
  have k1 := hc1.k1
  have k2 := hc1.k2
  have k3 := hc1.k3
  have k4 := hc1.k4
  have k5 := hc1.k5
  have k6 := hc1.k6
  have k7 := hc1.k7
  have HSX := Lib.hid (fun U => size_any U x p)
  obtain ⟨a1, c1, a2, c2, a3, c3, a4, c4, a5, c5, a6, c6, a7, c7⟩ := p
  simp only [cells] at hW1 HSX HH ⊢
  clear hin hw hok hfit hb1 hc1
  go_enter Try.func4, Try.ntmps4
  go_wp2_with fail
  with_reducible refine HAL.out.mono ?_
  rintro e w2 ⟨rfl, rfl⟩
  go_wp2_with fail
  with_reducible refine HH.out.mono ?_
  rintro e w3 ⟨p', rfl, hin3, hb3⟩
  obtain ⟨W4, hW4⟩ : ∃ U, w3.alloc (.cells (cells y p') 27) = U := ⟨_, rfl⟩
  obtain ⟨hb4, hc4⟩ := cbox_new w3 y p' W4 hW4
  have HB3 := Lib.hid hb3
  have HB4 := Lib.hid hb4
  have HC4 := Lib.hid hc4
  have HC14 := Lib.hid (HC1.out.next (hb3.trans (hb4.mono hb3.size)) (Nat.le_refl _))
  have HIN := Lib.hid (fun (U : World) (hU : Below W4.heap.size W4 U) => (hin3.next hb4).next hU)
  have HCB := Lib.hid (fun (U : World) (hU : Below W4.heap.size W4 U) => HC4.out.next hU (Nat.le_refl _))
  have HCX := Lib.hid (fun (U : World) (hU : Below W4.heap.size W4 U) => HC14.out.next hU (Nat.le_refl _))
  have HHY := fun (U : World) (hU : Below W4.heap.size W4 U) => hash_ok U y p' (HIN.out U hU) HY2.out HY3.out HY1.out
  rw [HY7.out] at HHY
  have HSY := Lib.hid (fun U => size_any U y p')
  have HSA := fun (U : World) (hU : Below W4.heap.size W4 U) (q : At) (hq : InCirc U y q) => refSame_any U y p' q (HIN.out U hU) hq
  have hlt3 : w3.heap.size < W4.heap.size := hc4.lt
  obtain ⟨b1, d1, b2, d2, b3, d3, b4, d4, b5, d5, b6, d6, b7, d7⟩ := p'
  simp only [cells] at hW4 HHY HSY HSA ⊢
  have HHH := Lib.hid HHY
  have HSS := Lib.hid HSA
  clear hin3 hb3 hb4 hc4 k0 k1 k2 k3 k4 k5 k6 k7 hW1 HHY HSA HC1 HC4 HC14 HH
  go_wp2_with fail
  with_reducible refine (HNU.out _ _).mono ?_
  rintro e w4 ⟨rfl, rfl⟩
  obtain ⟨m, hm⟩ : ∃ m, y.ands.length = m := ⟨_, rfl⟩
  have HM := Lib.hid hm
  clear hm
  go_wp2_with fail
  clear hW4
  go_loopw [5] (fun i wr => ∃ k : Nat, k ≤ m ∧ i = .int .i64 k ∧ Hid (Below W4.heap.size W4 wr)) (fun i _ => m - (intOf i).toNat)
  case atStart => exact ⟨0, Nat.zero_le _, rfl, Below.refl _ _⟩
  case round =>
    obtain ⟨k, hk, rfl, hB⟩ := hrel
    have q6 := (HCB.out wr hB.out).k6
    simp only [HM.out] at q6
    by_cases hlt : k < m
    · have hsl := (HIN.out wr hB.out).ands
      have hlt2 : k < y.ands.length := by have := HM.out; omega
      obtain ⟨b, o, hx, rfl, hbs, hc0, hc1, hc2⟩ := hsl.tri hlt2
      have hcap := hsl.cap
      have hbig : d6 ≤ 9223372036854775807 := hsl.big
      simp only [HM.out] at hcap
      have hpl := HY4.out y.ands[k] (List.getElem_mem _)
      have hfine := HY8.out.fine y.ands[k] (List.getElem_mem _)
      have hwf := HY2.out.ands y.ands[k] (List.getElem_mem _)
      have HPW : Hid (∀ (j : Nat) (s : Tri), j < k → y.ands[j]? = some s → pairS s.2.1 s.2.2 ≠ pairS y.ands[k].2.1 y.ands[k].2.2) := by
        intro j s hj hs
        obtain ⟨hjl, rfl⟩ := List.getElem?_eq_some_iff.1 hs
        exact (List.pairwise_iff_getElem.1 HY5.out) j k hjl hlt2 hj
      generalize ht : y.ands[k] = t at *
      obtain ⟨t0, t1, t2⟩ := t
      obtain ⟨f0, _, f1, f2, f3, f4⟩ := hfine
      obtain ⟨g0, g1, g2⟩ := hwf
      simp only at f0 f1 f2 f3 f4 hc0 hc1 hc2 hpl g0 g1 g2 HPW
      unfold I64 at g1 g2
      obtain ⟨W5, hW5⟩ : ∃ U, wr.alloc (.cells #[.int .i64 t0, .int .i64 t1, .int .i64 t2] 43) = U := ⟨_, rfl⟩
      have hb5 : Below wr.heap.size wr W5 := by rw [← hW5]; exact (Below.refl _ _).alloc (Nat.le_refl _) _
      have hx5 : BoxN wr.heap.size [.int .i64 t0, .int .i64 t1, .int .i64 t2] W5 := by rw [← hW5]; exact BoxN.new wr _ _
      have hP := plain_nn t1 t2 f1 g1.2 f3 g2.2 W5
      have hpv : plainV t1 t2 = .tuple #[.int .i64 0, .bool false] := by unfold plainV; rw [hpl]; rfl
      rw [hpv] at hP
      have HP := Lib.hid hP
      have HB5 := Lib.hid (hB.out.trans (hb5.mono hB.out.size))
      have HX5 := Lib.hid hx5
      have e1 := hx5.at' 1 _ rfl
      have e2 := hx5.at' 2 _ rfl
      have hlw : wr.heap.size < W5.heap.size := hx5.lt
      clear hsl hx hlt2 hpl ht f0 f1 f2 f3 f4 g0 g1 g2 hP hpv hb5 hx5
      go_wp2_with fail
      with_reducible refine HP.out.mono ?_
      rintro e w5 ⟨rfl, rfl⟩
      go_wp2_with fail
      generalize wr = wo at *
      go_loopw [9] (fun i wr => ∃ j : Nat, j ≤ k ∧ i = .int .i64 j ∧ Hid (Below W5.heap.size W5 wr)) (fun i _ => k - (intOf i).toNat)
      case atStart => exact ⟨0, Nat.zero_le _, rfl, Below.refl _ _⟩
      case round =>
        obtain ⟨j, hj, rfl, hB2⟩ := hrel
        have hBB : Below W4.heap.size W4 wr := HB5.out.trans (hB2.out.mono HB5.out.size)
        have q6 := (HCB.out wr hBB).k6
        have r1 := (HX5.out.next hB2.out hlw).at' 1 _ rfl
        have r2 := (HX5.out.next hB2.out hlw).at' 2 _ rfl
        simp only [HM.out] at q6
        by_cases hlj : j < k
        · have hsl := (HIN.out wr hBB).ands
          have hlt2 : j < y.ands.length := by have := HM.out; omega
          obtain ⟨b', o', hx, hbo, hbs, hc0, hc1, hc2⟩ := hsl.tri hlt2
          simp only [Option.some.injEq, Addr.mk.injEq, and_true] at hbo
          obtain ⟨rfl, rfl⟩ := hbo
          have hne := HPW.out j y.ands[j] hlj (List.getElem?_eq_getElem hlt2)
          have hwf := HY2.out.ands y.ands[j] (List.getElem_mem _)
          generalize hs : y.ands[j] = s at *
          obtain ⟨s0, s1, s2⟩ := s
          obtain ⟨g0, g1, g2⟩ := hwf
          simp only at hc0 hc1 hc2 hne g0 g1 g2
          unfold I64 at g1 g2
          have hb6 : Below W5.heap.size W5 (wr.alloc (.cells #[.int .i64 s0, .int .i64 s1, .int .i64 s2] 43)) := hB2.out.alloc hB2.out.size _
          have HB6 := Lib.hid hb6
          have hjb : j ≤ 9223372036854775806 := by omega
          have hlo : wo.heap.size < wr.heap.size := Nat.lt_of_lt_of_le hlw hB2.out.size
          have hl4 : w3.heap.size < wr.heap.size := Nat.lt_of_lt_of_le hlt3 hBB.size
          clear hsl hx hlt2 hs hb6 hB2 hBB
          by_cases hmin : min t1 t2 = min s1 s2
          · have hmax : ¬ max t1 t2 = max s1 s2 := fun e => hne (by unfold pairS; rw [hmin, e])
            clear hne
            go_wp2_with fail
            all_goals
              go_roundw
              case rel => exact ⟨j + 1, by omega, by go_num, HB6⟩
              case measure => simp [intOf]; omega
          · have hb : (min t1 t2 == min s1 s2) = false := by simp [hmin]
            clear hne hmin
            go_wp2_with fail
            all_goals
              go_roundw
              case rel => exact ⟨j + 1, by omega, by go_num, HB6⟩
              case measure => simp [intOf]; omega
        · have HBB := Lib.hid hBB
          have hkb : k ≤ 9223372036854775806 := by omega
          clear r1 r2 q6 hB2 hBB
          go_wp2_with fail
          go_roundw
          case rel => exact ⟨k + 1, by omega, by go_num, HBB⟩
          case measure => simp [intOf]; omega
    · have HB7 := Lib.hid (HHH.out wr hB.out)
      have hcw := HCB.out wr hB.out
      have m0 := hcw.k0
      have m1 := hcw.k1
      have m2 := hcw.k2
      have m3 := hcw.k3
      have m4 := hcw.k4
      have m5 := hcw.k5
      have m6 := hcw.k6
      have m7 := hcw.k7
      have HBW := Lib.hid hB.out
      have hl4 : w3.heap.size < wr.heap.size := Nat.lt_of_lt_of_le hlt3 hB.out.size
      clear hcw hB
      have HBW4 : Hid (W4.heap.size ≤ wr.heap.size) := HBW.out.size
      have hm0 := HM.out
      subst hm0
      have HFEW : Hid (y.ands.length ≤ x.ands.length) := HY6.out
      generalize wr = w7 at *
      go_wp2_with fail
      with_reducible refine HB7.out.mono ?_
      rintro e w8 ⟨pz, rfl, hin8, hb8⟩
      obtain ⟨w9, hw9⟩ : ∃ U, w8.alloc (.cells (cells y pz) 27) = U := ⟨_, rfl⟩
      obtain ⟨hb9, hc9⟩ := cbox_new w8 y pz w9 hw9
      have hb79 : Below w7.heap.size w7 w9 := hb8.trans (hb9.mono hb8.size)
      have hf0 : LH W.heap.size w3.heap.size w8.heap.size x y ⟨a1, c1, a2, c2, a3, c3, a4, c4, a5, c5, a6, c6, a7, c7⟩ ⟨b1, d1, b2, d2, b3, d3, b4, d4, b5, d5, b6, d6, b7, d7⟩ pz w9 w9.drew :=
        ⟨(Below.refl _ _).drew, (HCX.out w9 (HBW.out.trans (hb79.mono HBW.out.size))).next (Below.refl _ _).drew (Nat.le_refl _), (HCB.out w9 (HBW.out.trans (hb79.mono HBW.out.size))).next (Below.refl _ _).drew (Nat.le_refl _), hc9.next (Below.refl _ _).drew (Nat.le_refl _)⟩
      have HB8 := Lib.hid hb79
      have HIN8 := Lib.hid (fun (U : World) (hU : Below w9.heap.size w9 U) => (hin8.next hb9).next hU)
      have HSP := fun (U : World) (hU : Below w9.heap.size w9 U) => HSS.out U (HBW.out.trans ((HB8.out.trans (hU.mono HB8.out.size)).mono HBW.out.size)) pz (HIN8.out U hU)
      have HS13z := Lib.hid (fun U => size_any U y pz)
      obtain ⟨e1, f1, e2, f2, e3, f3, e4, f4, e5, f5, e6, f6, e7, f7⟩ := pz
      simp only [cells] at hw9 HSP HS13z hf0 ⊢
      have HF := lh_all hf0
      have C8' := call_keep (S := fun U => LAll W.heap.size w3.heap.size w8.heap.size x y ⟨a1, c1, a2, c2, a3, c3, a4, c4, a5, c5, a6, c6, a7, c7⟩ ⟨b1, d1, b2, d2, b3, d3, b4, d4, b5, d5, b6, d6, b7, d7⟩ ⟨e1, f1, e2, f2, e3, f3, e4, f4, e5, f5, e6, f6, e7, f7⟩ w9 U) (fun U hU => (num_any U 0).mono fun e U' h => ⟨h.1, h.2 ▸ Below.refl _ _⟩) (fun U U' h hb => lh_all (h.1.more hb))
      have C8 := Lib.hid C8'
      clear C8'
      have C10' := call_keep (S := fun U => LAll W.heap.size w3.heap.size w8.heap.size x y ⟨a1, c1, a2, c2, a3, c3, a4, c4, a5, c5, a6, c6, a7, c7⟩ ⟨b1, d1, b2, d2, b3, d3, b4, d4, b5, d5, b6, d6, b7, d7⟩ ⟨e1, f1, e2, f2, e3, f3, e4, f4, e5, f5, e6, f6, e7, f7⟩ w9 U) (fun U hU => HSP U hU.1.below) (fun U U' h hb => lh_all (h.1.more hb))
      have C10 := Lib.hid C10'
      clear C10'
      have C13' := call_keep (S := fun U => LAll W.heap.size w3.heap.size w8.heap.size x y ⟨a1, c1, a2, c2, a3, c3, a4, c4, a5, c5, a6, c6, a7, c7⟩ ⟨b1, d1, b2, d2, b3, d3, b4, d4, b5, d5, b6, d6, b7, d7⟩ ⟨e1, f1, e2, f2, e3, f3, e4, f4, e5, f5, e6, f6, e7, f7⟩ w9 U) (fun U hU => HSY.out U) (fun U U' h hb => lh_all (h.1.more hb))
      have C13 := Lib.hid C13'
      clear C13'
      have C13x' := call_keep (S := fun U => LAll W.heap.size w3.heap.size w8.heap.size x y ⟨a1, c1, a2, c2, a3, c3, a4, c4, a5, c5, a6, c6, a7, c7⟩ ⟨b1, d1, b2, d2, b3, d3, b4, d4, b5, d5, b6, d6, b7, d7⟩ ⟨e1, f1, e2, f2, e3, f3, e4, f4, e5, f5, e6, f6, e7, f7⟩ w9 U) (fun U hU => HSX.out U) (fun U U' h hb => lh_all (h.1.more hb))
      have C13x := Lib.hid C13x'
      clear C13x'
      have hle := HFEW.out
      clear hin8 hb8 hb9 hc9 hb79 hf0 HSP m0 m1 m2 m3 m4 m5 m6 m7 q6
      go_wp2_with fail
      -- END REGION
      refine Lex.region (fun w' => LAll W.heap.size w3.heap.size w8.heap.size x y ⟨a1, c1, a2, c2, a3, c3, a4, c4, a5, c5, a6, c6, a7, c7⟩ ⟨b1, d1, b2, d2, b3, d3, b4, d4, b5, d5, b6, d6, b7, d7⟩ ⟨e1, f1, e2, f2, e3, f3, e4, f4, e5, f5, e6, f6, e7, f7⟩ w9 w') (by kernel_rfl) (by kernel_rfl) HF ?_
      (refine Lex.step_val (v := ?_) ?_ (fun w' hSw => ?_) ?_; rotate_left; (focus rfl); (focus (clear hSw; go_simp; (try with_reducible rfl); done)); (try simp only [Act.put, List.setIfInBounds_toArray, List.set_cons_zero, List.set_cons_succ]))
      (refine Lex.step_call (v := ?_) (f := ?_) (args := ?_) ?_ (fun w' hSw => ?_) ?_ ?_; rotate_left 3; (focus rfl); (focus (clear hSw; go_simp; (refine And.intro ?_ ?_ <;> with_reducible rfl); done)); (focus (first | with_reducible exact C8.out | with_reducible exact C10.out | with_reducible exact C13.out | with_reducible exact C13x.out)); (try simp only [Act.put, List.setIfInBounds_toArray, List.set_cons_zero, List.set_cons_succ]))
      (refine Lex.step_val (v := ?_) ?_ (fun w' hSw => ?_) ?_; rotate_left; (focus rfl); (focus (clear hSw; go_simp; (try with_reducible rfl); done)); (try simp only [Act.put, List.setIfInBounds_toArray, List.set_cons_zero, List.set_cons_succ]))
      (refine Lex.step_val (v := ?_) ?_ (fun w' hSw => ?_) ?_; rotate_left; (focus rfl); (focus (clear hSw; go_simp; (try with_reducible rfl); done)); (try simp only [Act.put, List.setIfInBounds_toArray, List.set_cons_zero, List.set_cons_succ]))
      (refine Lex.step_val (v := ?_) ?_ (fun w' hSw => ?_) ?_; rotate_left; (focus (go_simp; done)); (focus ((try dsimp only at hSw); go_simp; (try with_reducible rfl); done)); (try simp only [Act.put, List.setIfInBounds_toArray, List.set_cons_zero, List.set_cons_succ]))
      (refine Lex.step_val (v := ?_) ?_ (fun w' hSw => ?_) ?_; rotate_left; (focus (go_simp; done)); (focus ((try dsimp only at hSw); go_simp; (try with_reducible rfl); done)); (try simp only [Act.put, List.setIfInBounds_toArray, List.set_cons_zero, List.set_cons_succ]))
      (refine Lex.step_call (v := ?_) (f := ?_) (args := ?_) ?_ (fun w' hSw => ?_) ?_ ?_; rotate_left 3; (focus (go_simp; done)); (focus (clear hSw; go_simp; (refine And.intro ?_ ?_ <;> with_reducible rfl); done)); (focus (first | with_reducible exact C8.out | with_reducible exact C10.out | with_reducible exact C13.out | with_reducible exact C13x.out)); (try simp only [Act.put, List.setIfInBounds_toArray, List.set_cons_zero, List.set_cons_succ]))
      (refine Lex.step_val (v := ?_) ?_ (fun w' hSw => ?_) ?_; rotate_left; (focus rfl); (focus (clear hSw; go_simp; (try with_reducible rfl); done)); (try simp only [Act.put, List.setIfInBounds_toArray, List.set_cons_zero, List.set_cons_succ]))
      (refine Lex.step_val (v := ?_) ?_ (fun w' hSw => ?_) ?_; rotate_left; (focus rfl); (focus (clear hSw; go_simp; (try with_reducible rfl); done)); (try simp only [Act.put, List.setIfInBounds_toArray, List.set_cons_zero, List.set_cons_succ]))
      (refine Lex.step_val (v := ?_) ?_ (fun w' hSw => ?_) ?_; rotate_left; (focus (go_simp; done)); (focus ((try dsimp only at hSw); go_simp; (try with_reducible rfl); done)); (try simp only [Act.put, List.setIfInBounds_toArray, List.set_cons_zero, List.set_cons_succ]))
      (refine Lex.step_call (v := ?_) (f := ?_) (args := ?_) ?_ (fun w' hSw => ?_) ?_ ?_; rotate_left 3; (focus (go_simp; done)); (focus (clear hSw; go_simp; (refine And.intro ?_ ?_ <;> with_reducible rfl); done)); (focus (first | with_reducible exact C8.out | with_reducible exact C10.out | with_reducible exact C13.out | with_reducible exact C13x.out)); (try simp only [Act.put, List.setIfInBounds_toArray, List.set_cons_zero, List.set_cons_succ]))
      (refine Lex.step_val (v := ?_) ?_ (fun w' hSw => ?_) ?_; rotate_left; (focus (go_simp; done)); (focus ((try dsimp only at hSw); go_simp; (try with_reducible rfl); done)); (try simp only [Act.put, List.setIfInBounds_toArray, List.set_cons_zero, List.set_cons_succ]))
      (refine Lex.step_call (v := ?_) (f := ?_) (args := ?_) ?_ (fun w' hSw => ?_) ?_ ?_; rotate_left 3; (focus (go_simp; done)); (focus (clear hSw; go_simp; (refine And.intro ?_ ?_ <;> with_reducible rfl); done)); (focus (first | with_reducible exact C8.out | with_reducible exact C10.out | with_reducible exact C13.out | with_reducible exact C13x.out)); (try simp only [Act.put, List.setIfInBounds_toArray, List.set_cons_zero, List.set_cons_succ]))
      (refine Lex.step_val (v := ?_) ?_ (fun w' hSw => ?_) ?_; rotate_left; (focus (go_simp; done)); (focus (clear hSw; go_simp; (try with_reducible rfl); done)); (try simp only [Act.put, List.setIfInBounds_toArray, List.set_cons_zero, List.set_cons_succ]))
      (refine Lex.step_val (v := ?_) ?_ (fun w' hSw => ?_) ?_; rotate_left; (focus rfl); (focus (clear hSw; go_simp; (try with_reducible rfl); done)); (try simp only [Act.put, List.setIfInBounds_toArray, List.set_cons_zero, List.set_cons_succ]))
      (refine Lex.step_val (v := ?_) ?_ (fun w' hSw => ?_) ?_; rotate_left; (focus rfl); (focus (clear hSw; go_simp; (try with_reducible rfl); done)); (try simp only [Act.put, List.setIfInBounds_toArray, List.set_cons_zero, List.set_cons_succ]))
      (refine Lex.step_val (v := ?_) ?_ (fun w' hSw => ?_) ?_; rotate_left; (focus (go_simp; done)); (focus ((try dsimp only at hSw); go_simp; (try with_reducible rfl); done)); (try simp only [Act.put, List.setIfInBounds_toArray, List.set_cons_zero, List.set_cons_succ]))
      (refine Lex.step_call (v := ?_) (f := ?_) (args := ?_) ?_ (fun w' hSw => ?_) ?_ ?_; rotate_left 3; (focus (go_simp; done)); (focus (clear hSw; go_simp; (refine And.intro ?_ ?_ <;> with_reducible rfl); done)); (focus (first | with_reducible exact C8.out | with_reducible exact C10.out | with_reducible exact C13.out | with_reducible exact C13x.out)); (try simp only [Act.put, List.setIfInBounds_toArray, List.set_cons_zero, List.set_cons_succ]))
      (refine Lex.step_val (v := ?_) ?_ (fun w' hSw => ?_) ?_; rotate_left; (focus (go_simp; done)); (focus (clear hSw; go_simp; (try with_reducible rfl); done)); (try simp only [Act.put, List.setIfInBounds_toArray, List.set_cons_zero, List.set_cons_succ]))
      (refine Lex.step_val (v := ?_) ?_ (fun w' hSw => ?_) ?_; rotate_left; (focus (go_simp; done)); (focus ((try dsimp only at hSw); go_simp; (try with_reducible rfl); done)); (try simp only [Act.put, List.setIfInBounds_toArray, List.set_cons_zero, List.set_cons_succ]))
      (refine Lex.step_val (v := ?_) ?_ (fun w' hSw => ?_) ?_; rotate_left; (focus (go_simp; done)); (focus (clear hSw; go_simp; (try with_reducible rfl); done)); (try simp only [Act.put, List.setIfInBounds_toArray, List.set_cons_zero, List.set_cons_succ]))
      (refine Lex.step_val (v := ?_) ?_ (fun w' hSw => ?_) ?_; rotate_left; (focus (go_simp; done)); (focus (clear hSw; go_simp; (try with_reducible rfl); done)); (try simp only [Act.put, List.setIfInBounds_toArray, List.set_cons_zero, List.set_cons_succ]))
      (refine Lex.step_val (v := ?_) ?_ (fun w' hSw => ?_) ?_; rotate_left; (focus rfl); (focus (clear hSw; go_simp; (try with_reducible rfl); done)); (try simp only [Act.put, List.setIfInBounds_toArray, List.set_cons_zero, List.set_cons_succ]))
      (refine Lex.step_val (v := ?_) ?_ (fun w' hSw => ?_) ?_; rotate_left; (focus rfl); (focus (clear hSw; go_simp; (try with_reducible rfl); done)); (try simp only [Act.put, List.setIfInBounds_toArray, List.set_cons_zero, List.set_cons_succ]))
      refine Lex.step_nil ?_
      intro wz hz
      go_wp2_with fail
      go_ret
      exact ⟨rfl, HB1.out.trans (((HB3.out.trans (HB4.out.mono HB3.out.size)).trans ((HBW.out.trans ((HB8.out.trans (hz.1.below.mono HB8.out.size)).mono HBW.out.size)).mono (Nat.le_trans HB3.out.size HB4.out.size))).mono HB1.out.size)⟩

theorem walk (x : Circ) (p : At) {w : World} (hin : InCirc w x p) (hw : WfC x) (hz : Open.SizedCirc x) (W : World) (hW : W = w) :
    Calls Try.prog 4 #[.agg (cells x p)] W fun e W' => e = .returned (.bool true) ∧ Below W.heap.size W W' := by
  subst hW
  have hfit : Fits x := ⟨by have := hz.ins; omega, by have := hz.lats; omega, by have := hz.outs; omega, by have := hz.bads; omega, by have := hz.invs; omega, by have := hz.ands; omega, by have := hz.names; omega⟩
  by_cases hok : CheckOk x
  · exact walk_ok x p hin hw hfit hok
  · exact walk_no x p hin hw hok
end Go.Proofs.Ythdhlkcdbogcaaa.strashLess
