/-
  preproc.stronger, preproc.Strengthen: with literals less, as long as there are any.
-/
import Derived.Test.YthhkngpbaflfiaaRest
import Derived.Test.YthhkngpbaflfiaaCloneR
import Derived.Test.YthhkngpbaflfiaaClean
import Derived.Test.YthhkngpbaflfiaaPreQ
namespace Go.Proofs.Ythhkngpbaflfiaa
open Go.RowKit Base
set_option linter.unusedVariables false
set_option linter.unusedSimpArgs false
namespace Pre

/-- The place of an own row's element: it may be written. -/
theorem own_place {w : World} {B : Nat} {e : TypeId} {a : Option Addr} {n c : Nat} {vs : List Value} (h : w.ownsRow B e 1 (.slice a n c) n vs) (hn : 0 < n) :
    ∃ g, a = some ⟨g, 0, none⟩ ∧ B ≤ g ∧ g < w.heap.size ∧ ∀ i, w.frozen? ⟨g, i, none⟩ = false := by
  rcases h.2 with ⟨hv, hnil⟩ | ⟨g, cap, cur, hv, hg, hh, _⟩
  · simp only [Value.slice.injEq] at hv
    omega
  · simp only [Value.slice.injEq] at hv
    obtain ⟨rfl, _, _⟩ := hv
    exact ⟨g, rfl, hg, (Array.getElem?_eq_some_iff.1 hh).1, fun i => by simp [World.frozen?, hh]⟩

theorem sl_set {w : World} {g n c : Nat} {vs : List Value} (h : Sl w (some ⟨g, 0, none⟩) n c vs) {i : Nat} (hi : i < n) (u : Value) : Sl (w.setCell ⟨g, i, none⟩ u) (some ⟨g, 0, none⟩) n c (vs.set i u) := by
  have hsz : (w.setCell ⟨g, i, none⟩ u).heap.size = w.heap.size := by simp [World.setCell]
  refine ⟨by rw [List.length_set]; exact h.len, h.cap, h.big, h.bare, fun k x hx => ?_⟩
  by_cases hk : k = i
  · subst hk
    rw [List.getElem?_set_self (by rw [h.len]; exact hi)] at hx
    simp only [Option.some.injEq] at hx
    subst hx
    obtain ⟨b, o, x, ha, hb, _, hc⟩ := h.at hi
    simp only [Option.some.injEq, Addr.mk.injEq] at ha
    obtain ⟨rfl, rfl, _⟩ := ha
    rw [Nat.zero_add] at hc
    exact ⟨g, 0, rfl, by rw [hsz]; exact hb, by rw [Nat.zero_add]; exact World.cell?_setCell_same _ _ _ hc⟩
  · rw [List.getElem?_set_ne (fun e => hk e.symm)] at hx
    obtain ⟨b, o, ha, hb, hc⟩ := h.cell k x hx
    simp only [Option.some.injEq, Addr.mk.injEq] at ha
    obtain ⟨rfl, rfl, _⟩ := ha
    refine ⟨g, 0, rfl, by rw [hsz]; exact hb, (World.cell?_setCell_other _ _ _ _ (fun h => ?_)).trans hc⟩
    simp only [Addr.mk.injEq] at h
    omega

theorem sl_keep {w : World} {g i : Nat} {u : Value} {a : Option Addr} {n c : Nat} {vs : List Value} (h : Sl w a n c vs) (hg : ∀ b o, a = some ⟨b, o, none⟩ → vs ≠ [] → b ≠ g) : Sl (w.setCell ⟨g, i, none⟩ u) a n c vs := by
  have hsz : (w.setCell ⟨g, i, none⟩ u).heap.size = w.heap.size := by simp [World.setCell]
  refine ⟨h.len, h.cap, h.big, h.bare, fun k x hx => ?_⟩
  obtain ⟨b, o, ha, hb, hc⟩ := h.cell k x hx
  refine ⟨b, o, ha, by rw [hsz]; exact hb, (World.cell?_setCell_other _ _ _ _ (fun h => ?_)).trans hc⟩
  simp only [Addr.mk.injEq] at h
  exact hg b o ha (by rintro rfl; simp at hx) (by omega)

/-- Rows that lie below a block, and one of its own, behind a store into the outer row. -/
theorem sl2_set {w0 w : World} {g n c : Nat} {vs : List Value} {L : List (List Int)} {a0 : Option Addr} {c0 : Nat} (h0 : Sl2 w0 a0 n c0 vs L) (hb : Below w0.heap.size w0 w) (hg : w0.heap.size ≤ g) (h : Sl w (some ⟨g, 0, none⟩) n c vs) {i : Nat} (hi : i < n)
    {ar : Option Addr} {cr : Nat} {r : List Int} {B : Nat} {e0 : TypeId} (hr : w.ownsRow B e0 1 (.slice ar r.length cr) r.length (ints r)) (hB : g < B) :
    Sl2 (w.setCell ⟨g, i, none⟩ (.slice ar r.length cr)) (some ⟨g, 0, none⟩) n c (vs.set i (.slice ar r.length cr)) (L.set i r) := by
  refine ⟨sl_set h hi _, by rw [List.length_set]; exact h0.len, fun k v xs hv hx => ?_⟩
  by_cases hk : k = i
  · subst hk
    rw [List.getElem?_set_self (by rw [h.len]; exact hi)] at hv
    rw [List.getElem?_set_self (by rw [h0.len]; exact hi)] at hx
    simp only [Option.some.injEq] at hv hx
    subst hv; subst hx
    exact ⟨ar, cr, rfl, Base.own_ints (ownsRow_setCell_below hr hB _)⟩
  · rw [List.getElem?_set_ne (fun e => hk e.symm)] at hv hx
    obtain ⟨a', c', rfl, hs⟩ := h0.row k v xs hv hx
    refine ⟨a', c', rfl, sl_keep (hs.next hb) fun b o ha hne => ?_⟩
    have hl : 0 < xs.length := List.length_pos_iff.2 (by rintro rfl; exact hne rfl)
    obtain ⟨b', o', _, ha', hlt, _⟩ := hs.int hl
    rw [ha] at ha'
    simp only [Option.some.injEq, Addr.mk.injEq] at ha'
    obtain ⟨rfl, _, _⟩ := ha'
    omega

def StrongOut (w : World) (a : Option Addr) (n c : Nat) (L : List (List Int)) (e : Ending) (w' : World) : Prop :=
  (match stronger L with
    | some L' => ∃ a' c' vals, e = .returned (.tuple #[.slice a' L'.length c', .bool true]) ∧ Own2 w' w.heap.size 29 3 (.slice a' L'.length c') L'.length vals L'
    | none => e = .returned (.tuple #[.slice a n c, .bool false])) ∧ Below w.heap.size w w'

theorem strong_some {w : World} {a : Option Addr} {n c : Nat} {L L' : List (List Int)} (h : stronger L = some L') {m : Nat} (hm : L'.length = m) {a' : Option Addr} {c' : Nat} {vals : List Value} {w' : World}
    (ho : Own2 w' w.heap.size 29 3 (.slice a' m c') m vals L') (hb : Below w.heap.size w w') : StrongOut w a n c L (.returned (.tuple #[.slice a' m c', .bool true])) w' := by
  subst hm
  refine ⟨?_, hb⟩
  rw [h]
  exact ⟨a', c', vals, rfl, ho⟩

theorem strong_none {w : World} {a : Option Addr} {n c : Nat} {L : List (List Int)} (h : stronger L = none) {w' : World} (hb : Below w.heap.size w w') : StrongOut w a n c L (.returned (.tuple #[.slice a n c, .bool false])) w' := by
  refine ⟨?_, hb⟩
  rw [h]

theorem wf2_set {L : List (List Int)} {i : Nat} {r : List Int} (h : Formula.Wf2 L) (hr : Clause.Wf r) : Formula.Wf2 (L.set i r) := by
  intro l hl
  rcases List.mem_or_eq_of_mem_set hl with hl | rfl
  · exact h l hl
  · exact hr

set_option maxHeartbeats 4000000 in
theorem stronger_any (w : World) (a : Option Addr) (n c : Nat) (vs : List Value) (L : List (List Int)) (hsl : Sl2 w a n c vs L) (hw : Formula.Wf2 L) (hn : n * 24 ≤ 140737488355328) (hlen : ∀ l ∈ L, l.length * 8 ≤ 140737488355328) :
    Calls Try.prog 33 #[.slice a n c] w (StrongOut w a n c L) := by
  have hcap := hsl.sl.cap
  have hbig := hsl.sl.big
  have HS := Lib.hid hsl
  have HW := Lib.hid hw
  have HN := Lib.hid hn
  have HLEN := Lib.hid hlen
  have HLL := Lib.hid hsl.len
  have HSOME := Lib.hid (fun (L' : List (List Int)) (h : stronger L = some L') (m : Nat) (hm : L'.length = m) (a' : Option Addr) (c' : Nat) (vals : List Value) (w' : World) ho hb => strong_some (w := w) (a := a) (n := n) (c := c) h hm (a' := a') (c' := c') (vals := vals) (w' := w') ho hb)
  have HNONE := Lib.hid (fun (h : stronger L = none) (w' : World) hb => strong_none (w := w) (a := a) (n := n) (c := c) h (w' := w') hb)
  generalize StrongOut w a n c L = R at *
  clear hsl hw hn hlen
  go_enter Try.func33, Try.ntmps33
  go_wp2_with fail
  go_loopw [9] (fun q wr => ∃ k : Nat, k ≤ n ∧ q = .int .i64 k ∧ Hid ((List.range k).find? (fun i => weaker L i != 0) = none) ∧ Hid (Below w.heap.size w wr)) (fun q _ => n - (intOf q).toNat)
  case atStart => exact ⟨0, Nat.zero_le _, rfl, rfl, Below.refl _ _⟩
  case round =>
    obtain ⟨k, hk, rfl, hF, hbr⟩ := hrel
    by_cases hlt : k < n
    · have hsr := HS.out.next hbr.out
      have WK := Lib.hid (weaker_any wr a n c vs L hsr HLEN.out k hlt)
      obtain ⟨g, o, a3, c3, hx, rfl, hgs, hc, hs3, hv3⟩ := HS.out.at hlt
      have HX := Lib.hid hx
      have HC3 := Lib.hid hc
      have HS3 := Lib.hid hs3
      have HFM : Hid (weaker L k ≠ 0 → first L = some k) := by
        intro h
        unfold first
        have hr : (List.range L.length) = List.range (k + 1) ++ (List.range L.length).drop (k + 1) := by
          conv => lhs; rw [← List.take_append_drop (k + 1) (List.range L.length)]
          rw [List.take_range, show min (k + 1) L.length = k + 1 by omega]
        rw [hr, List.find?_append, List.range_succ, List.find?_append, hF.out]
        simp [h]
      have HFN : Hid (weaker L k = 0 → (List.range (k + 1)).find? (fun i => weaker L i != 0) = none) := by
        intro h
        rw [List.range_succ, List.find?_append, hF.out]
        simp [h]
      have HLK : Hid (less L k = subsumed (L.set k (wo L[k] (weaker L k)))) := by
        show _ = _
        unfold less wo
        rw [getD_at hx]
        rfl
      have HLENK := Lib.hid (HLEN.out _ (List.getElem_mem hx))
      have HWK := Lib.hid (HW.out _ (List.getElem_mem hx))
      have HB := Lib.hid hbr.out
      clear hsr hc hs3 hv3 hF hbr
      generalize L[k] = xs at *
      clear hx
      generalize hxl : xs.length = xl at *
      generalize weaker L k = x at *
      clear hxl
      go_wp2_with fail
      refine WK.out.mono ?_
      rintro e w1 ⟨rfl, hb1⟩
      have HB1 := Lib.hid (HB.out.trans (hb1.mono HB.out.size))
      clear hb1
      by_cases h0 : x = 0
      · have HK := Lib.hid (HFN.out h0)
        clear HFM HFN
        subst h0
        go_wp2_with fail
        go_roundw
        case rel => exact ⟨k + 1, by omega, by go_num, HK, HB1.out⟩
        case measure => simp [intOf]; omega
      · have HK : Hid (stronger L = some (subsumed (L.set k (wo xs x)))) := by
          show _ = _
          unfold stronger
          rw [HFM.out h0]
          show some (less L k) = _
          rw [HLK.out]
        have v0 : (x != 0) = true := by rw [bne, beq_eq_false_iff_ne.2 h0]; rfl
        have CL := CloneR.clone w1 _ n c vs (HS.out.next HB1.out).sl (by
          intro u hu
          obtain ⟨j, hj, rfl⟩ := List.getElem_of_mem hu
          obtain ⟨_, _, e, _⟩ := HS.out.row j _ _ (List.getElem?_eq_getElem hj) (List.getElem?_eq_getElem (by rw [HS.out.len, ← HS.out.sl.len]; exact hj))
          rw [e]; rfl) HN.out
        have HCL := Lib.hid CL
        have H0 := Lib.hid h0
        clear CL h0 HFM HFN
        go_wp2_with fail
        refine HCL.out.mono ?_
        rintro e w2 ⟨a4, c4, rfl, hown4, hb2⟩
        obtain ⟨g4, rfl, hg4, hg4s, hfz⟩ := own_place hown4 (by omega)
        have HB2 := Lib.hid (HB1.out.trans (hb2.mono HB1.out.size))
        have k0 := (HB2.out.cell (p := ⟨g, o + k, none⟩) hgs).trans HC3.out
        have RS := rest_any w2 a3 xl c3 xs (HS3.out.next HB2.out) HLENK.out x
        have HRS := Lib.hid RS
        have HO4 := Lib.hid hown4
        have HG4 : Hid (w.heap.size ≤ g4 ∧ g4 < w2.heap.size) := ⟨Nat.le_trans HB1.out.size hg4, hg4s⟩
        have HFZ := Lib.hid hfz
        have hsl4 := own_sl hown4
        obtain ⟨a4', c4', hv4, hs4⟩ := hsl4
        simp only [Value.slice.injEq] at hv4
        obtain ⟨rfl, _, rfl⟩ := hv4
        have hcap4 := hs4.cap
        have hbig4 := hs4.big
        have HS4 := Lib.hid hs4
        clear RS hown4 hb2 hfz hg4 hg4s hs4
        go_wp2_with fail
        refine HRS.out.mono ?_
        rintro e w3 ⟨a5, n5, c5, rfl, hown5, hb3⟩
        have hn5 : (wo xs x).length = n5 := by have := hown5.1; rw [ints_len] at this; omega
        have hc4 : ∃ u, w3.cell? ⟨g4, k, none⟩ = some u := by
          obtain ⟨b, o', u, ha, hb, _, hcu⟩ := (HS4.out.next hb3).at hlt
          simp only [Option.some.injEq, Addr.mk.injEq] at ha
          obtain ⟨rfl, rfl, _⟩ := ha
          rw [Nat.zero_add] at hcu
          exact ⟨u, hcu⟩
        obtain ⟨u, hcu⟩ := hc4
        have hfz3 : w3.frozen? ⟨g4, k, none⟩ = false := (hb3.frozen (p := ⟨g4, k, none⟩) HG4.out.2).trans (HFZ.out k)
        have hb03 : Below w.heap.size w w3 := HB2.out.trans (hb3.mono HB2.out.size)
        have hset : Sl2 (w3.setCell ⟨g4, k, none⟩ (.slice a5 n5 c5)) (some ⟨g4, 0, none⟩) n c4 (vs.set k (.slice a5 n5 c5)) (L.set k (wo xs x)) := by
          have h := sl2_set HS.out hb03 HG4.out.1 (HS4.out.next hb3) hlt (ar := a5) (cr := c5) (r := wo xs x) (by rw [hn5]; exact hown5) HG4.out.2
          rwa [hn5] at h
        have hbs : Below w.heap.size w (w3.setCell ⟨g4, k, none⟩ (.slice a5 n5 c5)) := hb03.setCell (by exact HG4.out.1) _
        have hwr : Clause.Wf (wo xs x) := fun y hy => HWK.out y (List.mem_filter.1 hy).1
        have hll : ∀ l ∈ L.set k (wo xs x), l.length * 8 ≤ 140737488355328 := by
          intro l hl
          rcases List.mem_or_eq_of_mem_set hl with hl | rfl
          · exact HLEN.out l hl
          · have h1 : (wo xs x).length ≤ xs.length := List.length_filter_le _ _
            have h2 := HLENK.out
            have h3 := (HS3.out).len
            rw [ints_len] at h3
            omega
        have HSUB := Lib.hid (subsumed_any (w3.setCell ⟨g4, k, none⟩ (.slice a5 n5 c5)) _ n c4 _ _ hset (wf2_set HW.out hwr) HN.out hll)
        have HBS := Lib.hid hbs
        clear hset hbs hwr hll hb03 hn5 hown5 hb3
        go_wp2_with fail
        refine HSUB.out.mono ?_
        rintro e w4 ⟨a6, c6, vals6, rfl, ho6, hb6⟩
        have HB6 := Lib.hid (HBS.out.trans (hb6.mono HBS.out.size))
        have HO6 := Lib.hid (ho6.mono HBS.out.size)
        clear ho6 hb6
        generalize hml : (subsumed (L.set k (wo xs x))).length = ml at *
        have HML := Lib.hid hml
        clear hml
        go_wp2_with fail
        exact HSOME.out _ HK.out ml HML.out a6 c6 vals6 _ HO6.out HB6.out
    · have HK : Hid (stronger L = none) := by
        show _ = _
        unfold stronger first
        rw [HLL.out, ← show k = n by omega, hF.out]
        rfl
      have HB := Lib.hid hbr.out
      clear hF hbr
      go_wp2_with fail
      exact HNONE.out HK.out _ HB.out

/-- Strengthen's result: some formula that is reached, and that is not weakened further. -/
def StrengthOut (w : World) (vars : Int) (cls : List (List Int)) (e : Ending) (w' : World) : Prop :=
  (if Formula.check vars cls = 0 then ∃ L a' c' vals, Steps (subsumed cls) L ∧ stronger L = none ∧ e = .returned (.tuple #[.agg #[.int .i64 vars, .slice a' L.length c'], .int .i64 0]) ∧ Sl2 w' a' L.length c' vals L
    else e = .returned (.tuple #[.agg #[.int .i64 0, .slice none 0 0], .int .i64 9])) ∧ Below w.heap.size w w'

theorem strength0 {w : World} {vars : Int} {cls : List (List Int)} (h : Formula.check vars cls = 0) {L : List (List Int)} {m : Nat} (hm : L.length = m) {a' : Option Addr} {c' : Nat} {vals : List Value} {w' : World} (h1 : Steps (subsumed cls) L) (h2 : stronger L = none)
    (hs : Sl2 w' a' m c' vals L) (hb : Below w.heap.size w w') : StrengthOut w vars cls (.returned (.tuple #[.agg #[.int .i64 vars, .slice a' m c'], .int .i64 0])) w' := by
  subst hm
  refine ⟨?_, hb⟩
  rw [if_pos h]
  exact ⟨L, a', c', vals, h1, h2, rfl, hs⟩

theorem strength9 {w : World} {vars : Int} {cls : List (List Int)} (h : Formula.check vars cls = 9) {w' : World} (hb : Below w.heap.size w w') : StrengthOut w vars cls (.returned (.tuple #[.agg #[.int .i64 0, .slice none 0 0], .int .i64 9])) w' := by
  refine ⟨?_, hb⟩
  rw [if_neg (by rw [h]; decide)]

/-- What stands in the box of the formula that is strengthened. -/
structure InBox (M : Nat) (vars : Int) (a' : Option Addr) (m c' : Nat) (W : World) : Prop where
  c0 : W.cell? ⟨M, 0, none⟩ = some (.int .i64 vars)
  c1 : W.cell? ⟨M, 1, none⟩ = some (.slice a' m c')
  f0 : W.frozen? ⟨M, 0, none⟩ = false
  f1 : W.frozen? ⟨M, 1, none⟩ = false
  size : M + 1 ≤ W.heap.size

theorem InBox.next {M : Nat} {vars : Int} {a' : Option Addr} {m c' : Nat} {W W' : World} (h : InBox M vars a' m c' W) (hb : Below W.heap.size W W') : InBox M vars a' m c' W' :=
  ⟨(hb.cell (p := ⟨M, 0, none⟩) h.size).trans h.c0, (hb.cell (p := ⟨M, 1, none⟩) h.size).trans h.c1, (hb.frozen (p := ⟨M, 0, none⟩) h.size).trans h.f0, (hb.frozen (p := ⟨M, 1, none⟩) h.size).trans h.f1, Nat.le_trans h.size hb.size⟩

theorem InBox.set {M : Nat} {vars : Int} {a' : Option Addr} {m c' : Nat} {W : World} (h : InBox M vars a' m c' W) (a2 : Option Addr) (m2 c2 : Nat) : InBox M vars a2 m2 c2 (W.setCell ⟨M, 1, none⟩ (.slice a2 m2 c2)) :=
  ⟨(World.cell?_setCell_other _ _ _ _ (fun e => by simp at e)).trans h.c0, World.cell?_setCell_same _ _ _ h.c1, by rw [World.frozen?_setCell]; exact h.f0, by rw [World.frozen?_setCell]; exact h.f1, by simpa [World.setCell] using h.size⟩

set_option maxRecDepth 4000 in
set_option maxHeartbeats 4000000 in
theorem strengthen_any (w : World) (vars : Int) (a : Option Addr) (n c : Nat) (vs : List Value) (cls : List (List Int)) (hsl : Sl2 w a n c vs cls) (hw : Formula.Wf2 cls) :
    Calls Try.prog 18 #[.agg #[.int .i64 vars, .slice a n c]] w (StrengthOut w vars cls) := by
  obtain ⟨W2, hW2⟩ : ∃ W2, W2 = (w.alloc (.cells #[.int .i64 vars, .slice a n c] 24)).alloc (.cells #[.int .i64 0, .slice none 0 0] 24) := ⟨_, rfl⟩
  obtain ⟨h2, b0, b1, f0, f1, hz, q0, q1⟩ := boxes w vars a n c W2 hW2
  have HSUB := Lib.hid (subsume_any W2 vars a n c vs cls (hsl.next h2) hw)
  have HB2 := Lib.hid h2
  have HF0 := Lib.hid (fun h (L : List (List Int)) (m : Nat) hm (a' : Option Addr) (c' : Nat) (vals : List Value) (w' : World) h1 h2 hs hb => @strength0 w vars cls h L m hm a' c' vals w' h1 h2 hs hb)
  have HF9 := Lib.hid (fun h (w' : World) hb => @strength9 w vars cls h w' hb)
  have HOK := Lib.hid (@Formula.check_ok vars cls)
  have H9 := Lib.hid (Formula.check_or vars cls)
  have HW := Lib.hid hw
  unfold FormOut at HSUB
  generalize StrengthOut w vars cls = R at *
  generalize Formula.check vars cls = q at *
  have hW2' := hW2.symm
  clear hsl h2 hw hW2
  rcases H9.out with h0 | h9
  · have HK := HOK.out h0
    have HAL := Lib.hid (fun L (h : Steps (subsumed cls) L) => along HK.2.2.1 (fun l hl => (HK.2.2.2 l hl).1) HW.out h)
    have HWF := Lib.hid (fun L (h : Steps (subsumed cls) L) => wf_steps (wf_subsumed HW.out) h)
    have HF := Lib.hid (HF0.out h0)
    have hsub := HSUB.out
    simp only [if_pos h0] at hsub
    have HSB := Lib.hid hsub
    clear HK HOK HSUB HF0 HF9 hsub H9
    generalize hL0 : subsumed cls = L0 at *
    have HL0 := Lib.hid hL0
    clear hL0
    go_enter Try.func18, Try.ntmps18
    go_wp2_with fail
    refine HSB.out.mono ?_
    rintro e w3 ⟨⟨a1, c1, vals1, rfl, ho3⟩, hb3⟩
    have HB3 := Lib.hid (HB2.out.trans (hb3.mono HB2.out.size))
    have g0 := (hb3.frozen (p := ⟨w.heap.size + 1, 0, none⟩) (by show w.heap.size + 1 < _; rw [hz]; omega)).trans f0
    have g1 := (hb3.frozen (p := ⟨w.heap.size + 1, 1, none⟩) (by show w.heap.size + 1 < _; rw [hz]; omega)).trans f1
    have r0 := (hb3.cell (p := ⟨w.heap.size + 1, 0, none⟩) (by show w.heap.size + 1 < _; rw [hz]; omega)).trans q0
    have r1 := (hb3.cell (p := ⟨w.heap.size + 1, 1, none⟩) (by show w.heap.size + 1 < _; rw [hz]; omega)).trans q1
    have HZ3 : Hid (w.heap.size + 2 ≤ w3.heap.size) := by have := hb3.size; rw [hz] at this; exact this
    have HS3 := Lib.hid (ho3.mono (N' := w.heap.size + 2) (Nat.le_of_eq hz.symm))
    obtain ⟨M, hM⟩ : ∃ M, M = w3.heap.size := ⟨_, rfl⟩
    have HM := Lib.hid hM
    clear hb3 ho3 f0 f1 q0 q1 hz hW2' hM
    go_wp2_with fail
    rw [← HM.out]
    have hal : Below w3.heap.size w3 (w3.alloc (.cells #[.int .i64 vars, .slice a1 L0.length c1] 24)) := (Below.refl _ _).alloc (Nat.le_refl _) _
    have hin : InBox M vars a1 L0.length c1 (w3.alloc (.cells #[.int .i64 vars, .slice a1 L0.length c1] 24)) := by
      rw [HM.out]
      exact ⟨by simp [go_sem], by simp [go_sem], by simp [go_sem], by simp [go_sem], by simp⟩
    have HIN := Lib.hid hin
    have HS4 := Lib.hid (HS3.out.next hal)
    have HAL4 := Lib.hid hal
    clear hin hal
    generalize w3.alloc (.cells #[.int .i64 vars, .slice a1 L0.length c1] 24) = w4 at *
    go_loopg [6] (total L0 + 1) (fun gk s6 wr => ∃ (L : List (List Int)) (m : Nat) (a' : Option Addr) (c' : Nat) (vals : List Value), Hid (L.length = m) ∧ Hid (Steps L0 L) ∧ Hid (Own2 wr (w.heap.size + 2) 29 3 (.slice a' m c') m vals L) ∧ Hid (InBox M vars a' m c' wr) ∧ Hid (Below M w3 wr) ∧
      ((s6 = .bool true ∧ total L + 1 ≤ gk) ∨ (s6 = .bool false ∧ Hid (stronger L = none))))
    case atStart => exact ⟨L0, _, a1, c1, vals1, rfl, Steps.refl _, HS4.out, HIN.out, by show Below _ _ _; rw [HM.out]; exact HAL4.out, .inl ⟨rfl, Nat.le_refl _⟩⟩
    case round =>
      obtain ⟨L, m, a', c', vals, hm, hst, hs, hbx, hbr, hcase⟩ := hrel
      have k0 := hbx.out.c0
      have k1 := hbx.out.c1
      have z0 := hbx.out.f0
      have z1 := hbx.out.f1
      rcases hcase with ⟨rfl, hgk⟩ | ⟨rfl, hnone⟩
      · have hlen := HAL.out L hst.out
        have SG := stronger_any wr a' m c' vals L hs.out.sl2' (HWF.out L hst.out) (by have := hlen.1; have := hm.out; omega) (fun l hl => by have := hlen.2 l hl; omega)
        unfold StrongOut at SG
        cases hsg : stronger L with
        | some L' =>
          rw [hsg] at SG
          have HSG := Lib.hid SG
          have HT := Lib.hid (total_stronger hsg)
          have HST : Hid (Steps L0 L') := Steps.tail hst.out hsg
          clear SG hsg hlen
          go_wp2_with fail
          refine HSG.out.mono ?_
          rintro e w5 ⟨⟨a5, c5, vals5, rfl, ho5⟩, hb5⟩
          have hbx5 := hbx.out.next hb5
          have l0 := hbx5.c0
          have l1 := hbx5.c1
          have y0 := hbx5.f0
          have y1 := hbx5.f1
          have HBX := Lib.hid (hbx5.set a5 L'.length c5)
          have HS5 := Lib.hid ((ho5.set (a := ⟨M, 1, none⟩) (by exact hbx.out.size) (.slice a5 L'.length c5)).mono (N' := w.heap.size + 2) (by have := hbx.out.size; have := HZ3.out; have := HM.out; omega))
          have hb5' : Below M w3 w5 := hbr.out.trans (hb5.mono (Nat.le_trans (Nat.le_succ M) hbx.out.size))
          have HB5 : Hid (Below M w3 (w5.setCell ⟨M, 1, none⟩ (.slice a5 L'.length c5))) := hb5'.setCell (by exact Nat.le_refl _) _
          clear hb5 hb5' ho5 k0 k1 z0 z1 hs hst hbr hbx hbx5
          go_wp2_with fail
          go_roundg (total L' + 1)
          case measure => have := HT.out; omega
          case rel => exact ⟨L', L'.length, a5, c5, vals5, rfl, HST.out, HS5.out, HBX.out, HB5.out, .inl ⟨rfl, Nat.le_refl _⟩⟩
        | none =>
          rw [hsg] at SG
          have HSG := Lib.hid SG
          have HNO := Lib.hid hsg
          clear SG hsg hlen
          go_wp2_with fail
          refine HSG.out.mono ?_
          rintro e w5 ⟨rfl, hb5⟩
          have hbx5 := hbx.out.next hb5
          have l0 := hbx5.c0
          have l1 := hbx5.c1
          have y0 := hbx5.f0
          have y1 := hbx5.f1
          have HSAME := Lib.hid (setCell_same w5 ⟨M, 1, none⟩ (.slice a' m c') l1)
          have HBX := Lib.hid hbx5
          have HS5 := Lib.hid (hs.out.next hb5)
          have HB5 : Hid (Below M w3 w5) := hbr.out.trans (hb5.mono (Nat.le_trans (Nat.le_succ M) hbx.out.size))
          clear hb5 k0 k1 z0 z1 hs hbr hbx hbx5
          go_wp2_with fail
          rw [HSAME.out]
          go_roundg 0
          case measure => omega
          case rel => exact ⟨L, m, a', c', vals, hm.out, hst.out, HS5.out, HBX.out, HB5.out, .inr ⟨rfl, HNO.out⟩⟩
      · have hlt : w.heap.size + 1 < M := by have := HZ3.out; rw [HM.out]; omega
        have x0 := (hbr.out.frozen (p := ⟨w.heap.size + 1, 0, none⟩) hlt).trans g0
        have x1 := (hbr.out.frozen (p := ⟨w.heap.size + 1, 1, none⟩) hlt).trans g1
        have t0 := (hbr.out.cell (p := ⟨w.heap.size + 1, 0, none⟩) hlt).trans r0
        have t1 := (hbr.out.cell (p := ⟨w.heap.size + 1, 1, none⟩) hlt).trans r1
        have HHB : Hid (Below w.heap.size w wr) := HB3.out.trans (hbr.out.mono (by rw [HM.out]; exact HB3.out.size))
        have HSS := hs
        have HST := hst
        have HMM := hm
        have HNO := hnone
        clear hs hst hm hnone hbr g0 g1 r0 r1
        go_wp2_with fail
        refine bodyPost_ret (v := .tuple #[.agg #[.int .i64 vars, .slice a' m c'], .int .i64 0]) (by simp [results, Try.results18, go_sem, t0, t1]) rfl ?_
        have hz1 : w.heap.size + 1 < w.heap.size + 2 := by omega
        have hset := ((HSS.out.set (a := ⟨w.heap.size + 1, 0, none⟩) hz1 (.int .i64 vars)).set (a := ⟨w.heap.size + 1, 1, none⟩) hz1 (.slice a' m c')).sl2'
        have hbf : Below w.heap.size w ((wr.setCell ⟨w.heap.size + 1, 0, none⟩ (.int .i64 vars)).setCell ⟨w.heap.size + 1, 1, none⟩ (.slice a' m c')) := (HHB.out.setCell (by show w.heap.size ≤ w.heap.size + 1; omega) _).setCell (by show w.heap.size ≤ w.heap.size + 1; omega) _
        exact HF.out L m HMM.out a' c' vals _ HST.out HNO.out hset hbf
  · have HF := Lib.hid (HF9.out h9)
    have hsub := HSUB.out
    have hne : ¬ q = 0 := by rw [h9]; decide
    simp only [if_neg hne] at hsub
    have HSB := Lib.hid hsub
    clear HOK HSUB HF0 HF9 hsub H9
    go_enter Try.func18, Try.ntmps18
    go_wp2_with fail
    refine HSB.out.mono ?_
    rintro e w3 ⟨rfl, hb3⟩
    have HB3 := Lib.hid (HB2.out.trans (hb3.mono HB2.out.size))
    have g0 := (hb3.frozen (p := ⟨w.heap.size + 1, 0, none⟩) (by show w.heap.size + 1 < _; rw [hz]; omega)).trans f0
    have g1 := (hb3.frozen (p := ⟨w.heap.size + 1, 1, none⟩) (by show w.heap.size + 1 < _; rw [hz]; omega)).trans f1
    have r0 := (hb3.cell (p := ⟨w.heap.size + 1, 0, none⟩) (by show w.heap.size + 1 < _; rw [hz]; omega)).trans q0
    have r1 := (hb3.cell (p := ⟨w.heap.size + 1, 1, none⟩) (by show w.heap.size + 1 < _; rw [hz]; omega)).trans q1
    have hal : Below w3.heap.size w3 (w3.alloc (.cells #[.int .i64 0, .slice none 0 0] 24)) := (Below.refl _ _).alloc (Nat.le_refl _) _
    have hz3 : w.heap.size + 2 ≤ w3.heap.size := by have := hb3.size; rw [hz] at this; exact this
    have x0 := (hal.frozen (p := ⟨w.heap.size + 1, 0, none⟩) (by show w.heap.size + 1 < w3.heap.size; omega)).trans g0
    have x1 := (hal.frozen (p := ⟨w.heap.size + 1, 1, none⟩) (by show w.heap.size + 1 < w3.heap.size; omega)).trans g1
    have t0 := (hal.cell (p := ⟨w.heap.size + 1, 0, none⟩) (by show w.heap.size + 1 < w3.heap.size; omega)).trans r0
    have t1 := (hal.cell (p := ⟨w.heap.size + 1, 1, none⟩) (by show w.heap.size + 1 < w3.heap.size; omega)).trans r1
    have HHB := Lib.hid (HB3.out.trans (hal.mono HB3.out.size))
    clear f0 f1 q0 q1 hz hW2' hb3 g0 g1 r0 r1 hal hz3
    go_wp2_with fail
    refine bodyPost_ret (v := .tuple #[.agg #[.int .i64 0, .slice none 0 0], .int .i64 9]) (by simp [results, Try.results18, go_sem, t0, t1]) rfl ?_
    refine HF.out _ ((HHB.out.setCell (by show w.heap.size ≤ w.heap.size + 1; omega) _).setCell (by show w.heap.size ≤ w.heap.size + 1; omega) _)

end Pre
end Go.Proofs.Ythhkngpbaflfiaa
