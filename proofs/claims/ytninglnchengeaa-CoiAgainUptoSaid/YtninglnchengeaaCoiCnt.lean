/-
  coi.counted: what counts, as a map of its own.
-/
import Derived.Test.YtninglnchengeaaCoiAdd
import Derived.Test.YtninglnchengeaaCloneR
import Derived.Test.YtninglnchengeaaConcatI
import Derived.Test.YtninglnchengeaaApp2
import Derived.Test.YtninglnchengeaaHeldAll
import Derived.Test.YtninglnchengeaaWfC
import Derived.Deep.DeepCutAuto
namespace Go.Proofs.Ytninglnchengeaa
open Go.RowKit Base Go.Maps
set_option linter.unusedVariables false
set_option linter.unusedSimpArgs false
namespace Coi
open Circuit StrashP

theorem offb_cbox {b N : Nat} {w w2 : World} {x : Circ} {p : At} (h : OffB b w w2) (hc : CBox N x p w) (hne : N ≠ b) : CBox N x p w2 := by
  have hb := h.block N hc.lt hne
  have e : ∀ j, w2.cell? ⟨N, j, none⟩ = w.cell? ⟨N, j, none⟩ := fun j => World.cell?_of_block (w := w) (a := ⟨N, j, none⟩) hb
  exact ⟨Nat.lt_of_lt_of_le hc.lt h.size, (e 0).trans hc.k0, (e 1).trans hc.k1, (e 2).trans hc.k2, (e 3).trans hc.k3, (e 4).trans hc.k4, (e 5).trans hc.k5, (e 6).trans hc.k6, (e 7).trans hc.k7⟩

/-- A row of slices, each a list of integers. -/
def RowsP (w : World) (vs : List Value) (xss : List (List Int)) : Prop := vs.length = xss.length ∧ ∀ (k : Nat) (v : Value) (xs : List Int), vs[k]? = some v → xss[k]? = some xs → ∃ a c, v = .slice a xs.length c ∧ Sl w a xs.length c (ints xs)
theorem RowsP.next {w w' : World} {vs : List Value} {xss : List (List Int)} (h : RowsP w vs xss) (hb : Below w.heap.size w w') : RowsP w' vs xss :=
  ⟨h.1, fun k v xs hv hx => by
    obtain ⟨a, c, e, hs⟩ := h.2 k v xs hv hx
    exact ⟨a, c, e, hs.next hb⟩⟩
theorem RowsP.of {w : World} {a : Option Addr} {n c : Nat} {vs : List Value} {xss : List (List Int)} (h : Sl2 w a n c vs xss) : RowsP w vs xss :=
  ⟨by rw [h.sl.len, h.len], fun k v xs hv hx => by
    obtain ⟨a, c, e, hs⟩ := h.row k v xs hv hx
    exact ⟨a, c, e, hs⟩⟩
theorem RowsP.app {w : World} {vs us : List Value} {xss yss : List (List Int)} (h : RowsP w vs xss) (h2 : RowsP w us yss) : RowsP w (vs ++ us) (xss ++ yss) := by
  refine ⟨by rw [List.length_append, List.length_append, h.1, h2.1], fun k v xs hv hx => ?_⟩
  by_cases hk : k < vs.length
  · rw [List.getElem?_append_left hk] at hv
    rw [List.getElem?_append_left (by rw [← h.1]; exact hk)] at hx
    exact h.2 k v xs hv hx
  · rw [List.getElem?_append_right (by omega)] at hv
    rw [List.getElem?_append_right (by rw [← h.1]; omega), ← h.1] at hx
    exact h2.2 _ v xs hv hx
theorem RowsP.two {w : World} {a1 a2 : Option Addr} {c1 c2 : Nat} {l1 l2 : List Int} (h1 : Sl w a1 l1.length c1 (ints l1)) (h2 : Sl w a2 l2.length c2 (ints l2)) : RowsP w [.slice a1 l1.length c1, .slice a2 l2.length c2] [l1, l2] := by
  refine ⟨rfl, fun k v xs hv hx => ?_⟩
  match k, hv, hx with
  | 0, hv, hx => simp at hv hx; subst hv; subst hx; exact ⟨_, _, rfl, h1⟩
  | 1, hv, hx => simp at hv hx; subst hv; subst hx; exact ⟨_, _, rfl, h2⟩
  | k + 2, hv, hx => simp at hv
theorem ints_flat (xss : List (List Int)) : (xss.map ints).flatten = ints xss.flatten := by
  induction xss with
  | nil => rfl
  | cons x r ih => rw [List.map_cons, List.flatten_cons, ih, List.flatten_cons]; unfold ints; rw [List.map_append]
theorem concat_any (w : World) (a : Option Addr) (n c : Nat) (vs : List Value) (xss : List (List Int)) (hsl : Sl w a n c vs) (hp : RowsP w vs xss) (hn : xss.flatten.length * 8 ≤ 140737488355328) :
    Calls Try.prog 29 #[.slice a n c] w fun e w' => ∃ a' c', e = .returned (.slice a' xss.flatten.length c') ∧ Sl w' a' xss.flatten.length c' (ints xss.flatten) ∧ Below w.heap.size w w' := by
  have ht : ConcatI.tot (xss.map ints) = xss.flatten.length := by unfold ConcatI.tot; rw [ints_flat, ints_len]
  have h := ConcatI.concat w a n c vs (xss.map ints) hsl ⟨by rw [List.length_map]; exact hp.1, fun k v u hv hu => by
    rw [List.getElem?_map, Option.map_eq_some_iff] at hu
    obtain ⟨xs, hx, rfl⟩ := hu
    obtain ⟨a', c', e, hs⟩ := hp.2 k v xs hv hx
    rw [ints_len]
    exact ⟨a', c', e, hs⟩⟩ (fun u hu v hv => by
      obtain ⟨xs, _, rfl⟩ := List.mem_map.1 hu
      exact Base.ints_one xs v hv) (by rw [ht]; exact hn) (by rw [ht]; omega)
  rw [ht, ints_flat] at h
  refine h.mono ?_
  rintro e w' ⟨a', c', he, ho, hb⟩
  exact ⟨a', c', he, own_sl' ho, hb⟩
theorem info_rows : (Try.prog.info? 22).map (fun i => (i.zero, i.size, i.bytes)) = some (some (.slice none 0 0), 1, 24) := by kernel_rfl

theorem row_one {w : World} {a : Option Addr} {n c : Nat} {vs : List Value} {xss : List (List Int)} (h : Sl2 w a n c vs xss) : ∀ u ∈ vs, u.oneCell' = true := by
  intro u hu
  obtain ⟨i, hi, rfl⟩ := List.mem_iff_getElem.1 hu
  have hl : i < xss.length := by have := h.len; have := h.sl.len; omega
  obtain ⟨a', c', e, _⟩ := h.row i _ _ (List.getElem?_eq_getElem hi) (List.getElem?_eq_getElem hl)
  rw [e]; rfl
theorem flat_l (A : List (List Int)) (v : List Int) (b : Int) : (A ++ [v, [b]]).flatten = A.flatten ++ v ++ [b] := by simp
theorem c8of {N : Nat} {x : Circ} {p : At} {w' : World} (h : CBox N x p w') : w'.cell? ⟨N, 0, none⟩ = some (.int .i64 x.max) ∧ w'.cell? ⟨N, 1, none⟩ = some (.slice p.a1 x.ins.length p.c1) ∧ w'.cell? ⟨N, 2, none⟩ = some (.slice p.a2 x.lats.length p.c2) ∧ w'.cell? ⟨N, 3, none⟩ = some (.slice p.a3 x.outs.length p.c3) ∧ w'.cell? ⟨N, 4, none⟩ = some (.slice p.a4 x.bads.length p.c4) ∧ w'.cell? ⟨N, 5, none⟩ = some (.slice p.a5 x.invs.length p.c5) ∧ w'.cell? ⟨N, 6, none⟩ = some (.slice p.a6 x.ands.length p.c6) ∧ w'.cell? ⟨N, 7, none⟩ = some (.slice p.a7 x.names.length p.c7) := ⟨h.k0, h.k1, h.k2, h.k3, h.k4, h.k5, h.k6, h.k7⟩
theorem sl_block {w : World} {g n : Nat} {cs : Array Value} {e : TypeId} (h : w.heap[g]? = some (.cells cs e (0, 0))) (hn : cs.size = n) (hm : n ≤ 9223372036854775807) : Sl w (some ⟨g, 0, none⟩) n n cs.toList :=
  ⟨by simpa using hn, Nat.le_refl _, hm, fun e => (by cases e), fun k x hx => ⟨g, 0, rfl, (Array.getElem?_eq_some_iff.1 h).1, by
    rw [cell_of_row _ g (0 + k) _ e _ h, Nat.zero_add]
    simpa using hx⟩⟩

/-- append of two rows to a row of rows: all that it is then. -/
theorem app_all (ty : TypeId) (V : World) (B : Nat) (hB : B ≤ V.heap.size) (aK : Option Addr) (cK n : Nat) (vals : List Value) (A : List (List Int)) (hown : V.ownsRow B 22 1 (.slice aK n cK) n vals) (a5 : Option Addr) (c5 : Nat) (invs : List Int)
    (hold : ∀ U, Below B V U → RowsP U vals A ∧ Sl U a5 invs.length c5 (ints invs)) (g1 : Nat) (bl : Int) (hg1 : V.heap[g1]? = some (.cells #[.int .i64 bl] 3)) (hn1 : (Value.slice aK n cK).ownBlock ≠ some g1) (g2 : Nat)
    (hg2 : V.heap[g2]? = some (.cells #[.slice a5 invs.length c5, .slice (some ⟨g1, 0, none⟩) 1 1] 22)) (hn2 : (Value.slice aK n cK).ownBlock ≠ some g2) (hn : (n + 2) * 24 ≤ 140737488355328) :
    ∃ a' c' w1, (Builtin.append_ #[28, 28] ty #[.slice aK n cK, .slice (some ⟨g2, 0, none⟩) 2 2]).run Try.prog V = .ok (.slice a' (n + 2) c') w1 ∧ Sl w1 a' (n + 2) c' (vals ++ [.slice a5 invs.length c5, .slice (some ⟨g1, 0, none⟩) 1 1]) ∧
      RowsP w1 (vals ++ [.slice a5 invs.length c5, .slice (some ⟨g1, 0, none⟩) 1 1]) (A ++ [invs, [bl]]) ∧ Below B V w1 := by
  have hsl : Sl V (some ⟨g2, 0, none⟩) 2 2 [.slice a5 invs.length c5, .slice (some ⟨g1, 0, none⟩) 1 1] := sl_block hg2 rfl (by decide)
  obtain ⟨a', c', w1, hr, ho, hg⟩ := App2.runV (P := Try.prog) ty (k := 1) (by decide) info_rows Try.underlying28 rfl V B hB (.slice aK n cK) n (vals.map fun v => [v]) (by rw [App2.flat1]; exact hown) (some ⟨g2, 0, none⟩) 2 2 ([.slice a5 invs.length c5, .slice (some ⟨g1, 0, none⟩) 1 1].map fun v => [v]) (App2.sl_t1 hsl) (by intro r hr; obtain ⟨v, _, rfl⟩ := List.mem_map.1 hr; rfl)
    (by rw [App2.flat1]; intro u hu; simp only [List.mem_cons, List.not_mem_nil, or_false] at hu; rcases hu with rfl | rfl <;> rfl) hn (by omega)
  rw [← List.map_append, App2.flat1] at ho
  have hb : Below B V w1 := (Below.refl B V).grown hg hB fun q hq => (hown.lt q hq).1
  have hone : Sl w1 (some ⟨g1, 0, none⟩) [bl].length 1 (ints [bl]) := sl_block (cs := #[.int .i64 bl]) (e := 3) ((hg.block g1 (Array.getElem?_eq_some_iff.1 hg1).1 (fun e => hn1 e.symm)).trans hg1) rfl (by simp)
  exact ⟨a', c', w1, hr, own_sl' ho, (hold w1 hb).1.app (RowsP.two (hold w1 hb).2 hone), hb⟩

theorem concat_l (w : World) (a : Option Addr) (n c : Nat) (vs : List Value) (A : List (List Int)) (invs : List Int) (bl : Int) (l : List Int) (hl : A.flatten ++ invs ++ [bl] = l) (hsl : Sl w a n c vs) (hp : RowsP w vs (A ++ [invs, [bl]])) (hn : l.length * 8 ≤ 140737488355328) :
    Calls Try.prog 29 #[.slice a n c] w fun e w' => ∃ v, e = .returned v ∧ ∃ a' c', v = .slice a' l.length c' ∧ Sl w' a' l.length c' (ints l) ∧ Below w.heap.size w w' := by
  have h := concat_any w a n c vs _ hsl hp (by rw [flat_l, hl]; exact hn)
  rw [flat_l, hl] at h
  exact h.mono fun e w' ⟨a', c', he, hs, hb⟩ => ⟨_, he, a', c', rfl, hs, hb⟩

theorem start_any (w : World) (x : Circ) (p : At) (hin : InCirc w x p) (hwa : WfT x.ands) {b : Nat} (hset : SetK w b 0 []) (a : Option Addr) (c : Nat) (l : List Int) (hsl : Sl w a l.length c (ints l)) (hl : ∀ y ∈ l, Circuit.I64 y)
    (hsz : (2 * l.length + 2 * x.ands.length + 2) * 8 ≤ 140737488355328) :
    Calls Try.prog 28 #[.map (some b), .agg (cells x p), .slice a l.length c] w fun e w' => ∃ v, e = .returned v ∧ ∃ X : List Int, SetK w' b X.length X ∧ CInv x l X ∧ OffB b w w' :=
  (add_any w x p hin hwa (X := []) hset List.nodup_nil a c l hsl hl hsz (by simp)).mono fun e w' ⟨X2, he, h1, h2, _, h3⟩ => ⟨_, he, X2, h1, cinv_start h2, h3⟩

/-- What counted leaves. -/
def CntOut (w : World) (x : Circ) (l : List Int) (e : Ending) (w' : World) : Prop :=
  ∃ b X, e = .returned (.map (some b)) ∧ w.heap.size ≤ b ∧ SetK w' b X.length X ∧ X.Nodup ∧ (∀ v, v ∈ X ↔ v ≠ 0 ∧ NR x l v) ∧ Below w.heap.size w w'

set_option maxRecDepth 8000 in
set_option maxHeartbeats 8000000 in
theorem counted_any (w : World) (x : Circ) (p : At) (hin : InCirc w x p) (hw : WfC x) (aA : Option Addr) (n cA : Nat) (vals : List Value) (A : List (List Int)) (hA : Sl2 w aA n cA vals A) (hA64 : ∀ y ∈ A.flatten, Circuit.I64 y) (k : Nat) (hk : k < x.bads.length)
    (hz1 : n ≤ 4000000) (hz2 : A.flatten.length ≤ 4000000) (hz3 : x.ands.length ≤ 4000000) (hz4 : x.invs.length ≤ 4000000) (hz5 : x.lats.length ≤ 4000000) :
    Calls Try.prog 10 #[.agg (cells x p), .slice aA n cA, .int .i64 k] w (CntOut w x (A.flatten ++ x.invs ++ [x.bads[k]]) ) := by
  obtain ⟨W1, hW1⟩ : ∃ W1, w.alloc (.cells (cells x p) 27) = W1 := ⟨_, rfl⟩
  obtain ⟨hb1, hc1⟩ := cbox_new w x p W1 hW1
  obtain ⟨W2, hW2⟩ : ∃ W2, W1.alloc (.map #[] 0) = W2 := ⟨_, rfl⟩
  have hb2 : Below W1.heap.size W1 W2 := by rw [← hW2]; exact (Below.refl _ _).alloc (Nat.le_refl _) _
  have hset : SetK W2 W1.heap.size 0 [] := by rw [← hW2]; exact made W1
  have hc2 := hc1.next hb2 (Nat.le_refl _)
  have hb12 : Below w.heap.size w W2 := hb1.trans (hb2.mono hb1.size)
  have hlt1 : w.heap.size < W1.heap.size := hc1.lt
  have HB12 := Lib.hid hb12
  have HC2 := Lib.hid hc2
  have HLT1 := Lib.hid hlt1
  have HSET := Lib.hid hset
  have HIN := Lib.hid (fun (U : World) (hU : Below w.heap.size w U) => hin.next hU)
  have HA := Lib.hid (fun (U : World) (hU : Below w.heap.size w U) => hA.next hU)
  have HOFB := Lib.hid (fun (U : World) (hU : OffB W1.heap.size W2 U) => hU.base hb12 (by have := hb12.size; omega) (Nat.le_of_lt hlt1))
  have HW := Lib.hid hw
  have HZ := Lib.hid (And.intro hz1 (And.intro hz2 (And.intro hz3 (And.intro hz4 hz5))))
  have HA64 := Lib.hid hA64
  have hbsl := hin.bads
  obtain ⟨gb, ob, hxb, hab, hgb, hcb⟩ := hbsl.int hk
  have hcapb := hbsl.cap
  have hbigb := hbsl.big
  have hLI : ∀ y ∈ A.flatten ++ x.invs ++ [x.bads[k]], Circuit.I64 y := by
    intro y hy
    rw [List.mem_append, List.mem_append, List.mem_singleton] at hy
    rcases hy with (hy | hy) | rfl
    · exact hA64 y hy
    · exact hw.invs y hy
    · exact hw.bads _ (List.getElem_mem _)
  generalize hbl : x.bads[k] = bl at *
  have HLI := Lib.hid hLI
  obtain ⟨l, hl⟩ : ∃ l, A.flatten ++ x.invs ++ [bl] = l := ⟨_, rfl⟩
  rw [hl]
  have HL := Lib.hid hl
  rw [hl] at HLI
  have HAD0 := fun (U : World) (hU : Below W2.heap.size W2 U) (aL : Option Addr) (cL : Nat) (hsL : Sl U aL l.length cL (ints l)) => start_any U x p ((hin.next hb12).next hU) hw.ands (hset.next hU) aL cL l hsL HLI.out (by have := HZ.out; have := congrArg List.length hl; simp only [List.length_append, List.length_singleton] at this; omega)
  have HAD1 := fun (U : World) (hU : Below w.heap.size w U) (X : List Int) (hX : SetK U W1.heap.size X.length X) (hnd : X.Nodup) (hXl : X.length ≤ 1099511627776000) (aL : Option Addr) (cL : Nat) (u : Int) (hu : Circuit.I64 u) (hsL : Sl U aL 1 cL (ints [u])) => add_any U x p (hin.next hU) hw.ands hX hnd aL cL [u] hsL (fun y hy => by rw [List.mem_singleton.1 hy]; exact hu) (by have := HZ.out; simp only [List.length_singleton]; omega) hXl
  have HCEL := Lib.hid (fun (U : World) (hU : Below w.heap.size w U) => (hU.cell (p := ⟨gb, ob + k, none⟩) hgb).trans hcb)
  obtain ⟨a1, c1, a2, c2, a3, c3, a4, c4, a5, c5, a6, c6, a7, c7⟩ := p
  simp only [cells] at *
  subst hab
  have HADD := Lib.hid HAD0
  simp only [List.length_singleton] at HAD1
  have HADX := Lib.hid HAD1
  clear HAD0 HAD1
  have hmm := @run_makeMap Try.prog
  have q0 := hc1.k0
  clear hin hw hA hA64 hz1 hz2 hz3 hz4 hz5 hb1 hb2 hset hc2 hb12 hbsl hxb hcb hLI hl hc1 q0 hbl
  go_enter Try.func10, Try.ntmps10
  go_upto_region 2 with fail
  clear hW1 hW2 hmm
  go_cut [] from 12 to 28 (fun wx => ∃ X : List Int, Hid (SetK wx W1.heap.size X.length X) ∧ Hid (CInv x l X) ∧ Hid (OffB W1.heap.size W2 wx))
  case first =>
    as_aux_lemma =>
      have hn := HZ.out
      have hB0 : Below W2.heap.size W2 W2.drew := (Below.refl _ _).drew
      have hSK : ∀ V : World, OffB W1.heap.size W2 V → (V.cell? ⟨w.heap.size, 0, none⟩ = some (.int .i64 x.max) ∧ V.cell? ⟨w.heap.size, 1, none⟩ = some (.slice a1 x.ins.length c1) ∧ V.cell? ⟨w.heap.size, 2, none⟩ = some (.slice a2 x.lats.length c2) ∧ V.cell? ⟨w.heap.size, 3, none⟩ = some (.slice a3 x.outs.length c3) ∧ V.cell? ⟨w.heap.size, 4, none⟩ = some (.slice (some ⟨gb, ob, none⟩) x.bads.length c4) ∧ V.cell? ⟨w.heap.size, 5, none⟩ = some (.slice a5 x.invs.length c5) ∧ V.cell? ⟨w.heap.size, 6, none⟩ = some (.slice a6 x.ands.length c6) ∧ V.cell? ⟨w.heap.size, 7, none⟩ = some (.slice a7 x.names.length c7)) ∧ V.cell? ⟨gb, ob + k, none⟩ = some (.int .i64 bl) := fun V hV => ⟨c8of (offb_cbox hV HC2.out (by have := HLT1.out; omega)), HCEL.out V (HOFB.out V hV)⟩
      have hBS : ∀ V : World, Below W2.heap.size W2 V → OffB W1.heap.size W2 V := fun V hV => (OffB.refl _ _).below hV
      have hS0 := hSK _ (hBS _ hB0)
      have hkl : (k : Int) < (x.bads.length : Int) := by omega
      refine HeldAll.region (fun U : World => (U.cell? ⟨w.heap.size, 0, none⟩ = some (.int .i64 x.max) ∧ U.cell? ⟨w.heap.size, 1, none⟩ = some (.slice a1 x.ins.length c1) ∧ U.cell? ⟨w.heap.size, 2, none⟩ = some (.slice a2 x.lats.length c2) ∧ U.cell? ⟨w.heap.size, 3, none⟩ = some (.slice a3 x.outs.length c3) ∧ U.cell? ⟨w.heap.size, 4, none⟩ = some (.slice (some ⟨gb, ob, none⟩) x.bads.length c4) ∧ U.cell? ⟨w.heap.size, 5, none⟩ = some (.slice a5 x.invs.length c5) ∧ U.cell? ⟨w.heap.size, 6, none⟩ = some (.slice a6 x.ands.length c6) ∧ U.cell? ⟨w.heap.size, 7, none⟩ = some (.slice a7 x.names.length c7)) ∧ U.cell? ⟨gb, ob + k, none⟩ = some (.int .i64 bl)) (by kernel_rfl) ?_
      (refine HeldAll.take (i := 0) (oi := _) (d := some 12) (v := ?_) rfl rfl (by kernel_rfl) (by kernel_rfl) (by kernel_rfl) (fun _ _ _ h => h) (Or.inl ⟨by rfl, ?_⟩) hS0 ?_; rotate_left; (focus (intro w hSw; clear hSw; go_simp; (try with_reducible rfl); done)); (try simp only [Act.put, List.setIfInBounds_toArray, List.set_cons_zero, List.set_cons_succ]))
      (refine HeldAll.take (i := 1) (oi := _) (d := some 13) (v := ?_) rfl rfl (by kernel_rfl) (by kernel_rfl) (by kernel_rfl) (fun _ _ _ h => h) (Or.inl ⟨by rfl, ?_⟩) hS0 ?_; rotate_left; (focus (intro w hSw; (try dsimp only at hSw); go_simp; (try with_reducible rfl); done)); (try simp only [Act.put, List.setIfInBounds_toArray, List.set_cons_zero, List.set_cons_succ]))
      (refine HeldAll.take (i := 2) (oi := _) (d := some 14) (v := ?_) rfl rfl (by kernel_rfl) (by kernel_rfl) (by kernel_rfl) (fun _ _ _ h => h) (Or.inl ⟨by rfl, ?_⟩) hS0 ?_; rotate_left; (focus (intro w hSw; clear hSw; go_simp; (try with_reducible rfl); done)); (try simp only [Act.put, List.setIfInBounds_toArray, List.set_cons_zero, List.set_cons_succ]))
      (refine HeldAll.take (i := 4) (oi := _) (d := some 16) (v := ?_) rfl rfl (by kernel_rfl) (by kernel_rfl) (by kernel_rfl) (fun _ _ _ h => h) (Or.inl ⟨by rfl, ?_⟩) hS0 ?_; rotate_left; (focus (intro w hSw; clear hSw; go_simp; (try with_reducible rfl); done)); (try simp only [Act.put, List.setIfInBounds_toArray, List.set_cons_zero, List.set_cons_succ]))
      (refine HeldAll.take (i := 5) (oi := _) (d := some 17) (v := ?_) rfl rfl (by kernel_rfl) (by kernel_rfl) (by kernel_rfl) (fun _ _ _ h => h) (Or.inl ⟨by rfl, ?_⟩) hS0 ?_; rotate_left; (focus (intro w hSw; (try dsimp only at hSw); go_simp; (try with_reducible rfl); done)); (try simp only [Act.put, List.setIfInBounds_toArray, List.set_cons_zero, List.set_cons_succ]))
      (refine HeldAll.take (i := 6) (oi := _) (d := some 18) (v := ?_) rfl rfl (by kernel_rfl) (by kernel_rfl) (by kernel_rfl) (fun _ _ _ h => h) (Or.inl ⟨by rfl, ?_⟩) hS0 ?_; rotate_left; (focus (intro w hSw; clear hSw; go_simp; (try with_reducible rfl); done)); (try simp only [Act.put, List.setIfInBounds_toArray, List.set_cons_zero, List.set_cons_succ]))
      (refine HeldAll.take (i := 7) (oi := _) (d := some 19) (v := ?_) rfl rfl (by kernel_rfl) (by kernel_rfl) (by kernel_rfl) (fun _ _ _ h => h) (Or.inl ⟨by rfl, ?_⟩) hS0 ?_; rotate_left; (focus (intro w hSw; (try dsimp only at hSw); go_simp; (try with_reducible rfl); done)); (try simp only [Act.put, List.setIfInBounds_toArray, List.set_cons_zero, List.set_cons_succ]))
      (refine HeldAll.take (i := 8) (oi := _) (d := some 20) (v := ?_) rfl rfl (by kernel_rfl) (by kernel_rfl) (by kernel_rfl) (fun _ _ _ h => h) (Or.inl ⟨by rfl, ?_⟩) hS0 ?_; rotate_left; (focus (intro w hSw; clear hSw; go_simp; (try with_reducible rfl); done)); (try simp only [Act.put, List.setIfInBounds_toArray, List.set_cons_zero, List.set_cons_succ]))
      (refine HeldAll.take (i := 9) (oi := _) (d := some 21) (v := ?_) rfl rfl (by kernel_rfl) (by kernel_rfl) (by kernel_rfl) (fun _ _ _ h => h) (Or.inl ⟨by rfl, ?_⟩) hS0 ?_; rotate_left; (focus (intro w hSw; clear hSw; go_simp; (try with_reducible rfl); done)); (try simp only [Act.put, List.setIfInBounds_toArray, List.set_cons_zero, List.set_cons_succ]))
      (refine HeldAll.take (i := 10) (oi := _) (d := some 22) (v := ?_) rfl rfl (by kernel_rfl) (by kernel_rfl) (by kernel_rfl) (fun _ _ _ h => h) (Or.inl ⟨by rfl, ?_⟩) hS0 ?_; rotate_left; (focus (intro w hSw; (try dsimp only at hSw); go_simp; (try with_reducible rfl); done)); (try simp only [Act.put, List.setIfInBounds_toArray, List.set_cons_zero, List.set_cons_succ]))
      refine HeldAll.two (i := 3) (j := 11) (by kernel_rfl) ?_ ?_
      · skip
        refine HeldAll.opCall (i := 3) (oi := _) (d := some 15) (R := fun v w' => ∃ a' c', v = .slice a' n c' ∧ w'.ownsRow (W2.drew).heap.size 22 1 (.slice a' n c') n vals ∧ Below (W2.drew).heap.size (W2.drew) w') rfl rfl (by rfl) (by go_simp; done) ((CloneR.clone (W2.drew) aA n cA vals (HA.out _ (HOFB.out _ (hBS _ hB0))).sl (row_one (HA.out _ (HOFB.out _ (hBS _ hB0)))) (by omega)).mono fun e w' h => by obtain ⟨a', c', he, ho, hb⟩ := h; exact ⟨_, he, a', c', rfl, ho, hb⟩) ?_
        rintro v u1 ⟨aK, cK, rfl, hoK, hbK⟩
        have hC : Below W2.heap.size W2 u1 := hB0.trans (hbK.mono hB0.size)
        refine ⟨hSK _ (hBS _ hC), ?_⟩
        (try simp only [Act.put, List.setIfInBounds_toArray, List.set_cons_zero, List.set_cons_succ])
        have hA1 : Below W2.heap.size W2 (u1.alloc (.cells #[.int .i64 bl] 3)) := hC.alloc hC.size _
        refine HeldAll.one (i := 11) (by kernel_rfl) ?_
        refine HeldAll.opVal (i := 11) (oi := _) (d := some 23) (v := .slice (some ⟨(u1).heap.size, 0, none⟩) 1 1) (w2 := (u1).alloc (.cells #[.int .i64 bl] 3)) rfl rfl (by rfl) (by go_simp; done) (hSK _ (hBS _ hA1)) ?_
        (try simp only [Act.put, List.setIfInBounds_toArray, List.set_cons_zero, List.set_cons_succ])
        refine HeldAll.one (i := 12) (by kernel_rfl) ?_
        refine HeldAll.opVal (i := 12) (oi := _) (d := some 24) (v := .slice (some ⟨(u1.alloc (.cells #[.int .i64 bl] 3)).heap.size, 0, none⟩) 2 2) (w2 := (u1.alloc (.cells #[.int .i64 bl] 3)).alloc (.cells #[.slice a5 x.invs.length c5, .slice (some ⟨u1.heap.size, 0, none⟩) 1 1] 22)) rfl rfl (by rfl) (by go_simp; done) (hSK _ (hBS _ (hA1.alloc hA1.size _))) ?_
        (try simp only [Act.put, List.setIfInBounds_toArray, List.set_cons_zero, List.set_cons_succ])
        obtain ⟨V, hV⟩ : ∃ V, (u1.alloc (.cells #[.int .i64 bl] 3)).alloc (.cells #[.slice a5 x.invs.length c5, .slice (some ⟨u1.heap.size, 0, none⟩) 1 1] 22) = V := ⟨_, rfl⟩
        obtain ⟨g1, hgg1⟩ : ∃ g, u1.heap.size = g := ⟨_, rfl⟩
        obtain ⟨g2, hgg2⟩ : ∃ g, (u1.alloc (.cells #[.int .i64 bl] 3)).heap.size = g := ⟨_, rfl⟩
        have hVV : Below W2.heap.size W2 V := by rw [← hV]; exact (hA1.alloc hA1.size _)
        have hoV : V.ownsRow W2.heap.size 22 1 (.slice aK n cK) n vals := by rw [← hV]; exact (((own_mono hoK hB0.size).alloc _).alloc _)
        have hg1 : V.heap[g1]? = some (.cells #[.int .i64 bl] 3) := by rw [← hV, ← hgg1]; exact ((((Below.refl (u1.alloc (.cells #[.int .i64 bl] 3)).heap.size (u1.alloc (.cells #[.int .i64 bl] 3))).alloc (Nat.le_refl _) (.cells #[.slice a5 x.invs.length c5, .slice (some ⟨u1.heap.size, 0, none⟩) 1 1] 22))).block u1.heap.size (by simp)).trans (heap_alloc_new u1 _)
        have hg2 : V.heap[g2]? = some (.cells #[.slice a5 x.invs.length c5, .slice (some ⟨g1, 0, none⟩) 1 1] 22) := by rw [← hV, ← hgg2, ← hgg1]; exact heap_alloc_new (u1.alloc (.cells #[.int .i64 bl] 3)) _
        have hn1 : (Value.slice aK n cK).ownBlock ≠ some g1 := by rw [← hgg1]; exact own_not hoK (Nat.le_refl _)
        have hn2 : (Value.slice aK n cK).ownBlock ≠ some g2 := by rw [← hgg2]; exact own_not hoK (by simp)
        rw [hV, hgg2, hgg1]
        obtain ⟨a9, c9, u9, r9, hs9, hp9, hb9⟩ := app_all 28 V W2.heap.size hVV.size aK cK n vals A hoV a5 c5 x.invs (fun U' hU' => ⟨RowsP.of (HA.out _ (HOFB.out _ (hBS _ (hVV.trans hU')))), (HIN.out _ (HOFB.out _ (hBS _ (hVV.trans hU')))).invs⟩) g1 bl hg1 hn1 g2 hg2 hn2 (by omega)
        have h9 : Below W2.heap.size W2 u9 := hVV.trans hb9
        refine HeldAll.one (i := 13) (by kernel_rfl) ?_
        refine HeldAll.opVal (i := 13) (oi := _) (d := some 25) (v := .slice a9 (n + 2) c9) (w2 := u9) rfl rfl (by rfl) (App2.exec_append rfl rfl rfl r9) (hSK _ (hBS _ h9)) ?_
        (try simp only [Act.put, List.setIfInBounds_toArray, List.set_cons_zero, List.set_cons_succ])
        refine HeldAll.one (i := 14) (by kernel_rfl) ?_
        refine HeldAll.opCall (i := 14) (oi := _) (d := some 26) (R := fun v w' => ∃ a' c', v = .slice a' l.length c' ∧ Sl w' a' l.length c' (ints l) ∧ Below u9.heap.size u9 w') rfl rfl (by rfl) (by go_simp; done) (concat_l u9 a9 (n + 2) c9 _ A x.invs bl l HL.out hs9 hp9 (by rw [← HL.out]; simp only [List.length_append, List.length_singleton]; omega)) ?_
        rintro v u10 ⟨aL, cL, rfl, hsL, hbL⟩
        have h10 : Below W2.heap.size W2 u10 := h9.trans (hbL.mono h9.size)
        refine ⟨hSK _ (hBS _ h10), ?_⟩
        (try simp only [Act.put, List.setIfInBounds_toArray, List.set_cons_zero, List.set_cons_succ])
        refine HeldAll.one (i := 15) (by kernel_rfl) ?_
        refine HeldAll.opCall (i := 15) (oi := _) (d := some 27) (R := fun v w' => ∃ X : List Int, SetK w' W1.heap.size X.length X ∧ CInv x l X ∧ OffB W1.heap.size u10 w') rfl rfl (by rfl) (by go_simp; done) (HADD.out u10 h10 aL cL hsL) ?_
        rintro v u11 ⟨X, hX1, hX2, hX3⟩
        have o11 : OffB W1.heap.size W2 u11 := (hBS _ h10).trans hX3
        refine ⟨hSK _ o11, ?_⟩
        (try simp only [Act.put, List.setIfInBounds_toArray, List.set_cons_zero, List.set_cons_succ])
        refine HeldAll.done (by kernel_rfl) ?_ _
        (try go_wp2_with fail)
        go_meet
        exact ⟨X, hX1, hX2, o11⟩
      · skip
        have hE1 : Below W2.heap.size W2 (W2.drew.alloc (.cells #[.int .i64 bl] 3)) := hB0.alloc hB0.size _
        refine HeldAll.opVal (i := 11) (oi := _) (d := some 23) (v := .slice (some ⟨(W2.drew).heap.size, 0, none⟩) 1 1) (w2 := (W2.drew).alloc (.cells #[.int .i64 bl] 3)) rfl rfl (by rfl) (by go_simp; done) (hSK _ (hBS _ hE1)) ?_
        (try simp only [Act.put, List.setIfInBounds_toArray, List.set_cons_zero, List.set_cons_succ])
        refine HeldAll.two (i := 3) (j := 12) (by kernel_rfl) ?_ ?_
        · skip
          refine HeldAll.opCall (i := 3) (oi := _) (d := some 15) (R := fun v w' => ∃ a' c', v = .slice a' n c' ∧ w'.ownsRow (W2.drew.alloc (.cells #[.int .i64 bl] 3)).heap.size 22 1 (.slice a' n c') n vals ∧ Below (W2.drew.alloc (.cells #[.int .i64 bl] 3)).heap.size (W2.drew.alloc (.cells #[.int .i64 bl] 3)) w') rfl rfl (by rfl) (by go_simp; done) ((CloneR.clone (W2.drew.alloc (.cells #[.int .i64 bl] 3)) aA n cA vals (HA.out _ (HOFB.out _ (hBS _ hE1))).sl (row_one (HA.out _ (HOFB.out _ (hBS _ hE1)))) (by omega)).mono fun e w' h => by obtain ⟨a', c', he, ho, hb⟩ := h; exact ⟨_, he, a', c', rfl, ho, hb⟩) ?_
          rintro v u1 ⟨aK, cK, rfl, hoK, hbK⟩
          have hC : Below W2.heap.size W2 u1 := hE1.trans (hbK.mono hE1.size)
          refine ⟨hSK _ (hBS _ hC), ?_⟩
          (try simp only [Act.put, List.setIfInBounds_toArray, List.set_cons_zero, List.set_cons_succ])
          refine HeldAll.one (i := 12) (by kernel_rfl) ?_
          refine HeldAll.opVal (i := 12) (oi := _) (d := some 24) (v := .slice (some ⟨(u1).heap.size, 0, none⟩) 2 2) (w2 := (u1).alloc (.cells #[.slice a5 x.invs.length c5, .slice (some ⟨W2.drew.heap.size, 0, none⟩) 1 1] 22)) rfl rfl (by rfl) (by go_simp; done) (hSK _ (hBS _ (hC.alloc hC.size _))) ?_
          (try simp only [Act.put, List.setIfInBounds_toArray, List.set_cons_zero, List.set_cons_succ])
          obtain ⟨V, hV⟩ : ∃ V, u1.alloc (.cells #[.slice a5 x.invs.length c5, .slice (some ⟨W2.drew.heap.size, 0, none⟩) 1 1] 22) = V := ⟨_, rfl⟩
          obtain ⟨g1, hgg1⟩ : ∃ g, W2.drew.heap.size = g := ⟨_, rfl⟩
          obtain ⟨g2, hgg2⟩ : ∃ g, u1.heap.size = g := ⟨_, rfl⟩
          have hVV : Below W2.heap.size W2 V := by rw [← hV]; exact (hC.alloc hC.size _)
          have hoV : V.ownsRow W2.heap.size 22 1 (.slice aK n cK) n vals := by rw [← hV]; exact ((own_mono hoK hE1.size).alloc _)
          have hg1 : V.heap[g1]? = some (.cells #[.int .i64 bl] 3) := by rw [← hV, ← hgg1]; exact ((((Below.refl (u1).heap.size (u1)).alloc (Nat.le_refl _) (.cells #[.slice a5 x.invs.length c5, .slice (some ⟨W2.drew.heap.size, 0, none⟩) 1 1] 22))).block W2.drew.heap.size (Nat.lt_of_lt_of_le (by simp) hbK.size)).trans ((hbK.block W2.drew.heap.size (by simp)).trans (heap_alloc_new W2.drew _))
          have hg2 : V.heap[g2]? = some (.cells #[.slice a5 x.invs.length c5, .slice (some ⟨g1, 0, none⟩) 1 1] 22) := by rw [← hV, ← hgg2, ← hgg1]; exact heap_alloc_new u1 _
          have hn1 : (Value.slice aK n cK).ownBlock ≠ some g1 := by rw [← hgg1]; exact own_not' hoK (by simp)
          have hn2 : (Value.slice aK n cK).ownBlock ≠ some g2 := by rw [← hgg2]; exact own_not hoK (Nat.le_refl _)
          rw [hV, hgg2, hgg1]
          obtain ⟨a9, c9, u9, r9, hs9, hp9, hb9⟩ := app_all 28 V W2.heap.size hVV.size aK cK n vals A hoV a5 c5 x.invs (fun U' hU' => ⟨RowsP.of (HA.out _ (HOFB.out _ (hBS _ (hVV.trans hU')))), (HIN.out _ (HOFB.out _ (hBS _ (hVV.trans hU')))).invs⟩) g1 bl hg1 hn1 g2 hg2 hn2 (by omega)
          have h9 : Below W2.heap.size W2 u9 := hVV.trans hb9
          refine HeldAll.one (i := 13) (by kernel_rfl) ?_
          refine HeldAll.opVal (i := 13) (oi := _) (d := some 25) (v := .slice a9 (n + 2) c9) (w2 := u9) rfl rfl (by rfl) (App2.exec_append rfl rfl rfl r9) (hSK _ (hBS _ h9)) ?_
          (try simp only [Act.put, List.setIfInBounds_toArray, List.set_cons_zero, List.set_cons_succ])
          refine HeldAll.one (i := 14) (by kernel_rfl) ?_
          refine HeldAll.opCall (i := 14) (oi := _) (d := some 26) (R := fun v w' => ∃ a' c', v = .slice a' l.length c' ∧ Sl w' a' l.length c' (ints l) ∧ Below u9.heap.size u9 w') rfl rfl (by rfl) (by go_simp; done) (concat_l u9 a9 (n + 2) c9 _ A x.invs bl l HL.out hs9 hp9 (by rw [← HL.out]; simp only [List.length_append, List.length_singleton]; omega)) ?_
          rintro v u10 ⟨aL, cL, rfl, hsL, hbL⟩
          have h10 : Below W2.heap.size W2 u10 := h9.trans (hbL.mono h9.size)
          refine ⟨hSK _ (hBS _ h10), ?_⟩
          (try simp only [Act.put, List.setIfInBounds_toArray, List.set_cons_zero, List.set_cons_succ])
          refine HeldAll.one (i := 15) (by kernel_rfl) ?_
          refine HeldAll.opCall (i := 15) (oi := _) (d := some 27) (R := fun v w' => ∃ X : List Int, SetK w' W1.heap.size X.length X ∧ CInv x l X ∧ OffB W1.heap.size u10 w') rfl rfl (by rfl) (by go_simp; done) (HADD.out u10 h10 aL cL hsL) ?_
          rintro v u11 ⟨X, hX1, hX2, hX3⟩
          have o11 : OffB W1.heap.size W2 u11 := (hBS _ h10).trans hX3
          refine ⟨hSK _ o11, ?_⟩
          (try simp only [Act.put, List.setIfInBounds_toArray, List.set_cons_zero, List.set_cons_succ])
          refine HeldAll.done (by kernel_rfl) ?_ _
          (try go_wp2_with fail)
          go_meet
          exact ⟨X, hX1, hX2, o11⟩
        · skip
          refine HeldAll.opVal (i := 12) (oi := _) (d := some 24) (v := .slice (some ⟨(W2.drew.alloc (.cells #[.int .i64 bl] 3)).heap.size, 0, none⟩) 2 2) (w2 := (W2.drew.alloc (.cells #[.int .i64 bl] 3)).alloc (.cells #[.slice a5 x.invs.length c5, .slice (some ⟨W2.drew.heap.size, 0, none⟩) 1 1] 22)) rfl rfl (by rfl) (by go_simp; done) (hSK _ (hBS _ (hE1.alloc hE1.size _))) ?_
          (try simp only [Act.put, List.setIfInBounds_toArray, List.set_cons_zero, List.set_cons_succ])
          have hE2 : Below W2.heap.size W2 ((W2.drew.alloc (.cells #[.int .i64 bl] 3)).alloc (.cells #[.slice a5 x.invs.length c5, .slice (some ⟨W2.drew.heap.size, 0, none⟩) 1 1] 22)) := hE1.alloc hE1.size _
          refine HeldAll.one (i := 3) (by kernel_rfl) ?_
          refine HeldAll.opCall (i := 3) (oi := _) (d := some 15) (R := fun v w' => ∃ a' c', v = .slice a' n c' ∧ w'.ownsRow ((W2.drew.alloc (.cells #[.int .i64 bl] 3)).alloc (.cells #[.slice a5 x.invs.length c5, .slice (some ⟨W2.drew.heap.size, 0, none⟩) 1 1] 22)).heap.size 22 1 (.slice a' n c') n vals ∧ Below ((W2.drew.alloc (.cells #[.int .i64 bl] 3)).alloc (.cells #[.slice a5 x.invs.length c5, .slice (some ⟨W2.drew.heap.size, 0, none⟩) 1 1] 22)).heap.size ((W2.drew.alloc (.cells #[.int .i64 bl] 3)).alloc (.cells #[.slice a5 x.invs.length c5, .slice (some ⟨W2.drew.heap.size, 0, none⟩) 1 1] 22)) w') rfl rfl (by rfl) (by go_simp; done) ((CloneR.clone ((W2.drew.alloc (.cells #[.int .i64 bl] 3)).alloc (.cells #[.slice a5 x.invs.length c5, .slice (some ⟨W2.drew.heap.size, 0, none⟩) 1 1] 22)) aA n cA vals (HA.out _ (HOFB.out _ (hBS _ hE2))).sl (row_one (HA.out _ (HOFB.out _ (hBS _ hE2)))) (by omega)).mono fun e w' h => by obtain ⟨a', c', he, ho, hb⟩ := h; exact ⟨_, he, a', c', rfl, ho, hb⟩) ?_
          rintro v u1 ⟨aK, cK, rfl, hoK, hbK⟩
          have hC : Below W2.heap.size W2 u1 := hE2.trans (hbK.mono hE2.size)
          refine ⟨hSK _ (hBS _ hC), ?_⟩
          (try simp only [Act.put, List.setIfInBounds_toArray, List.set_cons_zero, List.set_cons_succ])
          obtain ⟨V, hV⟩ : ∃ V, u1 = V := ⟨_, rfl⟩
          obtain ⟨g1, hgg1⟩ : ∃ g, W2.drew.heap.size = g := ⟨_, rfl⟩
          obtain ⟨g2, hgg2⟩ : ∃ g, (W2.drew.alloc (.cells #[.int .i64 bl] 3)).heap.size = g := ⟨_, rfl⟩
          have hVV : Below W2.heap.size W2 V := by rw [← hV]; exact hC
          have hoV : V.ownsRow W2.heap.size 22 1 (.slice aK n cK) n vals := by rw [← hV]; exact (own_mono hoK hE2.size)
          have hg1 : V.heap[g1]? = some (.cells #[.int .i64 bl] 3) := by rw [← hV, ← hgg1]; exact (hbK.block W2.drew.heap.size (by simp; omega)).trans ((((Below.refl (W2.drew.alloc (.cells #[.int .i64 bl] 3)).heap.size (W2.drew.alloc (.cells #[.int .i64 bl] 3))).alloc (Nat.le_refl _) (.cells #[.slice a5 x.invs.length c5, .slice (some ⟨W2.drew.heap.size, 0, none⟩) 1 1] 22)).block W2.drew.heap.size (by simp)).trans (heap_alloc_new W2.drew _))
          have hg2 : V.heap[g2]? = some (.cells #[.slice a5 x.invs.length c5, .slice (some ⟨g1, 0, none⟩) 1 1] 22) := by rw [← hV, ← hgg2, ← hgg1]; exact (hbK.block (W2.drew.alloc (.cells #[.int .i64 bl] 3)).heap.size (by simp)).trans (heap_alloc_new (W2.drew.alloc (.cells #[.int .i64 bl] 3)) _)
          have hn1 : (Value.slice aK n cK).ownBlock ≠ some g1 := by rw [← hgg1]; exact own_not' hoK (by simp; omega)
          have hn2 : (Value.slice aK n cK).ownBlock ≠ some g2 := by rw [← hgg2]; exact own_not' hoK (by simp)
          rw [hV, hgg2, hgg1]
          obtain ⟨a9, c9, u9, r9, hs9, hp9, hb9⟩ := app_all 28 V W2.heap.size hVV.size aK cK n vals A hoV a5 c5 x.invs (fun U' hU' => ⟨RowsP.of (HA.out _ (HOFB.out _ (hBS _ (hVV.trans hU')))), (HIN.out _ (HOFB.out _ (hBS _ (hVV.trans hU')))).invs⟩) g1 bl hg1 hn1 g2 hg2 hn2 (by omega)
          have h9 : Below W2.heap.size W2 u9 := hVV.trans hb9
          refine HeldAll.one (i := 13) (by kernel_rfl) ?_
          refine HeldAll.opVal (i := 13) (oi := _) (d := some 25) (v := .slice a9 (n + 2) c9) (w2 := u9) rfl rfl (by rfl) (App2.exec_append rfl rfl rfl r9) (hSK _ (hBS _ h9)) ?_
          (try simp only [Act.put, List.setIfInBounds_toArray, List.set_cons_zero, List.set_cons_succ])
          refine HeldAll.one (i := 14) (by kernel_rfl) ?_
          refine HeldAll.opCall (i := 14) (oi := _) (d := some 26) (R := fun v w' => ∃ a' c', v = .slice a' l.length c' ∧ Sl w' a' l.length c' (ints l) ∧ Below u9.heap.size u9 w') rfl rfl (by rfl) (by go_simp; done) (concat_l u9 a9 (n + 2) c9 _ A x.invs bl l HL.out hs9 hp9 (by rw [← HL.out]; simp only [List.length_append, List.length_singleton]; omega)) ?_
          rintro v u10 ⟨aL, cL, rfl, hsL, hbL⟩
          have h10 : Below W2.heap.size W2 u10 := h9.trans (hbL.mono h9.size)
          refine ⟨hSK _ (hBS _ h10), ?_⟩
          (try simp only [Act.put, List.setIfInBounds_toArray, List.set_cons_zero, List.set_cons_succ])
          refine HeldAll.one (i := 15) (by kernel_rfl) ?_
          refine HeldAll.opCall (i := 15) (oi := _) (d := some 27) (R := fun v w' => ∃ X : List Int, SetK w' W1.heap.size X.length X ∧ CInv x l X ∧ OffB W1.heap.size u10 w') rfl rfl (by rfl) (by go_simp; done) (HADD.out u10 h10 aL cL hsL) ?_
          rintro v u11 ⟨X, hX1, hX2, hX3⟩
          have o11 : OffB W1.heap.size W2 u11 := (hBS _ h10).trans hX3
          refine ⟨hSK _ o11, ?_⟩
          (try simp only [Act.put, List.setIfInBounds_toArray, List.set_cons_zero, List.set_cons_succ])
          refine HeldAll.done (by kernel_rfl) ?_ _
          (try go_wp2_with fail)
          go_meet
          exact ⟨X, hX1, hX2, o11⟩
  case rest =>
    obtain ⟨X0, hX1, hX2, hX3⟩ := hcut
    generalize wc = w3 at *
    obtain ⟨nb, hnb⟩ : ∃ nb, l.length + 2 * x.ands.length + x.lats.length = nb := ⟨_, rfl⟩
    have HNB := Lib.hid hnb
    obtain ⟨m, hm⟩ : ∃ m, x.lats.length = m := ⟨_, rfl⟩
    have HM := Lib.hid hm
    have HNBL : Hid (nb ≤ 100000000) := by
      show _ ≤ _
      have := HZ.out; have := congrArg List.length HL.out
      simp only [List.length_append, List.length_singleton] at this
      omega
    have hm5 : m ≤ 4000000 := by have := HZ.out; omega
    have hgk : Hid (2 * (nb - X0.length) + 1 = 2 * (nb - X0.length) + (if true = true then 1 else 0)) := by show _ = _; simp
    clear hnb hm
    go_wp2_with fail
    go_loopg [8] (2 * (nb - X0.length) + 1) (fun gk s8 wr => ∃ (X : List Int) (f : Bool), s8 = .bool f ∧ Hid (SetK wr W1.heap.size X.length X) ∧ Hid (CInv x l X) ∧ Hid (f = false → ∀ t ∈ x.lats, Shut x X t) ∧ Hid (gk = 2 * (nb - X.length) + (if f = true then 1 else 0)) ∧ Hid (OffB W1.heap.size W2 wr))
    case atStart => exact ⟨X0, true, rfl, hX1, hX2, fun h => absurd h (by decide), hgk, hX3⟩
    case round =>
      obtain ⟨X1, f, rfl, hS, hI, hsh, hgk1, hO⟩ := hrel
      clear hX1 hX2 hX3 hgk
      cases f
      · have hS' := hS.out
        have HE := Lib.hid (cinv_end hI.out (hsh.out rfl))
        have HBE := Lib.hid (HOFB.out wr hO.out)
        have HND := Lib.hid hI.out.nodup
        clear hsh hgk1 hI hS'
        go_wp2_with fail
        go_ret
        exact ⟨W1.heap.size, X1, rfl, Nat.le_of_lt HLT1.out, hS.out, HND.out, HE.out, HBE.out⟩
      · have m2 := (offb_cbox hO.out HC2.out (by have := HLT1.out; omega)).k2
        simp only [HM.out] at m2
        have HS1 := hS
        have HO1 := hO
        clear hS hO hsh
        generalize wr = wo at *
        go_wp2_with fail
        go_loopw [8, 32] (fun s8 i wr => ∃ (q : Nat) (X : List Int) (f : Bool), q ≤ m ∧ s8 = .bool f ∧ i = .int .i64 q ∧ Hid (SetK wr W1.heap.size X.length X) ∧ Hid (CInv x l X) ∧ Hid (OffB W1.heap.size W2 wr) ∧ Hid (f = false → X = X1 ∧ ∀ t ∈ x.lats.take q, Shut x X1 t) ∧ Hid (f = true → X1.length < X.length)) (fun _ i _ => m - (intOf i).toNat)
        case atStart => exact ⟨0, X1, false, Nat.zero_le _, rfl, rfl, HS1, hI, HO1, fun _ => ⟨rfl, fun t ht => by simp at ht⟩, fun h => absurd h (by decide)⟩
        case round =>
          obtain ⟨q, X, f, hq, rfl, rfl, hS, hI2, hO, hf0, hf1⟩ := hrel
          by_cases hlt : q < m
          · have hix := (HIN.out wr (HOFB.out wr hO.out)).lats
            have hlt2 : q < x.lats.length := by have := HM.out; omega
            obtain ⟨b, o, hx, hbo, hbs, e0, e1, e2⟩ := hix.tri hlt2
            simp only at hbo
            subst hbo
            have hcap := hix.cap
            have hbig := hix.big
            simp only [HM.out] at hcap
            have h64 := HW.out.lats x.lats[q] (List.getElem_mem _)
            have HTK := Lib.hid (List.take_succ_eq_append_getElem hx)
            have HMEM : Hid (x.lats[q] ∈ x.lats) := List.getElem_mem _
            generalize x.lats[q] = t at *
            obtain ⟨t0, t1, t2⟩ := t
            simp only at e0 e1 e2 h64
            obtain ⟨W5, hW5⟩ : ∃ U, wr.alloc (.cells #[.int .i64 t0, .int .i64 t1, .int .i64 t2] 47) = U := ⟨_, rfl⟩
            have hb5 : Below wr.heap.size wr W5 := by rw [← hW5]; exact (Below.refl _ _).alloc (Nat.le_refl _) _
            have hx5 : BoxN wr.heap.size [.int .i64 t0, .int .i64 t1, .int .i64 t2] W5 := by rw [← hW5]; exact BoxN.new wr _ _
            have hS5 := hS.out.next hb5
            have hO5 := hO.out.below hb5
            have HHAS := Lib.hid (has_any W5 hS5 t0 h64.1.1 h64.1.2)
            have y0 := hx5.at' 0 _ rfl
            have y1 := hx5.at' 1 _ rfl
            have hcw := c8of (offb_cbox hO5 HC2.out (by have := HLT1.out; omega))
            obtain ⟨n0, n1, n2, n3, n4, n5, n6, n7⟩ := hcw
            have HS5 := Lib.hid hS5
            have HO5 := Lib.hid hO5
            have HU1 := Lib.hid h64.2.1
            clear hix hlt2 hx hb5 hx5 hS5 hO5 h64 hO hS
            cases hin : SetI.inX X (var t0)
            · rw [hin] at HHAS
              have HSH : Hid (f = false → X = X1 ∧ ∀ t ∈ x.lats.take (q + 1), Shut x X1 t) := fun hf => by
                obtain ⟨h1, h2⟩ := hf0.out hf
                refine ⟨h1, fun t ht => ?_⟩
                rw [HTK.out, List.mem_append, List.mem_singleton] at ht
                rcases ht with ht | rfl
                · exact h2 t ht
                · intro hm
                  rw [← h1] at hm
                  rw [SetI.inX_iff.2 hm] at hin
                  cases hin
              clear hin hf0
              go_wp2_with fail
              with_reducible refine HHAS.out.mono ?_
              rintro e w6 ⟨rfl, rfl⟩
              clear hW5 n0 n1 n2 n3 n4 n5 n6 n7
              go_wp2_with fail
              go_roundw
              case rel => exact ⟨q + 1, X, f, by omega, rfl, by go_num, HS5.out, hI2.out, HO5.out, HSH.out, hf1.out⟩
              case measure => simp [intOf]; omega
            · rw [hin] at HHAS
              have HIN1 := Lib.hid (SetI.inX_iff.1 hin)
              have hXB := cinv_few hI2.out
              have HXB : Hid (X.length ≤ nb) := by show _ ≤ _; rw [← HNB.out]; exact hXB
              obtain ⟨W6, hW6⟩ : ∃ U, W5.alloc (.cells #[.int .i64 t1] 3) = U := ⟨_, rfl⟩
              have hb6 : Below W5.heap.size W5 W6 := by rw [← hW6]; exact (Below.refl _ _).alloc (Nat.le_refl _) _
              have hs6 : Sl W6 (some ⟨W5.heap.size, 0, none⟩) 1 1 (ints [t1]) := by rw [← hW6]; exact sl_new W5 #[.int .i64 t1] 3 1 rfl (by decide)
              have hO6 := HO5.out.below hb6
              have HAD := Lib.hid (HADX.out W6 (HOFB.out W6 hO6) X (HS5.out.next hb6) hI2.out.nodup (by have := HXB.out; have := HNBL.out; omega) (some ⟨W5.heap.size, 0, none⟩) 1 t1 HU1.out hs6)
              have HO6 := Lib.hid hO6
              clear hin hXB hb6 hs6 hO6
              go_wp2_with fail
              with_reducible refine HHAS.out.mono ?_
              rintro e w6 ⟨rfl, rfl⟩
              go_wp2_with fail
              with_reducible refine HAD.out.mono ?_
              rintro e w7 ⟨X2, rfl, hS7, hA7, hsm, hO7⟩
              have HS7 := Lib.hid hS7
              have HI7 := Lib.hid (cinv_next hI2.out HMEM.out HIN1.out hA7)
              have HO7 := Lib.hid (HO6.out.trans hO7)
              by_cases hg : X.length < X2.length
              · have hd : decide (X.length < X2.length) = true := decide_eq_true hg
                rw [hd]
                have HF1 : Hid (X1.length < X2.length) := by
                  show _ < _
                  cases f
                  · rw [← (hf0.out rfl).1]; exact hg
                  · have := hf1.out rfl; omega
                clear hd hg hsm hA7 hS7 hO7 hW5 hW6 n0 n1 n2 n3 n4 n5 n6 n7 hf0 hf1
                go_wp2_with fail
                go_roundw
                case rel => exact ⟨q + 1, X2, true, by omega, rfl, by go_num, HS7.out, HI7.out, HO7.out, fun h => absurd h (by decide), fun _ => HF1.out⟩
                case measure => simp [intOf]; omega
              · have hd : decide (X.length < X2.length) = false := decide_eq_false hg
                rw [hd]
                obtain ⟨h1, h2⟩ := hsm (by omega)
                have HX2 : Hid (X2 = X) := h1
                have HSH : Hid (f = false → X2 = X1 ∧ ∀ t ∈ x.lats.take (q + 1), Shut x X1 t) := fun hf => by
                  obtain ⟨g1, g2⟩ := hf0.out hf
                  refine ⟨h1.trans g1, fun t ht => ?_⟩
                  rw [HTK.out, List.mem_append, List.mem_singleton] at ht
                  rcases ht with ht | rfl
                  · exact g2 t ht
                  · intro _ v hv0 hv
                    rw [← g1]
                    exact h2 v hv0 hv
                have HF1 : Hid (f = true → X1.length < X2.length) := fun hf => by rw [h1]; exact hf1.out hf
                clear hd hg hsm hA7 hS7 hO7 hW5 hW6 n0 n1 n2 n3 n4 n5 n6 n7 hf0 hf1 h1 h2
                go_wp2_with fail
                go_roundw
                case rel => exact ⟨q + 1, X2, f, by omega, rfl, by go_num, HS7.out, HI7.out, HO7.out, HSH.out, HF1.out⟩
                case measure => simp [intOf]; omega
          · have hqm : q = m := by omega
            have hXB := cinv_few hI2.out
            have HXB : Hid (X.length ≤ nb) := by show _ ≤ _; rw [← HNB.out]; exact hXB
            have HSH : Hid (f = false → ∀ t ∈ x.lats, Shut x X t) := fun hf => by
              obtain ⟨g1, g2⟩ := hf0.out hf
              rw [g1]
              intro t ht
              refine g2 t ?_
              rw [List.take_of_length_le (by rw [HM.out]; omega)]
              exact ht
            have HLE : Hid (f = false → X.length = X1.length) := fun hf => by rw [(hf0.out hf).1]
            clear hqm hXB hf0
            go_wp2_with fail
            go_roundg (2 * (nb - X.length) + (if f = true then 1 else 0))
            case measure =>
              have h0 := hgk1.out
              have h1 := HXB.out
              cases f
              · have := HLE.out rfl; simp at h0 ⊢; omega
              · have := hf1.out rfl; simp at h0 ⊢; omega
            case rel => exact ⟨X, f, rfl, hS.out, hI2.out, HSH.out, rfl, hO.out⟩
end Coi
end Go.Proofs.Ytninglnchengeaa
