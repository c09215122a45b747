/-
  A circuit that comes in, opened.
-/
import Derived.Test.YtjmmhbmbafjneaaGreatDoorOpen
import Derived.Test.YtjmmhbmbafjneaaGreatDoorWfC
namespace Go.Proofs.YtjmmhbmbafjneaaGreatDoor.Open
open Go.ChangeShapes Go.WideShapes Go.ChangeAt Go.RowKit Go.Deep Base Circuit
set_option linter.unusedVariables false
set_option linter.unusedSimpArgs false

/-- A struct of three parts of one cell each. -/
theorem reads_struct3 {P : Program} {t t0 t1 t2 : TypeId} {α β γ : Type} {R0 : World → List Value → α → Prop} {R1 : World → List Value → β → Prop} {R2 : World → List Value → γ → Prop} {f0 : α → Nat} {f1 : β → Nat} {f2 : γ → Nat}
    (ht : fields P t = some [(t0, 0), (t1, 1), (t2, 2)]) (hc : P.cellsOf t = 3) (c0 : P.cellsOf t0 = 1) (c1 : P.cellsOf t1 = 1) (c2 : P.cellsOf t2 = 1) (h0 : Reads P t0 R0 f0) (h1 : Reads P t1 R1 f1) (h2 : Reads P t2 R2 f2) :
    Reads P t (fun w cs (y : α × β × γ) => ∃ u0 u1 u2, cs = [u0, u1, u2] ∧ R0 w [u0] y.1 ∧ R1 w [u1] y.2.1 ∧ R2 w [u2] y.2.2) (fun y => f0 y.1 + f1 y.2.1 + f2 y.2.2 + 1) := by
  intro H enc w base fuel held cs x h
  obtain ⟨xs, n, hx, hl, hlen, hf⟩ := trod_fields ht h
  rw [hc] at hl
  match cs, hl with
  | [u0, u1, u2], _ =>
    obtain ⟨y0, hy0, e0⟩ := hf 0 t0 0 rfl
    obtain ⟨y1, hy1, e1⟩ := hf 1 t1 1 rfl
    obtain ⟨y2, hy2, e2⟩ := hf 2 t2 2 rfl
    rw [c0] at e0
    rw [c1] at e1
    rw [c2] at e2
    obtain ⟨z0, r0, b0⟩ := h0 H enc w base n held _ _ e0
    obtain ⟨z1, r1, b1⟩ := h1 H enc w base n held _ _ e1
    obtain ⟨z2, r2, b2⟩ := h2 H enc w base n held _ _ e2
    refine ⟨(z0, z1, z2), ⟨u0, u1, u2, rfl, r0, r1, r2⟩, ?_⟩
    match xs, hlen, hy0, hy1, hy2 with
    | [q0, q1, q2], _, hy0, hy1, hy2 =>
      simp at hy0 hy1 hy2
      subst hy0 hy1 hy2
      rw [hx]
      simp only [Rows.uptoBulk, Rows.uptoBulkAll, List.map_cons, List.map_nil]
      omega

/-- A slice of elements of k cells each. -/
def SlOfK {α : Type} (k : Nat) (R : World → List Value → α → Prop) (w : World) (cs : List Value) (ys : List α) : Prop :=
  ∃ a n c vs, cs = [.slice a n c] ∧ SlT w k a n c vs ∧ ys.length = n ∧ ∀ (i : Nat) (v : List Value) (y : α), vs[i]? = some v → ys[i]? = some y → R w v y

theorem reads_sliceK {P : Program} {t e : TypeId} {k : Nat} {α : Type} [Inhabited α] {R : World → List Value → α → Prop} {f : α → Nat} (ht : P.underlying t = some (.slice e)) (hk : 0 < k) (hc : P.cellsOf e = k) (he : Reads P e R f) :
    ∀ (H : Type) (enc : TypeId × Value → H) (w : World) (base fuel : Nat) (held : Bool) (cs : List Value) (x : DataW H × List MemPlace),
      DataW.trod enc P w base (fun _ => true) held fuel t cs = some x → ∃ ys, SlOfK k R w cs ys ∧ (ys.map f).sum + 1 ≤ Rows.uptoBulk x.1 ∧ ((x.1.weights P t).all (· ≤ reachBytes) = true → ys.length * P.bytesOf e ≤ 140737488351232) := by
  intro H enc w base fuel held cs x h
  rcases open_slice ht h with ⟨rfl, rfl⟩ | ⟨a, len, cap, m, n, D, Pl, rfl, hb, hl, hm, hmm, rfl, hx⟩
  · exact ⟨[], ⟨none, 0, 0, [], rfl, ⟨rfl, Nat.le_refl _, by omega, fun _ => ⟨rfl, rfl⟩, fun i r h => by simp at h⟩, rfl, fun k v y h => by simp at h⟩, by simp [Rows.uptoBulk], fun _ => by simp⟩
  · simp only [if_true] at hmm
    subst hmm
    rw [hc] at hx
    obtain ⟨Y, hY⟩ : ∃ Y : Nat → α × List Value, ∀ i, i < len → (Y i).2.length = k ∧ (∀ j, j < k → w.cell? ((a.add (i * k)).add j) = (Y i).2[j]?) ∧ R w (Y i).2 (Y i).1 ∧ f (Y i).1 ≤ Rows.uptoBulk (D i) := by
      have hex : ∀ i, ∃ y : α × List Value, i < len → y.2.length = k ∧ (∀ j, j < k → w.cell? ((a.add (i * k)).add j) = y.2[j]?) ∧ R w y.2 y.1 ∧ f y.1 ≤ Rows.uptoBulk (D i) := by
        intro i
        by_cases hi : i < len
        · obtain ⟨cs', h1, h2⟩ := hx i (by omega)
          obtain ⟨_, h3, h4⟩ := World.cells?_some h1
          obtain ⟨y, h5, h6⟩ := he H enc w base n held _ _ h2
          exact ⟨(y, cs'), fun _ => ⟨h3, h4, h5, h6⟩⟩
        · exact ⟨default, fun h => absurd h hi⟩
      exact ⟨fun i => Classical.choose (hex i), fun i hi => Classical.choose_spec (hex i) hi⟩
    have hget : ∀ {β : Type} (G : Nat → β) (k : Nat) (v : β), ((List.range len).map G)[k]? = some v → k < len ∧ v = G k := by
      intro β G k v hv
      rw [List.getElem?_map, Option.map_eq_some_iff] at hv
      obtain ⟨j, hj, rfl⟩ := hv
      obtain ⟨hk, rfl⟩ := List.getElem?_eq_some_iff.1 hj
      simp at hk
      simp [hk]
    refine ⟨(List.range len).map fun i => (Y i).1, ⟨some a, len, m, (List.range len).map fun i => (Y i).2, rfl, ⟨by simp, hl, by unfold maxLen at hm; omega, fun h => (by cases h), ?_⟩, by simp, ?_⟩, ?_, ?_⟩
    · intro i r hr
      obtain ⟨hi, rfl⟩ := hget (fun i => (Y i).2) i r hr
      obtain ⟨g1, g2, _, _⟩ := hY i hi
      obtain ⟨q1, q2, _, _⟩ := hY 0 (by omega)
      have hlt : 0 < (Y 0).2.length := by omega
      have h0 := q2 0 hk
      rw [List.getElem?_eq_getElem hlt] at h0
      have ha : (a.add (0 * k)).add 0 = a := by simp [Addr.add]
      rw [ha] at h0
      obtain ⟨hs, hblk⟩ := cell_block h0
      obtain ⟨b, o, sp⟩ := a
      simp only at hs hblk
      subst hs
      refine ⟨g1, b, o, rfl, hblk, ?_⟩
      intro j y hj
      have hjk : j < k := by
        have := (List.getElem?_eq_some_iff.1 hj).1
        omega
      have := g2 j hjk
      rw [Addr.add_lit, Addr.add_lit] at this
      rw [this]
      exact hj
    · intro i v y hv hy
      obtain ⟨hi, rfl⟩ := hget (fun i => (Y i).2) i v hv
      obtain ⟨_, rfl⟩ := hget (fun i => (Y i).1) i y hy
      exact (hY i hi).2.2.1
    · simp only [Rows.uptoBulk]
      have := bulk_sum (List.range len) D (fun i => (Y i).1) f (fun i hi => (hY i (by simpa using hi)).2.2.2)
      omega
    · intro hw
      have h1 := List.all_eq_true.1 hw ((len + (m - len)) * P.bytesOf e) (by simp [DataW.weights, ht])
      simp only [decide_eq_true_eq] at h1
      unfold reachBytes at h1
      simp only [List.length_map, List.length_range]
      refine Nat.le_trans (Nat.mul_le_mul_right _ (Nat.le_add_right len (m - len))) (Nat.le_trans h1 (by decide))

def TriR (w : World) (v : List Value) (y : Int × Int × Int) : Prop := ∃ u0 u1 u2, v = [u0, u1, u2] ∧ IntR w [u0] y.1 ∧ IntR w [u1] y.2.1 ∧ IntR w [u2] y.2.2
def NamR (w : World) (v : List Value) (y : ByteArray × Int × ByteArray) : Prop := ∃ u0 u1 u2, v = [u0, u1, u2] ∧ StrR w [u0] y.1 ∧ IntR w [u1] y.2.1 ∧ StrR w [u2] y.2.2

theorem tris_of {w : World} {cs : List Value} {l : List Tri} (h : SlOfK 3 TriR w cs l) : ∃ a c, cs = [.slice a l.length c] ∧ SlT w 3 a l.length c (tris l) ∧ WfT l := by
  obtain ⟨a, n, c, vs, rfl, hs, hn, hr⟩ := h
  subst hn
  have key : ∀ i (hi : i < l.length) (hv : i < vs.length), vs[i] = [.int .i64 l[i].1, .int .i64 l[i].2.1, .int .i64 l[i].2.2] ∧ Circuit.I64 l[i].1 ∧ Circuit.I64 l[i].2.1 ∧ Circuit.I64 l[i].2.2 := by
    intro i hi hv
    obtain ⟨u0, u1, u2, e, ⟨e0, g0⟩, ⟨e1, g1⟩, ⟨e2, g2⟩⟩ := hr i _ _ (List.getElem?_eq_getElem hv) (List.getElem?_eq_getElem hi)
    simp only [List.cons.injEq, and_true] at e0 e1 e2
    subst e0 e1 e2
    exact ⟨e, g0, g1, g2⟩
  have hv : vs = tris l := by
    apply List.ext_getElem?
    intro k
    by_cases hk : k < l.length
    · have h1 : k < vs.length := by have := hs.len; omega
      unfold tris
      rw [List.getElem?_eq_getElem h1, List.getElem?_map, List.getElem?_eq_getElem hk, (key k hk h1).1]
      rfl
    · rw [List.getElem?_eq_none (by have := hs.len; omega), List.getElem?_eq_none (by simp [tris]; omega)]
  subst hv
  refine ⟨a, c, rfl, hs, fun t ht => ?_⟩
  obtain ⟨k, hk, rfl⟩ := List.mem_iff_getElem.1 ht
  exact (key k hk (by simp [tris]; omega)).2

theorem names_of {w : World} {cs : List Value} {l : List (ByteArray × Int × ByteArray)} (h : SlOfK 3 NamR w cs l) : ∃ a c, cs = [.slice a l.length c] ∧ SlT w 3 a l.length c (namesV l) ∧ ∀ t ∈ l, Circuit.I64 t.2.1 := by
  obtain ⟨a, n, c, vs, rfl, hs, hn, hr⟩ := h
  subst hn
  have key : ∀ i (hi : i < l.length) (hv : i < vs.length), vs[i] = [.string l[i].1, .int .i64 l[i].2.1, .string l[i].2.2] ∧ Circuit.I64 l[i].2.1 := by
    intro i hi hv
    obtain ⟨u0, u1, u2, e, ⟨e0, g0⟩, ⟨e1, g1⟩, ⟨e2, g2⟩⟩ := hr i _ _ (List.getElem?_eq_getElem hv) (List.getElem?_eq_getElem hi)
    simp only [List.cons.injEq, and_true] at e0 e1 e2
    subst e0 e1 e2
    exact ⟨e, g1⟩
  have hv : vs = namesV l := by
    apply List.ext_getElem?
    intro k
    by_cases hk : k < l.length
    · have h1 : k < vs.length := by have := hs.len; omega
      unfold namesV
      rw [List.getElem?_eq_getElem h1, List.getElem?_map, List.getElem?_eq_getElem hk, (key k hk h1).1]
      rfl
    · rw [List.getElem?_eq_none (by have := hs.len; omega), List.getElem?_eq_none (by simp [namesV]; omega)]
  subst hv
  refine ⟨a, c, rfl, hs, fun t ht => ?_⟩
  obtain ⟨k, hk, rfl⟩ := List.mem_iff_getElem.1 ht
  exact (key k hk (by simp [namesV]; omega)).2

theorem circ_type : fields Tryz.prog 27 = some [(3, 0), (22, 1), (23, 2), (22, 3), (22, 4), (22, 5), (24, 6), (25, 7)] := by kernel_rfl
theorem latch_type : fields Tryz.prog 71 = some [(3, 0), (3, 1), (3, 2)] := by kernel_rfl
theorem and_type : fields Tryz.prog 74 = some [(3, 0), (3, 1), (3, 2)] := by kernel_rfl
theorem name_type : fields Tryz.prog 96 = some [(9, 0), (3, 1), (9, 2)] := by kernel_rfl

/-- No part's bytes pass the reach. -/
structure SizedCirc (x : Circ) : Prop where
  ins : x.ins.length * 8 ≤ 140737488351232
  lats : x.lats.length * 24 ≤ 140737488351232
  outs : x.outs.length * 8 ≤ 140737488351232
  bads : x.bads.length * 8 ≤ 140737488351232
  invs : x.invs.length * 8 ≤ 140737488351232
  ands : x.ands.length * 24 ≤ 140737488351232
  names : x.names.length * 40 ≤ 140737488351232

theorem slice_sized1 {H : Type} {enc : TypeId × Value → H} {P : Program} {w : World} {base : Nat} {held : Bool} {t e : TypeId} {a : Option Addr} {n c : Nat} {d : DataW H} {p : List MemPlace} (ht : P.underlying t = some (.slice e)) (hc : P.cellsOf e = 1)
    (h : DataW.Trod enc P w base (fun _ => true) held t (.slice a n c) d p) (hsz : (d.weights P t).all (· ≤ reachBytes) = true) : n * P.bytesOf e ≤ 140737488351232 :=
  slice_sized (ts := [t]) (ds := [d]) (j := 0) ht hc h (by simpa [DataW.weightsEach] using hsz) rfl rfl

/-- At most the bulk of a circuit. -/
def bulkCirc (x : Circ) : Nat := x.ins.length + x.lats.length + x.outs.length + x.bads.length + x.invs.length + x.ands.length + x.names.length

theorem sum_ge {α : Type} (f : α → Nat) (hf : ∀ y, 1 ≤ f y) (l : List α) : l.length ≤ (l.map f).sum := by
  induction l with
  | nil => simp
  | cons y r ih => have := hf y; simp only [List.length_cons, List.map_cons, List.sum_cons]; omega

set_option maxRecDepth 100000 in
theorem open_circ {H : Type} {enc : TypeId × Value → H} {w : World} {base b0 : Nat} {held : Bool} {r : Reach} {v : Value} {d : DataW H} {p : List MemPlace}
    (hv : Value.okWide Tryz.prog w r b0 27 v) (h : DataW.Trod enc Tryz.prog w base (fun _ => true) held 27 v d p) :
    ∃ (x : Circ) (q : At), v = .agg (cells x q) ∧ InCirc w x q ∧ WfC x ∧ bulkCirc x ≤ Rows.uptoBulk d ∧ ((d.weights Tryz.prog 27).all (· ≤ reachBytes) = true → SizedCirc x) := by
  obtain ⟨fs, hfs, hfl⟩ := fields_of circ_type
  obtain ⟨cs, rfl, hs⟩ := okWide_struct hfs hv
  obtain ⟨fuel, hf⟩ := h
  obtain ⟨xs, n, hx, hl, hlen, hpt⟩ := trod_fields circ_type hf
  have hc : Tryz.prog.cellsOf 27 = 8 := by kernel_rfl
  have c1 : Tryz.prog.cellsOf 3 = 1 := by kernel_rfl
  have c2 : Tryz.prog.cellsOf 22 = 1 := by kernel_rfl
  have c3 : Tryz.prog.cellsOf 23 = 1 := by kernel_rfl
  have c4 : Tryz.prog.cellsOf 24 = 1 := by kernel_rfl
  have c5 : Tryz.prog.cellsOf 25 = 1 := by kernel_rfl
  have c6 : Tryz.prog.cellsOf 9 = 1 := by kernel_rfl
  have cl : Tryz.prog.cellsOf 71 = 3 := by kernel_rfl
  have ca : Tryz.prog.cellsOf 74 = 3 := by kernel_rfl
  have cn : Tryz.prog.cellsOf 96 = 3 := by kernel_rfl
  have ba : Tryz.prog.bytesOf 74 = 24 := by kernel_rfl
  have rint : Reads Tryz.prog 3 IntR (fun _ => 1) := reads_int (by kernel_rfl)
  have rstr : Reads Tryz.prog 9 StrR (fun s => s.size + 1) := reads_string (by kernel_rfl)
  have rints : Reads Tryz.prog 22 (SlOf IntR) (fun ys => (ys.map fun _ => 1).sum + 1) := reads_slice1 (e := 3) (by kernel_rfl) c1 rint
  have rlat := reads_struct3 latch_type cl c1 c1 c1 rint rint rint
  have rand := reads_struct3 and_type ca c1 c1 c1 rint rint rint
  have rnam := reads_struct3 name_type cn c6 c1 c6 rstr rint rstr
  have hs8 : cs.toList.length = 8 := by
    have : (Value.agg cs).cells.toList.length = 8 := by rw [hl, hc]
    simpa [Value.cells] using this
  obtain ⟨l, hcl⟩ : ∃ l, cs.toList = l := ⟨_, rfl⟩
  have hca : cs = l.toArray := by rw [← hcl]
  subst hca
  have hl8 : l.length = 8 := by simpa using hs8
  match l, hl8 with
  | [u0, u1, u2, u3, u4, u5, u6, u7], _ =>
    simp only [Value.cells] at hpt
    obtain ⟨y0, hy0, e0⟩ := hpt 0 _ 0 rfl
    obtain ⟨y1, hy1, e1⟩ := hpt 1 _ 1 rfl
    obtain ⟨y2, hy2, e2⟩ := hpt 2 _ 2 rfl
    obtain ⟨y3, hy3, e3⟩ := hpt 3 _ 3 rfl
    obtain ⟨y4, hy4, e4⟩ := hpt 4 _ 4 rfl
    obtain ⟨y5, hy5, e5⟩ := hpt 5 _ 5 rfl
    obtain ⟨y6, hy6, e6⟩ := hpt 6 _ 6 rfl
    obtain ⟨y7, hy7, e7⟩ := hpt 7 _ 7 rfl
    rw [c1] at e0
    rw [c2] at e1 e3 e4 e5
    rw [c3] at e2
    rw [c4] at e6
    rw [c5] at e7
    obtain ⟨mx, ⟨m0, mlo, mhi⟩, _⟩ := rint H enc w base n held _ _ e0
    obtain ⟨ins, g1, b1⟩ := rints H enc w base n held _ _ e1
    obtain ⟨lats, g2, b2, z2⟩ := reads_sliceK (e := 71) (k := 3) (by kernel_rfl) (by decide) cl rlat H enc w base n held _ _ e2
    obtain ⟨outs, g3, b3⟩ := rints H enc w base n held _ _ e3
    obtain ⟨bads, g4, b4⟩ := rints H enc w base n held _ _ e4
    obtain ⟨invs, g5, b5⟩ := rints H enc w base n held _ _ e5
    obtain ⟨ands, g6, b6, z6⟩ := reads_sliceK (e := 74) (k := 3) (by kernel_rfl) (by decide) ca rand H enc w base n held _ _ e6
    obtain ⟨names, g7, b7, z7⟩ := reads_sliceK (e := 96) (k := 3) (by kernel_rfl) (by decide) cn rnam H enc w base n held _ _ e7
    obtain ⟨a1, k1, q1, s1, w1⟩ := ints_of g1
    obtain ⟨a2, k2, q2, s2, w2⟩ := tris_of g2
    obtain ⟨a3, k3, q3, s3, w3⟩ := ints_of g3
    obtain ⟨a4, k4, q4, s4, w4⟩ := ints_of g4
    obtain ⟨a5, k5, q5, s5, w5⟩ := ints_of g5
    obtain ⟨a6, k6, q6, s6, w6⟩ := tris_of g6
    obtain ⟨a7, k7, q7, s7, w7⟩ := names_of g7
    simp at m0 q1 q2 q3 q4 q5 q6 q7
    subst m0 q1 q2 q3 q4 q5 q6 q7
    refine ⟨⟨mx, ins, lats, outs, bads, invs, ands, names⟩, ⟨a1, k1, a2, k2, a3, k3, a4, k4, a5, k5, a6, k6, a7, k7⟩, rfl, ⟨s1, s2, s3, s4, s5, s6, s7⟩, ⟨⟨mlo, mhi⟩, w1, w2, w3, w4, w5, w6, w7⟩, ?_, fun hw => ?_⟩
    · have hd : d = .agg (xs.map (·.1)) := hx
      have r1 := Nat.le_trans (Nat.le_succ_of_le (sum_ge (fun _ => 1) (fun _ => Nat.le_refl _) ins)) b1
      have r2 := Nat.le_trans (Nat.le_succ_of_le (sum_ge _ (fun _ => by omega) lats)) b2
      have r3 := Nat.le_trans (Nat.le_succ_of_le (sum_ge (fun _ => 1) (fun _ => Nat.le_refl _) outs)) b3
      have r4 := Nat.le_trans (Nat.le_succ_of_le (sum_ge (fun _ => 1) (fun _ => Nat.le_refl _) bads)) b4
      have r5 := Nat.le_trans (Nat.le_succ_of_le (sum_ge (fun _ => 1) (fun _ => Nat.le_refl _) invs)) b5
      have r6 := Nat.le_trans (Nat.le_succ_of_le (sum_ge _ (fun _ => by omega) ands)) b6
      have r7 := Nat.le_trans (Nat.le_succ_of_le (sum_ge _ (fun _ => by omega) names)) b7
      rw [hd]
      clear hd hx hpt
      match xs, hlen, hy0, hy1, hy2, hy3, hy4, hy5, hy6, hy7 with
      | [q0, q1, q2, q3, q4, q5, q6, q7], _, hy0, hy1, hy2, hy3, hy4, hy5, hy6, hy7 =>
        simp at hy0 hy1 hy2 hy3 hy4 hy5 hy6 hy7
        subst hy0 hy1 hy2 hy3 hy4 hy5 hy6 hy7
        simp only [Rows.uptoBulk, Rows.uptoBulkAll, List.map_cons, List.map_nil]
        unfold bulkCirc
        simp only
        omega
    have hd : d = .agg (xs.map (·.1)) := hx
    have hus : fs.toList.map (·.type) = [3, 22, 23, 22, 22, 22, 24, 25] := by
      have := congrArg (List.map Prod.fst) hfl
      rw [List.map_map] at this
      exact this
    have part : ∀ (j : Nat) (t : TypeId) (y : DataW H × List MemPlace), ([3, 22, 23, 22, 22, 22, 24, 25] : List TypeId)[j]? = some t → xs[j]? = some y → (y.1.weights Tryz.prog t).all (· ≤ reachBytes) = true := by
      intro j t y hj hy
      rw [List.all_eq_true] at hw ⊢
      intro z hz
      apply hw
      rw [hd]
      simp only [DataW.weights, hfs]
      rw [hus]
      exact DataW.weights_mem_each (j := j) (t := t) hj (by rw [List.getElem?_map, hy]; rfl) z hz
    have b8 : Tryz.prog.bytesOf 3 = 8 := by kernel_rfl
    have bl : Tryz.prog.bytesOf 71 = 24 := by kernel_rfl
    have bn : Tryz.prog.bytesOf 96 = 40 := by kernel_rfl
    have r1 := slice_sized1 (t := 22) (e := 3) (by kernel_rfl) c1 ⟨n, e1⟩ (part 1 _ _ rfl hy1)
    have r3 := slice_sized1 (t := 22) (e := 3) (by kernel_rfl) c1 ⟨n, e3⟩ (part 3 _ _ rfl hy3)
    have r4 := slice_sized1 (t := 22) (e := 3) (by kernel_rfl) c1 ⟨n, e4⟩ (part 4 _ _ rfl hy4)
    have r5 := slice_sized1 (t := 22) (e := 3) (by kernel_rfl) c1 ⟨n, e5⟩ (part 5 _ _ rfl hy5)
    have r2 := z2 (part 2 _ _ rfl hy2)
    have r6 := z6 (part 6 _ _ rfl hy6)
    have r7 := z7 (part 7 _ _ rfl hy7)
    rw [b8] at r1 r3 r4 r5
    rw [bl] at r2
    rw [ba] at r6
    rw [bn] at r7
    exact ⟨r1, r2, r3, r4, r5, r6, r7⟩

end Go.Proofs.YtjmmhbmbafjneaaGreatDoor.Open
