/-
  Plain: a circuit that may be, hashed, may be; its gates are not plain and differ; hashed again it stays; it tells what it told.
-/
import Derived.Test.YtninglnchengeaaStrashP
import Derived.Test.YtninglnchengeaaCheckC
namespace Go.Proofs.Ytninglnchengeaa
open Go.RowKit Base
set_option linter.unusedVariables false
set_option linter.unusedSimpArgs false
namespace StrashP
open Circuit GetI

theorem ownOk_iff {most : Int} {own : List Int} : OwnOk most own ↔ (∀ m ∈ own, 2 ≤ m ∧ neg m = false ∧ var m ≤ most) ∧ (own.map var).Nodup := by
  constructor
  · intro h
    refine ⟨fun m hm => ?_, ?_⟩
    · obtain ⟨j, hj, rfl⟩ := List.mem_iff_getElem.1 hm
      obtain ⟨h1, h2, h3, _⟩ := h j hj
      exact ⟨h1, h2, h3⟩
    · rw [List.Nodup, List.pairwise_iff_getElem]
      intro i j hi hj hij e
      rw [List.length_map] at hi hj
      simp only [List.getElem_map] at e
      refine (h j hj).2.2.2 (List.mem_map.2 ⟨own[i], ?_, e⟩)
      rw [List.mem_take_iff_getElem]
      exact ⟨i, by omega, rfl⟩
  · rintro ⟨h1, h2⟩ j hj
    obtain ⟨g1, g2, g3⟩ := h1 own[j] (List.getElem_mem hj)
    refine ⟨g1, g2, g3, fun hm => ?_⟩
    obtain ⟨a, ha, he⟩ := List.mem_map.1 hm
    rw [List.mem_take_iff_getElem] at ha
    obtain ⟨i, hi, rfl⟩ := ha
    rw [List.Nodup, List.pairwise_iff_getElem] at h2
    exact h2 i j (by simp; omega) (by simp; omega) (by omega) (by simp only [List.getElem_map]; exact he)

theorem pairwise_adj {l : List Tri} (h : ∀ j (hj : j + 1 < l.length), (l[j]'(by omega)).1 < l[j + 1].1) : l.Pairwise fun a b => a.1 < b.1 := by
  rw [List.pairwise_iff_getElem]
  intro i j hi hj hij
  obtain ⟨d, rfl⟩ : ∃ d, j = i + 1 + d := ⟨j - i - 1, by omega⟩
  induction d with
  | zero => exact h i hj
  | succ d ih =>
    have h1 := ih (by omega) (by omega)
    have h2 := h (i + 1 + d) (by omega)
    have e : i + 1 + d + 1 = i + 1 + (d + 1) := by omega
    simp only [e] at h2
    omega

/-- A base's variable: 0, an input's, a latch's. -/
def baseV (x : Circ) (v : Int) : Prop := v = 0 ∨ v ∈ x.ins.map var ∨ v ∈ (x.lats.map (·.1)).map var

theorem neg_even {m : Int} (h : 2 ≤ m) (hn : neg m = false) : m % 2 = 0 := by
  unfold neg at hn
  rw [if_neg (by omega)] at hn
  simp at hn; omega

theorem ord_of {x : Circ} (h : CheckOk x) : Ord x.ands := by
  obtain ⟨hf, ⟨hd, hr, hs⟩, hl, ha, _⟩ := h
  refine ⟨pairwise_adj hs, fun t ht => ?_⟩
  obtain ⟨g1, g2, g3⟩ := (ownOk_iff.1 hd).1 t.1 (by unfold ownL; exact List.mem_append_right _ (List.mem_map.2 ⟨t, ht, rfl⟩))
  obtain ⟨k1, k2, k3, k4⟩ := ha t ht
  exact ⟨g1, neg_even g1 g2, k1.1, k3, k2.1, k4⟩

theorem known_base {x : Circ} {l : Int} (h : knownV (vsOf x) l) : 0 ≤ l ∧ (baseV x (var l) ∨ ∃ t ∈ x.ands, var t.1 = var l) := by
  obtain ⟨h0, h | h⟩ := h
  · exact ⟨h0, Or.inl (Or.inl (by unfold var; omega))⟩
  · refine ⟨h0, ?_⟩
    unfold vsOf ownL at h
    rw [List.map_append, List.map_append, List.mem_append, List.mem_append] at h
    rcases h with (h | h) | h
    · exact Or.inl (Or.inr (Or.inl h))
    · exact Or.inl (Or.inr (Or.inr h))
    · right
      obtain ⟨m, hm, he⟩ := List.mem_map.1 h
      obtain ⟨t, ht, rfl⟩ := List.mem_map.1 hm
      exact ⟨t, ht, he⟩

theorem base_not {x : Circ} (h : CheckOk x) : ∀ t ∈ x.ands, ¬ baseV x (var t.1) := by
  intro t ht hb
  have hfine := (ord_of h).fine t ht
  have hn := (ownOk_iff.1 h.2.1.1).2
  unfold ownL at hn
  rw [List.map_append, List.nodup_append] at hn
  have hmem : var t.1 ∈ (x.ands.map (·.1)).map var := List.mem_map.2 ⟨t.1, List.mem_map.2 ⟨t, ht, rfl⟩, rfl⟩
  rcases hb with hb | hb | hb
  · have := hfine.1; unfold var at hb; omega
  · exact hn.2.2 _ (by rw [List.map_append]; exact List.mem_append_left _ hb) _ hmem rfl
  · exact hn.2.2 _ (by rw [List.map_append]; exact List.mem_append_right _ hb) _ hmem rfl

theorem inv_of {x : Circ} (h : CheckOk x) : Inv (baseV x) x.ands (foldG x.ands) := by
  refine inv_fold (Or.inl rfl) _ _ rfl (ord_of h) (base_not h) fun t ht => ?_
  obtain ⟨k1, k2, _, _⟩ := h.2.2.2.1 t ht
  exact ⟨(known_base k1).2, (known_base k2).2⟩

def stOf (x : Circ) : St := foldG x.ands
/-- A circuit, all its gates replaced. -/
def mid (x : Circ) : Circ := { x with lats := x.lats.map fun t => (t.1, litS (stOf x).S t.2.1, t.2.2), outs := x.outs.map (litS (stOf x).S), bads := x.bads.map (litS (stOf x).S), invs := x.invs.map (litS (stOf x).S), ands := (stOf x).K }
def told (x : Circ) : List Int := x.lats.map (·.2.1) ++ x.outs ++ x.bads ++ x.invs
noncomputable def wants (x : Circ) (t : Tri) : Bool := tt (Rch (mid x).ands (told (mid x)) (var t.1))
/-- A circuit, hashed. -/
noncomputable def hashed (x : Circ) : Circ := { mid x with ands := (stOf x).K.filter (wants x) }

theorem told_lit {x : Circ} {l : Int} (hl : l ∈ told (mid x)) : ∃ m ∈ told x, l = litS (stOf x).S m := by
  unfold told at hl ⊢
  simp only [List.mem_append] at hl ⊢
  rcases hl with ((hl | hl) | hl) | hl
  · obtain ⟨t, ht, rfl⟩ := List.mem_map.1 hl
    obtain ⟨t', ht', rfl⟩ := List.mem_map.1 ht
    exact ⟨t'.2.1, Or.inl (Or.inl (Or.inl (List.mem_map.2 ⟨t', ht', rfl⟩))), rfl⟩
  · obtain ⟨m, hm, rfl⟩ := List.mem_map.1 hl
    exact ⟨m, Or.inl (Or.inl (Or.inr hm)), rfl⟩
  · obtain ⟨m, hm, rfl⟩ := List.mem_map.1 hl
    exact ⟨m, Or.inl (Or.inr hm), rfl⟩
  · obtain ⟨m, hm, rfl⟩ := List.mem_map.1 hl
    exact ⟨m, Or.inr hm, rfl⟩
theorem lit_told {x : Circ} {m : Int} (hm : m ∈ told x) : litS (stOf x).S m ∈ told (mid x) := by
  unfold told at hm ⊢
  simp only [List.mem_append] at hm ⊢
  rcases hm with ((hm | hm) | hm) | hm
  · obtain ⟨t, ht, rfl⟩ := List.mem_map.1 hm
    exact Or.inl (Or.inl (Or.inl (List.mem_map.2 ⟨_, List.mem_map.2 ⟨t, ht, rfl⟩, rfl⟩)))
  · exact Or.inl (Or.inl (Or.inr (List.mem_map.2 ⟨m, hm, rfl⟩)))
  · exact Or.inl (Or.inr (List.mem_map.2 ⟨m, hm, rfl⟩))
  · exact Or.inr (List.mem_map.2 ⟨m, hm, rfl⟩)
theorem told_known {x : Circ} (h : CheckOk x) {m : Int} (hm : m ∈ told x) : knownV (vsOf x) m := by
  obtain ⟨_, _, hl, _, ho, hb, hv, _⟩ := h
  unfold told at hm
  simp only [List.mem_append] at hm
  rcases hm with ((hm | hm) | hm) | hm
  · obtain ⟨t, ht, rfl⟩ := List.mem_map.1 hm
    exact hl t ht
  · exact ho m hm
  · exact hb m hm
  · exact hv m hm
theorem told_facts {x : Circ} (h : CheckOk x) {l : Int} (hl : l ∈ told (mid x)) :
    0 ≤ l ∧ getI (stOf x).S (var l) = none ∧ (baseV x (var l) ∨ ∃ k ∈ (stOf x).K, var k.1 = var l) := by
  obtain ⟨m, hm, rfl⟩ := told_lit hl
  obtain ⟨h0, hb⟩ := known_base (told_known h hm)
  have := lit_facts (inv_of h) h0 hb (ord_of h).fine
  exact ⟨this.1, this.2.2⟩

theorem gate_of {A : List Tri} {v : Int} {g : Tri} (h : gate A v = some g) : g ∈ A ∧ 0 ≤ g.1 ∧ var g.1 = v := by
  refine ⟨gate_mem h, ?_⟩
  have := List.find?_some h
  simp only [Bool.and_eq_true, decide_eq_true_eq] at this
  exact this
theorem kOrd {x : Circ} (h : CheckOk x) : Ord (stOf x).K := by
  have hi := inv_of h
  refine ⟨?_, fun k hk => (hi.kept k hk).1⟩
  have h1 : (x.ands.map (·.1)).Pairwise (· < ·) := by rw [List.pairwise_map]; exact (ord_of h).rise
  have h2 := List.Pairwise.sublist hi.sub h1
  rw [List.pairwise_map] at h2
  exact h2
theorem ord_same {A : List Tri} (h : Ord A) {a b : Tri} (ha : a ∈ A) (hb : b ∈ A) (e : var a.1 = var b.1) : a = b := by
  obtain ⟨i, hi, rfl⟩ := List.mem_iff_getElem.1 ha
  obtain ⟨j, hj, rfl⟩ := List.mem_iff_getElem.1 hb
  have hr := List.pairwise_iff_getElem.1 h.rise
  have f1 := h.fine _ ha
  have f2 := h.fine _ hb
  have e' : A[i].1 = A[j].1 := by
    have := f1.1; have := f1.2.1; have := f2.1; have := f2.2.1
    unfold var at e; omega
  rcases Nat.lt_trichotomy i j with hij | hij | hij
  · have := hr i j hi hj hij; omega
  · subst hij; rfl
  · have := hr j i hj hi hij; omega
theorem gate_ord {A : List Tri} (h : Ord A) {g : Tri} (hg : g ∈ A) : gate A (var g.1) = some g := by
  cases hq : gate A (var g.1) with
  | none =>
    unfold gate at hq
    rw [List.find?_eq_none] at hq
    have := hq g hg
    have := (h.fine g hg).1
    simp at *
    omega
  | some g' =>
    obtain ⟨h1, _, h3⟩ := gate_of hq
    rw [ord_same h h1 hg h3]
theorem Ord.filter {A : List Tri} (h : Ord A) (p : Tri → Bool) : Ord (A.filter p) := ⟨h.rise.filter p, fun t ht => h.fine t (List.mem_filter.1 ht).1⟩

theorem rch_known {x : Circ} (h : CheckOk x) {v : Int} (hv : Rch (stOf x).K (told (mid x)) v) : getI (stOf x).S v = none ∧ (baseV x v ∨ ∃ k ∈ (stOf x).K, var k.1 = v) := by
  have hi := inv_of h
  cases hv with
  | lit ht => exact (told_facts h ht).2
  | left hr h0 hg =>
    obtain ⟨h1, _, _⟩ := gate_of hg
    exact (hi.kept _ h1).2.2.1
  | right hr h0 hg =>
    obtain ⟨h1, _, _⟩ := gate_of hg
    exact (hi.kept _ h1).2.2.2.1

theorem fands {x : Circ} {t : Tri} : t ∈ (hashed x).ands ↔ t ∈ (stOf x).K ∧ Rch (stOf x).K (told (mid x)) (var t.1) := by
  show t ∈ (stOf x).K.filter (wants x) ↔ _
  rw [List.mem_filter]
  unfold wants
  rw [tt_iff]
  exact Iff.rfl
theorem fOrd {x : Circ} (h : CheckOk x) : Ord (hashed x).ands := (kOrd h).filter _

/-- What hangs on it hangs on it without the rest. -/
theorem rch_less {x : Circ} (h : CheckOk x) {v : Int} (hv : Rch (stOf x).K (told (mid x)) v) : Rch (hashed x).ands (told (mid x)) v := by
  have key : ∀ {v : Int} {g : Tri}, Rch (stOf x).K (told (mid x)) v → gate (stOf x).K v = some g → gate (hashed x).ands v = some g := by
    intro v g hr hg
    obtain ⟨h1, _, h3⟩ := gate_of hg
    rw [← h3]
    exact gate_ord (fOrd h) (fands.2 ⟨h1, by rw [h3]; exact hr⟩)
  induction hv with
  | lit ht => exact .lit ht
  | left hr h0 hg ih => exact .left ih h0 (key hr hg)
  | right hr h0 hg ih => exact .right ih h0 (key hr hg)

theorem known_h {x : Circ} (h : CheckOk x) {l : Int} (h0 : 0 ≤ l) (hr : Rch (stOf x).K (told (mid x)) (var l)) : knownV (vsOf (hashed x)) l := by
  refine ⟨h0, ?_⟩
  rcases (rch_known h hr).2 with hb | ⟨k, hk, he⟩
  · rcases hb with hb | hb | hb
    · left; unfold var at hb; omega
    · right
      unfold vsOf ownL
      rw [List.map_append, List.map_append, List.mem_append, List.mem_append]
      exact Or.inl (Or.inl hb)
    · right
      unfold vsOf ownL
      rw [List.map_append, List.map_append, List.mem_append, List.mem_append]
      refine Or.inl (Or.inr ?_)
      have e : (hashed x).lats.map (·.1) = x.lats.map (·.1) := by
        show (x.lats.map fun t => (t.1, litS (stOf x).S t.2.1, t.2.2)).map (·.1) = _
        rw [List.map_map]; rfl
      rw [e]; exact hb
  · right
    unfold vsOf ownL
    rw [List.map_append, List.map_append, List.mem_append, List.mem_append]
    right
    refine List.mem_map.2 ⟨k.1, List.mem_map.2 ⟨k, fands.2 ⟨hk, by rw [he]; exact hr⟩, rfl⟩, he⟩

theorem countOf_mono {x y : Circ} (h1 : x.ins.length ≤ y.ins.length) (h2 : x.lats.length ≤ y.lats.length) (h3 : x.outs.length ≤ y.outs.length) (h4 : x.bads.length ≤ y.bads.length) (h5 : x.invs.length ≤ y.invs.length) (k : ByteArray) : countOf x k ≤ countOf y k := by
  unfold countOf
  split
  · exact h1
  · split
    · exact h2
    · split
      · exact h3
      · split
        · exact h4
        · exact h5
theorem names_mono {x y : Circ} (hn : x.names = y.names) (h : ∀ k, countOf x k ≤ countOf y k) (hx : NamesTo x x.names.length) : NamesTo y y.names.length := by
  obtain ⟨m, ins, lats, outs, bads, invs, ands, names⟩ := x
  obtain ⟨m', ins', lats', outs', bads', invs', ands', names'⟩ := y
  simp only at hn
  subst hn
  intro j hj hjk
  obtain ⟨⟨c, g1, g2, g3, g4, g5⟩, g6⟩ := hx j hj hjk
  exact ⟨⟨c, g1, g2, g3, Int.lt_of_lt_of_le g4 (Int.ofNat_le.2 (h (names[j]).1)), g5⟩, g6⟩

theorem hashed_ok {x : Circ} (h : CheckOk x) : CheckOk (hashed x) := by
  have hi := inv_of h
  have hlm : (hashed x).lats.map (·.1) = x.lats.map (·.1) := by
    show (x.lats.map fun t => (t.1, litS (stOf x).S t.2.1, t.2.2)).map (·.1) = _
    rw [List.map_map]; rfl
  have hl1 : (hashed x).lats.length = x.lats.length := by show (x.lats.map _).length = _; rw [List.length_map]
  have hl2 : (hashed x).outs.length = x.outs.length := by show (x.outs.map _).length = _; rw [List.length_map]
  have hl3 : (hashed x).bads.length = x.bads.length := by show (x.bads.map _).length = _; rw [List.length_map]
  have hl4 : (hashed x).invs.length = x.invs.length := by show (x.invs.map _).length = _; rw [List.length_map]
  have htold : ∀ m ∈ told x, knownV (vsOf (hashed x)) (litS (stOf x).S m) := fun m hm => by
    have h1 := lit_told hm
    exact known_h h (told_facts h h1).1 (.lit h1)
  obtain ⟨hf, ⟨hd, hr, hs⟩, hl, ha, ho, hb, hv, hn⟩ := h
  have h : CheckOk x := ⟨hf, ⟨hd, hr, hs⟩, hl, ha, ho, hb, hv, hn⟩
  obtain ⟨f0, f1, f2, f3, f4, f5, f6⟩ := hf
  refine ⟨⟨f0, f1, f2, by rw [hl1]; exact f3, by rw [hl2]; exact f4, by rw [hl3]; exact f5, by rw [hl4]; exact f6⟩, ⟨?_, ?_, ?_⟩, ?_, ?_, ?_, ?_, ?_, ?_⟩
  · have hsub : (ownL (hashed x)).Sublist (ownL x) := by
      unfold ownL
      rw [hlm]
      refine List.Sublist.append (List.Sublist.refl _) ?_
      show (((stOf x).K.filter (wants x)).map (·.1)).Sublist _
      exact ((List.filter_sublist).map _).trans hi.sub
    obtain ⟨g1, g2⟩ := ownOk_iff.1 hd
    exact ownOk_iff.2 ⟨fun m hm => g1 m (hsub.subset hm), List.Nodup.sublist (hsub.map var) g2⟩
  · intro t ht
    obtain ⟨t', ht', rfl⟩ := List.mem_map.1 ht
    exact hr t' ht'
  · intro j hj
    exact List.pairwise_iff_getElem.1 (fOrd h).rise j (j + 1) (by omega) hj (by omega)
  · intro t ht
    obtain ⟨t', ht', rfl⟩ := List.mem_map.1 ht
    exact htold t'.2.1 (by unfold told; simp only [List.mem_append]; exact Or.inl (Or.inl (Or.inl (List.mem_map.2 ⟨t', ht', rfl⟩))))
  · intro t ht
    obtain ⟨h1, h2⟩ := fands.1 ht
    obtain ⟨g1, g2, g3, g4, g5, g6⟩ := hi.kept t h1
    have hg := gate_ord (kOrd h) h1
    have h0 : var t.1 ≠ 0 := by have := g1.1; unfold var; omega
    exact ⟨known_h h g1.2.2.1 (.left h2 h0 hg), known_h h g1.2.2.2.2.1 (.right h2 h0 hg), g1.2.2.2.1, g1.2.2.2.2.2⟩
  · intro l hl'
    obtain ⟨m, hm, rfl⟩ := List.mem_map.1 hl'
    exact htold m (by unfold told; simp only [List.mem_append]; exact Or.inl (Or.inl (Or.inr hm)))
  · intro l hl'
    obtain ⟨m, hm, rfl⟩ := List.mem_map.1 hl'
    exact htold m (by unfold told; simp only [List.mem_append]; exact Or.inl (Or.inr hm))
  · intro l hl'
    obtain ⟨m, hm, rfl⟩ := List.mem_map.1 hl'
    exact htold m (by unfold told; simp only [List.mem_append]; exact Or.inr hm)
  · exact names_mono (x := x) (y := hashed x) rfl (fun k => countOf_mono (x := x) (y := hashed x) (Nat.le_refl _) (by rw [hl1]; exact Nat.le_refl _) (by rw [hl2]; exact Nat.le_refl _) (by rw [hl3]; exact Nat.le_refl _) (by rw [hl4]; exact Nat.le_refl _) k) hn

/-! ### Less, and again. -/
theorem f_plain {x : Circ} (h : CheckOk x) : ∀ t ∈ (hashed x).ands, plainL t.2.1 t.2.2 = none := fun t ht => ((inv_of h).kept t (fands.1 ht).1).2.2.2.2.1
theorem k_pairs {x : Circ} (h : CheckOk x) {a b : Tri} (ha : a ∈ (stOf x).K) (hb : b ∈ (stOf x).K) (e : pairS a.2.1 a.2.2 = pairS b.2.1 b.2.2) : a = b := by
  have h1 := ((inv_of h).kept a ha).2.2.2.2.2
  have h2 := ((inv_of h).kept b hb).2.2.2.2.2
  rw [e] at h1
  have e1 : some b.1 = some a.1 := h2.symm.trans h1
  simp only [Option.some.injEq] at e1
  exact ord_same (kOrd h) ha hb (by rw [e1])
theorem f_pairs {x : Circ} (h : CheckOk x) : (hashed x).ands.Pairwise fun a b => pairS a.2.1 a.2.2 ≠ pairS b.2.1 b.2.2 := by
  have hr := (fOrd h).rise
  refine hr.imp_of_mem fun {a b} ha hb hlt e => ?_
  have := k_pairs h (fands.1 ha).1 (fands.1 hb).1 e
  rw [this] at hlt
  omega
theorem f_few {x : Circ} (h : CheckOk x) : (hashed x).ands.length ≤ x.ands.length := by
  have h1 := (inv_of h).sub.length_le
  rw [List.length_map, List.length_map] at h1
  exact Nat.le_trans (List.length_filter_le _ _) h1

theorem fold_plain : ∀ (n : Nat) (A : List Tri), A.length = n → (∀ t ∈ A, plainL t.2.1 t.2.2 = none) → (A.Pairwise fun a b => pairS a.2.1 a.2.2 ≠ pairS b.2.1 b.2.2) →
    (foldG A).S = [] ∧ (foldG A).K = A ∧ ∀ p l, getI (foldG A).M p = some l → ∃ t ∈ A, pairS t.2.1 t.2.2 = p
  | 0, A, hn, _, _ => by
    have : A = [] := List.eq_nil_of_length_eq_zero hn
    subst this
    exact ⟨rfl, rfl, fun p l h => by cases h⟩
  | n + 1, A, hn, hp, hq => by
    obtain ⟨A', t, rfl⟩ : ∃ A' t, A = A' ++ [t] := by
      rcases List.eq_nil_or_concat A with rfl | ⟨A', t, h⟩
      · simp at hn
      · exact ⟨A', t, by rw [h, List.concat_eq_append]⟩
    rw [List.pairwise_append] at hq
    obtain ⟨g1, g2, g3⟩ := fold_plain n A' (by simp at hn; omega) (fun t' ht' => hp t' (List.mem_append_left _ ht')) hq.1
    have hl : ∀ l, litS (foldG A').S l = l := by
      intro l
      rw [g1]
      rfl
    have hm : getI (foldG A').M (pairS t.2.1 t.2.2) = none := by
      cases hg : getI (foldG A').M (pairS t.2.1 t.2.2) with
      | none => rfl
      | some l =>
        obtain ⟨t', ht', he⟩ := g3 _ _ hg
        exact absurd he (hq.2.2 t' ht' t (by simp))
    have hst : foldG (A' ++ [t]) = { foldG A' with M := (pairS t.2.1 t.2.2, t.1) :: (foldG A').M, K := (foldG A').K ++ [t] } := by
      rw [foldG_snoc]
      unfold gateS
      rw [hl, hl, hp t (by simp)]
      simp only
      rw [hm]
    rw [hst]
    refine ⟨g1, by simp only; rw [g2], ?_⟩
    intro p l hg
    simp only at hg
    by_cases e : pairS t.2.1 t.2.2 = p
    · exact ⟨t, by simp, e⟩
    · rw [getI_other _ _ e] at hg
      obtain ⟨t', ht', he⟩ := g3 p l hg
      exact ⟨t', List.mem_append_left _ ht', he⟩

theorem hashed_again {x : Circ} (h : CheckOk x) : hashed (hashed x) = hashed x := by
  obtain ⟨g1, g2, _⟩ := fold_plain _ (hashed x).ands rfl (f_plain h) (f_pairs h)
  have hS : (stOf (hashed x)).S = [] := g1
  have hK : (stOf (hashed x)).K = (hashed x).ands := g2
  have hl : ∀ l, litS (stOf (hashed x)).S l = l := by
    intro l; rw [hS]; rfl
  have hlf : litS (stOf (hashed x)).S = id := funext hl
  have hmid : mid (hashed x) = hashed x := by
    unfold mid
    rw [hlf, hK]
    have e1 : ((hashed x).lats.map fun t => (t.1, id t.2.1, t.2.2)) = (hashed x).lats := by
      have : (fun t : Tri => (t.1, id t.2.1, t.2.2)) = id := by funext t; rfl
      rw [this, List.map_id]
    rw [e1, List.map_id, List.map_id, List.map_id]
  unfold hashed
  rw [show mid { mid x with ands := (stOf x).K.filter (wants x) } = hashed x from hmid]
  have hK' : (stOf { mid x with ands := (stOf x).K.filter (wants x) }).K = (hashed x).ands := hK
  rw [hK']
  have hall : (hashed x).ands.filter (wants (hashed x)) = (hashed x).ands := by
    rw [List.filter_eq_self]
    intro t ht
    unfold wants
    rw [hmid]
    refine tt_pos ?_
    have htold : told (hashed x) = told (mid x) := rfl
    rw [htold]
    exact rch_less h (fands.1 ht).2
  rw [show ({ mid x with ands := (stOf x).K.filter (wants x) } : Circ) = hashed x from rfl, hall]

/-! ### Values. -/
def setV (V : Int → Bool) (u : Int) (b : Bool) : Int → Bool := fun k => if k = u then b else V k
def evalA (A : List Tri) (V : Int → Bool) : Int → Bool := A.foldl (fun V t => setV V (var t.1) (bitV V t.2.1 && bitV V t.2.2)) V
theorem evalA_snoc (A : List Tri) (t : Tri) (V : Int → Bool) : evalA (A ++ [t]) V = setV (evalA A V) (var t.1) (bitV (evalA A V) t.2.1 && bitV (evalA A V) t.2.2) := by unfold evalA; rw [List.foldl_append]; rfl
theorem bit_set {V : Int → Bool} {u : Int} {b : Bool} {l : Int} (h : var l ≠ u) : bitV (setV V u b) l = bitV V l := by unfold bitV setV; rw [if_neg h]

theorem eval_sat : ∀ (n : Nat) (A : List Tri), A.length = n → Ord A → ∀ V, Sat (evalA A V) A ∧ ∀ u, (∀ t ∈ A, var t.1 ≠ u) → evalA A V u = V u
  | 0, A, hn, _, V => by
    have : A = [] := List.eq_nil_of_length_eq_zero hn
    subst this
    exact ⟨fun t h => (by cases h), fun u _ => rfl⟩
  | n + 1, A, hn, ho, V => by
    obtain ⟨A', t, rfl⟩ : ∃ A' t, A = A' ++ [t] := by
      rcases List.eq_nil_or_concat A with rfl | ⟨A', t, h⟩
      · simp at hn
      · exact ⟨A', t, by rw [h, List.concat_eq_append]⟩
    have hrise := List.pairwise_append.1 ho.rise
    have hft := ho.fine t (by simp)
    have hA : ∀ t' ∈ A', Fine t' := fun t' ht' => ho.fine t' (List.mem_append_left _ ht')
    obtain ⟨h1, h2⟩ := eval_sat n A' (by simp at hn; omega) ⟨hrise.1, hA⟩ V
    have hlt : ∀ t' ∈ A', var t'.1 < var t.1 := fun t' ht' => var_lt hft (by have := (hA t' ht').1; omega) (hrise.2.2 t' ht' t (by simp))
    have hvl : var t.2.1 < var t.1 := var_lt hft hft.2.2.1 hft.2.2.2.1
    have hvr : var t.2.2 < var t.1 := var_lt hft hft.2.2.2.2.1 hft.2.2.2.2.2
    rw [evalA_snoc]
    refine ⟨fun t' ht' => ?_, fun u hu => ?_⟩
    · rcases List.mem_append.1 ht' with h | h
      · have hf := hA t' h
        have hv := hlt t' h
        have hv1 := var_lt hf hf.2.2.1 hf.2.2.2.1
        have hv2 := var_lt hf hf.2.2.2.2.1 hf.2.2.2.2.2
        rw [bit_set (by omega), bit_set (by omega)]
        have e : setV (evalA A' V) (var t.1) (bitV (evalA A' V) t.2.1 && bitV (evalA A' V) t.2.2) (var t'.1) = evalA A' V (var t'.1) := by unfold setV; rw [if_neg (by omega)]
        rw [e]
        exact h1 t' h
      · rw [List.mem_singleton] at h
        subst h
        rw [bit_set (by omega), bit_set (by omega)]
        unfold setV
        rw [if_pos rfl]
    · unfold setV
      rw [if_neg (fun e => hu t (by simp) e.symm)]
      exact h2 u fun t' ht' => hu t' (List.mem_append_left _ ht')

theorem sem_rch {x : Circ} (h : CheckOk x) {V0 : Int → Bool} (h0 : V0 0 = false) : ∀ (n : Nat) (v : Int), v.toNat = n → 0 ≤ v → Rch (stOf x).K (told (mid x)) v → evalA (hashed x).ands V0 v = evalA x.ands V0 v := by
  intro n
  induction n using Nat.strongRecOn with
  | _ n ih =>
    intro v hn hv hr
    obtain ⟨s1, s2⟩ := eval_sat _ x.ands rfl (ord_of h) V0
    obtain ⟨t1, t2⟩ := eval_sat _ (hashed x).ands rfl (fOrd h) V0
    have hV0 : evalA x.ands V0 0 = false := by
      rw [s2 0 (fun t ht => by have := ((ord_of h).fine t ht).1; unfold var; omega)]; exact h0
    have hi := inv_of h
    obtain ⟨hnone, hb⟩ := rch_known h hr
    by_cases hk : ∃ k ∈ (stOf x).K, var k.1 = v
    · obtain ⟨k, hk, rfl⟩ := hk
      have hkf := fands.2 ⟨hk, hr⟩
      have hfk := (hi.kept k hk).1
      have hg := gate_ord (kOrd h) hk
      have hne : var k.1 ≠ 0 := by have := hfk.1; unfold var; omega
      have e1 := t1 k hkf
      have e2 := (hi.sem _ hV0 s1).2 k hk
      have hv1 := var_lt hfk hfk.2.2.1 hfk.2.2.2.1
      have hv2 := var_lt hfk hfk.2.2.2.2.1 hfk.2.2.2.2.2
      have p1 : 0 ≤ var k.2.1 := by unfold var; omega
      have p2 : 0 ≤ var k.2.2 := by unfold var; omega
      have i1 := ih (var k.2.1).toNat (by omega) _ rfl p1 (.left hr hne hg)
      have i2 := ih (var k.2.2).toNat (by omega) _ rfl p2 (.right hr hne hg)
      rw [e1, e2]
      unfold bitV
      rw [i1, i2]
    · rw [t2 v (fun t ht e => hk ⟨t, (fands.1 ht).1, e⟩), s2 v (fun t ht e => ?_)]
      rcases hi.all t ht with ⟨s, hs⟩ | ⟨k, hkk, he⟩
      · rw [e] at hs
        have : getI (stOf x).S v = some s := hs
        rw [hnone] at this; cases this
      · exact hk ⟨k, hkk, by rw [he, e]⟩

/-- What is told is the same. -/
theorem sem_told {x : Circ} (h : CheckOk x) {V0 : Int → Bool} (h0 : V0 0 = false) {m : Int} (hm : m ∈ told x) : bitV (evalA (hashed x).ands V0) (litS (stOf x).S m) = bitV (evalA x.ands V0) m := by
  obtain ⟨s1, s2⟩ := eval_sat _ x.ands rfl (ord_of h) V0
  have hV0 : evalA x.ands V0 0 = false := by
    rw [s2 0 (fun t ht => by have := ((ord_of h).fine t ht).1; unfold var; omega)]; exact h0
  have hl := lit_told hm
  have hr : Rch (stOf x).K (told (mid x)) (var (litS (stOf x).S m)) := .lit hl
  have e := sem_rch h h0 _ _ rfl (by unfold var; omega) hr
  rw [← lit_sem (inv_of h) hV0 s1 m]
  show bitV _ (litS (stOf x).S m) = bitV _ (litS (stOf x).S m)
  unfold bitV
  rw [e]

/-! ### Twice. -/
/-- A circuit with one and more, its literals the other way round, and one output more. -/
def more (x : Circ) (a : Tri) (o : Int) : Circ := { x with max := x.max + 1, ands := x.ands ++ [(2 * (x.max + 1), a.2.2, a.2.1)], outs := x.outs ++ [o] }

theorem more_ok {x : Circ} (h : CheckOk x) {a : Tri} (ha : a ∈ x.ands) (hm : x.max ≤ 1000) (ho : x.outs.length + 1 ≤ 64) {o : Int} (hoo : o = a.1 ∨ o = 2 * (x.max + 1)) : CheckOk (more x a o) := by
  have hord := ord_of h
  obtain ⟨hf, ⟨hd, hr, hs⟩, hl, hand, hout, hb, hv, hn⟩ := h
  obtain ⟨f0, f1, f2, f3, f4, f5, f6⟩ := hf
  obtain ⟨d1, d2⟩ := ownOk_iff.1 hd
  have hown : ownL (more x a o) = ownL x ++ [2 * (x.max + 1)] := by unfold ownL more; simp
  have hvs : vsOf (more x a o) = vsOf x ++ [x.max + 1] := by
    unfold vsOf
    rw [hown, List.map_append]
    have : var (2 * (x.max + 1)) = x.max + 1 := by unfold var; omega
    simp [this]
  have hk : ∀ l, knownV (vsOf x) l → knownV (vsOf (more x a o)) l := fun l hl => ⟨hl.1, hl.2.imp id fun h => by rw [hvs]; exact List.mem_append_left _ h⟩
  have hmax : ∀ t ∈ x.ands, t.1 < 2 * (x.max + 1) := fun t ht => by
    have := (d1 t.1 (by unfold ownL; exact List.mem_append_right _ (List.mem_map.2 ⟨t, ht, rfl⟩))).2.2
    unfold var at this; omega
  obtain ⟨ka1, ka2, ka3, ka4⟩ := hand a ha
  have hma := hmax a ha
  refine ⟨⟨by show 0 ≤ x.max + 1; omega, by show x.max + 1 ≤ 2048; omega, f2, f3, by show (x.outs ++ [o]).length ≤ 64; simp; omega, f5, f6⟩, ⟨?_, hr, ?_⟩, fun t ht => hk _ (hl t ht), ?_, ?_, fun l hl' => hk _ (hb l hl'), fun l hl' => hk _ (hv l hl'), ?_⟩
  · rw [hown]
    refine ownOk_iff.2 ⟨fun m hmm => ?_, ?_⟩
    · rcases List.mem_append.1 hmm with h1 | h1
      · obtain ⟨g1, g2, g3⟩ := d1 m h1
        exact ⟨g1, g2, by show var m ≤ x.max + 1; omega⟩
      · rw [List.mem_singleton] at h1
        subst h1
        refine ⟨by omega, ?_, by show var (2 * (x.max + 1)) ≤ x.max + 1; unfold var; omega⟩
        unfold neg
        rw [if_neg (by omega)]
        simp
    · rw [List.map_append, List.nodup_append]
      refine ⟨d2, by simp, fun u hu v hv' e => ?_⟩
      subst e
      simp only [List.map_cons, List.map_nil, List.mem_singleton] at hv'
      obtain ⟨m, hmm, rfl⟩ := List.mem_map.1 hu
      have := (d1 m hmm).2.2
      unfold var at *
      omega
  · intro j hj
    have hj' : j + 1 < (x.ands ++ [(2 * (x.max + 1), a.2.2, a.2.1)]).length := hj
    rw [List.length_append, List.length_singleton] at hj'
    show ((x.ands ++ [(2 * (x.max + 1), a.2.2, a.2.1)])[j]'(by simp; omega)).1 < ((x.ands ++ [(2 * (x.max + 1), a.2.2, a.2.1)])[j + 1]'(by simp; omega)).1
    by_cases he : j + 1 < x.ands.length
    · rw [List.getElem_append_left he, List.getElem_append_left (by omega)]
      exact hs j he
    · rw [List.getElem_append_left (by omega), List.getElem_append_right (by omega)]
      simp only [List.getElem_singleton]
      exact hmax _ (List.getElem_mem _)
  · intro t ht
    rcases List.mem_append.1 ht with h1 | h1
    · obtain ⟨g1, g2, g3, g4⟩ := hand t h1
      exact ⟨hk _ g1, hk _ g2, g3, g4⟩
    · rw [List.mem_singleton] at h1
      subst h1
      exact ⟨hk _ ka2, hk _ ka1, by show a.2.2 < 2 * (x.max + 1); omega, by show a.2.1 < 2 * (x.max + 1); omega⟩
  · intro l hl'
    rcases List.mem_append.1 hl' with h1 | h1
    · exact hk _ (hout l h1)
    · rw [List.mem_singleton] at h1
      subst h1
      rcases hoo with rfl | rfl
      · refine hk _ ⟨by have := (hord.fine a ha).1; omega, Or.inr ?_⟩
        unfold vsOf ownL
        rw [List.map_append, List.mem_append]
        exact Or.inr (List.mem_map.2 ⟨a.1, List.mem_map.2 ⟨a, ha, rfl⟩, rfl⟩)
      · refine ⟨by omega, Or.inr ?_⟩
        rw [hvs]
        have : var (2 * (x.max + 1)) = x.max + 1 := by unfold var; omega
        rw [this]; simp
  · exact names_mono (x := x) (y := more x a o) rfl (fun k => countOf_mono (x := x) (y := more x a o) (Nat.le_refl _) (Nat.le_refl _) (by show x.outs.length ≤ (x.outs ++ [o]).length; simp) (Nat.le_refl _) (Nat.le_refl _) k) hn

theorem twice {x : Circ} (h : CheckOk x) {a : Tri} (ha : a ∈ x.ands) (hm : x.max ≤ 1000) (ho : x.outs.length + 1 ≤ 64) : hashed (more x a a.1) = hashed (more x a (2 * (x.max + 1))) := by
  have hok := more_ok h ha hm ho (o := a.1) (Or.inl rfl)
  have hi := inv_of hok
  have hst : stOf (more x a (2 * (x.max + 1))) = stOf (more x a a.1) := rfl
  have hfine := (ord_of hok).fine
  have e1 := hi.at' a (List.mem_append_left _ ha)
  have e2 := hi.at' (2 * (x.max + 1), a.2.2, a.2.1) (List.mem_append_right _ (List.mem_singleton.2 rfl))
  have hkn := hok.2.2.2.1 a (List.mem_append_left _ ha)
  have hl := (lit_facts hi hkn.1.1 (known_base hkn.1).2 hfine).1
  have hr := (lit_facts hi hkn.2.1.1 (known_base hkn.2.1).2 hfine).1
  have hlit : litS (stOf (more x a a.1)).S a.1 = litS (stOf (more x a a.1)).S (2 * (x.max + 1)) := by
    have hc := plain_comm hl hr
    cases hp : plainL (litS (foldG (more x a a.1).ands).S a.2.1) (litS (foldG (more x a a.1).ands).S a.2.2) with
    | some r =>
      have h1 := e1.1 r hp
      have h2 := e2.1 r (by show plainL (litS (foldG (more x a a.1).ands).S a.2.2) (litS (foldG (more x a a.1).ands).S a.2.1) = some r; rw [← hc]; exact hp)
      exact h1.trans h2.symm
    | none =>
      have h1 := e1.2 hp
      have h2 := e2.2 (by show plainL (litS (foldG (more x a a.1).ands).S a.2.2) (litS (foldG (more x a a.1).ands).S a.2.1) = none; rw [← hc]; exact hp)
      have h2' : getI (foldG (more x a a.1).ands).M (pairS (litS (foldG (more x a a.1).ands).S a.2.2) (litS (foldG (more x a a.1).ands).S a.2.1)) = some (litS (foldG (more x a a.1).ands).S (2 * (x.max + 1))) := h2
      rw [pair_comm] at h2'
      have h3 := h1.symm.trans h2'
      simp only [Option.some.injEq] at h3
      exact h3
  have hmid : mid (more x a a.1) = mid (more x a (2 * (x.max + 1))) := by
    unfold mid
    rw [hst]
    have : (more x a a.1).outs.map (litS (stOf (more x a a.1)).S) = (more x a (2 * (x.max + 1))).outs.map (litS (stOf (more x a a.1)).S) := by
      show (x.outs ++ [a.1]).map _ = (x.outs ++ [2 * (x.max + 1)]).map _
      rw [List.map_append, List.map_append]
      congr 1
      simp only [List.map_cons, List.map_nil]
      rw [hlit]
    rw [this]
    rfl
  unfold hashed
  have hw : wants (more x a a.1) = wants (more x a (2 * (x.max + 1))) := by
    funext t
    unfold wants
    rw [hmid]
  rw [hw, hst, hmid]
end StrashP
end Go.Proofs.Ytninglnchengeaa
