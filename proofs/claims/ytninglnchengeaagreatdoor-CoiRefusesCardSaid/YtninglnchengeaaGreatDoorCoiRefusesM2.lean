/-
  Several texts in one (written by merge2.py): XStrashQ XCoiP XCoiSet XCoiAdd XCloneR XConcatI XCoiCnt XLitsCheck XSlfR XCoiAsk XSortedN XPlainInts XCoiNeed XCoiAlive XSprL XCoiRefuses
-/
import Derived.Test.YtninglnchengeaaGreatDoorCoiRefusesM1
import Derived.Test.YtninglnchengeaaGreatDoorCheckC
import Derived.Test.YtninglnchengeaaGreatDoorWfC
import Derived.Maps.OwnSet
import Derived.Test.YtninglnchengeaaGreatDoorLaws
import Derived.Lib.AppendZerosOnto
import Derived.Lib.AppendZeros
import Derived.Deep.DeepCutAuto
import Derived.Test.YtninglnchengeaaGreatDoorGateP
import Derived.Test.YtninglnchengeaaGreatDoorSlfI
import Derived.Test.YtninglnchengeaaGreatDoorLex
import Derived.Laws.EntriesVeiled
import Derived.Test.YtninglnchengeaaGreatDoorBase
import Derived.Shelf.Abstract
import Derived.Shelf.SlIterI.Nil
import Derived.Shelf.SortM.Plain
import Derived.Shelf.SortM.SortNone
import Derived.Ground.GgzProg
import Derived.Ground.SlgmProg
import Derived.Deep.QuietTactic
import Derived.BigQuiet
import Derived.Test.YtninglnchengeaaGreatDoorRefCheck
import Derived.Test.YtninglnchengeaaGreatDoorCheckP
import Derived.Test.YtninglnchengeaaGreatDoorOpenWit
/-
  Plain: a circuit that may be, hashed, may be; its gates are not plain and differ; hashed again it stays; it tells what it told.
-/
namespace Go.Proofs.YtninglnchengeaaGreatDoor
open Go.RowKit Base
set_option linter.unusedVariables false
set_option linter.unusedSimpArgs false
namespace StrashP
open Circuit GetI

theorem ownOk_iff {most : Int} {own : List Int} : OwnOk most own ↔ (∀ m ∈ own, 2 ≤ m ∧ neg m = false ∧ var m ≤ most) ∧ (own.map var).Nodup := by
  constructor
  · intro h
    refine ⟨fun m hm => ?_, ?_⟩
    · obtain ⟨j, hj, rfl⟩ := List.mem_iff_getElem.1 hm
      obtain ⟨h1, h2, h3, _⟩ := h j hj
      exact ⟨h1, h2, h3⟩
    · rw [List.Nodup, List.pairwise_iff_getElem]
      intro i j hi hj hij e
      rw [List.length_map] at hi hj
      simp only [List.getElem_map] at e
      refine (h j hj).2.2.2 (List.mem_map.2 ⟨own[i], ?_, e⟩)
      rw [List.mem_take_iff_getElem]
      exact ⟨i, by omega, rfl⟩
  · rintro ⟨h1, h2⟩ j hj
    obtain ⟨g1, g2, g3⟩ := h1 own[j] (List.getElem_mem hj)
    refine ⟨g1, g2, g3, fun hm => ?_⟩
    obtain ⟨a, ha, he⟩ := List.mem_map.1 hm
    rw [List.mem_take_iff_getElem] at ha
    obtain ⟨i, hi, rfl⟩ := ha
    rw [List.Nodup, List.pairwise_iff_getElem] at h2
    exact h2 i j (by simp; omega) (by simp; omega) (by omega) (by simp only [List.getElem_map]; exact he)

theorem pairwise_adj {l : List Tri} (h : ∀ j (hj : j + 1 < l.length), (l[j]'(by omega)).1 < l[j + 1].1) : l.Pairwise fun a b => a.1 < b.1 := by
  rw [List.pairwise_iff_getElem]
  intro i j hi hj hij
  obtain ⟨d, rfl⟩ : ∃ d, j = i + 1 + d := ⟨j - i - 1, by omega⟩
  induction d with
  | zero => exact h i hj
  | succ d ih =>
    have h1 := ih (by omega) (by omega)
    have h2 := h (i + 1 + d) (by omega)
    have e : i + 1 + d + 1 = i + 1 + (d + 1) := by omega
    simp only [e] at h2
    omega

/-- A base's variable: 0, an input's, a latch's. -/
def baseV (x : Circ) (v : Int) : Prop := v = 0 ∨ v ∈ x.ins.map var ∨ v ∈ (x.lats.map (·.1)).map var

theorem neg_even {m : Int} (h : 2 ≤ m) (hn : neg m = false) : m % 2 = 0 := by
  unfold neg at hn
  rw [if_neg (by omega)] at hn
  simp at hn; omega

theorem ord_of {x : Circ} (h : CheckOk x) : Ord x.ands := by
  obtain ⟨hf, ⟨hd, hr, hs⟩, hl, ha, _⟩ := h
  refine ⟨pairwise_adj hs, fun t ht => ?_⟩
  obtain ⟨g1, g2, g3⟩ := (ownOk_iff.1 hd).1 t.1 (by unfold ownL; exact List.mem_append_right _ (List.mem_map.2 ⟨t, ht, rfl⟩))
  obtain ⟨k1, k2, k3, k4⟩ := ha t ht
  exact ⟨g1, neg_even g1 g2, k1.1, k3, k2.1, k4⟩

theorem known_base {x : Circ} {l : Int} (h : knownV (vsOf x) l) : 0 ≤ l ∧ (baseV x (var l) ∨ ∃ t ∈ x.ands, var t.1 = var l) := by
  obtain ⟨h0, h | h⟩ := h
  · exact ⟨h0, Or.inl (Or.inl (by unfold var; omega))⟩
  · refine ⟨h0, ?_⟩
    unfold vsOf ownL at h
    rw [List.map_append, List.map_append, List.mem_append, List.mem_append] at h
    rcases h with (h | h) | h
    · exact Or.inl (Or.inr (Or.inl h))
    · exact Or.inl (Or.inr (Or.inr h))
    · right
      obtain ⟨m, hm, he⟩ := List.mem_map.1 h
      obtain ⟨t, ht, rfl⟩ := List.mem_map.1 hm
      exact ⟨t, ht, he⟩

theorem base_not {x : Circ} (h : CheckOk x) : ∀ t ∈ x.ands, ¬ baseV x (var t.1) := by
  intro t ht hb
  have hfine := (ord_of h).fine t ht
  have hn := (ownOk_iff.1 h.2.1.1).2
  unfold ownL at hn
  rw [List.map_append, List.nodup_append] at hn
  have hmem : var t.1 ∈ (x.ands.map (·.1)).map var := List.mem_map.2 ⟨t.1, List.mem_map.2 ⟨t, ht, rfl⟩, rfl⟩
  rcases hb with hb | hb | hb
  · have := hfine.1; unfold var at hb; omega
  · exact hn.2.2 _ (by rw [List.map_append]; exact List.mem_append_left _ hb) _ hmem rfl
  · exact hn.2.2 _ (by rw [List.map_append]; exact List.mem_append_right _ hb) _ hmem rfl

theorem inv_of {x : Circ} (h : CheckOk x) : Inv (baseV x) x.ands (foldG x.ands) := by
  refine inv_fold (Or.inl rfl) _ _ rfl (ord_of h) (base_not h) fun t ht => ?_
  obtain ⟨k1, k2, _, _⟩ := h.2.2.2.1 t ht
  exact ⟨(known_base k1).2, (known_base k2).2⟩

def stOf (x : Circ) : St := foldG x.ands
/-- A circuit, all its gates replaced. -/
def mid (x : Circ) : Circ := { x with lats := x.lats.map fun t => (t.1, litS (stOf x).S t.2.1, t.2.2), outs := x.outs.map (litS (stOf x).S), bads := x.bads.map (litS (stOf x).S), invs := x.invs.map (litS (stOf x).S), ands := (stOf x).K }
def told (x : Circ) : List Int := x.lats.map (·.2.1) ++ x.outs ++ x.bads ++ x.invs
noncomputable def wants (x : Circ) (t : Tri) : Bool := tt (Rch (mid x).ands (told (mid x)) (var t.1))
/-- A circuit, hashed. -/
noncomputable def hashed (x : Circ) : Circ := { mid x with ands := (stOf x).K.filter (wants x) }

theorem told_lit {x : Circ} {l : Int} (hl : l ∈ told (mid x)) : ∃ m ∈ told x, l = litS (stOf x).S m := by
  unfold told at hl ⊢
  simp only [List.mem_append] at hl ⊢
  rcases hl with ((hl | hl) | hl) | hl
  · obtain ⟨t, ht, rfl⟩ := List.mem_map.1 hl
    obtain ⟨t', ht', rfl⟩ := List.mem_map.1 ht
    exact ⟨t'.2.1, Or.inl (Or.inl (Or.inl (List.mem_map.2 ⟨t', ht', rfl⟩))), rfl⟩
  · obtain ⟨m, hm, rfl⟩ := List.mem_map.1 hl
    exact ⟨m, Or.inl (Or.inl (Or.inr hm)), rfl⟩
  · obtain ⟨m, hm, rfl⟩ := List.mem_map.1 hl
    exact ⟨m, Or.inl (Or.inr hm), rfl⟩
  · obtain ⟨m, hm, rfl⟩ := List.mem_map.1 hl
    exact ⟨m, Or.inr hm, rfl⟩
theorem lit_told {x : Circ} {m : Int} (hm : m ∈ told x) : litS (stOf x).S m ∈ told (mid x) := by
  unfold told at hm ⊢
  simp only [List.mem_append] at hm ⊢
  rcases hm with ((hm | hm) | hm) | hm
  · obtain ⟨t, ht, rfl⟩ := List.mem_map.1 hm
    exact Or.inl (Or.inl (Or.inl (List.mem_map.2 ⟨_, List.mem_map.2 ⟨t, ht, rfl⟩, rfl⟩)))
  · exact Or.inl (Or.inl (Or.inr (List.mem_map.2 ⟨m, hm, rfl⟩)))
  · exact Or.inl (Or.inr (List.mem_map.2 ⟨m, hm, rfl⟩))
  · exact Or.inr (List.mem_map.2 ⟨m, hm, rfl⟩)
theorem told_known {x : Circ} (h : CheckOk x) {m : Int} (hm : m ∈ told x) : knownV (vsOf x) m := by
  obtain ⟨_, _, hl, _, ho, hb, hv, _⟩ := h
  unfold told at hm
  simp only [List.mem_append] at hm
  rcases hm with ((hm | hm) | hm) | hm
  · obtain ⟨t, ht, rfl⟩ := List.mem_map.1 hm
    exact hl t ht
  · exact ho m hm
  · exact hb m hm
  · exact hv m hm
theorem told_facts {x : Circ} (h : CheckOk x) {l : Int} (hl : l ∈ told (mid x)) :
    0 ≤ l ∧ getI (stOf x).S (var l) = none ∧ (baseV x (var l) ∨ ∃ k ∈ (stOf x).K, var k.1 = var l) := by
  obtain ⟨m, hm, rfl⟩ := told_lit hl
  obtain ⟨h0, hb⟩ := known_base (told_known h hm)
  have := lit_facts (inv_of h) h0 hb (ord_of h).fine
  exact ⟨this.1, this.2.2⟩

theorem gate_of {A : List Tri} {v : Int} {g : Tri} (h : gate A v = some g) : g ∈ A ∧ 0 ≤ g.1 ∧ var g.1 = v := by
  refine ⟨gate_mem h, ?_⟩
  have := List.find?_some h
  simp only [Bool.and_eq_true, decide_eq_true_eq] at this
  exact this
theorem kOrd {x : Circ} (h : CheckOk x) : Ord (stOf x).K := by
  have hi := inv_of h
  refine ⟨?_, fun k hk => (hi.kept k hk).1⟩
  have h1 : (x.ands.map (·.1)).Pairwise (· < ·) := by rw [List.pairwise_map]; exact (ord_of h).rise
  have h2 := List.Pairwise.sublist hi.sub h1
  rw [List.pairwise_map] at h2
  exact h2
theorem ord_same {A : List Tri} (h : Ord A) {a b : Tri} (ha : a ∈ A) (hb : b ∈ A) (e : var a.1 = var b.1) : a = b := by
  obtain ⟨i, hi, rfl⟩ := List.mem_iff_getElem.1 ha
  obtain ⟨j, hj, rfl⟩ := List.mem_iff_getElem.1 hb
  have hr := List.pairwise_iff_getElem.1 h.rise
  have f1 := h.fine _ ha
  have f2 := h.fine _ hb
  have e' : A[i].1 = A[j].1 := by
    have := f1.1; have := f1.2.1; have := f2.1; have := f2.2.1
    unfold var at e; omega
  rcases Nat.lt_trichotomy i j with hij | hij | hij
  · have := hr i j hi hj hij; omega
  · subst hij; rfl
  · have := hr j i hj hi hij; omega
theorem gate_ord {A : List Tri} (h : Ord A) {g : Tri} (hg : g ∈ A) : gate A (var g.1) = some g := by
  cases hq : gate A (var g.1) with
  | none =>
    unfold gate at hq
    rw [List.find?_eq_none] at hq
    have := hq g hg
    have := (h.fine g hg).1
    simp at *
    omega
  | some g' =>
    obtain ⟨h1, _, h3⟩ := gate_of hq
    rw [ord_same h h1 hg h3]
theorem Ord.filter {A : List Tri} (h : Ord A) (p : Tri → Bool) : Ord (A.filter p) := ⟨h.rise.filter p, fun t ht => h.fine t (List.mem_filter.1 ht).1⟩

theorem rch_known {x : Circ} (h : CheckOk x) {v : Int} (hv : Rch (stOf x).K (told (mid x)) v) : getI (stOf x).S v = none ∧ (baseV x v ∨ ∃ k ∈ (stOf x).K, var k.1 = v) := by
  have hi := inv_of h
  cases hv with
  | lit ht => exact (told_facts h ht).2
  | left hr h0 hg =>
    obtain ⟨h1, _, _⟩ := gate_of hg
    exact (hi.kept _ h1).2.2.1
  | right hr h0 hg =>
    obtain ⟨h1, _, _⟩ := gate_of hg
    exact (hi.kept _ h1).2.2.2.1

theorem fands {x : Circ} {t : Tri} : t ∈ (hashed x).ands ↔ t ∈ (stOf x).K ∧ Rch (stOf x).K (told (mid x)) (var t.1) := by
  show t ∈ (stOf x).K.filter (wants x) ↔ _
  rw [List.mem_filter]
  unfold wants
  rw [tt_iff]
  exact Iff.rfl
theorem fOrd {x : Circ} (h : CheckOk x) : Ord (hashed x).ands := (kOrd h).filter _

/-- What hangs on it hangs on it without the rest. -/
theorem rch_less {x : Circ} (h : CheckOk x) {v : Int} (hv : Rch (stOf x).K (told (mid x)) v) : Rch (hashed x).ands (told (mid x)) v := by
  have key : ∀ {v : Int} {g : Tri}, Rch (stOf x).K (told (mid x)) v → gate (stOf x).K v = some g → gate (hashed x).ands v = some g := by
    intro v g hr hg
    obtain ⟨h1, _, h3⟩ := gate_of hg
    rw [← h3]
    exact gate_ord (fOrd h) (fands.2 ⟨h1, by rw [h3]; exact hr⟩)
  induction hv with
  | lit ht => exact .lit ht
  | left hr h0 hg ih => exact .left ih h0 (key hr hg)
  | right hr h0 hg ih => exact .right ih h0 (key hr hg)

theorem known_h {x : Circ} (h : CheckOk x) {l : Int} (h0 : 0 ≤ l) (hr : Rch (stOf x).K (told (mid x)) (var l)) : knownV (vsOf (hashed x)) l := by
  refine ⟨h0, ?_⟩
  rcases (rch_known h hr).2 with hb | ⟨k, hk, he⟩
  · rcases hb with hb | hb | hb
    · left; unfold var at hb; omega
    · right
      unfold vsOf ownL
      rw [List.map_append, List.map_append, List.mem_append, List.mem_append]
      exact Or.inl (Or.inl hb)
    · right
      unfold vsOf ownL
      rw [List.map_append, List.map_append, List.mem_append, List.mem_append]
      refine Or.inl (Or.inr ?_)
      have e : (hashed x).lats.map (·.1) = x.lats.map (·.1) := by
        show (x.lats.map fun t => (t.1, litS (stOf x).S t.2.1, t.2.2)).map (·.1) = _
        rw [List.map_map]; rfl
      rw [e]; exact hb
  · right
    unfold vsOf ownL
    rw [List.map_append, List.map_append, List.mem_append, List.mem_append]
    right
    refine List.mem_map.2 ⟨k.1, List.mem_map.2 ⟨k, fands.2 ⟨hk, by rw [he]; exact hr⟩, rfl⟩, he⟩

theorem countOf_mono {x y : Circ} (h1 : x.ins.length ≤ y.ins.length) (h2 : x.lats.length ≤ y.lats.length) (h3 : x.outs.length ≤ y.outs.length) (h4 : x.bads.length ≤ y.bads.length) (h5 : x.invs.length ≤ y.invs.length) (k : ByteArray) : countOf x k ≤ countOf y k := by
  unfold countOf
  split
  · exact h1
  · split
    · exact h2
    · split
      · exact h3
      · split
        · exact h4
        · exact h5
theorem names_mono {x y : Circ} (hn : x.names = y.names) (h : ∀ k, countOf x k ≤ countOf y k) (hx : NamesTo x x.names.length) : NamesTo y y.names.length := by
  obtain ⟨m, ins, lats, outs, bads, invs, ands, names⟩ := x
  obtain ⟨m', ins', lats', outs', bads', invs', ands', names'⟩ := y
  simp only at hn
  subst hn
  intro j hj hjk
  obtain ⟨⟨c, g1, g2, g3, g4, g5⟩, g6⟩ := hx j hj hjk
  exact ⟨⟨c, g1, g2, g3, Int.lt_of_lt_of_le g4 (Int.ofNat_le.2 (h (names[j]).1)), g5⟩, g6⟩

theorem hashed_ok {x : Circ} (h : CheckOk x) : CheckOk (hashed x) := by
  have hi := inv_of h
  have hlm : (hashed x).lats.map (·.1) = x.lats.map (·.1) := by
    show (x.lats.map fun t => (t.1, litS (stOf x).S t.2.1, t.2.2)).map (·.1) = _
    rw [List.map_map]; rfl
  have hl1 : (hashed x).lats.length = x.lats.length := by show (x.lats.map _).length = _; rw [List.length_map]
  have hl2 : (hashed x).outs.length = x.outs.length := by show (x.outs.map _).length = _; rw [List.length_map]
  have hl3 : (hashed x).bads.length = x.bads.length := by show (x.bads.map _).length = _; rw [List.length_map]
  have hl4 : (hashed x).invs.length = x.invs.length := by show (x.invs.map _).length = _; rw [List.length_map]
  have htold : ∀ m ∈ told x, knownV (vsOf (hashed x)) (litS (stOf x).S m) := fun m hm => by
    have h1 := lit_told hm
    exact known_h h (told_facts h h1).1 (.lit h1)
  obtain ⟨hf, ⟨hd, hr, hs⟩, hl, ha, ho, hb, hv, hn⟩ := h
  have h : CheckOk x := ⟨hf, ⟨hd, hr, hs⟩, hl, ha, ho, hb, hv, hn⟩
  obtain ⟨f0, f1, f2, f3, f4, f5, f6⟩ := hf
  refine ⟨⟨f0, f1, f2, by rw [hl1]; exact f3, by rw [hl2]; exact f4, by rw [hl3]; exact f5, by rw [hl4]; exact f6⟩, ⟨?_, ?_, ?_⟩, ?_, ?_, ?_, ?_, ?_, ?_⟩
  · have hsub : (ownL (hashed x)).Sublist (ownL x) := by
      unfold ownL
      rw [hlm]
      refine List.Sublist.append (List.Sublist.refl _) ?_
      show (((stOf x).K.filter (wants x)).map (·.1)).Sublist _
      exact ((List.filter_sublist).map _).trans hi.sub
    obtain ⟨g1, g2⟩ := ownOk_iff.1 hd
    exact ownOk_iff.2 ⟨fun m hm => g1 m (hsub.subset hm), List.Nodup.sublist (hsub.map var) g2⟩
  · intro t ht
    obtain ⟨t', ht', rfl⟩ := List.mem_map.1 ht
    exact hr t' ht'
  · intro j hj
    exact List.pairwise_iff_getElem.1 (fOrd h).rise j (j + 1) (by omega) hj (by omega)
  · intro t ht
    obtain ⟨t', ht', rfl⟩ := List.mem_map.1 ht
    exact htold t'.2.1 (by unfold told; simp only [List.mem_append]; exact Or.inl (Or.inl (Or.inl (List.mem_map.2 ⟨t', ht', rfl⟩))))
  · intro t ht
    obtain ⟨h1, h2⟩ := fands.1 ht
    obtain ⟨g1, g2, g3, g4, g5, g6⟩ := hi.kept t h1
    have hg := gate_ord (kOrd h) h1
    have h0 : var t.1 ≠ 0 := by have := g1.1; unfold var; omega
    exact ⟨known_h h g1.2.2.1 (.left h2 h0 hg), known_h h g1.2.2.2.2.1 (.right h2 h0 hg), g1.2.2.2.1, g1.2.2.2.2.2⟩
  · intro l hl'
    obtain ⟨m, hm, rfl⟩ := List.mem_map.1 hl'
    exact htold m (by unfold told; simp only [List.mem_append]; exact Or.inl (Or.inl (Or.inr hm)))
  · intro l hl'
    obtain ⟨m, hm, rfl⟩ := List.mem_map.1 hl'
    exact htold m (by unfold told; simp only [List.mem_append]; exact Or.inl (Or.inr hm))
  · intro l hl'
    obtain ⟨m, hm, rfl⟩ := List.mem_map.1 hl'
    exact htold m (by unfold told; simp only [List.mem_append]; exact Or.inr hm)
  · exact names_mono (x := x) (y := hashed x) rfl (fun k => countOf_mono (x := x) (y := hashed x) (Nat.le_refl _) (by rw [hl1]; exact Nat.le_refl _) (by rw [hl2]; exact Nat.le_refl _) (by rw [hl3]; exact Nat.le_refl _) (by rw [hl4]; exact Nat.le_refl _) k) hn

/-! ### Less, and again. -/
theorem f_plain {x : Circ} (h : CheckOk x) : ∀ t ∈ (hashed x).ands, plainL t.2.1 t.2.2 = none := fun t ht => ((inv_of h).kept t (fands.1 ht).1).2.2.2.2.1
theorem k_pairs {x : Circ} (h : CheckOk x) {a b : Tri} (ha : a ∈ (stOf x).K) (hb : b ∈ (stOf x).K) (e : pairS a.2.1 a.2.2 = pairS b.2.1 b.2.2) : a = b := by
  have h1 := ((inv_of h).kept a ha).2.2.2.2.2
  have h2 := ((inv_of h).kept b hb).2.2.2.2.2
  rw [e] at h1
  have e1 : some b.1 = some a.1 := h2.symm.trans h1
  simp only [Option.some.injEq] at e1
  exact ord_same (kOrd h) ha hb (by rw [e1])
theorem f_pairs {x : Circ} (h : CheckOk x) : (hashed x).ands.Pairwise fun a b => pairS a.2.1 a.2.2 ≠ pairS b.2.1 b.2.2 := by
  have hr := (fOrd h).rise
  refine hr.imp_of_mem fun {a b} ha hb hlt e => ?_
  have := k_pairs h (fands.1 ha).1 (fands.1 hb).1 e
  rw [this] at hlt
  omega
theorem f_few {x : Circ} (h : CheckOk x) : (hashed x).ands.length ≤ x.ands.length := by
  have h1 := (inv_of h).sub.length_le
  rw [List.length_map, List.length_map] at h1
  exact Nat.le_trans (List.length_filter_le _ _) h1

theorem fold_plain : ∀ (n : Nat) (A : List Tri), A.length = n → (∀ t ∈ A, plainL t.2.1 t.2.2 = none) → (A.Pairwise fun a b => pairS a.2.1 a.2.2 ≠ pairS b.2.1 b.2.2) →
    (foldG A).S = [] ∧ (foldG A).K = A ∧ ∀ p l, getI (foldG A).M p = some l → ∃ t ∈ A, pairS t.2.1 t.2.2 = p
  | 0, A, hn, _, _ => by
    have : A = [] := List.eq_nil_of_length_eq_zero hn
    subst this
    exact ⟨rfl, rfl, fun p l h => by cases h⟩
  | n + 1, A, hn, hp, hq => by
    obtain ⟨A', t, rfl⟩ : ∃ A' t, A = A' ++ [t] := by
      rcases List.eq_nil_or_concat A with rfl | ⟨A', t, h⟩
      · simp at hn
      · exact ⟨A', t, by rw [h, List.concat_eq_append]⟩
    rw [List.pairwise_append] at hq
    obtain ⟨g1, g2, g3⟩ := fold_plain n A' (by simp at hn; omega) (fun t' ht' => hp t' (List.mem_append_left _ ht')) hq.1
    have hl : ∀ l, litS (foldG A').S l = l := by
      intro l
      rw [g1]
      rfl
    have hm : getI (foldG A').M (pairS t.2.1 t.2.2) = none := by
      cases hg : getI (foldG A').M (pairS t.2.1 t.2.2) with
      | none => rfl
      | some l =>
        obtain ⟨t', ht', he⟩ := g3 _ _ hg
        exact absurd he (hq.2.2 t' ht' t (by simp))
    have hst : foldG (A' ++ [t]) = { foldG A' with M := (pairS t.2.1 t.2.2, t.1) :: (foldG A').M, K := (foldG A').K ++ [t] } := by
      rw [foldG_snoc]
      unfold gateS
      rw [hl, hl, hp t (by simp)]
      simp only
      rw [hm]
    rw [hst]
    refine ⟨g1, by simp only; rw [g2], ?_⟩
    intro p l hg
    simp only at hg
    by_cases e : pairS t.2.1 t.2.2 = p
    · exact ⟨t, by simp, e⟩
    · rw [getI_other _ _ e] at hg
      obtain ⟨t', ht', he⟩ := g3 p l hg
      exact ⟨t', List.mem_append_left _ ht', he⟩

theorem hashed_again {x : Circ} (h : CheckOk x) : hashed (hashed x) = hashed x := by
  obtain ⟨g1, g2, _⟩ := fold_plain _ (hashed x).ands rfl (f_plain h) (f_pairs h)
  have hS : (stOf (hashed x)).S = [] := g1
  have hK : (stOf (hashed x)).K = (hashed x).ands := g2
  have hl : ∀ l, litS (stOf (hashed x)).S l = l := by
    intro l; rw [hS]; rfl
  have hlf : litS (stOf (hashed x)).S = id := funext hl
  have hmid : mid (hashed x) = hashed x := by
    unfold mid
    rw [hlf, hK]
    have e1 : ((hashed x).lats.map fun t => (t.1, id t.2.1, t.2.2)) = (hashed x).lats := by
      have : (fun t : Tri => (t.1, id t.2.1, t.2.2)) = id := by funext t; rfl
      rw [this, List.map_id]
    rw [e1, List.map_id, List.map_id, List.map_id]
  unfold hashed
  rw [show mid { mid x with ands := (stOf x).K.filter (wants x) } = hashed x from hmid]
  have hK' : (stOf { mid x with ands := (stOf x).K.filter (wants x) }).K = (hashed x).ands := hK
  rw [hK']
  have hall : (hashed x).ands.filter (wants (hashed x)) = (hashed x).ands := by
    rw [List.filter_eq_self]
    intro t ht
    unfold wants
    rw [hmid]
    refine tt_pos ?_
    have htold : told (hashed x) = told (mid x) := rfl
    rw [htold]
    exact rch_less h (fands.1 ht).2
  rw [show ({ mid x with ands := (stOf x).K.filter (wants x) } : Circ) = hashed x from rfl, hall]

/-! ### Values. -/
def setV (V : Int → Bool) (u : Int) (b : Bool) : Int → Bool := fun k => if k = u then b else V k
def evalA (A : List Tri) (V : Int → Bool) : Int → Bool := A.foldl (fun V t => setV V (var t.1) (bitV V t.2.1 && bitV V t.2.2)) V
theorem evalA_snoc (A : List Tri) (t : Tri) (V : Int → Bool) : evalA (A ++ [t]) V = setV (evalA A V) (var t.1) (bitV (evalA A V) t.2.1 && bitV (evalA A V) t.2.2) := by unfold evalA; rw [List.foldl_append]; rfl
theorem bit_set {V : Int → Bool} {u : Int} {b : Bool} {l : Int} (h : var l ≠ u) : bitV (setV V u b) l = bitV V l := by unfold bitV setV; rw [if_neg h]

theorem eval_sat : ∀ (n : Nat) (A : List Tri), A.length = n → Ord A → ∀ V, Sat (evalA A V) A ∧ ∀ u, (∀ t ∈ A, var t.1 ≠ u) → evalA A V u = V u
  | 0, A, hn, _, V => by
    have : A = [] := List.eq_nil_of_length_eq_zero hn
    subst this
    exact ⟨fun t h => (by cases h), fun u _ => rfl⟩
  | n + 1, A, hn, ho, V => by
    obtain ⟨A', t, rfl⟩ : ∃ A' t, A = A' ++ [t] := by
      rcases List.eq_nil_or_concat A with rfl | ⟨A', t, h⟩
      · simp at hn
      · exact ⟨A', t, by rw [h, List.concat_eq_append]⟩
    have hrise := List.pairwise_append.1 ho.rise
    have hft := ho.fine t (by simp)
    have hA : ∀ t' ∈ A', Fine t' := fun t' ht' => ho.fine t' (List.mem_append_left _ ht')
    obtain ⟨h1, h2⟩ := eval_sat n A' (by simp at hn; omega) ⟨hrise.1, hA⟩ V
    have hlt : ∀ t' ∈ A', var t'.1 < var t.1 := fun t' ht' => var_lt hft (by have := (hA t' ht').1; omega) (hrise.2.2 t' ht' t (by simp))
    have hvl : var t.2.1 < var t.1 := var_lt hft hft.2.2.1 hft.2.2.2.1
    have hvr : var t.2.2 < var t.1 := var_lt hft hft.2.2.2.2.1 hft.2.2.2.2.2
    rw [evalA_snoc]
    refine ⟨fun t' ht' => ?_, fun u hu => ?_⟩
    · rcases List.mem_append.1 ht' with h | h
      · have hf := hA t' h
        have hv := hlt t' h
        have hv1 := var_lt hf hf.2.2.1 hf.2.2.2.1
        have hv2 := var_lt hf hf.2.2.2.2.1 hf.2.2.2.2.2
        rw [bit_set (by omega), bit_set (by omega)]
        have e : setV (evalA A' V) (var t.1) (bitV (evalA A' V) t.2.1 && bitV (evalA A' V) t.2.2) (var t'.1) = evalA A' V (var t'.1) := by unfold setV; rw [if_neg (by omega)]
        rw [e]
        exact h1 t' h
      · rw [List.mem_singleton] at h
        subst h
        rw [bit_set (by omega), bit_set (by omega)]
        unfold setV
        rw [if_pos rfl]
    · unfold setV
      rw [if_neg (fun e => hu t (by simp) e.symm)]
      exact h2 u fun t' ht' => hu t' (List.mem_append_left _ ht')

theorem sem_rch {x : Circ} (h : CheckOk x) {V0 : Int → Bool} (h0 : V0 0 = false) : ∀ (n : Nat) (v : Int), v.toNat = n → 0 ≤ v → Rch (stOf x).K (told (mid x)) v → evalA (hashed x).ands V0 v = evalA x.ands V0 v := by
  intro n
  induction n using Nat.strongRecOn with
  | _ n ih =>
    intro v hn hv hr
    obtain ⟨s1, s2⟩ := eval_sat _ x.ands rfl (ord_of h) V0
    obtain ⟨t1, t2⟩ := eval_sat _ (hashed x).ands rfl (fOrd h) V0
    have hV0 : evalA x.ands V0 0 = false := by
      rw [s2 0 (fun t ht => by have := ((ord_of h).fine t ht).1; unfold var; omega)]; exact h0
    have hi := inv_of h
    obtain ⟨hnone, hb⟩ := rch_known h hr
    by_cases hk : ∃ k ∈ (stOf x).K, var k.1 = v
    · obtain ⟨k, hk, rfl⟩ := hk
      have hkf := fands.2 ⟨hk, hr⟩
      have hfk := (hi.kept k hk).1
      have hg := gate_ord (kOrd h) hk
      have hne : var k.1 ≠ 0 := by have := hfk.1; unfold var; omega
      have e1 := t1 k hkf
      have e2 := (hi.sem _ hV0 s1).2 k hk
      have hv1 := var_lt hfk hfk.2.2.1 hfk.2.2.2.1
      have hv2 := var_lt hfk hfk.2.2.2.2.1 hfk.2.2.2.2.2
      have p1 : 0 ≤ var k.2.1 := by unfold var; omega
      have p2 : 0 ≤ var k.2.2 := by unfold var; omega
      have i1 := ih (var k.2.1).toNat (by omega) _ rfl p1 (.left hr hne hg)
      have i2 := ih (var k.2.2).toNat (by omega) _ rfl p2 (.right hr hne hg)
      rw [e1, e2]
      unfold bitV
      rw [i1, i2]
    · rw [t2 v (fun t ht e => hk ⟨t, (fands.1 ht).1, e⟩), s2 v (fun t ht e => ?_)]
      rcases hi.all t ht with ⟨s, hs⟩ | ⟨k, hkk, he⟩
      · rw [e] at hs
        have : getI (stOf x).S v = some s := hs
        rw [hnone] at this; cases this
      · exact hk ⟨k, hkk, by rw [he, e]⟩

/-- What is told is the same. -/
theorem sem_told {x : Circ} (h : CheckOk x) {V0 : Int → Bool} (h0 : V0 0 = false) {m : Int} (hm : m ∈ told x) : bitV (evalA (hashed x).ands V0) (litS (stOf x).S m) = bitV (evalA x.ands V0) m := by
  obtain ⟨s1, s2⟩ := eval_sat _ x.ands rfl (ord_of h) V0
  have hV0 : evalA x.ands V0 0 = false := by
    rw [s2 0 (fun t ht => by have := ((ord_of h).fine t ht).1; unfold var; omega)]; exact h0
  have hl := lit_told hm
  have hr : Rch (stOf x).K (told (mid x)) (var (litS (stOf x).S m)) := .lit hl
  have e := sem_rch h h0 _ _ rfl (by unfold var; omega) hr
  rw [← lit_sem (inv_of h) hV0 s1 m]
  show bitV _ (litS (stOf x).S m) = bitV _ (litS (stOf x).S m)
  unfold bitV
  rw [e]

/-! ### Twice. -/
/-- A circuit with one and more, its literals the other way round, and one output more. -/
def more (x : Circ) (a : Tri) (o : Int) : Circ := { x with max := x.max + 1, ands := x.ands ++ [(2 * (x.max + 1), a.2.2, a.2.1)], outs := x.outs ++ [o] }

theorem more_ok {x : Circ} (h : CheckOk x) {a : Tri} (ha : a ∈ x.ands) (hm : x.max ≤ 1000) (ho : x.outs.length + 1 ≤ 64) {o : Int} (hoo : o = a.1 ∨ o = 2 * (x.max + 1)) : CheckOk (more x a o) := by
  have hord := ord_of h
  obtain ⟨hf, ⟨hd, hr, hs⟩, hl, hand, hout, hb, hv, hn⟩ := h
  obtain ⟨f0, f1, f2, f3, f4, f5, f6⟩ := hf
  obtain ⟨d1, d2⟩ := ownOk_iff.1 hd
  have hown : ownL (more x a o) = ownL x ++ [2 * (x.max + 1)] := by unfold ownL more; simp
  have hvs : vsOf (more x a o) = vsOf x ++ [x.max + 1] := by
    unfold vsOf
    rw [hown, List.map_append]
    have : var (2 * (x.max + 1)) = x.max + 1 := by unfold var; omega
    simp [this]
  have hk : ∀ l, knownV (vsOf x) l → knownV (vsOf (more x a o)) l := fun l hl => ⟨hl.1, hl.2.imp id fun h => by rw [hvs]; exact List.mem_append_left _ h⟩
  have hmax : ∀ t ∈ x.ands, t.1 < 2 * (x.max + 1) := fun t ht => by
    have := (d1 t.1 (by unfold ownL; exact List.mem_append_right _ (List.mem_map.2 ⟨t, ht, rfl⟩))).2.2
    unfold var at this; omega
  obtain ⟨ka1, ka2, ka3, ka4⟩ := hand a ha
  have hma := hmax a ha
  refine ⟨⟨by show 0 ≤ x.max + 1; omega, by show x.max + 1 ≤ 2048; omega, f2, f3, by show (x.outs ++ [o]).length ≤ 64; simp; omega, f5, f6⟩, ⟨?_, hr, ?_⟩, fun t ht => hk _ (hl t ht), ?_, ?_, fun l hl' => hk _ (hb l hl'), fun l hl' => hk _ (hv l hl'), ?_⟩
  · rw [hown]
    refine ownOk_iff.2 ⟨fun m hmm => ?_, ?_⟩
    · rcases List.mem_append.1 hmm with h1 | h1
      · obtain ⟨g1, g2, g3⟩ := d1 m h1
        exact ⟨g1, g2, by show var m ≤ x.max + 1; omega⟩
      · rw [List.mem_singleton] at h1
        subst h1
        refine ⟨by omega, ?_, by show var (2 * (x.max + 1)) ≤ x.max + 1; unfold var; omega⟩
        unfold neg
        rw [if_neg (by omega)]
        simp
    · rw [List.map_append, List.nodup_append]
      refine ⟨d2, by simp, fun u hu v hv' e => ?_⟩
      subst e
      simp only [List.map_cons, List.map_nil, List.mem_singleton] at hv'
      obtain ⟨m, hmm, rfl⟩ := List.mem_map.1 hu
      have := (d1 m hmm).2.2
      unfold var at *
      omega
  · intro j hj
    have hj' : j + 1 < (x.ands ++ [(2 * (x.max + 1), a.2.2, a.2.1)]).length := hj
    rw [List.length_append, List.length_singleton] at hj'
    show ((x.ands ++ [(2 * (x.max + 1), a.2.2, a.2.1)])[j]'(by simp; omega)).1 < ((x.ands ++ [(2 * (x.max + 1), a.2.2, a.2.1)])[j + 1]'(by simp; omega)).1
    by_cases he : j + 1 < x.ands.length
    · rw [List.getElem_append_left he, List.getElem_append_left (by omega)]
      exact hs j he
    · rw [List.getElem_append_left (by omega), List.getElem_append_right (by omega)]
      simp only [List.getElem_singleton]
      exact hmax _ (List.getElem_mem _)
  · intro t ht
    rcases List.mem_append.1 ht with h1 | h1
    · obtain ⟨g1, g2, g3, g4⟩ := hand t h1
      exact ⟨hk _ g1, hk _ g2, g3, g4⟩
    · rw [List.mem_singleton] at h1
      subst h1
      exact ⟨hk _ ka2, hk _ ka1, by show a.2.2 < 2 * (x.max + 1); omega, by show a.2.1 < 2 * (x.max + 1); omega⟩
  · intro l hl'
    rcases List.mem_append.1 hl' with h1 | h1
    · exact hk _ (hout l h1)
    · rw [List.mem_singleton] at h1
      subst h1
      rcases hoo with rfl | rfl
      · refine hk _ ⟨by have := (hord.fine a ha).1; omega, Or.inr ?_⟩
        unfold vsOf ownL
        rw [List.map_append, List.mem_append]
        exact Or.inr (List.mem_map.2 ⟨a.1, List.mem_map.2 ⟨a, ha, rfl⟩, rfl⟩)
      · refine ⟨by omega, Or.inr ?_⟩
        rw [hvs]
        have : var (2 * (x.max + 1)) = x.max + 1 := by unfold var; omega
        rw [this]; simp
  · exact names_mono (x := x) (y := more x a o) rfl (fun k => countOf_mono (x := x) (y := more x a o) (Nat.le_refl _) (Nat.le_refl _) (by show x.outs.length ≤ (x.outs ++ [o]).length; simp) (Nat.le_refl _) (Nat.le_refl _) k) hn

theorem twice {x : Circ} (h : CheckOk x) {a : Tri} (ha : a ∈ x.ands) (hm : x.max ≤ 1000) (ho : x.outs.length + 1 ≤ 64) : hashed (more x a a.1) = hashed (more x a (2 * (x.max + 1))) := by
  have hok := more_ok h ha hm ho (o := a.1) (Or.inl rfl)
  have hi := inv_of hok
  have hst : stOf (more x a (2 * (x.max + 1))) = stOf (more x a a.1) := rfl
  have hfine := (ord_of hok).fine
  have e1 := hi.at' a (List.mem_append_left _ ha)
  have e2 := hi.at' (2 * (x.max + 1), a.2.2, a.2.1) (List.mem_append_right _ (List.mem_singleton.2 rfl))
  have hkn := hok.2.2.2.1 a (List.mem_append_left _ ha)
  have hl := (lit_facts hi hkn.1.1 (known_base hkn.1).2 hfine).1
  have hr := (lit_facts hi hkn.2.1.1 (known_base hkn.2.1).2 hfine).1
  have hlit : litS (stOf (more x a a.1)).S a.1 = litS (stOf (more x a a.1)).S (2 * (x.max + 1)) := by
    have hc := plain_comm hl hr
    cases hp : plainL (litS (foldG (more x a a.1).ands).S a.2.1) (litS (foldG (more x a a.1).ands).S a.2.2) with
    | some r =>
      have h1 := e1.1 r hp
      have h2 := e2.1 r (by show plainL (litS (foldG (more x a a.1).ands).S a.2.2) (litS (foldG (more x a a.1).ands).S a.2.1) = some r; rw [← hc]; exact hp)
      exact h1.trans h2.symm
    | none =>
      have h1 := e1.2 hp
      have h2 := e2.2 (by show plainL (litS (foldG (more x a a.1).ands).S a.2.2) (litS (foldG (more x a a.1).ands).S a.2.1) = none; rw [← hc]; exact hp)
      have h2' : getI (foldG (more x a a.1).ands).M (pairS (litS (foldG (more x a a.1).ands).S a.2.2) (litS (foldG (more x a a.1).ands).S a.2.1)) = some (litS (foldG (more x a a.1).ands).S (2 * (x.max + 1))) := h2
      rw [pair_comm] at h2'
      have h3 := h1.symm.trans h2'
      simp only [Option.some.injEq] at h3
      exact h3
  have hmid : mid (more x a a.1) = mid (more x a (2 * (x.max + 1))) := by
    unfold mid
    rw [hst]
    have : (more x a a.1).outs.map (litS (stOf (more x a a.1)).S) = (more x a (2 * (x.max + 1))).outs.map (litS (stOf (more x a a.1)).S) := by
      show (x.outs ++ [a.1]).map _ = (x.outs ++ [2 * (x.max + 1)]).map _
      rw [List.map_append, List.map_append]
      congr 1
      simp only [List.map_cons, List.map_nil]
      rw [hlit]
    rw [this]
    rfl
  unfold hashed
  have hw : wants (more x a a.1) = wants (more x a (2 * (x.max + 1))) := by
    funext t
    unfold wants
    rw [hmid]
  rw [hw, hst, hmid]
end StrashP
end Go.Proofs.YtninglnchengeaaGreatDoor

/-
  Plain: what a Bad hangs on: what counts; the circuit of that alone may be, and stays when it is reduced again.
-/
namespace Go.Proofs.YtninglnchengeaaGreatDoor
open Go.RowKit Base
set_option linter.unusedVariables false
set_option linter.unusedSimpArgs false
namespace Coi
open Circuit

/-- What counts, of a circuit and literals. -/
inductive NR (x : Circ) (l : List Int) : Int → Prop
  | lit {t : Int} : t ∈ l → NR x l (var t)
  | left {v : Int} {g : Tri} : NR x l v → v ≠ 0 → gate x.ands v = some g → NR x l (var g.2.1)
  | right {v : Int} {g : Tri} : NR x l v → v ≠ 0 → gate x.ands v = some g → NR x l (var g.2.2)
  | next {t : Tri} : NR x l (var t.1) → var t.1 ≠ 0 → t ∈ x.lats → NR x l (var t.2.1)

theorem nr_of_rch {x : Circ} {l L : List Int} (hL : ∀ t ∈ L, NR x l (var t)) {v : Int} (h : Rch x.ands L v) : NR x l v := by
  induction h with
  | lit ht => exact hL _ ht
  | left _ h0 hg ih => exact .left ih h0 hg
  | right _ h0 hg ih => exact .right ih h0 hg

structure CInv (x : Circ) (l X : List Int) : Prop where
  nodup : X.Nodup
  sound : ∀ v ∈ X, v ≠ 0 ∧ NR x l v
  lits : ∀ t ∈ l, var t = 0 ∨ var t ∈ X
  gates : ∀ v ∈ X, ∀ g, gate x.ands v = some g → (var g.2.1 = 0 ∨ var g.2.1 ∈ X) ∧ (var g.2.2 = 0 ∨ var g.2.2 ∈ X)

/-- X2 is X and what L hangs on. -/
def Adds (x : Circ) (L X X2 : List Int) : Prop := X2.Nodup ∧ ∀ v, v ∈ X2 ↔ v ∈ X ∨ (v ≠ 0 ∧ Rch x.ands L v)

theorem adds_gates {x : Circ} {L X X2 : List Int} (h : Adds x L X X2) (hg : ∀ v ∈ X, ∀ g, gate x.ands v = some g → (var g.2.1 = 0 ∨ var g.2.1 ∈ X) ∧ (var g.2.2 = 0 ∨ var g.2.2 ∈ X)) :
    ∀ v ∈ X2, ∀ g, gate x.ands v = some g → (var g.2.1 = 0 ∨ var g.2.1 ∈ X2) ∧ (var g.2.2 = 0 ∨ var g.2.2 ∈ X2) := by
  intro v hv g hgv
  rcases (h.2 v).1 hv with h1 | ⟨h0, h1⟩
  · obtain ⟨a, b⟩ := hg v h1 g hgv
    exact ⟨a.imp id fun h2 => (h.2 _).2 (Or.inl h2), b.imp id fun h2 => (h.2 _).2 (Or.inl h2)⟩
  · constructor
    · by_cases e : var g.2.1 = 0
      · exact Or.inl e
      · exact Or.inr ((h.2 _).2 (Or.inr ⟨e, .left h1 h0 hgv⟩))
    · by_cases e : var g.2.2 = 0
      · exact Or.inl e
      · exact Or.inr ((h.2 _).2 (Or.inr ⟨e, .right h1 h0 hgv⟩))

theorem cinv_start {x : Circ} {l X2 : List Int} (h : Adds x l [] X2) : CInv x l X2 :=
  ⟨h.1, fun v hv => by
    rcases (h.2 v).1 hv with h1 | ⟨h0, h1⟩
    · simp at h1
    · exact ⟨h0, nr_of_rch (fun t ht => .lit ht) h1⟩, fun t ht => by
    by_cases e : var t = 0
    · exact Or.inl e
    · exact Or.inr ((h.2 _).2 (Or.inr ⟨e, .lit ht⟩)), adds_gates h (fun v hv => by simp at hv)⟩
theorem cinv_next {x : Circ} {l X X2 : List Int} (hi : CInv x l X) {t : Tri} (ht : t ∈ x.lats) (hm : var t.1 ∈ X) (h : Adds x [t.2.1] X X2) : CInv x l X2 :=
  ⟨h.1, fun v hv => by
    rcases (h.2 v).1 hv with h1 | ⟨h0, h1⟩
    · exact hi.sound v h1
    · refine ⟨h0, nr_of_rch (fun u hu => ?_) h1⟩
      rw [List.mem_singleton.1 hu]
      exact .next (hi.sound _ hm).2 (hi.sound _ hm).1 ht, fun u hu => (hi.lits u hu).imp id fun h2 => (h.2 _).2 (Or.inl h2), adds_gates h hi.gates⟩
/-- Nothing is new of a latch that is met. -/
def Shut (x : Circ) (X : List Int) (t : Tri) : Prop := var t.1 ∈ X → ∀ v, v ≠ 0 → Rch x.ands [t.2.1] v → v ∈ X
theorem cinv_end {x : Circ} {l X : List Int} (h : CInv x l X) (hs : ∀ t ∈ x.lats, Shut x X t) (v : Int) : v ∈ X ↔ v ≠ 0 ∧ NR x l v := by
  refine ⟨h.sound v, fun hh => ?_⟩
  obtain ⟨h0, hn⟩ := hh
  induction hn with
  | lit ht => exact (h.lits _ ht).resolve_left h0
  | left _ hv hg ih => exact ((h.gates _ (ih hv) _ hg).1).resolve_left h0
  | right _ hv hg ih => exact ((h.gates _ (ih hv) _ hg).2).resolve_left h0
  | next _ hv ht ih => exact hs _ ht (ih hv) _ h0 (.lit (List.mem_singleton.2 rfl))
def uni (x : Circ) (l : List Int) : List Int := l.map var ++ x.ands.map (fun t => var t.2.1) ++ x.ands.map (fun t => var t.2.2) ++ x.lats.map (fun t => var t.2.1)
theorem nr_uni {x : Circ} {l : List Int} {v : Int} (h : NR x l v) : v ∈ uni x l := by
  unfold uni
  simp only [List.mem_append, List.mem_map]
  cases h with
  | lit ht => exact Or.inl (Or.inl (Or.inl ⟨_, ht, rfl⟩))
  | left _ _ hg => exact Or.inl (Or.inl (Or.inr ⟨_, gate_mem hg, rfl⟩))
  | right _ _ hg => exact Or.inl (Or.inr ⟨_, gate_mem hg, rfl⟩)
  | next _ _ ht => exact Or.inr ⟨_, ht, rfl⟩
theorem cinv_few {x : Circ} {l X : List Int} (h : CInv x l X) : X.length ≤ l.length + 2 * x.ands.length + x.lats.length := by
  have := nodup_len h.nodup (C := uni x l) (fun v hv => nr_uni (h.sound v hv).2)
  unfold uni at this
  simp only [List.length_append, List.length_map] at this
  omega

/-! ### The circuit of that alone. -/
noncomputable def cnt (x : Circ) (l : List Int) (m : Int) : Bool := tt (var m ≠ 0 ∧ NR x l (var m))
noncomputable def reduced (x : Circ) (l : List Int) (b : Int) : Circ :=
  { max := x.max, ins := x.ins.filter (cnt x l), lats := x.lats.filter (fun t => cnt x l t.1), outs := [], bads := [b], invs := x.invs, ands := x.ands.filter (fun t => cnt x l t.1), names := [] }

theorem tt_iff {p : Prop} : tt p = true ↔ p := by
  constructor
  · intro h
    exact Classical.byContradiction fun hn => by rw [tt_neg hn] at h; cases h
  · exact tt_pos
theorem cnt_iff {x : Circ} {l : List Int} {m : Int} : cnt x l m = true ↔ var m ≠ 0 ∧ NR x l (var m) := tt_iff
theorem cnt_congr {x : Circ} {l : List Int} {m k : Int} (h : var m = var k) : cnt x l m = cnt x l k := by unfold cnt; rw [h]

theorem gate_red {x : Circ} {l : List Int} {b v : Int} (h0 : v ≠ 0) (hn : NR x l v) : gate (reduced x l b).ands v = gate x.ands v := by
  show gate (x.ands.filter _) v = _
  unfold gate
  rw [List.find?_filter]
  congr 1
  funext t
  by_cases e : var t.1 = v
  · have : cnt x l t.1 = true := cnt_iff.2 (by rw [e]; exact ⟨h0, hn⟩)
    simp [this]
  · simp [e]
theorem nr_red {x : Circ} {l : List Int} {b : Int} {v : Int} : NR (reduced x l b) l v ↔ NR x l v := by
  constructor
  · intro h
    induction h with
    | lit ht => exact .lit ht
    | left _ h0 hg ih => exact .left ih h0 (by rw [← gate_red h0 ih]; exact hg)
    | right _ h0 hg ih => exact .right ih h0 (by rw [← gate_red h0 ih]; exact hg)
    | next _ h0 ht ih => exact .next ih h0 (List.mem_filter.1 ht).1
  · intro h
    induction h with
    | lit ht => exact .lit ht
    | left hv h0 hg ih => exact .left ih h0 (by rw [gate_red h0 hv]; exact hg)
    | right hv h0 hg ih => exact .right ih h0 (by rw [gate_red h0 hv]; exact hg)
    | next hv h0 ht ih => exact .next ih h0 (List.mem_filter.2 ⟨ht, cnt_iff.2 ⟨h0, hv⟩⟩)
theorem cnt_red (x : Circ) (l : List Int) (b m : Int) : cnt (reduced x l b) l m = cnt x l m := by
  rw [Bool.eq_iff_iff, cnt_iff, cnt_iff, nr_red]
theorem red_again (x : Circ) (l : List Int) (b : Int) : reduced (reduced x l b) l b = reduced x l b := by
  have e1 : cnt (reduced x l b) l = cnt x l := funext (cnt_red x l b)
  have h1 : (reduced (reduced x l b) l b).ins = (reduced x l b).ins := by
    show (x.ins.filter (cnt x l)).filter (cnt (reduced x l b) l) = _
    rw [e1, List.filter_filter]
    simp only [Bool.and_self]
    rfl
  have h2 : (reduced (reduced x l b) l b).lats = (reduced x l b).lats := by
    show (x.lats.filter _).filter (fun t => cnt (reduced x l b) l t.1) = _
    rw [e1, List.filter_filter]
    simp only [Bool.and_self]
    rfl
  have h3 : (reduced (reduced x l b) l b).ands = (reduced x l b).ands := by
    show (x.ands.filter _).filter (fun t => cnt (reduced x l b) l t.1) = _
    rw [e1, List.filter_filter]
    simp only [Bool.and_self]
    rfl
  have : reduced (reduced x l b) l b = { reduced x l b with ins := (reduced (reduced x l b) l b).ins, lats := (reduced (reduced x l b) l b).lats, ands := (reduced (reduced x l b) l b).ands } := rfl
  rw [this, h1, h2, h3]

theorem own_red {x : Circ} {l : List Int} {b : Int} : (ownL (reduced x l b)) = (ownL x).filter (cnt x l) := by
  unfold ownL
  rw [List.filter_append, List.filter_append, List.filter_map, List.filter_map]
  rfl
theorem known_red {x : Circ} {l : List Int} {b m : Int} (hk : knownV (vsOf x) m) (hn : NR x l (var m)) : knownV (vsOf (reduced x l b)) m := by
  obtain ⟨h0, h1⟩ := hk
  refine ⟨h0, ?_⟩
  by_cases hv : var m = 0
  · left; unfold var at hv; omega
  · rcases h1 with h1 | h1
    · exact Or.inl h1
    · right
      unfold vsOf at h1 ⊢
      obtain ⟨u, hu, he⟩ := List.mem_map.1 h1
      refine List.mem_map.2 ⟨u, ?_, he⟩
      rw [own_red]
      exact List.mem_filter.2 ⟨hu, cnt_iff.2 (by rw [he]; exact ⟨hv, hn⟩)⟩
theorem red_ok {x : Circ} (h : CheckOk x) {l : List Int} {b : Int} (hb : b ∈ x.bads) (hbl : b ∈ l) (hi : ∀ m ∈ x.invs, m ∈ l) : CheckOk (reduced x l b) := by
  have hord := StrashP.ord_of h
  obtain ⟨⟨f0, f1, f2, f3, f4, f5, f6⟩, ⟨hd, hr, hs⟩, hl, ha, ho, hbk, hv, hn⟩ := h
  obtain ⟨d1, d2⟩ := StrashP.ownOk_iff.1 hd
  have hg : ∀ t ∈ x.ands, gate x.ands (var t.1) = some t := fun t ht => StrashP.gate_ord hord ht
  have fl : ∀ {α : Type} (p : α → Bool) (l : List α), (l.filter p).length ≤ l.length := fun p l => List.length_filter_le p l
  refine ⟨⟨f0, f1, Nat.le_trans (fl _ _) f2, Nat.le_trans (fl _ _) f3, by show ([] : List Int).length ≤ 64; simp, by show [b].length ≤ 64; simp, f6⟩, ⟨?_, ?_, ?_⟩, ?_, ?_, ?_, ?_, ?_, ?_⟩
  · rw [own_red]
    refine StrashP.ownOk_iff.2 ⟨fun m hm => d1 m (List.mem_filter.1 hm).1, ?_⟩
    exact List.Sublist.nodup (List.Sublist.map var (List.filter_sublist (l := ownL x))) d2
  · exact fun t ht => hr t (List.mem_filter.1 ht).1
  · intro j hj
    have hp : ((x.ands.filter fun t => cnt x l t.1)).Pairwise fun a b => a.1 < b.1 := List.Pairwise.sublist (List.filter_sublist (l := x.ands)) hord.rise
    exact (List.pairwise_iff_getElem.1 hp) j (j + 1) (Nat.lt_of_succ_lt hj) hj (Nat.lt_succ_self j)
  · intro t ht
    obtain ⟨h1, h2⟩ := List.mem_filter.1 ht
    exact known_red (hl t h1) (.next (cnt_iff.1 h2).2 (cnt_iff.1 h2).1 h1)
  · intro t ht
    obtain ⟨h1, h2⟩ := List.mem_filter.1 ht
    obtain ⟨g1, g2, g3, g4⟩ := ha t h1
    exact ⟨known_red g1 (.left (cnt_iff.1 h2).2 (cnt_iff.1 h2).1 (hg t h1)), known_red g2 (.right (cnt_iff.1 h2).2 (cnt_iff.1 h2).1 (hg t h1)), g3, g4⟩
  · intro m hm; cases hm
  · intro m hm
    rw [List.mem_singleton.1 hm]
    exact known_red (hbk b hb) (.lit hbl)
  · exact fun m hm => known_red (hv m hm) (.lit (hi m hm))
  · intro j hj
    exact absurd hj (by show ¬ j < ([] : List (ByteArray × Int × ByteArray)).length; simp)
end Coi
end Go.Proofs.YtninglnchengeaaGreatDoor

/-
  coi.needs in memory: a map[int]bool of the call's own: looked up, stored into, counted.
-/
namespace Go.Proofs.YtninglnchengeaaGreatDoor
open Go.RowKit Base Go.Maps
set_option linter.unusedVariables false
set_option linter.unusedSimpArgs false
namespace Coi
open Circuit SetI

def ins (X : List Int) (y : Int) : List Int := if inX X y = true then X else X ++ [y]
theorem ins_nodup {X : List Int} (h : X.Nodup) (y : Int) : (ins X y).Nodup := by
  unfold ins
  split
  · exact h
  · rename_i hy
    rw [List.nodup_append]
    exact ⟨h, by simp, fun a ha b hb e => by rw [List.mem_singleton] at hb; subst hb; exact hy (inX_iff.2 (e ▸ ha))⟩
theorem ins_mem {X : List Int} {y v : Int} : v ∈ ins X y ↔ v ∈ X ∨ v = y := by
  unfold ins
  split
  · rename_i hy
    constructor
    · exact Or.inl
    · rintro (h | rfl)
      · exact h
      · exact inX_iff.1 hy
  · simp

theorem keys_old {D : DataW Unit} {X : List Int} (h : KeysAre D X) (hn : X.Nodup) {y : Int} (hy : y ∈ X) (d : DataW Unit) : KeysAre (D.put (.int .i64 y) d) X := by
  obtain ⟨es, rfl, hk, hp⟩ := h
  have hkk : ∀ p ∈ es, ∃ x, p.1 = .int .i64 x := hk
  have hf : ∀ (l : List (Lit × DataW Unit)), (∀ p ∈ l, ∃ x, p.1 = .int .i64 x) → ((l.filter fun p => !p.1.sameKey (.int .i64 y)).map fun p => Go.intOf p.1) = (l.map fun p => Go.intOf p.1).filter (fun x => decide (x ≠ y)) := by
    intro l hl
    induction l with
    | nil => rfl
    | cons p r ih =>
      obtain ⟨x, hx⟩ := hl p List.mem_cons_self
      have ihr := ih fun q hq => hl q (List.mem_cons_of_mem _ hq)
      have hi : Go.intOf p.1 = x := by rw [hx]; rfl
      rw [List.filter_cons, List.map_cons, List.filter_cons, hi, hx]
      by_cases e : x = y
      · subst e
        have h1 : (!(Lit.int .i64 x).sameKey (.int .i64 x)) = false := by simp [Lit.sameKey]
        rw [h1, if_neg (by simp), if_neg (by simp)]
        exact ihr
      · have h1 : (!(Lit.int .i64 x).sameKey (.int .i64 y)) = true := by simp [Lit.sameKey, e]
        rw [h1, if_pos rfl, if_pos (by simpa using e), List.map_cons, hi, ihr]
  unfold DataW.put
  refine ⟨_, rfl, fun p hpm => ?_, ?_⟩
  · have := (insert_perm _ _).subset hpm
    rw [List.mem_cons] at this
    rcases this with rfl | hm
    · exact ⟨y, rfl⟩
    · exact hk p (List.mem_filter.1 hm).1
  · have h1 : (Go.intKeys (.map (DataW.insert (.int .i64 y, d) (es.filter fun p => !p.1.sameKey (.int .i64 y))))).Perm (y :: Go.intKeys (.map (es.filter fun p => !p.1.sameKey (.int .i64 y)))) := by
      unfold Go.intKeys
      exact (insert_perm (.int .i64 y, d) _).map _
    refine h1.trans ?_
    have hf' : Go.intKeys (.map (es.filter fun p => !p.1.sameKey (.int .i64 y))) = (Go.intKeys (.map es)).filter fun x => decide (x ≠ y) := hf es hk
    rw [hf']
    have h2 : ((Go.intKeys (.map es)).filter fun x => decide (x ≠ y)).Perm (X.filter fun x => decide (x ≠ y)) := hp.filter _
    refine (List.Perm.cons y h2).trans ?_
    have h3 : X.filter (fun x => decide (x ≠ y)) = X.erase y := by
      rw [hn.erase_eq_filter]
      congr 1
      funext x
      by_cases e : x = y <;> simp [e]
    rw [h3]
    exact (List.perm_cons_erase hy).symm

theorem set_ins {D : DataW Unit} {X : List Int} (hm : IsMap D) (hat : ∀ x, SetI.I64 x → D.atKey (.int .i64 x) (.lit (.bool false)) = .lit (.bool (inX X x))) (hk : KeysAre D X) (hn : X.Nodup) (y : Int) :
    IsMap (D.put (.int .i64 y) (.lit (.bool true))) ∧ (∀ x, SetI.I64 x → (D.put (.int .i64 y) (.lit (.bool true))).atKey (.int .i64 x) (.lit (.bool false)) = .lit (.bool (inX (ins X y) x))) ∧ KeysAre (D.put (.int .i64 y) (.lit (.bool true))) (ins X y) := by
  obtain ⟨h1, h2⟩ := set_put hm hat y
  unfold ins
  by_cases hy : inX X y = true
  · rw [if_pos hy]
    refine ⟨h1, fun x hx => ?_, keys_old hk hn (inX_iff.1 hy) _⟩
    rw [h2 x hx]
    congr 2
    rw [Bool.eq_iff_iff, inX_iff, inX_iff, List.mem_append, List.mem_singleton]
    constructor
    · rintro (h | rfl)
      · exact h
      · exact inX_iff.1 hy
    · exact Or.inl
  · rw [if_neg hy]
    exact ⟨h1, h2, keys_put hk (fun h => hy (inX_iff.2 h)) _⟩

theorem look (w : World) {b n : Nat} {X : List Int} (h : SetK w b n X) {x : Int} (hx : SetI.I64 x) :
    (Instr.lookup 66 (.map (some b)) (.int .i64 x) false).run Tryz.prog w = .ok (.bool (inX X x)) w := by
  obtain ⟨D, ho, _, hat, _⟩ := h
  obtain ⟨v, ps, hrun, hv⟩ := ho.lookup law Tryz.underlying66 (zeroE w) (plainElem_bool Tryz.underlying4 false) (keyOf_int_mk Tryz.underlying3 (wf_lit hx))
  obtain ⟨y, rfl, hz⟩ := bool_inv Tryz.underlying4 hv
  simp only [Prod.mk.injEq] at hz
  have := hz.1.symm.trans (hat x hx)
  simp only [DataW.lit.injEq, Lit.bool.injEq] at this
  rw [hrun, this]
theorem store {w : World} {b n : Nat} {X : List Int} (h : SetK w b n X) (hnd : X.Nodup) {x : Int} (hx : SetI.I64 x) (hn : n < 9223372036854775807) :
    ∃ w', (Instr.mapUpdate 66 (.map (some b)) (.int .i64 x) (.bool true)).run Tryz.prog w = .ok () w' ∧ SetK w' b (n + 1) (ins X x) ∧ w.grownBy w' (some b) := by
  obtain ⟨D, ho, hm, hat, hk⟩ := h
  obtain ⟨w', hrun, ho', hg⟩ := ho.update law Tryz.underlying66 (by unfold maxLen; omega) (keyOf_int_mk Tryz.underlying3 (wf_lit hx)) (plainElem_bool Tryz.underlying4 true)
  obtain ⟨h1, h2, h3⟩ := set_ins hm hat hk hnd x
  exact ⟨w', hrun, ⟨_, ho', h1, h2, h3⟩, hg⟩
theorem len (w : World) {b n : Nat} {X : List Int} (h : SetK w b n X) (ty : TypeId) : (Builtin.len_ #[66] ty #[.map (some b)]).run Tryz.prog w = .ok (.int .i64 X.length) w := by
  obtain ⟨D, ho, _, _, hk⟩ := h
  rw [ho.len Tryz.underlying66 ty, keys_size hk]
/-- Its size is the bound. -/
theorem tight {w : World} {b n : Nat} {X : List Int} (h : SetK w b n X) : SetK w b X.length X := by
  obtain ⟨D, ⟨es, cl, hh, hf, hsz, hD⟩, hm, hat, hk⟩ := h
  have hs := keys_size hk
  refine ⟨D, ⟨es, cl, hh, hf, ?_, hD⟩, hm, hat, hk⟩
  rw [← hs, hD]
  unfold Maps.size
  simp [length_sorted]
theorem made (w : World) : SetK (w.alloc (.map #[] 0)) w.heap.size 0 [] :=
  ⟨.map [], World.ownsMap_made _ _ _ _, ⟨_, rfl⟩, fun x _ => by simp [DataW.atKey, inX], keys_nil⟩
theorem SetK_kept {w w' : World} {b n : Nat} {X : List Int} (h : SetK w b n X) {row : Option Nat} (hg : w.grownBy w' row) (hne : some b ≠ row) : SetK w' b n X := by
  obtain ⟨D, ho, r⟩ := h
  exact ⟨D, ho.kept hg hne, r⟩
end Coi
end Go.Proofs.YtninglnchengeaaGreatDoor

/-
  coi.needs.has, add.
-/
namespace Go.Proofs.YtninglnchengeaaGreatDoor
open Go.RowKit Base Go.Maps
set_option linter.unusedVariables false
set_option linter.unusedSimpArgs false
namespace Coi
open Circuit SetI StrashP

theorem var_i64 {l : Int} (h0 : -9223372036854775808 ≤ l) (h1 : l ≤ 9223372036854775807) : SetI.I64 (var l) := by unfold SetI.I64 var; omega

set_option maxHeartbeats 1000000 in
theorem has_any (w : World) {b n : Nat} {X : List Int} (h : SetK w b n X) (l : Int) (h0 : -9223372036854775808 ≤ l) (h1 : l ≤ 9223372036854775807) :
    Calls Tryz.prog 28 #[.map (some b), .int .i64 l] w fun e w' => e = .returned (.bool (inX X (var l))) ∧ w = w' := by
  have hl := look w h (var_i64 h0 h1)
  have VA := Lib.hid (var_any l h0 h1 w)
  generalize var l = v at *
  generalize inX X v = q at *
  clear h
  go_enter Tryz.func28, Tryz.ntmps28
  go_wp2_with fail
  with_reducible refine VA.out.mono ?_
  rintro e w2 ⟨rfl, rfl⟩
  go_wp2_with fail
  go_ret
  exact ⟨rfl, rfl⟩

def insAll (X T : List Int) : List Int := T.foldl ins X
theorem insAll_snoc (X T : List Int) (y : Int) : insAll X (T ++ [y]) = ins (insAll X T) y := by unfold insAll; rw [List.foldl_append]; rfl
theorem insAll_nodup (X T : List Int) (h : X.Nodup) : (insAll X T).Nodup := by
  induction T generalizing X with
  | nil => exact h
  | cons y r ih => exact ih _ (ins_nodup h y)
theorem insAll_mem (X T : List Int) (v : Int) : v ∈ insAll X T ↔ v ∈ X ∨ v ∈ T := by
  induction T generalizing X with
  | nil => simp [insAll]
  | cons y r ih =>
    show v ∈ insAll (ins X y) r ↔ _
    rw [ih, ins_mem, List.mem_cons]
    constructor
    · rintro ((h | h) | h)
      · exact Or.inl h
      · exact Or.inr (Or.inl h)
      · exact Or.inr (Or.inr h)
    · rintro (h | h | h)
      · exact Or.inl (Or.inl h)
      · exact Or.inl (Or.inr h)
      · exact Or.inr h
theorem ins_len (X : List Int) (y : Int) : X.length ≤ (ins X y).length ∧ (ins X y).length ≤ X.length + 1 := by
  unfold ins
  split
  · omega
  · simp
theorem insAll_len (X T : List Int) : X.length ≤ (insAll X T).length ∧ (insAll X T).length ≤ X.length + T.length := by
  induction T generalizing X with
  | nil => simp [insAll]
  | cons y r ih =>
    have h1 := ins_len X y
    have h2 := ih (ins X y)
    have e : insAll X (y :: r) = insAll (ins X y) r := rfl
    rw [e, List.length_cons]
    omega
/-- If it has not grown, nothing was new. -/
theorem insAll_same (X T : List Int) (h : (insAll X T).length ≤ X.length) : ∀ v ∈ T, v ∈ X := by
  induction T generalizing X with
  | nil => intro v hv; cases hv
  | cons y r ih =>
    have h1 := ins_len X y
    have h2 := insAll_len (ins X y) r
    have e : insAll X (y :: r) = insAll (ins X y) r := rfl
    rw [e] at h
    have hy : y ∈ X := by
      have : (ins X y).length = X.length := by omega
      unfold ins at this
      split at this
      · rename_i hq; exact inX_iff.1 hq
      · simp at this
    have hi : ins X y = X := by unfold ins; rw [if_pos (inX_iff.2 hy)]
    rw [hi] at h
    intro v hv
    rcases List.mem_cons.1 hv with rfl | hv
    · exact hy
    · exact ih X h v hv

theorem insAll_id (X T : List Int) (h : ∀ v ∈ T, v ∈ X) : insAll X T = X := by
  induction T with
  | nil => rfl
  | cons y r ih =>
    show insAll (ins X y) r = X
    have hi : ins X y = X := by unfold ins; rw [if_pos (inX_iff.2 (h y List.mem_cons_self))]
    rw [hi]
    exact ih fun v hv => h v (List.mem_cons_of_mem _ hv)

/-- What add leaves. -/
def AddOut (w : World) (b : Nat) (x : Circ) (l X : List Int) (e : Ending) (w' : World) : Prop :=
  ∃ X2, e = .returned (.bool (decide (X.length < X2.length))) ∧ SetK w' b X2.length X2 ∧ Adds x l X X2 ∧ (X2.length ≤ X.length → X2 = X ∧ ∀ v, v ≠ 0 → Rch x.ands l v → v ∈ X) ∧ OffB b w w'

set_option maxRecDepth 8000 in
set_option maxHeartbeats 4000000 in
theorem add_any (w : World) (x : Circ) (p : At) (hin : InCirc w x p) (hwa : WfT x.ands) {b : Nat} {X : List Int} (hset : SetK w b X.length X) (hnd : X.Nodup) (a : Option Addr) (c : Nat) (l : List Int) (hsl : Sl w a l.length c (ints l)) (hl : ∀ y ∈ l, Circuit.I64 y)
    (hsz : (2 * l.length + 2 * x.ands.length + 2) * 8 ≤ 140737488355328) (hX : X.length ≤ 1099511627776000) :
    Calls Tryz.prog 56 #[.map (some b), .agg (cells x p), .slice a l.length c] w (AddOut w b x l X) := by
  obtain ⟨W1, hW1⟩ : ∃ W1, w.alloc (.cells (cells x p) 27) = W1 := ⟨_, rfl⟩
  obtain ⟨hb1, hc1⟩ := cbox_new w x p W1 hW1
  have hset1 := hset.next hb1
  have hlen1 := fun ty => len W1 hset1 ty
  have HCO := Lib.hid (cone_any W1 x p (hin.next hb1) hwa a c l (hsl.next hb1) hl hsz)
  have HB1 := Lib.hid hb1
  have HSET := Lib.hid hset1
  have HND := Lib.hid hnd
  have HXL := Lib.hid hX
  have HSZ := Lib.hid hsz
  have k0 := hc1.k0
  have k1 := hc1.k1
  have k2 := hc1.k2
  have k3 := hc1.k3
  have k4 := hc1.k4
  have k5 := hc1.k5
  have k6 := hc1.k6
  have k7 := hc1.k7
  have HBL : Hid (b < w.heap.size) := by
    obtain ⟨D, ho, _⟩ := hset
    exact ho.lt
  have HWL : Hid (∀ v, Rch x.ands l v → SetI.I64 v) := fun v hv => by
    cases hv with
    | lit ht => exact var_i64 (hl _ ht).1 (hl _ ht).2
    | left _ _ hg => exact var_i64 (hwa _ (gate_mem hg)).2.1.1 (hwa _ (gate_mem hg)).2.1.2
    | right _ _ hg => exact var_i64 (hwa _ (gate_mem hg)).2.2.1 (hwa _ (gate_mem hg)).2.2.2
  obtain ⟨a1, c1, a2, c2, a3, c3, a4, c4, a5, c5, a6, c6, a7, c7⟩ := p
  simp only [cells] at *
  have HHCO := HCO
  clear hin hwa hset hset1 hnd hsl hl hsz hX hb1 hc1 HCO
  go_enter Tryz.func56, Tryz.ntmps56
  go_wp2_with fail
  with_reducible refine HHCO.out.mono ?_
  rintro e w3 ⟨a', c', T, rfl, hownT, hpT, hmT, hb3⟩
  have HT64 : Hid (∀ v ∈ T, SetI.I64 v) := fun v hv => HWL.out v ((hmT v).1 hv).2
  have HMT := Lib.hid hmT
  have HOWN := Lib.hid hownT
  have hoff3 : OffB b w w3 := ((OffB.refl b w).below HB1.out).below hb3
  have HOFF3 := Lib.hid hoff3
  have hset3 := HSET.out.next hb3
  have hTl := hownT
  have HTF : Hid (T.length ≤ 17592186044416) := by
    show _ ≤ _
    have hnd : T.Nodup := hpT.imp fun {a b} h => by omega
    have h1 := nodup_len hnd (C := cands x.ands l) (fun v hv => rch_cand ((hmT v).1 hv).2)
    unfold cands at h1
    simp only [List.length_append, List.length_map] at h1
    have := HSZ.out
    omega
  have HNE : Hid ((Value.slice a' T.length c').ownBlock ≠ some b) := own_not' hownT (Nat.lt_of_lt_of_le HBL.out HB1.out.size)
  have HSET3 := Lib.hid hset3
  have hsl3 := own_sl' hownT
  have hcap := hsl3.cap
  have hbig := hsl3.big
  obtain ⟨m, hm⟩ : ∃ m, T.length = m := ⟨_, rfl⟩
  obtain ⟨xl, hxl⟩ : ∃ m, X.length = m := ⟨_, rfl⟩
  have HM := Lib.hid hm
  have HXLM := Lib.hid hxl
  rw [hm] at hcap
  rw [hm, hxl]
  clear hm hxl hpT hmT hb3 hoff3 hset3 hTl hlen1 hownT hsl3 k0 k1 k2 k3 k4 k5 k6 k7 hW1
  go_wp2_with fail
  go_loopw [16] (fun i wr => ∃ k : Nat, k ≤ m ∧ i = .int .i64 k ∧ Hid (SetK wr b (xl + k) (insAll X (T.take k))) ∧ Hid (OffB b w3 wr)) (fun i _ => m - (intOf i).toNat)
  case atStart => exact ⟨0, Nat.zero_le _, rfl, by show SetK _ _ _ _; rw [← HXLM.out]; exact HSET3.out, OffB.refl _ _⟩
  case round =>
    obtain ⟨k, hk, rfl, hS, hO⟩ := hrel
    by_cases hlt : k < m
    · have hs := own_sl' (hO.out.own HOWN.out HNE.out)
      have hlt2 : k < T.length := by have := HM.out; omega
      obtain ⟨b1, o1, hx, rfl, hbs, hc⟩ := hs.int hlt2
      have h64 := HT64.out T[k] (List.getElem_mem hx)
      have HIN := Lib.hid (insAll_snoc X (T.take k) T[k])
      have HTK := Lib.hid (List.take_succ_eq_append_getElem hx)
      generalize T[k] = v at *
      obtain ⟨w5, hrun, hs5, hg5⟩ := store hS.out (insAll_nodup _ _ HND.out) h64 (by have := HXL.out; have := HXLM.out; have := HTF.out; omega)
      have HS5 : Hid (SetK w5 b (xl + (k + 1)) (insAll X (T.take (k + 1)))) := by
        show SetK _ _ _ _
        rw [HTK.out, HIN.out]
        exact hs5
      have HO5 := Lib.hid (hO.out.put hg5)
      clear hs hs5 hg5 h64 hS hO hlt2
      go_wp2_with fail
      go_roundw
      case rel => exact ⟨k + 1, by omega, by go_num, HS5, HO5⟩
      case measure => simp [intOf]; omega
    · have hkm : k = m := by omega
      subst hkm
      have htk : T.take k = T := List.take_of_length_le (Nat.le_of_eq HM.out)
      have hS' := hS.out
      rw [htk] at hS'
      have hln := fun ty => len wr hS' ty
      have HSF := Lib.hid hS'
      have HLN := insAll_len X T
      generalize hX2 : insAll X T = X2 at *
      have HX2 := Lib.hid hX2
      have HOF := Lib.hid (HOFF3.out.trans hO.out)
      clear htk hS' hS hO hX2 HLN
      go_wp2_with fail
      go_ret
      refine ⟨X2, ?_, tight HSF.out, ⟨by rw [← HX2.out]; exact insAll_nodup _ _ HND.out, fun v => by rw [← HX2.out, insAll_mem, HMT.out]⟩, fun hle => ?_, HOF.out⟩
      · rw [HXLM.out]
        simp
      · have h1 := insAll_same X T (by rw [HX2.out]; exact hle)
        exact ⟨by rw [← HX2.out]; exact insAll_id X T h1, fun v h0 hv => h1 v ((HMT.out v).2 ⟨h0, hv⟩)⟩
end Coi
end Go.Proofs.YtninglnchengeaaGreatDoor

/-
  slices.Clone at one instance (elements of one cell): a slice of its own with the same elements; of nil nil.
-/
namespace Go.Proofs.YtninglnchengeaaGreatDoor
open Go.RowKit Base
set_option linter.unusedVariables false
namespace CloneR

theorem info : (Tryz.prog.info? 22).map (fun i => (i.zero, i.size, i.bytes)) = some (some (.slice none 0 0), 1, 24) := by kernel_rfl

set_option maxHeartbeats 1000000 in
theorem clone (w : World) (a : Option Addr) (n c : Nat) (vs : List Value) (hsl : Sl w a n c vs) (h1 : ∀ u ∈ vs, u.oneCell' = true) (hn : n * 24 ≤ 140737488355328) :
    Calls Tryz.prog 58 #[.slice a n c] w fun e w' => ∃ a' c', e = .returned (.slice a' n c') ∧ w'.ownsRow w.heap.size 22 1 (.slice a' n c') n vs ∧ Below w.heap.size w w' := by
  have heq := fun (W : World) (x : Option Addr) => Lib.run_eql_slice_nil (P := Tryz.prog) W 41 22 x n c 0 0 Tryz.underlying41
  cases a with
  | none =>
    obtain ⟨rfl, rfl⟩ := hsl.bare rfl
    have hv : vs = [] := List.eq_nil_of_length_eq_zero hsl.len
    subst hv
    go_enter Tryz.func58, Tryz.ntmps58
    go_wp2_with fail
    go_ret
    exact ⟨none, 0, rfl, World.ownsRow_nil _ _ _ _, Below.refl _ _⟩
  | some ad =>
    have hal : Below w.heap.size w (w.alloc (.cells #[] 22)) := (Below.refl _ _).alloc (Nat.le_refl _) _
    have hsl' := hsl.next hal
    have hown : (w.alloc (.cells #[] 22)).ownsRow w.heap.size 22 1 (.slice (some ⟨w.heap.size, 0, none⟩) 0 0) 0 [] := World.ownsRow_lit w #[] 0 (Nat.le_refl _) (by unfold maxLen; omega) rfl
    have H1 := Lib.hid h1
    clear h1 hsl
    go_enter Tryz.func58, Tryz.ntmps58
    go_wp2_with ((with_reducible refine wpL_app (B := w.heap.size) (W := w) _ 0 [] _ n c vs info Tryz.underlying41 ?_ ?_ ?_ H1.out hown hsl' ?_ ?_ ?_ hal ?_); rfl; rfl; rfl; exact hal.size; omega; omega; (rw [Nat.zero_add, List.nil_append]; intro a2 c2 w2 hown2 hb2 _))
    go_ret
    exact ⟨a2, c2, rfl, hown2, hb2⟩
end CloneR
end Go.Proofs.YtninglnchengeaaGreatDoor

/-
  slices.Concat at one instance (elements of one cell), and slices.Grow of nil.
-/
namespace Go.Proofs.YtninglnchengeaaGreatDoor
open Go.RowKit Base
set_option linter.unusedVariables false
namespace ConcatI

theorem info : (Tryz.prog.info? 3).map (fun i => (i.zero, i.size, i.bytes)) = some (some (.int .i64 0), 1, 8) := by kernel_rfl

set_option maxRecDepth 10000 in
set_option maxHeartbeats 1000000 in
/-- Grow of nil: nothing is owned yet; the capacity is the run's. -/
theorem grow (w : World) (n : Nat) (hn : n * 8 ≤ 140737488355328) (hn' : n ≤ 4611686018427387904) :
    Calls Tryz.prog 86 #[.slice none 0 0, .int .i64 n] w fun e w' => ∃ a' c', e = .returned (.slice a' 0 c') ∧ w'.ownsRow w.heap.size 3 1 (.slice a' 0 c') 0 [] ∧ Below w.heap.size w w' := by
  by_cases h0 : n = 0
  · subst h0
    go_enter Tryz.func86, Tryz.ntmps86
    go_wp2_with fail
    go_ret
    exact ⟨none, 0, rfl, World.ownsRow_nil _ _ _ _, Below.refl _ _⟩
  · obtain ⟨i, hi, hz0, hz1, hz2⟩ := info_parts info
    have hrun : ∀ ty, (Builtin.append_ #[22, 3] ty #[.slice none 0 0, .int .i64 n]).run Tryz.prog w =
        .ok (.slice (some ⟨w.heap.size, 0, none⟩) n (grownCap w n 0 3)) (w.drew.alloc (.cells (Builtin.zeroCells #[.int .i64 0] n ++ Builtin.zeroCells #[.int .i64 0] (grownCap w n 0 3 - n)) 3)) := fun ty => by
      have h := Lib.run_append_grow_zeros (P := Tryz.prog) w 22 3 ty 3 i (.int .i64 0) .i64 .i64 Tryz.underlying22 Tryz.underlying3 hi hz0 none 0 0 [] (run_firstCells_none w.drew i.size 0 0 0) n (by omega) (by omega) (by omega) (by omega) (by rw [hz2]; omega)
        (growslice_fits (by omega) (by rw [hz2, Nat.zero_add]; exact hn))
      rw [Nat.zero_add] at h
      have e : (.int .i64 0 : Value).cells = #[.int .i64 0] := rfl
      rw [e] at h
      simpa using h
    have hge : n ≤ grownCap w n 0 3 := grownCap_ge w n 0 _
    have hle : grownCap w n 0 3 ≤ 9223372036854775807 := grownCap_big w n _ (by omega)
    generalize grownCap w n 0 3 = G at *
    have hsz : (Builtin.zeroCells #[.int .i64 0] n ++ Builtin.zeroCells #[.int .i64 0] (G - n)).size = G * 1 := by
      rw [Array.size_append, size_zeroCells, size_zeroCells]; simp; omega
    have hown : (w.drew.alloc (.cells (Builtin.zeroCells #[.int .i64 0] n ++ Builtin.zeroCells #[.int .i64 0] (G - n)) 3)).ownsRow w.heap.size 3 1 (.slice (some ⟨w.heap.size, 0, none⟩) 0 G) 0 [] :=
      World.ownsRow_made w.drew _ G (Nat.le_refl _) (by unfold maxLen; omega) hsz
    have hb : Below w.heap.size w (w.drew.alloc (.cells (Builtin.zeroCells #[.int .i64 0] n ++ Builtin.zeroCells #[.int .i64 0] (G - n)) 3)) := (Below.refl _ _).drew.alloc (Nat.le_refl _) _
    generalize w.drew.alloc (.cells (Builtin.zeroCells #[.int .i64 0] n ++ Builtin.zeroCells #[.int .i64 0] (G - n)) 3) = w1 at *
    have HR := Lib.hid hrun
    have hcap : (0 : Nat) ≤ G := Nat.zero_le _
    clear hrun
    go_enter Tryz.func86, Tryz.ntmps86
    go_wp2_with (at_builtin; refine Lib.wpList_append_run _ rfl _ _ _ _ rfl _ _ rfl rfl _ _ (HR.out _) ?_)
    go_ret
    exact ⟨_, G, rfl, hown, hb⟩

/-- A list of slices, each with its elements. -/
def Parts (w : World) (vs : List Value) (us : List (List Value)) : Prop :=
  vs.length = us.length ∧ ∀ (k : Nat) (v : Value) (u : List Value), vs[k]? = some v → us[k]? = some u → ∃ a c, v = .slice a u.length c ∧ Sl w a u.length c u

theorem Parts.next {w w' : World} {vs : List Value} {us : List (List Value)} (h : Parts w vs us) (hb : Below w.heap.size w w') : Parts w' vs us :=
  ⟨h.1, fun k v u hv hu => by
    obtain ⟨a, c, rfl, hs⟩ := h.2 k v u hv hu
    exact ⟨a, c, rfl, hs.next hb⟩⟩

def tot (us : List (List Value)) : Nat := us.flatten.length

theorem tot_take (us : List (List Value)) (k : Nat) (hk : k < us.length) : tot (us.take (k + 1)) = tot (us.take k) + us[k].length := by
  unfold tot
  rw [List.take_succ_eq_append_getElem hk, List.flatten_append]
  simp

theorem tot_le (us : List (List Value)) (k : Nat) : tot (us.take k) ≤ tot us := by
  unfold tot
  conv => rhs; rw [← List.take_append_drop k us]
  rw [List.flatten_append, List.length_append]; omega

theorem flat_take (us : List (List Value)) (k : Nat) (hk : k < us.length) : (us.take (k + 1)).flatten = (us.take k).flatten ++ us[k] := by
  rw [List.take_succ_eq_append_getElem hk, List.flatten_append]
  simp

set_option maxHeartbeats 2000000 in
theorem concat (w : World) (a : Option Addr) (n c : Nat) (vs : List Value) (us : List (List Value)) (hsl : Sl w a n c vs) (hp : Parts w vs us) (h1 : ∀ u ∈ us, ∀ v ∈ u, v.oneCell' = true) (hn : tot us * 8 ≤ 140737488355328) (hn' : tot us ≤ 4611686018427387904) :
    Calls Tryz.prog 57 #[.slice a n c] w fun e w' => ∃ a' c', e = .returned (.slice a' (tot us) c') ∧ w'.ownsRow w.heap.size 3 1 (.slice a' (tot us) c') (tot us) us.flatten ∧ Below w.heap.size w w' := by
  have hlen : us.length = n := by rw [← hp.1, hsl.len]
  have HLEN := Lib.hid hlen
  have hcap := hsl.cap
  have hbig := hsl.big
  have HP := Lib.hid hp
  have H1 := Lib.hid h1
  have HN := Lib.hid hn
  have HN' := Lib.hid hn'
  clear hp h1 hn hn' hlen
  go_enter Tryz.func57, Tryz.ntmps57
  go_wp2_with fail
  go_loop [3, 11] (fun z i => ∃ k : Nat, k ≤ n ∧ i = .int .i64 k ∧ z = .int .i64 (tot (us.take k))) (fun _ i => n - (intOf i).toNat)
  case atStart => exact ⟨0, Nat.zero_le _, rfl, rfl⟩
  case round =>
    obtain ⟨k, hk, rfl, rfl⟩ := hrel
    by_cases hlt : k < n
    · obtain ⟨b, o, v, rfl, hbs, hv, hc⟩ := hsl.at hlt
      have hku : k < us.length := by rw [HLEN.out]; exact hlt
      obtain ⟨a', c', rfl, hs⟩ := HP.out.2 k v us[k] hv (List.getElem?_eq_getElem hku)
      have HT := Lib.hid (tot_take us k hku)
      have t1 : tot (us.take k) + us[k].length ≤ 4611686018427387904 := by
        have h1 := HT.out; have h2 := tot_le us (k + 1); have h3 := HN'.out; omega
      have HV := Lib.hid hv
      clear hv hs
      generalize us[k].length = m at *
      generalize tot (us.take k) = t at *
      go_wp2_with fail
      go_round
      case rel => exact ⟨k + 1, by omega, by go_num, by rw [HT.out]; go_num⟩
      case measure => simp [intOf]; omega
    · have e : us.take k = us := List.take_of_length_le (by rw [HLEN.out]; omega)
      rw [e]
      clear e
      have HG := Lib.hid (grow w (tot us) HN.out HN'.out)
      generalize hT : tot us = T at *
      have HTT := Lib.hid hT
      clear hT
      go_wp2_with fail
      refine HG.out.mono ?_
      rintro e w1 ⟨a1, c1, rfl, hown1, hb1⟩
      have hsl1 := hsl.next hb1
      have HP1 := Lib.hid (HP.out.next hb1)
      go_wp2_with fail
      go_loopw [6, 27] (fun s i wr => ∃ (k : Nat) (t : Nat), k ≤ n ∧ i = .int .i64 k ∧ Hid (t = tot (us.take k)) ∧ (∃ a' c', s = .slice a' t c' ∧ wr.ownsRow w.heap.size 3 1 (.slice a' t c') t (us.take k).flatten) ∧ Below w.heap.size w wr) (fun _ i _ => n - (intOf i).toNat)
      case atStart => exact ⟨0, 0, Nat.zero_le _, rfl, rfl, ⟨a1, c1, rfl, hown1⟩, hb1⟩
      case round =>
        obtain ⟨k, t, hk, rfl, ht, ⟨a2, c2, rfl, hown2⟩, hbr⟩ := hrel
        by_cases hlt : k < n
        · obtain ⟨b, o, v, rfl, hbs, hv, hc⟩ := hsl.at hlt
          have hku : k < us.length := by rw [HLEN.out]; exact hlt
          obtain ⟨a', c', rfl, hs⟩ := HP.out.2 k v us[k] hv (List.getElem?_eq_getElem hku)
          have hsr := hs.next hbr
          have hcr : wr.cell? ⟨b, o + k, none⟩ = some (.slice a' us[k].length c') := (hbr.cell (p := ⟨b, o + k, none⟩) hbs).trans hc
          have HT := Lib.hid (tot_take us k hku)
          have HF := Lib.hid (flat_take us k hku)
          have t1 : t + us[k].length ≤ T := by
            have h1 := HT.out; have h2 := tot_le us (k + 1); have h3 := HTT.out; have h4 := ht.out; omega
          have t2 : (t + us[k].length) * 8 ≤ 140737488355328 := by have := HN.out; omega
          have t3 : T ≤ 4611686018427387904 := HN'.out
          have HU := Lib.hid (H1.out _ (List.getElem_mem hku))
          have hbase := hbr.size
          clear hv hc hs
          generalize us[k] = u at *
          generalize hm : u.length = m at *
          have HM := Lib.hid hm
          clear hm
          go_wp2_with ((with_reducible refine wpL_app (B := w.heap.size) (W := w) _ t (us.take k).flatten _ m c' u info Tryz.underlying22 ?_ ?_ ?_ HU.out hown2 hsr ?_ ?_ ?_ hbr ?_); rfl; rfl; rfl; exact hbase; omega; omega; (intro a3 c3 w3 hown3 hb3 _))
          go_roundw
          case rel => exact ⟨k + 1, t + m, by omega, by go_num, by show _ = _; rw [HT.out, ht.out], ⟨a3, c3, by go_num, by rw [HF.out]; exact hown3⟩, hb3⟩
          case measure => simp [intOf]; omega
        · have e : us.take k = us := List.take_of_length_le (by rw [HLEN.out]; omega)
          have hT2 : t = T := by have h1 := ht.out; rw [e] at h1; rw [h1, HTT.out]
          rw [e] at hown2
          subst hT2
          go_wp2_with fail
          go_ret
          rw [HTT.out]
          exact ⟨a2, c2, rfl, hown2, hbr⟩
end ConcatI
end Go.Proofs.YtninglnchengeaaGreatDoor

/-
  coi.counted: what counts, as a map of its own.
-/
namespace Go.Proofs.YtninglnchengeaaGreatDoor
open Go.RowKit Base Go.Maps
set_option linter.unusedVariables false
set_option linter.unusedSimpArgs false
namespace Coi
open Circuit StrashP

theorem offb_cbox {b N : Nat} {w w2 : World} {x : Circ} {p : At} (h : OffB b w w2) (hc : CBox N x p w) (hne : N ≠ b) : CBox N x p w2 := by
  have hb := h.block N hc.lt hne
  have e : ∀ j, w2.cell? ⟨N, j, none⟩ = w.cell? ⟨N, j, none⟩ := fun j => World.cell?_of_block (w := w) (a := ⟨N, j, none⟩) hb
  exact ⟨Nat.lt_of_lt_of_le hc.lt h.size, (e 0).trans hc.k0, (e 1).trans hc.k1, (e 2).trans hc.k2, (e 3).trans hc.k3, (e 4).trans hc.k4, (e 5).trans hc.k5, (e 6).trans hc.k6, (e 7).trans hc.k7⟩

/-- A row of slices, each a list of integers. -/
def RowsP (w : World) (vs : List Value) (xss : List (List Int)) : Prop := vs.length = xss.length ∧ ∀ (k : Nat) (v : Value) (xs : List Int), vs[k]? = some v → xss[k]? = some xs → ∃ a c, v = .slice a xs.length c ∧ Sl w a xs.length c (ints xs)
theorem RowsP.next {w w' : World} {vs : List Value} {xss : List (List Int)} (h : RowsP w vs xss) (hb : Below w.heap.size w w') : RowsP w' vs xss :=
  ⟨h.1, fun k v xs hv hx => by
    obtain ⟨a, c, e, hs⟩ := h.2 k v xs hv hx
    exact ⟨a, c, e, hs.next hb⟩⟩
theorem RowsP.of {w : World} {a : Option Addr} {n c : Nat} {vs : List Value} {xss : List (List Int)} (h : Sl2 w a n c vs xss) : RowsP w vs xss :=
  ⟨by rw [h.sl.len, h.len], fun k v xs hv hx => by
    obtain ⟨a, c, e, hs⟩ := h.row k v xs hv hx
    exact ⟨a, c, e, hs⟩⟩
theorem RowsP.app {w : World} {vs us : List Value} {xss yss : List (List Int)} (h : RowsP w vs xss) (h2 : RowsP w us yss) : RowsP w (vs ++ us) (xss ++ yss) := by
  refine ⟨by rw [List.length_append, List.length_append, h.1, h2.1], fun k v xs hv hx => ?_⟩
  by_cases hk : k < vs.length
  · rw [List.getElem?_append_left hk] at hv
    rw [List.getElem?_append_left (by rw [← h.1]; exact hk)] at hx
    exact h.2 k v xs hv hx
  · rw [List.getElem?_append_right (by omega)] at hv
    rw [List.getElem?_append_right (by rw [← h.1]; omega), ← h.1] at hx
    exact h2.2 _ v xs hv hx
theorem RowsP.two {w : World} {a1 a2 : Option Addr} {c1 c2 : Nat} {l1 l2 : List Int} (h1 : Sl w a1 l1.length c1 (ints l1)) (h2 : Sl w a2 l2.length c2 (ints l2)) : RowsP w [.slice a1 l1.length c1, .slice a2 l2.length c2] [l1, l2] := by
  refine ⟨rfl, fun k v xs hv hx => ?_⟩
  match k, hv, hx with
  | 0, hv, hx => simp at hv hx; subst hv; subst hx; exact ⟨_, _, rfl, h1⟩
  | 1, hv, hx => simp at hv hx; subst hv; subst hx; exact ⟨_, _, rfl, h2⟩
  | k + 2, hv, hx => simp at hv
theorem ints_flat (xss : List (List Int)) : (xss.map ints).flatten = ints xss.flatten := by
  induction xss with
  | nil => rfl
  | cons x r ih => rw [List.map_cons, List.flatten_cons, ih, List.flatten_cons]; unfold ints; rw [List.map_append]
theorem concat_any (w : World) (a : Option Addr) (n c : Nat) (vs : List Value) (xss : List (List Int)) (hsl : Sl w a n c vs) (hp : RowsP w vs xss) (hn : xss.flatten.length * 8 ≤ 140737488355328) :
    Calls Tryz.prog 57 #[.slice a n c] w fun e w' => ∃ a' c', e = .returned (.slice a' xss.flatten.length c') ∧ Sl w' a' xss.flatten.length c' (ints xss.flatten) ∧ Below w.heap.size w w' := by
  have ht : ConcatI.tot (xss.map ints) = xss.flatten.length := by unfold ConcatI.tot; rw [ints_flat, ints_len]
  have h := ConcatI.concat w a n c vs (xss.map ints) hsl ⟨by rw [List.length_map]; exact hp.1, fun k v u hv hu => by
    rw [List.getElem?_map, Option.map_eq_some_iff] at hu
    obtain ⟨xs, hx, rfl⟩ := hu
    obtain ⟨a', c', e, hs⟩ := hp.2 k v xs hv hx
    rw [ints_len]
    exact ⟨a', c', e, hs⟩⟩ (fun u hu v hv => by
      obtain ⟨xs, _, rfl⟩ := List.mem_map.1 hu
      exact Base.ints_one xs v hv) (by rw [ht]; exact hn) (by rw [ht]; omega)
  rw [ht, ints_flat] at h
  refine h.mono ?_
  rintro e w' ⟨a', c', he, ho, hb⟩
  exact ⟨a', c', he, own_sl' ho, hb⟩
theorem info_rows : (Tryz.prog.info? 22).map (fun i => (i.zero, i.size, i.bytes)) = some (some (.slice none 0 0), 1, 24) := by kernel_rfl

theorem row_one {w : World} {a : Option Addr} {n c : Nat} {vs : List Value} {xss : List (List Int)} (h : Sl2 w a n c vs xss) : ∀ u ∈ vs, u.oneCell' = true := by
  intro u hu
  obtain ⟨i, hi, rfl⟩ := List.mem_iff_getElem.1 hu
  have hl : i < xss.length := by have := h.len; have := h.sl.len; omega
  obtain ⟨a', c', e, _⟩ := h.row i _ _ (List.getElem?_eq_getElem hi) (List.getElem?_eq_getElem hl)
  rw [e]; rfl
theorem flat_l (A : List (List Int)) (v : List Int) (b : Int) : (A ++ [v, [b]]).flatten = A.flatten ++ v ++ [b] := by simp
theorem c8of {N : Nat} {x : Circ} {p : At} {w' : World} (h : CBox N x p w') : w'.cell? ⟨N, 0, none⟩ = some (.int .i64 x.max) ∧ w'.cell? ⟨N, 1, none⟩ = some (.slice p.a1 x.ins.length p.c1) ∧ w'.cell? ⟨N, 2, none⟩ = some (.slice p.a2 x.lats.length p.c2) ∧ w'.cell? ⟨N, 3, none⟩ = some (.slice p.a3 x.outs.length p.c3) ∧ w'.cell? ⟨N, 4, none⟩ = some (.slice p.a4 x.bads.length p.c4) ∧ w'.cell? ⟨N, 5, none⟩ = some (.slice p.a5 x.invs.length p.c5) ∧ w'.cell? ⟨N, 6, none⟩ = some (.slice p.a6 x.ands.length p.c6) ∧ w'.cell? ⟨N, 7, none⟩ = some (.slice p.a7 x.names.length p.c7) := ⟨h.k0, h.k1, h.k2, h.k3, h.k4, h.k5, h.k6, h.k7⟩
theorem sl_block {w : World} {g n : Nat} {cs : Array Value} {e : TypeId} (h : w.heap[g]? = some (.cells cs e (0, 0))) (hn : cs.size = n) (hm : n ≤ 9223372036854775807) : Sl w (some ⟨g, 0, none⟩) n n cs.toList :=
  ⟨by simpa using hn, Nat.le_refl _, hm, fun e => (by cases e), fun k x hx => ⟨g, 0, rfl, (Array.getElem?_eq_some_iff.1 h).1, by
    rw [cell_of_row _ g (0 + k) _ e _ h, Nat.zero_add]
    simpa using hx⟩⟩

/-- append of two rows to a row of rows: all that it is then. -/
theorem app_all (ty : TypeId) (V : World) (B : Nat) (hB : B ≤ V.heap.size) (aK : Option Addr) (cK n : Nat) (vals : List Value) (A : List (List Int)) (hown : V.ownsRow B 22 1 (.slice aK n cK) n vals) (a5 : Option Addr) (c5 : Nat) (invs : List Int)
    (hold : ∀ U, Below B V U → RowsP U vals A ∧ Sl U a5 invs.length c5 (ints invs)) (g1 : Nat) (bl : Int) (hg1 : V.heap[g1]? = some (.cells #[.int .i64 bl] 3)) (hn1 : (Value.slice aK n cK).ownBlock ≠ some g1) (g2 : Nat)
    (hg2 : V.heap[g2]? = some (.cells #[.slice a5 invs.length c5, .slice (some ⟨g1, 0, none⟩) 1 1] 22)) (hn2 : (Value.slice aK n cK).ownBlock ≠ some g2) (hn : (n + 2) * 24 ≤ 140737488355328) :
    ∃ a' c' w1, (Builtin.append_ #[41, 41] ty #[.slice aK n cK, .slice (some ⟨g2, 0, none⟩) 2 2]).run Tryz.prog V = .ok (.slice a' (n + 2) c') w1 ∧ Sl w1 a' (n + 2) c' (vals ++ [.slice a5 invs.length c5, .slice (some ⟨g1, 0, none⟩) 1 1]) ∧
      RowsP w1 (vals ++ [.slice a5 invs.length c5, .slice (some ⟨g1, 0, none⟩) 1 1]) (A ++ [invs, [bl]]) ∧ Below B V w1 := by
  have hsl : Sl V (some ⟨g2, 0, none⟩) 2 2 [.slice a5 invs.length c5, .slice (some ⟨g1, 0, none⟩) 1 1] := sl_block hg2 rfl (by decide)
  obtain ⟨a', c', w1, hr, ho, hg⟩ := App2.runV (P := Tryz.prog) ty (k := 1) (by decide) info_rows Tryz.underlying41 rfl V B hB (.slice aK n cK) n (vals.map fun v => [v]) (by rw [App2.flat1]; exact hown) (some ⟨g2, 0, none⟩) 2 2 ([.slice a5 invs.length c5, .slice (some ⟨g1, 0, none⟩) 1 1].map fun v => [v]) (App2.sl_t1 hsl) (by intro r hr; obtain ⟨v, _, rfl⟩ := List.mem_map.1 hr; rfl)
    (by rw [App2.flat1]; intro u hu; simp only [List.mem_cons, List.not_mem_nil, or_false] at hu; rcases hu with rfl | rfl <;> rfl) hn (by omega)
  rw [← List.map_append, App2.flat1] at ho
  have hb : Below B V w1 := (Below.refl B V).grown hg hB fun q hq => (hown.lt q hq).1
  have hone : Sl w1 (some ⟨g1, 0, none⟩) [bl].length 1 (ints [bl]) := sl_block (cs := #[.int .i64 bl]) (e := 3) ((hg.block g1 (Array.getElem?_eq_some_iff.1 hg1).1 (fun e => hn1 e.symm)).trans hg1) rfl (by simp)
  exact ⟨a', c', w1, hr, own_sl' ho, (hold w1 hb).1.app (RowsP.two (hold w1 hb).2 hone), hb⟩

theorem concat_l (w : World) (a : Option Addr) (n c : Nat) (vs : List Value) (A : List (List Int)) (invs : List Int) (bl : Int) (l : List Int) (hl : A.flatten ++ invs ++ [bl] = l) (hsl : Sl w a n c vs) (hp : RowsP w vs (A ++ [invs, [bl]])) (hn : l.length * 8 ≤ 140737488355328) :
    Calls Tryz.prog 57 #[.slice a n c] w fun e w' => ∃ v, e = .returned v ∧ ∃ a' c', v = .slice a' l.length c' ∧ Sl w' a' l.length c' (ints l) ∧ Below w.heap.size w w' := by
  have h := concat_any w a n c vs _ hsl hp (by rw [flat_l, hl]; exact hn)
  rw [flat_l, hl] at h
  exact h.mono fun e w' ⟨a', c', he, hs, hb⟩ => ⟨_, he, a', c', rfl, hs, hb⟩

theorem start_any (w : World) (x : Circ) (p : At) (hin : InCirc w x p) (hwa : WfT x.ands) {b : Nat} (hset : SetK w b 0 []) (a : Option Addr) (c : Nat) (l : List Int) (hsl : Sl w a l.length c (ints l)) (hl : ∀ y ∈ l, Circuit.I64 y)
    (hsz : (2 * l.length + 2 * x.ands.length + 2) * 8 ≤ 140737488355328) :
    Calls Tryz.prog 56 #[.map (some b), .agg (cells x p), .slice a l.length c] w fun e w' => ∃ v, e = .returned v ∧ ∃ X : List Int, SetK w' b X.length X ∧ CInv x l X ∧ OffB b w w' :=
  (add_any w x p hin hwa (X := []) hset List.nodup_nil a c l hsl hl hsz (by simp)).mono fun e w' ⟨X2, he, h1, h2, _, h3⟩ => ⟨_, he, X2, h1, cinv_start h2, h3⟩

/-- What counted leaves. -/
def CntOut (w : World) (x : Circ) (l : List Int) (e : Ending) (w' : World) : Prop :=
  ∃ b X, e = .returned (.map (some b)) ∧ w.heap.size ≤ b ∧ SetK w' b X.length X ∧ X.Nodup ∧ (∀ v, v ∈ X ↔ v ≠ 0 ∧ NR x l v) ∧ Below w.heap.size w w'

set_option maxRecDepth 8000 in
set_option maxHeartbeats 8000000 in
theorem counted_any (w : World) (x : Circ) (p : At) (hin : InCirc w x p) (hw : WfC x) (aA : Option Addr) (n cA : Nat) (vals : List Value) (A : List (List Int)) (hA : Sl2 w aA n cA vals A) (hA64 : ∀ y ∈ A.flatten, Circuit.I64 y) (k : Nat) (hk : k < x.bads.length)
    (hz1 : n ≤ 4000000) (hz2 : A.flatten.length ≤ 4000000) (hz3 : x.ands.length ≤ 4000000) (hz4 : x.invs.length ≤ 4000000) (hz5 : x.lats.length ≤ 4000000) :
    Calls Tryz.prog 24 #[.agg (cells x p), .slice aA n cA, .int .i64 k] w (CntOut w x (A.flatten ++ x.invs ++ [x.bads[k]]) ) := by
  obtain ⟨W1, hW1⟩ : ∃ W1, w.alloc (.cells (cells x p) 27) = W1 := ⟨_, rfl⟩
  obtain ⟨hb1, hc1⟩ := cbox_new w x p W1 hW1
  obtain ⟨W2, hW2⟩ : ∃ W2, W1.alloc (.map #[] 0) = W2 := ⟨_, rfl⟩
  have hb2 : Below W1.heap.size W1 W2 := by rw [← hW2]; exact (Below.refl _ _).alloc (Nat.le_refl _) _
  have hset : SetK W2 W1.heap.size 0 [] := by rw [← hW2]; exact made W1
  have hc2 := hc1.next hb2 (Nat.le_refl _)
  have hb12 : Below w.heap.size w W2 := hb1.trans (hb2.mono hb1.size)
  have hlt1 : w.heap.size < W1.heap.size := hc1.lt
  have HB12 := Lib.hid hb12
  have HC2 := Lib.hid hc2
  have HLT1 := Lib.hid hlt1
  have HSET := Lib.hid hset
  have HIN := Lib.hid (fun (U : World) (hU : Below w.heap.size w U) => hin.next hU)
  have HA := Lib.hid (fun (U : World) (hU : Below w.heap.size w U) => hA.next hU)
  have HOFB := Lib.hid (fun (U : World) (hU : OffB W1.heap.size W2 U) => hU.base hb12 (by have := hb12.size; omega) (Nat.le_of_lt hlt1))
  have HW := Lib.hid hw
  have HZ := Lib.hid (And.intro hz1 (And.intro hz2 (And.intro hz3 (And.intro hz4 hz5))))
  have HA64 := Lib.hid hA64
  have hbsl := hin.bads
  obtain ⟨gb, ob, hxb, hab, hgb, hcb⟩ := hbsl.int hk
  have hcapb := hbsl.cap
  have hbigb := hbsl.big
  have hLI : ∀ y ∈ A.flatten ++ x.invs ++ [x.bads[k]], Circuit.I64 y := by
    intro y hy
    rw [List.mem_append, List.mem_append, List.mem_singleton] at hy
    rcases hy with (hy | hy) | rfl
    · exact hA64 y hy
    · exact hw.invs y hy
    · exact hw.bads _ (List.getElem_mem _)
  generalize hbl : x.bads[k] = bl at *
  have HLI := Lib.hid hLI
  obtain ⟨l, hl⟩ : ∃ l, A.flatten ++ x.invs ++ [bl] = l := ⟨_, rfl⟩
  rw [hl]
  have HL := Lib.hid hl
  rw [hl] at HLI
  have HAD0 := fun (U : World) (hU : Below W2.heap.size W2 U) (aL : Option Addr) (cL : Nat) (hsL : Sl U aL l.length cL (ints l)) => start_any U x p ((hin.next hb12).next hU) hw.ands (hset.next hU) aL cL l hsL HLI.out (by have := HZ.out; have := congrArg List.length hl; simp only [List.length_append, List.length_singleton] at this; omega)
  have HAD1 := fun (U : World) (hU : Below w.heap.size w U) (X : List Int) (hX : SetK U W1.heap.size X.length X) (hnd : X.Nodup) (hXl : X.length ≤ 1099511627776000) (aL : Option Addr) (cL : Nat) (u : Int) (hu : Circuit.I64 u) (hsL : Sl U aL 1 cL (ints [u])) => add_any U x p (hin.next hU) hw.ands hX hnd aL cL [u] hsL (fun y hy => by rw [List.mem_singleton.1 hy]; exact hu) (by have := HZ.out; simp only [List.length_singleton]; omega) hXl
  have HCEL := Lib.hid (fun (U : World) (hU : Below w.heap.size w U) => (hU.cell (p := ⟨gb, ob + k, none⟩) hgb).trans hcb)
  obtain ⟨a1, c1, a2, c2, a3, c3, a4, c4, a5, c5, a6, c6, a7, c7⟩ := p
  simp only [cells] at *
  subst hab
  have HADD := Lib.hid HAD0
  simp only [List.length_singleton] at HAD1
  have HADX := Lib.hid HAD1
  clear HAD0 HAD1
  have hmm := @run_makeMap Tryz.prog
  have q0 := hc1.k0
  clear hin hw hA hA64 hz1 hz2 hz3 hz4 hz5 hb1 hb2 hset hc2 hb12 hbsl hxb hcb hLI hl hc1 q0 hbl
  go_enter Tryz.func24, Tryz.ntmps24
  go_upto_region 2 with fail
  clear hW1 hW2 hmm
  go_cut [] from 12 to 28 (fun wx => ∃ X : List Int, Hid (SetK wx W1.heap.size X.length X) ∧ Hid (CInv x l X) ∧ Hid (OffB W1.heap.size W2 wx))
  case first =>
    as_aux_lemma =>
      have hn := HZ.out
      have hB0 : Below W2.heap.size W2 W2.drew := (Below.refl _ _).drew
      have hSK : ∀ V : World, OffB W1.heap.size W2 V → (V.cell? ⟨w.heap.size, 0, none⟩ = some (.int .i64 x.max) ∧ V.cell? ⟨w.heap.size, 1, none⟩ = some (.slice a1 x.ins.length c1) ∧ V.cell? ⟨w.heap.size, 2, none⟩ = some (.slice a2 x.lats.length c2) ∧ V.cell? ⟨w.heap.size, 3, none⟩ = some (.slice a3 x.outs.length c3) ∧ V.cell? ⟨w.heap.size, 4, none⟩ = some (.slice (some ⟨gb, ob, none⟩) x.bads.length c4) ∧ V.cell? ⟨w.heap.size, 5, none⟩ = some (.slice a5 x.invs.length c5) ∧ V.cell? ⟨w.heap.size, 6, none⟩ = some (.slice a6 x.ands.length c6) ∧ V.cell? ⟨w.heap.size, 7, none⟩ = some (.slice a7 x.names.length c7)) ∧ V.cell? ⟨gb, ob + k, none⟩ = some (.int .i64 bl) := fun V hV => ⟨c8of (offb_cbox hV HC2.out (by have := HLT1.out; omega)), HCEL.out V (HOFB.out V hV)⟩
      have hBS : ∀ V : World, Below W2.heap.size W2 V → OffB W1.heap.size W2 V := fun V hV => (OffB.refl _ _).below hV
      have hS0 := hSK _ (hBS _ hB0)
      have hkl : (k : Int) < (x.bads.length : Int) := by omega
      refine HeldAll.region (fun U : World => (U.cell? ⟨w.heap.size, 0, none⟩ = some (.int .i64 x.max) ∧ U.cell? ⟨w.heap.size, 1, none⟩ = some (.slice a1 x.ins.length c1) ∧ U.cell? ⟨w.heap.size, 2, none⟩ = some (.slice a2 x.lats.length c2) ∧ U.cell? ⟨w.heap.size, 3, none⟩ = some (.slice a3 x.outs.length c3) ∧ U.cell? ⟨w.heap.size, 4, none⟩ = some (.slice (some ⟨gb, ob, none⟩) x.bads.length c4) ∧ U.cell? ⟨w.heap.size, 5, none⟩ = some (.slice a5 x.invs.length c5) ∧ U.cell? ⟨w.heap.size, 6, none⟩ = some (.slice a6 x.ands.length c6) ∧ U.cell? ⟨w.heap.size, 7, none⟩ = some (.slice a7 x.names.length c7)) ∧ U.cell? ⟨gb, ob + k, none⟩ = some (.int .i64 bl)) (by kernel_rfl) ?_
      (refine HeldAll.take (i := 0) (oi := _) (d := some 12) (v := ?_) rfl rfl (by kernel_rfl) (by kernel_rfl) (by kernel_rfl) (fun _ _ _ h => h) (Or.inl ⟨by rfl, ?_⟩) hS0 ?_; rotate_left; (focus (intro w hSw; clear hSw; go_simp; (try with_reducible rfl); done)); (try simp only [Act.put, List.setIfInBounds_toArray, List.set_cons_zero, List.set_cons_succ]))
      (refine HeldAll.take (i := 1) (oi := _) (d := some 13) (v := ?_) rfl rfl (by kernel_rfl) (by kernel_rfl) (by kernel_rfl) (fun _ _ _ h => h) (Or.inl ⟨by rfl, ?_⟩) hS0 ?_; rotate_left; (focus (intro w hSw; (try dsimp only at hSw); go_simp; (try with_reducible rfl); done)); (try simp only [Act.put, List.setIfInBounds_toArray, List.set_cons_zero, List.set_cons_succ]))
      (refine HeldAll.take (i := 2) (oi := _) (d := some 14) (v := ?_) rfl rfl (by kernel_rfl) (by kernel_rfl) (by kernel_rfl) (fun _ _ _ h => h) (Or.inl ⟨by rfl, ?_⟩) hS0 ?_; rotate_left; (focus (intro w hSw; clear hSw; go_simp; (try with_reducible rfl); done)); (try simp only [Act.put, List.setIfInBounds_toArray, List.set_cons_zero, List.set_cons_succ]))
      (refine HeldAll.take (i := 4) (oi := _) (d := some 16) (v := ?_) rfl rfl (by kernel_rfl) (by kernel_rfl) (by kernel_rfl) (fun _ _ _ h => h) (Or.inl ⟨by rfl, ?_⟩) hS0 ?_; rotate_left; (focus (intro w hSw; clear hSw; go_simp; (try with_reducible rfl); done)); (try simp only [Act.put, List.setIfInBounds_toArray, List.set_cons_zero, List.set_cons_succ]))
      (refine HeldAll.take (i := 5) (oi := _) (d := some 17) (v := ?_) rfl rfl (by kernel_rfl) (by kernel_rfl) (by kernel_rfl) (fun _ _ _ h => h) (Or.inl ⟨by rfl, ?_⟩) hS0 ?_; rotate_left; (focus (intro w hSw; (try dsimp only at hSw); go_simp; (try with_reducible rfl); done)); (try simp only [Act.put, List.setIfInBounds_toArray, List.set_cons_zero, List.set_cons_succ]))
      (refine HeldAll.take (i := 6) (oi := _) (d := some 18) (v := ?_) rfl rfl (by kernel_rfl) (by kernel_rfl) (by kernel_rfl) (fun _ _ _ h => h) (Or.inl ⟨by rfl, ?_⟩) hS0 ?_; rotate_left; (focus (intro w hSw; clear hSw; go_simp; (try with_reducible rfl); done)); (try simp only [Act.put, List.setIfInBounds_toArray, List.set_cons_zero, List.set_cons_succ]))
      (refine HeldAll.take (i := 7) (oi := _) (d := some 19) (v := ?_) rfl rfl (by kernel_rfl) (by kernel_rfl) (by kernel_rfl) (fun _ _ _ h => h) (Or.inl ⟨by rfl, ?_⟩) hS0 ?_; rotate_left; (focus (intro w hSw; (try dsimp only at hSw); go_simp; (try with_reducible rfl); done)); (try simp only [Act.put, List.setIfInBounds_toArray, List.set_cons_zero, List.set_cons_succ]))
      (refine HeldAll.take (i := 8) (oi := _) (d := some 20) (v := ?_) rfl rfl (by kernel_rfl) (by kernel_rfl) (by kernel_rfl) (fun _ _ _ h => h) (Or.inl ⟨by rfl, ?_⟩) hS0 ?_; rotate_left; (focus (intro w hSw; clear hSw; go_simp; (try with_reducible rfl); done)); (try simp only [Act.put, List.setIfInBounds_toArray, List.set_cons_zero, List.set_cons_succ]))
      (refine HeldAll.take (i := 9) (oi := _) (d := some 21) (v := ?_) rfl rfl (by kernel_rfl) (by kernel_rfl) (by kernel_rfl) (fun _ _ _ h => h) (Or.inl ⟨by rfl, ?_⟩) hS0 ?_; rotate_left; (focus (intro w hSw; clear hSw; go_simp; (try with_reducible rfl); done)); (try simp only [Act.put, List.setIfInBounds_toArray, List.set_cons_zero, List.set_cons_succ]))
      (refine HeldAll.take (i := 10) (oi := _) (d := some 22) (v := ?_) rfl rfl (by kernel_rfl) (by kernel_rfl) (by kernel_rfl) (fun _ _ _ h => h) (Or.inl ⟨by rfl, ?_⟩) hS0 ?_; rotate_left; (focus (intro w hSw; (try dsimp only at hSw); go_simp; (try with_reducible rfl); done)); (try simp only [Act.put, List.setIfInBounds_toArray, List.set_cons_zero, List.set_cons_succ]))
      refine HeldAll.two (i := 3) (j := 11) (by kernel_rfl) ?_ ?_
      · skip
        refine HeldAll.opCall (i := 3) (oi := _) (d := some 15) (R := fun v w' => ∃ a' c', v = .slice a' n c' ∧ w'.ownsRow (W2.drew).heap.size 22 1 (.slice a' n c') n vals ∧ Below (W2.drew).heap.size (W2.drew) w') rfl rfl (by rfl) (by go_simp; done) ((CloneR.clone (W2.drew) aA n cA vals (HA.out _ (HOFB.out _ (hBS _ hB0))).sl (row_one (HA.out _ (HOFB.out _ (hBS _ hB0)))) (by omega)).mono fun e w' h => by obtain ⟨a', c', he, ho, hb⟩ := h; exact ⟨_, he, a', c', rfl, ho, hb⟩) ?_
        rintro v u1 ⟨aK, cK, rfl, hoK, hbK⟩
        have hC : Below W2.heap.size W2 u1 := hB0.trans (hbK.mono hB0.size)
        refine ⟨hSK _ (hBS _ hC), ?_⟩
        (try simp only [Act.put, List.setIfInBounds_toArray, List.set_cons_zero, List.set_cons_succ])
        have hA1 : Below W2.heap.size W2 (u1.alloc (.cells #[.int .i64 bl] 3)) := hC.alloc hC.size _
        refine HeldAll.one (i := 11) (by kernel_rfl) ?_
        refine HeldAll.opVal (i := 11) (oi := _) (d := some 23) (v := .slice (some ⟨(u1).heap.size, 0, none⟩) 1 1) (w2 := (u1).alloc (.cells #[.int .i64 bl] 3)) rfl rfl (by rfl) (by go_simp; done) (hSK _ (hBS _ hA1)) ?_
        (try simp only [Act.put, List.setIfInBounds_toArray, List.set_cons_zero, List.set_cons_succ])
        refine HeldAll.one (i := 12) (by kernel_rfl) ?_
        refine HeldAll.opVal (i := 12) (oi := _) (d := some 24) (v := .slice (some ⟨(u1.alloc (.cells #[.int .i64 bl] 3)).heap.size, 0, none⟩) 2 2) (w2 := (u1.alloc (.cells #[.int .i64 bl] 3)).alloc (.cells #[.slice a5 x.invs.length c5, .slice (some ⟨u1.heap.size, 0, none⟩) 1 1] 22)) rfl rfl (by rfl) (by go_simp; done) (hSK _ (hBS _ (hA1.alloc hA1.size _))) ?_
        (try simp only [Act.put, List.setIfInBounds_toArray, List.set_cons_zero, List.set_cons_succ])
        obtain ⟨V, hV⟩ : ∃ V, (u1.alloc (.cells #[.int .i64 bl] 3)).alloc (.cells #[.slice a5 x.invs.length c5, .slice (some ⟨u1.heap.size, 0, none⟩) 1 1] 22) = V := ⟨_, rfl⟩
        obtain ⟨g1, hgg1⟩ : ∃ g, u1.heap.size = g := ⟨_, rfl⟩
        obtain ⟨g2, hgg2⟩ : ∃ g, (u1.alloc (.cells #[.int .i64 bl] 3)).heap.size = g := ⟨_, rfl⟩
        have hVV : Below W2.heap.size W2 V := by rw [← hV]; exact (hA1.alloc hA1.size _)
        have hoV : V.ownsRow W2.heap.size 22 1 (.slice aK n cK) n vals := by rw [← hV]; exact (((own_mono hoK hB0.size).alloc _).alloc _)
        have hg1 : V.heap[g1]? = some (.cells #[.int .i64 bl] 3) := by rw [← hV, ← hgg1]; exact ((((Below.refl (u1.alloc (.cells #[.int .i64 bl] 3)).heap.size (u1.alloc (.cells #[.int .i64 bl] 3))).alloc (Nat.le_refl _) (.cells #[.slice a5 x.invs.length c5, .slice (some ⟨u1.heap.size, 0, none⟩) 1 1] 22))).block u1.heap.size (by simp)).trans (heap_alloc_new u1 _)
        have hg2 : V.heap[g2]? = some (.cells #[.slice a5 x.invs.length c5, .slice (some ⟨g1, 0, none⟩) 1 1] 22) := by rw [← hV, ← hgg2, ← hgg1]; exact heap_alloc_new (u1.alloc (.cells #[.int .i64 bl] 3)) _
        have hn1 : (Value.slice aK n cK).ownBlock ≠ some g1 := by rw [← hgg1]; exact own_not hoK (Nat.le_refl _)
        have hn2 : (Value.slice aK n cK).ownBlock ≠ some g2 := by rw [← hgg2]; exact own_not hoK (by simp)
        rw [hV, hgg2, hgg1]
        obtain ⟨a9, c9, u9, r9, hs9, hp9, hb9⟩ := app_all 41 V W2.heap.size hVV.size aK cK n vals A hoV a5 c5 x.invs (fun U' hU' => ⟨RowsP.of (HA.out _ (HOFB.out _ (hBS _ (hVV.trans hU')))), (HIN.out _ (HOFB.out _ (hBS _ (hVV.trans hU')))).invs⟩) g1 bl hg1 hn1 g2 hg2 hn2 (by omega)
        have h9 : Below W2.heap.size W2 u9 := hVV.trans hb9
        refine HeldAll.one (i := 13) (by kernel_rfl) ?_
        refine HeldAll.opVal (i := 13) (oi := _) (d := some 25) (v := .slice a9 (n + 2) c9) (w2 := u9) rfl rfl (by rfl) (App2.exec_append rfl rfl rfl r9) (hSK _ (hBS _ h9)) ?_
        (try simp only [Act.put, List.setIfInBounds_toArray, List.set_cons_zero, List.set_cons_succ])
        refine HeldAll.one (i := 14) (by kernel_rfl) ?_
        refine HeldAll.opCall (i := 14) (oi := _) (d := some 26) (R := fun v w' => ∃ a' c', v = .slice a' l.length c' ∧ Sl w' a' l.length c' (ints l) ∧ Below u9.heap.size u9 w') rfl rfl (by rfl) (by go_simp; done) (concat_l u9 a9 (n + 2) c9 _ A x.invs bl l HL.out hs9 hp9 (by rw [← HL.out]; simp only [List.length_append, List.length_singleton]; omega)) ?_
        rintro v u10 ⟨aL, cL, rfl, hsL, hbL⟩
        have h10 : Below W2.heap.size W2 u10 := h9.trans (hbL.mono h9.size)
        refine ⟨hSK _ (hBS _ h10), ?_⟩
        (try simp only [Act.put, List.setIfInBounds_toArray, List.set_cons_zero, List.set_cons_succ])
        refine HeldAll.one (i := 15) (by kernel_rfl) ?_
        refine HeldAll.opCall (i := 15) (oi := _) (d := some 27) (R := fun v w' => ∃ X : List Int, SetK w' W1.heap.size X.length X ∧ CInv x l X ∧ OffB W1.heap.size u10 w') rfl rfl (by rfl) (by go_simp; done) (HADD.out u10 h10 aL cL hsL) ?_
        rintro v u11 ⟨X, hX1, hX2, hX3⟩
        have o11 : OffB W1.heap.size W2 u11 := (hBS _ h10).trans hX3
        refine ⟨hSK _ o11, ?_⟩
        (try simp only [Act.put, List.setIfInBounds_toArray, List.set_cons_zero, List.set_cons_succ])
        refine HeldAll.done (by kernel_rfl) ?_ _
        (try go_wp2_with fail)
        go_meet
        exact ⟨X, hX1, hX2, o11⟩
      · skip
        have hE1 : Below W2.heap.size W2 (W2.drew.alloc (.cells #[.int .i64 bl] 3)) := hB0.alloc hB0.size _
        refine HeldAll.opVal (i := 11) (oi := _) (d := some 23) (v := .slice (some ⟨(W2.drew).heap.size, 0, none⟩) 1 1) (w2 := (W2.drew).alloc (.cells #[.int .i64 bl] 3)) rfl rfl (by rfl) (by go_simp; done) (hSK _ (hBS _ hE1)) ?_
        (try simp only [Act.put, List.setIfInBounds_toArray, List.set_cons_zero, List.set_cons_succ])
        refine HeldAll.two (i := 3) (j := 12) (by kernel_rfl) ?_ ?_
        · skip
          refine HeldAll.opCall (i := 3) (oi := _) (d := some 15) (R := fun v w' => ∃ a' c', v = .slice a' n c' ∧ w'.ownsRow (W2.drew.alloc (.cells #[.int .i64 bl] 3)).heap.size 22 1 (.slice a' n c') n vals ∧ Below (W2.drew.alloc (.cells #[.int .i64 bl] 3)).heap.size (W2.drew.alloc (.cells #[.int .i64 bl] 3)) w') rfl rfl (by rfl) (by go_simp; done) ((CloneR.clone (W2.drew.alloc (.cells #[.int .i64 bl] 3)) aA n cA vals (HA.out _ (HOFB.out _ (hBS _ hE1))).sl (row_one (HA.out _ (HOFB.out _ (hBS _ hE1)))) (by omega)).mono fun e w' h => by obtain ⟨a', c', he, ho, hb⟩ := h; exact ⟨_, he, a', c', rfl, ho, hb⟩) ?_
          rintro v u1 ⟨aK, cK, rfl, hoK, hbK⟩
          have hC : Below W2.heap.size W2 u1 := hE1.trans (hbK.mono hE1.size)
          refine ⟨hSK _ (hBS _ hC), ?_⟩
          (try simp only [Act.put, List.setIfInBounds_toArray, List.set_cons_zero, List.set_cons_succ])
          refine HeldAll.one (i := 12) (by kernel_rfl) ?_
          refine HeldAll.opVal (i := 12) (oi := _) (d := some 24) (v := .slice (some ⟨(u1).heap.size, 0, none⟩) 2 2) (w2 := (u1).alloc (.cells #[.slice a5 x.invs.length c5, .slice (some ⟨W2.drew.heap.size, 0, none⟩) 1 1] 22)) rfl rfl (by rfl) (by go_simp; done) (hSK _ (hBS _ (hC.alloc hC.size _))) ?_
          (try simp only [Act.put, List.setIfInBounds_toArray, List.set_cons_zero, List.set_cons_succ])
          obtain ⟨V, hV⟩ : ∃ V, u1.alloc (.cells #[.slice a5 x.invs.length c5, .slice (some ⟨W2.drew.heap.size, 0, none⟩) 1 1] 22) = V := ⟨_, rfl⟩
          obtain ⟨g1, hgg1⟩ : ∃ g, W2.drew.heap.size = g := ⟨_, rfl⟩
          obtain ⟨g2, hgg2⟩ : ∃ g, u1.heap.size = g := ⟨_, rfl⟩
          have hVV : Below W2.heap.size W2 V := by rw [← hV]; exact (hC.alloc hC.size _)
          have hoV : V.ownsRow W2.heap.size 22 1 (.slice aK n cK) n vals := by rw [← hV]; exact ((own_mono hoK hE1.size).alloc _)
          have hg1 : V.heap[g1]? = some (.cells #[.int .i64 bl] 3) := by rw [← hV, ← hgg1]; exact ((((Below.refl (u1).heap.size (u1)).alloc (Nat.le_refl _) (.cells #[.slice a5 x.invs.length c5, .slice (some ⟨W2.drew.heap.size, 0, none⟩) 1 1] 22))).block W2.drew.heap.size (Nat.lt_of_lt_of_le (by simp) hbK.size)).trans ((hbK.block W2.drew.heap.size (by simp)).trans (heap_alloc_new W2.drew _))
          have hg2 : V.heap[g2]? = some (.cells #[.slice a5 x.invs.length c5, .slice (some ⟨g1, 0, none⟩) 1 1] 22) := by rw [← hV, ← hgg2, ← hgg1]; exact heap_alloc_new u1 _
          have hn1 : (Value.slice aK n cK).ownBlock ≠ some g1 := by rw [← hgg1]; exact own_not' hoK (by simp)
          have hn2 : (Value.slice aK n cK).ownBlock ≠ some g2 := by rw [← hgg2]; exact own_not hoK (Nat.le_refl _)
          rw [hV, hgg2, hgg1]
          obtain ⟨a9, c9, u9, r9, hs9, hp9, hb9⟩ := app_all 41 V W2.heap.size hVV.size aK cK n vals A hoV a5 c5 x.invs (fun U' hU' => ⟨RowsP.of (HA.out _ (HOFB.out _ (hBS _ (hVV.trans hU')))), (HIN.out _ (HOFB.out _ (hBS _ (hVV.trans hU')))).invs⟩) g1 bl hg1 hn1 g2 hg2 hn2 (by omega)
          have h9 : Below W2.heap.size W2 u9 := hVV.trans hb9
          refine HeldAll.one (i := 13) (by kernel_rfl) ?_
          refine HeldAll.opVal (i := 13) (oi := _) (d := some 25) (v := .slice a9 (n + 2) c9) (w2 := u9) rfl rfl (by rfl) (App2.exec_append rfl rfl rfl r9) (hSK _ (hBS _ h9)) ?_
          (try simp only [Act.put, List.setIfInBounds_toArray, List.set_cons_zero, List.set_cons_succ])
          refine HeldAll.one (i := 14) (by kernel_rfl) ?_
          refine HeldAll.opCall (i := 14) (oi := _) (d := some 26) (R := fun v w' => ∃ a' c', v = .slice a' l.length c' ∧ Sl w' a' l.length c' (ints l) ∧ Below u9.heap.size u9 w') rfl rfl (by rfl) (by go_simp; done) (concat_l u9 a9 (n + 2) c9 _ A x.invs bl l HL.out hs9 hp9 (by rw [← HL.out]; simp only [List.length_append, List.length_singleton]; omega)) ?_
          rintro v u10 ⟨aL, cL, rfl, hsL, hbL⟩
          have h10 : Below W2.heap.size W2 u10 := h9.trans (hbL.mono h9.size)
          refine ⟨hSK _ (hBS _ h10), ?_⟩
          (try simp only [Act.put, List.setIfInBounds_toArray, List.set_cons_zero, List.set_cons_succ])
          refine HeldAll.one (i := 15) (by kernel_rfl) ?_
          refine HeldAll.opCall (i := 15) (oi := _) (d := some 27) (R := fun v w' => ∃ X : List Int, SetK w' W1.heap.size X.length X ∧ CInv x l X ∧ OffB W1.heap.size u10 w') rfl rfl (by rfl) (by go_simp; done) (HADD.out u10 h10 aL cL hsL) ?_
          rintro v u11 ⟨X, hX1, hX2, hX3⟩
          have o11 : OffB W1.heap.size W2 u11 := (hBS _ h10).trans hX3
          refine ⟨hSK _ o11, ?_⟩
          (try simp only [Act.put, List.setIfInBounds_toArray, List.set_cons_zero, List.set_cons_succ])
          refine HeldAll.done (by kernel_rfl) ?_ _
          (try go_wp2_with fail)
          go_meet
          exact ⟨X, hX1, hX2, o11⟩
        · skip
          refine HeldAll.opVal (i := 12) (oi := _) (d := some 24) (v := .slice (some ⟨(W2.drew.alloc (.cells #[.int .i64 bl] 3)).heap.size, 0, none⟩) 2 2) (w2 := (W2.drew.alloc (.cells #[.int .i64 bl] 3)).alloc (.cells #[.slice a5 x.invs.length c5, .slice (some ⟨W2.drew.heap.size, 0, none⟩) 1 1] 22)) rfl rfl (by rfl) (by go_simp; done) (hSK _ (hBS _ (hE1.alloc hE1.size _))) ?_
          (try simp only [Act.put, List.setIfInBounds_toArray, List.set_cons_zero, List.set_cons_succ])
          have hE2 : Below W2.heap.size W2 ((W2.drew.alloc (.cells #[.int .i64 bl] 3)).alloc (.cells #[.slice a5 x.invs.length c5, .slice (some ⟨W2.drew.heap.size, 0, none⟩) 1 1] 22)) := hE1.alloc hE1.size _
          refine HeldAll.one (i := 3) (by kernel_rfl) ?_
          refine HeldAll.opCall (i := 3) (oi := _) (d := some 15) (R := fun v w' => ∃ a' c', v = .slice a' n c' ∧ w'.ownsRow ((W2.drew.alloc (.cells #[.int .i64 bl] 3)).alloc (.cells #[.slice a5 x.invs.length c5, .slice (some ⟨W2.drew.heap.size, 0, none⟩) 1 1] 22)).heap.size 22 1 (.slice a' n c') n vals ∧ Below ((W2.drew.alloc (.cells #[.int .i64 bl] 3)).alloc (.cells #[.slice a5 x.invs.length c5, .slice (some ⟨W2.drew.heap.size, 0, none⟩) 1 1] 22)).heap.size ((W2.drew.alloc (.cells #[.int .i64 bl] 3)).alloc (.cells #[.slice a5 x.invs.length c5, .slice (some ⟨W2.drew.heap.size, 0, none⟩) 1 1] 22)) w') rfl rfl (by rfl) (by go_simp; done) ((CloneR.clone ((W2.drew.alloc (.cells #[.int .i64 bl] 3)).alloc (.cells #[.slice a5 x.invs.length c5, .slice (some ⟨W2.drew.heap.size, 0, none⟩) 1 1] 22)) aA n cA vals (HA.out _ (HOFB.out _ (hBS _ hE2))).sl (row_one (HA.out _ (HOFB.out _ (hBS _ hE2)))) (by omega)).mono fun e w' h => by obtain ⟨a', c', he, ho, hb⟩ := h; exact ⟨_, he, a', c', rfl, ho, hb⟩) ?_
          rintro v u1 ⟨aK, cK, rfl, hoK, hbK⟩
          have hC : Below W2.heap.size W2 u1 := hE2.trans (hbK.mono hE2.size)
          refine ⟨hSK _ (hBS _ hC), ?_⟩
          (try simp only [Act.put, List.setIfInBounds_toArray, List.set_cons_zero, List.set_cons_succ])
          obtain ⟨V, hV⟩ : ∃ V, u1 = V := ⟨_, rfl⟩
          obtain ⟨g1, hgg1⟩ : ∃ g, W2.drew.heap.size = g := ⟨_, rfl⟩
          obtain ⟨g2, hgg2⟩ : ∃ g, (W2.drew.alloc (.cells #[.int .i64 bl] 3)).heap.size = g := ⟨_, rfl⟩
          have hVV : Below W2.heap.size W2 V := by rw [← hV]; exact hC
          have hoV : V.ownsRow W2.heap.size 22 1 (.slice aK n cK) n vals := by rw [← hV]; exact (own_mono hoK hE2.size)
          have hg1 : V.heap[g1]? = some (.cells #[.int .i64 bl] 3) := by rw [← hV, ← hgg1]; exact (hbK.block W2.drew.heap.size (by simp; omega)).trans ((((Below.refl (W2.drew.alloc (.cells #[.int .i64 bl] 3)).heap.size (W2.drew.alloc (.cells #[.int .i64 bl] 3))).alloc (Nat.le_refl _) (.cells #[.slice a5 x.invs.length c5, .slice (some ⟨W2.drew.heap.size, 0, none⟩) 1 1] 22)).block W2.drew.heap.size (by simp)).trans (heap_alloc_new W2.drew _))
          have hg2 : V.heap[g2]? = some (.cells #[.slice a5 x.invs.length c5, .slice (some ⟨g1, 0, none⟩) 1 1] 22) := by rw [← hV, ← hgg2, ← hgg1]; exact (hbK.block (W2.drew.alloc (.cells #[.int .i64 bl] 3)).heap.size (by simp)).trans (heap_alloc_new (W2.drew.alloc (.cells #[.int .i64 bl] 3)) _)
          have hn1 : (Value.slice aK n cK).ownBlock ≠ some g1 := by rw [← hgg1]; exact own_not' hoK (by simp; omega)
          have hn2 : (Value.slice aK n cK).ownBlock ≠ some g2 := by rw [← hgg2]; exact own_not' hoK (by simp)
          rw [hV, hgg2, hgg1]
          obtain ⟨a9, c9, u9, r9, hs9, hp9, hb9⟩ := app_all 41 V W2.heap.size hVV.size aK cK n vals A hoV a5 c5 x.invs (fun U' hU' => ⟨RowsP.of (HA.out _ (HOFB.out _ (hBS _ (hVV.trans hU')))), (HIN.out _ (HOFB.out _ (hBS _ (hVV.trans hU')))).invs⟩) g1 bl hg1 hn1 g2 hg2 hn2 (by omega)
          have h9 : Below W2.heap.size W2 u9 := hVV.trans hb9
          refine HeldAll.one (i := 13) (by kernel_rfl) ?_
          refine HeldAll.opVal (i := 13) (oi := _) (d := some 25) (v := .slice a9 (n + 2) c9) (w2 := u9) rfl rfl (by rfl) (App2.exec_append rfl rfl rfl r9) (hSK _ (hBS _ h9)) ?_
          (try simp only [Act.put, List.setIfInBounds_toArray, List.set_cons_zero, List.set_cons_succ])
          refine HeldAll.one (i := 14) (by kernel_rfl) ?_
          refine HeldAll.opCall (i := 14) (oi := _) (d := some 26) (R := fun v w' => ∃ a' c', v = .slice a' l.length c' ∧ Sl w' a' l.length c' (ints l) ∧ Below u9.heap.size u9 w') rfl rfl (by rfl) (by go_simp; done) (concat_l u9 a9 (n + 2) c9 _ A x.invs bl l HL.out hs9 hp9 (by rw [← HL.out]; simp only [List.length_append, List.length_singleton]; omega)) ?_
          rintro v u10 ⟨aL, cL, rfl, hsL, hbL⟩
          have h10 : Below W2.heap.size W2 u10 := h9.trans (hbL.mono h9.size)
          refine ⟨hSK _ (hBS _ h10), ?_⟩
          (try simp only [Act.put, List.setIfInBounds_toArray, List.set_cons_zero, List.set_cons_succ])
          refine HeldAll.one (i := 15) (by kernel_rfl) ?_
          refine HeldAll.opCall (i := 15) (oi := _) (d := some 27) (R := fun v w' => ∃ X : List Int, SetK w' W1.heap.size X.length X ∧ CInv x l X ∧ OffB W1.heap.size u10 w') rfl rfl (by rfl) (by go_simp; done) (HADD.out u10 h10 aL cL hsL) ?_
          rintro v u11 ⟨X, hX1, hX2, hX3⟩
          have o11 : OffB W1.heap.size W2 u11 := (hBS _ h10).trans hX3
          refine ⟨hSK _ o11, ?_⟩
          (try simp only [Act.put, List.setIfInBounds_toArray, List.set_cons_zero, List.set_cons_succ])
          refine HeldAll.done (by kernel_rfl) ?_ _
          (try go_wp2_with fail)
          go_meet
          exact ⟨X, hX1, hX2, o11⟩
  case rest =>
    obtain ⟨X0, hX1, hX2, hX3⟩ := hcut
    generalize wc = w3 at *
    obtain ⟨nb, hnb⟩ : ∃ nb, l.length + 2 * x.ands.length + x.lats.length = nb := ⟨_, rfl⟩
    have HNB := Lib.hid hnb
    obtain ⟨m, hm⟩ : ∃ m, x.lats.length = m := ⟨_, rfl⟩
    have HM := Lib.hid hm
    have HNBL : Hid (nb ≤ 100000000) := by
      show _ ≤ _
      have := HZ.out; have := congrArg List.length HL.out
      simp only [List.length_append, List.length_singleton] at this
      omega
    have hm5 : m ≤ 4000000 := by have := HZ.out; omega
    have hgk : Hid (2 * (nb - X0.length) + 1 = 2 * (nb - X0.length) + (if true = true then 1 else 0)) := by show _ = _; simp
    clear hnb hm
    go_wp2_with fail
    go_loopg [8] (2 * (nb - X0.length) + 1) (fun gk s8 wr => ∃ (X : List Int) (f : Bool), s8 = .bool f ∧ Hid (SetK wr W1.heap.size X.length X) ∧ Hid (CInv x l X) ∧ Hid (f = false → ∀ t ∈ x.lats, Shut x X t) ∧ Hid (gk = 2 * (nb - X.length) + (if f = true then 1 else 0)) ∧ Hid (OffB W1.heap.size W2 wr))
    case atStart => exact ⟨X0, true, rfl, hX1, hX2, fun h => absurd h (by decide), hgk, hX3⟩
    case round =>
      obtain ⟨X1, f, rfl, hS, hI, hsh, hgk1, hO⟩ := hrel
      clear hX1 hX2 hX3 hgk
      cases f
      · have hS' := hS.out
        have HE := Lib.hid (cinv_end hI.out (hsh.out rfl))
        have HBE := Lib.hid (HOFB.out wr hO.out)
        have HND := Lib.hid hI.out.nodup
        clear hsh hgk1 hI hS'
        go_wp2_with fail
        go_ret
        exact ⟨W1.heap.size, X1, rfl, Nat.le_of_lt HLT1.out, hS.out, HND.out, HE.out, HBE.out⟩
      · have m2 := (offb_cbox hO.out HC2.out (by have := HLT1.out; omega)).k2
        simp only [HM.out] at m2
        have HS1 := hS
        have HO1 := hO
        clear hS hO hsh
        generalize wr = wo at *
        go_wp2_with fail
        go_loopw [8, 32] (fun s8 i wr => ∃ (q : Nat) (X : List Int) (f : Bool), q ≤ m ∧ s8 = .bool f ∧ i = .int .i64 q ∧ Hid (SetK wr W1.heap.size X.length X) ∧ Hid (CInv x l X) ∧ Hid (OffB W1.heap.size W2 wr) ∧ Hid (f = false → X = X1 ∧ ∀ t ∈ x.lats.take q, Shut x X1 t) ∧ Hid (f = true → X1.length < X.length)) (fun _ i _ => m - (intOf i).toNat)
        case atStart => exact ⟨0, X1, false, Nat.zero_le _, rfl, rfl, HS1, hI, HO1, fun _ => ⟨rfl, fun t ht => by simp at ht⟩, fun h => absurd h (by decide)⟩
        case round =>
          obtain ⟨q, X, f, hq, rfl, rfl, hS, hI2, hO, hf0, hf1⟩ := hrel
          by_cases hlt : q < m
          · have hix := (HIN.out wr (HOFB.out wr hO.out)).lats
            have hlt2 : q < x.lats.length := by have := HM.out; omega
            obtain ⟨b, o, hx, hbo, hbs, e0, e1, e2⟩ := hix.tri hlt2
            simp only at hbo
            subst hbo
            have hcap := hix.cap
            have hbig := hix.big
            simp only [HM.out] at hcap
            have h64 := HW.out.lats x.lats[q] (List.getElem_mem _)
            have HTK := Lib.hid (List.take_succ_eq_append_getElem hx)
            have HMEM : Hid (x.lats[q] ∈ x.lats) := List.getElem_mem _
            generalize x.lats[q] = t at *
            obtain ⟨t0, t1, t2⟩ := t
            simp only at e0 e1 e2 h64
            obtain ⟨W5, hW5⟩ : ∃ U, wr.alloc (.cells #[.int .i64 t0, .int .i64 t1, .int .i64 t2] 37) = U := ⟨_, rfl⟩
            have hb5 : Below wr.heap.size wr W5 := by rw [← hW5]; exact (Below.refl _ _).alloc (Nat.le_refl _) _
            have hx5 : BoxN wr.heap.size [.int .i64 t0, .int .i64 t1, .int .i64 t2] W5 := by rw [← hW5]; exact BoxN.new wr _ _
            have hS5 := hS.out.next hb5
            have hO5 := hO.out.below hb5
            have HHAS := Lib.hid (has_any W5 hS5 t0 h64.1.1 h64.1.2)
            have y0 := hx5.at' 0 _ rfl
            have y1 := hx5.at' 1 _ rfl
            have hcw := c8of (offb_cbox hO5 HC2.out (by have := HLT1.out; omega))
            obtain ⟨n0, n1, n2, n3, n4, n5, n6, n7⟩ := hcw
            have HS5 := Lib.hid hS5
            have HO5 := Lib.hid hO5
            have HU1 := Lib.hid h64.2.1
            clear hix hlt2 hx hb5 hx5 hS5 hO5 h64 hO hS
            cases hin : SetI.inX X (var t0)
            · rw [hin] at HHAS
              have HSH : Hid (f = false → X = X1 ∧ ∀ t ∈ x.lats.take (q + 1), Shut x X1 t) := fun hf => by
                obtain ⟨h1, h2⟩ := hf0.out hf
                refine ⟨h1, fun t ht => ?_⟩
                rw [HTK.out, List.mem_append, List.mem_singleton] at ht
                rcases ht with ht | rfl
                · exact h2 t ht
                · intro hm
                  rw [← h1] at hm
                  rw [SetI.inX_iff.2 hm] at hin
                  cases hin
              clear hin hf0
              go_wp2_with fail
              with_reducible refine HHAS.out.mono ?_
              rintro e w6 ⟨rfl, rfl⟩
              clear hW5 n0 n1 n2 n3 n4 n5 n6 n7
              go_wp2_with fail
              go_roundw
              case rel => exact ⟨q + 1, X, f, by omega, rfl, by go_num, HS5.out, hI2.out, HO5.out, HSH.out, hf1.out⟩
              case measure => simp [intOf]; omega
            · rw [hin] at HHAS
              have HIN1 := Lib.hid (SetI.inX_iff.1 hin)
              have hXB := cinv_few hI2.out
              have HXB : Hid (X.length ≤ nb) := by show _ ≤ _; rw [← HNB.out]; exact hXB
              obtain ⟨W6, hW6⟩ : ∃ U, W5.alloc (.cells #[.int .i64 t1] 3) = U := ⟨_, rfl⟩
              have hb6 : Below W5.heap.size W5 W6 := by rw [← hW6]; exact (Below.refl _ _).alloc (Nat.le_refl _) _
              have hs6 : Sl W6 (some ⟨W5.heap.size, 0, none⟩) 1 1 (ints [t1]) := by rw [← hW6]; exact sl_new W5 #[.int .i64 t1] 3 1 rfl (by decide)
              have hO6 := HO5.out.below hb6
              have HAD := Lib.hid (HADX.out W6 (HOFB.out W6 hO6) X (HS5.out.next hb6) hI2.out.nodup (by have := HXB.out; have := HNBL.out; omega) (some ⟨W5.heap.size, 0, none⟩) 1 t1 HU1.out hs6)
              have HO6 := Lib.hid hO6
              clear hin hXB hb6 hs6 hO6
              go_wp2_with fail
              with_reducible refine HHAS.out.mono ?_
              rintro e w6 ⟨rfl, rfl⟩
              go_wp2_with fail
              with_reducible refine HAD.out.mono ?_
              rintro e w7 ⟨X2, rfl, hS7, hA7, hsm, hO7⟩
              have HS7 := Lib.hid hS7
              have HI7 := Lib.hid (cinv_next hI2.out HMEM.out HIN1.out hA7)
              have HO7 := Lib.hid (HO6.out.trans hO7)
              by_cases hg : X.length < X2.length
              · have hd : decide (X.length < X2.length) = true := decide_eq_true hg
                rw [hd]
                have HF1 : Hid (X1.length < X2.length) := by
                  show _ < _
                  cases f
                  · rw [← (hf0.out rfl).1]; exact hg
                  · have := hf1.out rfl; omega
                clear hd hg hsm hA7 hS7 hO7 hW5 hW6 n0 n1 n2 n3 n4 n5 n6 n7 hf0 hf1
                go_wp2_with fail
                go_roundw
                case rel => exact ⟨q + 1, X2, true, by omega, rfl, by go_num, HS7.out, HI7.out, HO7.out, fun h => absurd h (by decide), fun _ => HF1.out⟩
                case measure => simp [intOf]; omega
              · have hd : decide (X.length < X2.length) = false := decide_eq_false hg
                rw [hd]
                obtain ⟨h1, h2⟩ := hsm (by omega)
                have HX2 : Hid (X2 = X) := h1
                have HSH : Hid (f = false → X2 = X1 ∧ ∀ t ∈ x.lats.take (q + 1), Shut x X1 t) := fun hf => by
                  obtain ⟨g1, g2⟩ := hf0.out hf
                  refine ⟨h1.trans g1, fun t ht => ?_⟩
                  rw [HTK.out, List.mem_append, List.mem_singleton] at ht
                  rcases ht with ht | rfl
                  · exact g2 t ht
                  · intro _ v hv0 hv
                    rw [← g1]
                    exact h2 v hv0 hv
                have HF1 : Hid (f = true → X1.length < X2.length) := fun hf => by rw [h1]; exact hf1.out hf
                clear hd hg hsm hA7 hS7 hO7 hW5 hW6 n0 n1 n2 n3 n4 n5 n6 n7 hf0 hf1 h1 h2
                go_wp2_with fail
                go_roundw
                case rel => exact ⟨q + 1, X2, f, by omega, rfl, by go_num, HS7.out, HI7.out, HO7.out, HSH.out, HF1.out⟩
                case measure => simp [intOf]; omega
          · have hqm : q = m := by omega
            have hXB := cinv_few hI2.out
            have HXB : Hid (X.length ≤ nb) := by show _ ≤ _; rw [← HNB.out]; exact hXB
            have HSH : Hid (f = false → ∀ t ∈ x.lats, Shut x X t) := fun hf => by
              obtain ⟨g1, g2⟩ := hf0.out hf
              rw [g1]
              intro t ht
              refine g2 t ?_
              rw [List.take_of_length_le (by rw [HM.out]; omega)]
              exact ht
            have HLE : Hid (f = false → X.length = X1.length) := fun hf => by rw [(hf0.out hf).1]
            clear hqm hXB hf0
            go_wp2_with fail
            go_roundg (2 * (nb - X.length) + (if f = true then 1 else 0))
            case measure =>
              have h0 := hgk1.out
              have h1 := HXB.out
              cases f
              · have := HLE.out rfl; simp at h0 ⊢; omega
              · have := hf1.out rfl; simp at h0 ⊢; omega
            case rel => exact ⟨X, f, rfl, hS.out, hI2.out, HSH.out, rfl, hO.out⟩
end Coi
end Go.Proofs.YtninglnchengeaaGreatDoor

/-
  lits.Check, at whatever greatest variable may be.
-/
namespace Go.Proofs.YtninglnchengeaaGreatDoor
open Go.RowKit Base
set_option linter.unusedVariables false
set_option linter.unusedSimpArgs false
namespace LitsC
open Circuit

def oddM (mx l : Int) : Bool := decide (l < 0) || decide (mx < var l)
theorem eg_chk : SlfI.Enters 83 := enters_of Tryz.func83 (by kernel_rfl) rfl
set_option maxHeartbeats 4000000 in
theorem chk1_any (w : World) (Bw Bm : Nat) (hw : w.cell? ⟨Bw, 0, none⟩ = some (.bool false)) (mx : Int) (hm : w.cell? ⟨Bm, 0, none⟩ = some (.int .i64 mx)) (hlw : Bw < w.heap.size) (hlm : Bm < w.heap.size) (x : Int) (hx0 : -9223372036854775808 ≤ x) (hx1 : x ≤ 9223372036854775807) :
    Calls Tryz.prog 83 #[.int .i64 x, .pointer (some ⟨Bw, 0, none⟩), .pointer (some ⟨Bm, 0, none⟩)] w fun e w' => e = .returned (.bool (oddM mx x)) ∧ Below w.heap.size w w' := by
  have HS := fun (U : World) (hU : Below w.heap.size w U) => (⟨hU, (hU.cell (p := ⟨Bw, 0, none⟩) hlw).trans hw, (hU.cell (p := ⟨Bm, 0, none⟩) hlm).trans hm⟩ : Below w.heap.size w U ∧ U.cell? ⟨Bw, 0, none⟩ = some (.bool false) ∧ U.cell? ⟨Bm, 0, none⟩ = some (.int .i64 mx))
  have LC1 := Lib.hid (fun (U : World) (hU : Below w.heap.size w U ∧ U.cell? ⟨Bw, 0, none⟩ = some (.bool false) ∧ U.cell? ⟨Bm, 0, none⟩ = some (.int .i64 mx)) => (var_any x hx0 hx1 U).mono (fun e w' h => (⟨h.1, h.2 ▸ hU⟩ : e = .returned (.int .i64 (var x)) ∧ Below w.heap.size w w' ∧ w'.cell? ⟨Bw, 0, none⟩ = some (.bool false) ∧ w'.cell? ⟨Bm, 0, none⟩ = some (.int .i64 mx))))
  have HF := Lib.hid (HS w.drew (Below.refl _ _).drew)
  have HOD : Hid (oddM mx x = (decide (x < 0) || decide (mx < var x))) := rfl
  clear HS hw hm hlw hlm hx0 hx1
  generalize hv : var x = v at *
  clear hv
  by_cases hx : x < 0
  · have hd : decide (x < 0) = true := decide_eq_true hx
    have HR : Hid (oddM mx x = true) := by show _ = _; rw [HOD.out, hd]; rfl
    clear hx
    go_enter Tryz.func83, Tryz.ntmps83
    go_upto_region 1 with fail
    refine Lex.region (fun w' => Below w.heap.size w w' ∧ w'.cell? ⟨Bw, 0, none⟩ = some (.bool false) ∧ w'.cell? ⟨Bm, 0, none⟩ = some (.int .i64 mx)) (by kernel_rfl) (by kernel_rfl) HF.out ?_
    repeat (first
      | (refine Lex.step_val (v := ?_) ?_ (fun w' hSw => ?_) ?_; rotate_left; (focus (go_simp; done)); (focus ((try dsimp only at hSw); go_simp; (try with_reducible rfl); done)); (try simp only [Act.put, List.setIfInBounds_toArray, List.set_cons_zero, List.set_cons_succ]))
      | (refine Lex.step_call (v := ?_) (f := ?_) (args := ?_) ?_ (fun w' hSw => ?_) ?_ ?_; rotate_left 3; (focus (go_simp; done)); (focus ((try dsimp only at hSw); go_simp; (refine And.intro ?_ ?_ <;> with_reducible rfl); done)); (focus (first | with_reducible exact LC1.out)); (try simp only [Act.put, List.setIfInBounds_toArray, List.set_cons_zero, List.set_cons_succ]))
      | (refine Lex.step_off ?_ ?_; (focus (first | (go_simp; done) | (simp [Region.wanted, yielded, undef]; done) | rfl)); (try simp only [Act.put, List.setIfInBounds_toArray, List.set_cons_zero, List.set_cons_succ]))
      | fail)
    refine Lex.step_nil ?_
    intro wz hz
    go_wp2_with fail
    go_ret
    exact ⟨ret_bool HR.out.symm, hz.1⟩
  · have hd : decide (x < 0) = false := decide_eq_false hx
    have HR : Hid (oddM mx x = decide (mx < v)) := by show _ = _; rw [HOD.out, hd]; rfl
    clear hx
    generalize hq : decide (mx < v) = q at *
    go_enter Tryz.func83, Tryz.ntmps83
    go_upto_region 1 with fail
    refine Lex.region (fun w' => Below w.heap.size w w' ∧ w'.cell? ⟨Bw, 0, none⟩ = some (.bool false) ∧ w'.cell? ⟨Bm, 0, none⟩ = some (.int .i64 mx)) (by kernel_rfl) (by kernel_rfl) HF.out ?_
    repeat (first
      | (refine Lex.step_val (v := ?_) ?_ (fun w' hSw => ?_) ?_; rotate_left; (focus (go_simp; done)); (focus ((try dsimp only at hSw); go_simp; (try with_reducible rfl); done)); (try simp only [Act.put, List.setIfInBounds_toArray, List.set_cons_zero, List.set_cons_succ]))
      | (refine Lex.step_call (v := ?_) (f := ?_) (args := ?_) ?_ (fun w' hSw => ?_) ?_ ?_; rotate_left 3; (focus (go_simp; done)); (focus ((try dsimp only at hSw); go_simp; (refine And.intro ?_ ?_ <;> with_reducible rfl); done)); (focus (first | with_reducible exact LC1.out)); (try simp only [Act.put, List.setIfInBounds_toArray, List.set_cons_zero, List.set_cons_succ]))
      | (refine Lex.step_off ?_ ?_; (focus (first | (go_simp; done) | (simp [Region.wanted, yielded, undef]; done) | rfl)); (try simp only [Act.put, List.setIfInBounds_toArray, List.set_cons_zero, List.set_cons_succ]))
      | fail)
    refine Lex.step_nil ?_
    intro wz hz
    go_wp2_with fail
    go_ret
    exact ⟨ret_bool HR.out.symm, hz.1⟩

set_option maxHeartbeats 2000000 in
theorem check_any (w : World) (a : Option Addr) (n c : Nat) (l : List Int) (hsl : Sl w a n c (ints l)) (hw : ∀ y ∈ l, Circuit.I64 y) (mx : Int) (hm0 : 0 ≤ mx) (hm1 : mx ≤ 2048) :
    Calls Tryz.prog 54 #[.int .i64 mx, .slice a n c] w fun e w' => e = .returned (.int .i64 (if l.any (oddM mx) = true then 4 else 0)) ∧ Below w.heap.size w w' := by
  have hlm : l.length = n := by have := hsl.len; rwa [ints_len] at this
  obtain ⟨W1, hW1⟩ : ∃ U, w.alloc (.cells #[.int .i64 mx] 3) = U := ⟨_, rfl⟩
  obtain ⟨U, hU⟩ : ∃ U, W1.alloc (.cells #[.bool false] 4) = U := ⟨_, rfl⟩
  have hb1 : Below w.heap.size w W1 := by rw [← hW1]; exact (Below.refl _ _).alloc (Nat.le_refl _) _
  have hb2 : Below W1.heap.size W1 U := by rw [← hU]; exact (Below.refl _ _).alloc (Nat.le_refl _) _
  have hz1 : w.heap.size < W1.heap.size := by rw [← hW1]; simp
  have hz2 : W1.heap.size < U.heap.size := by rw [← hU]; simp
  have u0 : U.cell? ⟨w.heap.size, 0, none⟩ = some (.int .i64 mx) := (hb2.cell (p := ⟨w.heap.size, 0, none⟩) hz1).trans (by rw [← hW1]; simp)
  have u1 : U.cell? ⟨W1.heap.size, 0, none⟩ = some (.bool false) := by rw [← hU]; simp
  have w0 : W1.cell? ⟨w.heap.size, 0, none⟩ = some (.int .i64 mx) := by rw [← hW1]; simp
  have hb := hb1.trans (hb2.mono hb1.size)
  have CF := SlfI.containsFunc U a n c (ints l) 83 #[] #[.pointer (some ⟨W1.heap.size, 0, none⟩), .pointer (some ⟨w.heap.size, 0, none⟩)] (l.map (oddM mx)) (hsl.next hb) (by rw [List.length_map, hlm]) eg_chk (by
    intro V hV j y q hy hq
    obtain ⟨hj, rfl⟩ := Base.ints_at hy
    rw [List.getElem?_map, List.getElem?_eq_getElem hj] at hq
    simp only [Option.map_some, Option.some.injEq] at hq
    subst hq
    have hzV := hV.size
    exact chk1_any V W1.heap.size w.heap.size ((hV.cell (p := ⟨W1.heap.size, 0, none⟩) hz2).trans u1) mx ((hV.cell (p := ⟨w.heap.size, 0, none⟩) (Nat.lt_trans hz1 hz2)).trans u0) (by omega) (by omega) l[j] (hw _ (List.getElem_mem hj)).1 (hw _ (List.getElem_mem hj)).2)
  have hall : ((l.map (oddM mx)).any id) = l.any (oddM mx) := by
    rw [List.any_map]
    rfl
  rw [hall] at CF
  have HCF := Lib.hid CF
  have HB := Lib.hid hb
  have HU := Lib.hid hU
  have HWR : Hid ((decide (mx < 0) || decide (2048 < mx)) = false) := by show _ = _; rw [decide_eq_false (by omega), decide_eq_false (by omega)]; rfl
  clear CF hall hb hb1 hb2 hz1 hz2 u0 u1 hsl hw hU
  generalize l.any (oddM mx) = q at *
  cases q
  all_goals
    go_enter Tryz.func54, Tryz.ntmps54
    go_wp2_with fail
    rw [HWR.out, HU.out]
    with_reducible refine HCF.out.mono ?_
    rintro e w3 ⟨rfl, hb3⟩
    have HB3 := Lib.hid (HB.out.trans (hb3.mono HB.out.size))
    clear hb3
    go_wp2_with fail
    go_ret
    exact ⟨rfl, HB3.out⟩

end LitsC
end Go.Proofs.YtninglnchengeaaGreatDoor

/-
  slices.IndexFunc and slices.ContainsFunc at one instance (elements of one cell), whatever predicate is handed over: ps says of each element what the predicate gives.
-/
namespace Go.Proofs.YtninglnchengeaaGreatDoor
open Go.RowKit Base
set_option linter.unusedVariables false
namespace SlfR

/-- A function value gives ps of the elements, and turns nothing that is there. -/
def Gives (w : World) (g : FuncId) (fs lb : Array Value) (vs : List Value) (ps : List Bool) : Prop :=
  ∀ W, Below w.heap.size w W → ∀ (k : Nat) (v : Value) (b : Bool), vs[k]? = some v → ps[k]? = some b → Calls Tryz.prog g (fs.push v ++ lb) W fun e w' => e = .returned (.bool b) ∧ Below W.heap.size W w'

def Enters (g : FuncId) : Prop := ∀ args w, (callFunc g args).run Tryz.prog w = .ok (.enter g args) w

theorem idx_hit (ps : List Bool) (k : Nat) (h : ps[k]? = some true) : idx id (ps.drop k) k = k := by
  obtain ⟨hk, e⟩ := List.getElem?_eq_some_iff.1 h
  rw [List.drop_eq_getElem_cons hk]; unfold idx; rw [e]; rfl
theorem idx_miss (ps : List Bool) (k : Nat) (h : ps[k]? = some false) : idx id (ps.drop k) k = idx id (ps.drop (k + 1)) (k + 1) := by
  obtain ⟨hk, e⟩ := List.getElem?_eq_some_iff.1 h
  rw [List.drop_eq_getElem_cons hk]
  show (if id ps[k] = true then _ else _) = _
  rw [e]; rfl

set_option maxHeartbeats 1000000 in
theorem indexFunc (w : World) (a : Option Addr) (n c : Nat) (vs : List Value) (g : FuncId) (fs lb : Array Value) (ps : List Bool)
    (hs : Sl w a n c vs) (hps : ps.length = n) (eg : Enters g) (hg : Gives w g fs lb vs ps) :
    Calls Tryz.prog 84 #[.slice a n c, .func (.func g) fs lb] w fun e w' => e = .returned (.int .i64 (idx id ps 0)) ∧ Below w.heap.size w w' := by
  have hcap := hs.cap
  have hbig := hs.big
  have HPS := Lib.hid hps
  have HG := Lib.hid hg
  clear hg hps
  unfold Enters at eg
  go_enter Tryz.func84, Tryz.ntmps84
  go_wp2
  go_loopw [5, 8] (fun _ i wr => ∃ k : Nat, k ≤ n ∧ i = .int .i64 k ∧ Below w.heap.size w wr ∧ Hid (idx id ps 0 = idx id (ps.drop k) k)) (fun _ i _ => n - (intOf i).toNat)
  case atStart => exact ⟨0, Nat.zero_le _, rfl, Below.refl _ _, rfl⟩
  case round =>
    obtain ⟨k, hk, rfl, hb, hI⟩ := hrel
    by_cases hlt : k < n
    · obtain ⟨b, o, v, rfl, hbs, hv, hc⟩ := hs.at hlt
      have hcr : wr.cell? ⟨b, o + k, none⟩ = some v := (hb.cell (p := ⟨b, o + k, none⟩) hbs).trans hc
      have HV := Lib.hid hv
      clear hc hv
      obtain ⟨q, hq⟩ : ∃ q, ps[k]? = some q := ⟨_, List.getElem?_eq_getElem (by have := HPS.out; omega)⟩
      have HQ := Lib.hid hq
      clear hq
      cases q
      all_goals
        go_wp2_with fail
        refine (HG.out wr hb k v _ HV.out HQ.out).mono ?_
        rintro e w1 ⟨rfl, hb1⟩
        go_wp2_with fail
      · go_roundw
        case rel => exact ⟨k + 1, by omega, by go_num, hb.trans (hb1.mono hb.size), hI.out.trans (idx_miss ps k HQ.out)⟩
        case measure => simp [intOf]; omega
      · go_ret
        exact ⟨ret_int (by rw [hI.out, idx_hit ps k HQ.out]), hb.trans (hb1.mono hb.size)⟩
    · go_wp2
      go_ret
      exact ⟨ret_int (by rw [hI.out, List.drop_of_length_le (by rw [HPS.out]; omega)]; rfl), hb⟩

set_option maxHeartbeats 400000 in
theorem containsFunc (w : World) (a : Option Addr) (n c : Nat) (vs : List Value) (g : FuncId) (fs lb : Array Value) (ps : List Bool)
    (hs : Sl w a n c vs) (hps : ps.length = n) (eg : Enters g) (hg : Gives w g fs lb vs ps) :
    Calls Tryz.prog 55 #[.slice a n c, .func (.func g) fs lb] w fun e w' => e = .returned (.bool (ps.any id)) ∧ Below w.heap.size w w' := by
  have H := Lib.hid (indexFunc w a n c vs g fs lb ps hs hps eg hg)
  clear hg hs eg hps
  go_enter Tryz.func55, Tryz.ntmps55
  go_wp2_with fail
  refine H.out.mono ?_
  rintro e w1 ⟨rfl, hb1⟩
  generalize hq : idx id ps 0 = q
  have HQ := Lib.hid hq
  clear hq
  go_wp2_with fail
  go_ret
  exact ⟨ret_bool (by rw [← idx_nn id ps 0, HQ.out]), hb1⟩
end SlfR
end Go.Proofs.YtninglnchengeaaGreatDoor

/-
  coi.asked: may it be asked what counts?
-/
namespace Go.Proofs.YtninglnchengeaaGreatDoor
open Go.RowKit Base
set_option linter.unusedVariables false
set_option linter.unusedSimpArgs false
namespace Coi
open Circuit LitsC

theorem eg_ask : SlfR.Enters 53 := enters_of Tryz.func53 (by kernel_rfl) rfl
def strangeL (mx : Int) (l : List Int) : Bool := l.any (oddM mx)

set_option maxHeartbeats 1000000 in
theorem ask1_any (w : World) (N : Nat) (mx : Int) (hm : w.cell? ⟨N, 0, none⟩ = some (.int .i64 mx)) (h0 : 0 ≤ mx) (h1 : mx ≤ 2048) (a : Option Addr) (n c : Nat) (l : List Int) (hsl : Sl w a n c (ints l)) (hl : ∀ y ∈ l, Circuit.I64 y) :
    Calls Tryz.prog 53 #[.slice a n c, .pointer (some ⟨N, 0, none⟩)] w fun e w' => e = .returned (.bool (strangeL mx l)) ∧ Below w.heap.size w w' := by
  have HC := Lib.hid (check_any w a n c l hsl hl mx h0 h1)
  unfold strangeL
  generalize l.any (oddM mx) = q at *
  clear hsl hl h0 h1
  cases q
  all_goals
    go_enter Tryz.func53, Tryz.ntmps53
    go_wp2_with fail
    with_reducible refine HC.out.mono ?_
    rintro e w2 ⟨rfl, hb2⟩
    go_wp2_with fail
    go_ret
    exact ⟨rfl, hb2⟩

/-- What asked tells. -/
noncomputable def askE (x : Circ) (A : List (List Int)) (bad : Int) : Int :=
  if tt (CheckOk x) = true then (if bad < 0 ∨ (x.bads.length : Int) ≤ bad then 4 else if A.any (strangeL x.max) = true then 23 else 0) else 9
theorem askE_no {x : Circ} (h : ¬ CheckOk x) (A : List (List Int)) (bad : Int) : askE x A bad = 9 := by unfold askE; rw [tt_neg h]; rfl
theorem askE_bad {x : Circ} (h : CheckOk x) (A : List (List Int)) {bad : Int} (hb : bad < 0 ∨ (x.bads.length : Int) ≤ bad) : askE x A bad = 4 := by unfold askE; rw [tt_pos h, if_pos rfl, if_pos hb]
theorem askE_kind {x : Circ} (h : CheckOk x) {A : List (List Int)} {bad : Int} (hb : ¬ (bad < 0 ∨ (x.bads.length : Int) ≤ bad)) (hA : A.any (strangeL x.max) = true) : askE x A bad = 23 := by unfold askE; rw [tt_pos h, if_pos rfl, if_neg hb, if_pos hA]
theorem askE_ok {x : Circ} (h : CheckOk x) {A : List (List Int)} {bad : Int} (hb : ¬ (bad < 0 ∨ (x.bads.length : Int) ≤ bad)) (hA : A.any (strangeL x.max) = false) : askE x A bad = 0 := by unfold askE; rw [tt_pos h, if_pos rfl, if_neg hb, if_neg (by rw [hA]; decide)]
theorem askE_zero {x : Circ} {A : List (List Int)} {bad : Int} (h : askE x A bad = 0) : CheckOk x ∧ 0 ≤ bad ∧ bad < x.bads.length ∧ A.any (strangeL x.max) = false := by
  by_cases hc : CheckOk x
  · by_cases hb : bad < 0 ∨ (x.bads.length : Int) ≤ bad
    · rw [askE_bad hc A hb] at h; omega
    · cases hA : A.any (strangeL x.max)
      · exact ⟨hc, by omega, by omega, rfl⟩
      · rw [askE_kind hc hb hA] at h; omega
  · rw [askE_no hc] at h; omega

set_option maxRecDepth 8000 in
set_option maxHeartbeats 4000000 in
theorem asked_any (w : World) (x : Circ) (p : At) (hin : InCirc w x p) (hw : WfC x) (aA : Option Addr) (n cA : Nat) (vals : List Value) (A : List (List Int)) (hA : Sl2 w aA n cA vals A) (hA64 : ∀ y ∈ A.flatten, Circuit.I64 y) (bad : Int) (hb0 : -9223372036854775808 ≤ bad) (hb1 : bad ≤ 9223372036854775807) :
    Calls Tryz.prog 23 #[.agg (cells x p), .slice aA n cA, .int .i64 bad] w fun e w' => e = .returned (.int .i64 (askE x A bad)) ∧ Below w.heap.size w w' := by
  obtain ⟨W1, hW1⟩ : ∃ W1, w.alloc (.cells (cells x p) 27) = W1 := ⟨_, rfl⟩
  obtain ⟨hb1', hc1⟩ := cbox_new w x p W1 hW1
  have HB1 := Lib.hid hb1'
  have HC := Lib.hid (check_any W1 x p (hin.next hb1') hw.ins hw.outs hw.bads hw.invs hw.lats hw.ands hw.mx)
  have HCB := Lib.hid (fun (U : World) (hU : Below W1.heap.size W1 U) => hc1.next hU (Nat.le_refl _))
  have HA := Lib.hid (fun (U : World) (hU : Below W1.heap.size W1 U) => (hA.next hb1').next hU)
  have HA64 := Lib.hid hA64
  have HAL := Lib.hid (hA.len)
  have HLB := Lib.hid (hin.bads.big)
  have k0 := hc1.k0
  have k1 := hc1.k1
  have k2 := hc1.k2
  have k3 := hc1.k3
  have k4 := hc1.k4
  have k5 := hc1.k5
  have k6 := hc1.k6
  have k7 := hc1.k7
  obtain ⟨a1, c1, a2, c2, a3, c3, a4, c4, a5, c5, a6, c6, a7, c7⟩ := p
  simp only [cells] at *
  by_cases hok : CheckOk x
  · rw [chk_pos hok] at HC
    have HOK := Lib.hid hok
    clear hin hw hA hA64 hb1' hc1 hok
    by_cases hlo : bad < 0
    · have HE : Hid (askE x A bad = 4) := askE_bad HOK.out A (Or.inl hlo)
      go_enter Tryz.func23, Tryz.ntmps23
      go_wp2_with fail
      with_reducible refine HC.out.mono ?_
      rintro e w2 ⟨rfl, hb2⟩
      have HB2 := Lib.hid hb2
      clear hb2 k0 k1 k2 k3 k4 k5 k6 k7 hW1
      go_wp2_with fail
      go_ret
      exact ⟨ret_int HE.out.symm, HB1.out.trans (HB2.out.mono HB1.out.size)⟩
    · by_cases hhi : (x.bads.length : Int) ≤ bad
      · have HE : Hid (askE x A bad = 4) := askE_bad HOK.out A (Or.inr hhi)
        go_enter Tryz.func23, Tryz.ntmps23
        go_wp2_with fail
        with_reducible refine HC.out.mono ?_
        rintro e w2 ⟨rfl, hb2⟩
        have HB2 := Lib.hid hb2
        have m4 := (HCB.out w2 hb2).k4
        clear hb2 k0 k1 k2 k3 k4 k5 k6 k7 hW1
        go_wp2_with fail
        go_ret
        exact ⟨ret_int HE.out.symm, HB1.out.trans (HB2.out.mono HB1.out.size)⟩
      · have HN : Hid (¬ (bad < 0 ∨ (x.bads.length : Int) ≤ bad)) := fun h => h.elim hlo hhi
        have HGV := Lib.hid (fun (U : World) (hU : Below W1.heap.size W1 U) => SlfR.containsFunc U aA n cA vals 53 #[] #[.pointer (some ⟨w.heap.size, 0, none⟩)] (A.map (strangeL x.max)) (HA.out U hU).sl (by rw [List.length_map, HAL.out]) eg_ask (by
          intro V hV j v q hv hq
          rw [List.getElem?_map, Option.map_eq_some_iff] at hq
          obtain ⟨l, hl, rfl⟩ := hq
          have hVU := hU.trans (hV.mono hU.size)
          obtain ⟨a', c', rfl, hs⟩ := (HA.out V hVU).row j v l hv hl
          exact ask1_any V w.heap.size x.max (HCB.out V hVU).k0 HOK.out.1.1 HOK.out.1.2.1 a' l.length c' l hs (fun y hy => HA64.out y (List.mem_flatten.2 ⟨l, List.mem_of_getElem? hl, hy⟩))))
        have hany : ((A.map (strangeL x.max)).any id) = A.any (strangeL x.max) := by rw [List.any_map]; rfl
        rw [hany] at HGV
        have hhi2 : bad < (x.bads.length : Int) := by omega
        clear hany
        cases hq : A.any (strangeL x.max)
        · have HE : Hid (askE x A bad = 0) := askE_ok HOK.out HN.out hq
          rw [hq] at HGV
          clear hq
          go_enter Tryz.func23, Tryz.ntmps23
          go_wp2_with fail
          with_reducible refine HC.out.mono ?_
          rintro e w2 ⟨rfl, hb2⟩
          have HB2 := Lib.hid hb2
          have m4 := (HCB.out w2 hb2).k4
          have HG2 := Lib.hid (HGV.out w2 hb2)
          clear hb2 k0 k1 k2 k3 k4 k5 k6 k7 hW1
          go_wp2_with fail
          with_reducible refine HG2.out.mono ?_
          rintro e w3 ⟨rfl, hb3⟩
          go_wp2_with fail
          go_ret
          exact ⟨ret_int HE.out.symm, HB1.out.trans ((HB2.out.trans (hb3.mono HB2.out.size)).mono HB1.out.size)⟩
        · have HE : Hid (askE x A bad = 23) := askE_kind HOK.out HN.out hq
          rw [hq] at HGV
          clear hq
          go_enter Tryz.func23, Tryz.ntmps23
          go_wp2_with fail
          with_reducible refine HC.out.mono ?_
          rintro e w2 ⟨rfl, hb2⟩
          have HB2 := Lib.hid hb2
          have m4 := (HCB.out w2 hb2).k4
          have HG2 := Lib.hid (HGV.out w2 hb2)
          clear hb2 k0 k1 k2 k3 k4 k5 k6 k7 hW1
          go_wp2_with fail
          with_reducible refine HG2.out.mono ?_
          rintro e w3 ⟨rfl, hb3⟩
          go_wp2_with fail
          go_ret
          exact ⟨ret_int HE.out.symm, HB1.out.trans ((HB2.out.trans (hb3.mono HB2.out.size)).mono HB1.out.size)⟩
  · rw [chk_neg hok] at HC
    have HE : Hid (askE x A bad = 9) := askE_no hok A bad
    clear hin hw hA hA64 hb1' hc1 hok
    go_enter Tryz.func23, Tryz.ntmps23
    go_wp2_with fail
    with_reducible refine HC.out.mono ?_
    rintro e w2 ⟨rfl, hb2⟩
    have HB2 := Lib.hid hb2
    clear hb2 k0 k1 k2 k3 k4 k5 k6 k7 hW1
    go_wp2_with fail
    go_ret
    exact ⟨ret_int HE.out.symm, HB1.out.trans (HB2.out.mono HB1.out.size)⟩
end Coi
end Go.Proofs.YtninglnchengeaaGreatDoor

/-
  slices.Sorted(maps.Keys(m)) at map[int]bool: the keys, sorted.
-/
namespace Go.Proofs.YtninglnchengeaaGreatDoor
open Go.RowKit Base
set_option linter.unusedVariables false
namespace SortedN
open SortedK
open Go.Maps Go.Sort Go.Shelf

def keysN_ren : Go.Shelf.Ren := ⟨fun | 7 => 42 | 10 => 70 | n => n, fun | 23 => 66 | 26 => 3 | 3 => 4 | 28 => 84 | 0 => 0 | 27 => 83 | 33 => 70 | 4 => 4 | n => n, fun | n => n⟩
theorem keysN : Go.Proofs.SlLaysZI.n7 Tryz.prog keysN_ren := {
  mixed := by kernel_rfl
  f7 := ⟨Tryz.f42.name, by decide, Tryz.func42.trans (congrArg some (by kernel_rfl))⟩
  f10 := ⟨Tryz.f70.name, by decide, Tryz.func70.trans (congrArg some (by kernel_rfl))⟩
  t0 := Tryz.underlying0
  a0 := Tryz.isAgg0
  z0 := Tryz.sizeOf0
  v0 := Tryz.zeroValue0
  t4 := Tryz.underlying4
  a4 := Tryz.isAgg4
  z4 := Tryz.sizeOf4
  v4 := Tryz.zeroValue4
  t23 := Tryz.underlying66
  a23 := Tryz.isAgg66
  z23 := Tryz.sizeOf66
  v23 := Tryz.zeroValue66
  t26 := Tryz.underlying3
  a26 := Tryz.isAgg3
  z26 := Tryz.sizeOf3
  v26 := Tryz.zeroValue3
  t27 := Tryz.underlying83
  a27 := Tryz.isAgg83
  z27 := Tryz.sizeOf83
  v27 := Tryz.zeroValue83
  t28 := Tryz.underlying84
  a28 := Tryz.isAgg84
  z28 := Tryz.sizeOf84
  v28 := Tryz.zeroValue84
  t33 := Tryz.underlying70
  a33 := Tryz.isAgg70
  z33 := Tryz.sizeOf70
  v33 := Tryz.zeroValue70 }

theorem keys_any (mb : Option Nat) (w : World) : Calls Tryz.prog 42 #[.map mb] w fun e w' => e = .returned (.func (.func 70) #[] #[.pointer (some ⟨w.heap.size, 0, none⟩)]) ∧ w' = w.alloc (.cells #[.map mb] 66) :=
  (callsIn_wide (n := 5)).1 (AnyZI.keys_in keysN Fence.wide 5 trivial rfl mb w)

set_option maxHeartbeats 1000000 in
theorem sorted_any {H : Type} (b nn : Nat) (D0 : DataW H) (R : Value → Option (DataW H × List MemPlace)) (w : World) (hown : w.ownsMap Tryz.prog 3 R b nn D0) (hmax : Maps.size D0 ≤ maxLen) (hbytes : Maps.size D0 * 8 ≤ 140737488355328) :
    Calls Tryz.prog 41 #[.func (.func 70) #[] #[.pointer (some ⟨w.heap.size, 0, none⟩)]] (w.alloc (.cells #[.map (some b)] 66)) fun e w' => ∃ (v : Value) (ss : List Int), e = .returned v ∧ ss.Perm (intKeys D0) ∧
      w'.ownsRow w.heap.size 3 1 v ss.length ((ss.mergeSort (fun x y => decide (x ≤ y))).map encZ) ∧ (v = .slice none 0 0 ↔ ss = []) ∧ Below w.heap.size w w' := by
  refine (callsIn_wide (n := 5)).1 ?_
  have hbl := hown.lt
  have hseq : SeqGives Fence.wide 2 Tryz.prog 70 #[.pointer (some ⟨w.heap.size, 0, none⟩)] encZ (fun ss => ss.Perm (intKeys D0)) (Maps.size D0) (w.alloc (.cells #[.map (some b)] 66)) :=
    AnyZI.keys_gives (ρ := keysN_ren) { keysN with } Fence.wide _ trivial rfl (by omega) w.heap.size b nn D0 _ (by simp) (by simp) (by
      obtain ⟨es, clock, hb, Ft, hs, hD⟩ := hown
      exact ⟨es, clock, (Below.heap_alloc _ _ b hbl).trans hb, Ft, hs, hD⟩)
  have cS := AnyZI.sorted_in sortedA Fence.wide 5 trivial trivial trivial trivial rfl (by omega) (sortsA _) (enters_of Tryz.func69 (by kernel_rfl) rfl) 70 #[.pointer (some ⟨w.heap.size, 0, none⟩)] trivial (enters_of Tryz.func70 (by kernel_rfl) rfl) _ _ hmax hbytes _ hseq
  refine cS.mono ?_
  rintro e w' ⟨v, ss, he, hS, hrow, hnil, hb⟩
  exact ⟨v, ss, he, hS, ownsRow_base_a hrow (by simp), hnil, ((Below.refl _ w).alloc (Nat.le_refl _) _).trans (hb.mono (by simp))⟩

end SortedN
end Go.Proofs.YtninglnchengeaaGreatDoor

/-
  interlockplain.Ints: are two lists of integers one?
-/
namespace Go.Proofs.YtninglnchengeaaGreatDoor
open Go.RowKit Base
set_option linter.unusedVariables false
namespace Plain

theorem take_all {xs ys : List Int} (h : xs.length = ys.length) : xs.take xs.length = ys.take xs.length → xs = ys := by
  intro e
  rw [List.take_length, h, List.take_length] at e
  exact e

theorem take_more {xs ys : List Int} {k : Nat} (hx : k < xs.length) (hy : k < ys.length) (h : xs.take k = ys.take k) (e : xs[k] = ys[k]) : xs.take (k + 1) = ys.take (k + 1) := by
  rw [List.take_succ_eq_append_getElem hx, List.take_succ_eq_append_getElem hy, h, e]

set_option maxHeartbeats 1000000 in
theorem ints_any (w : World) (a1 a2 : Option Addr) (n1 n2 c1 c2 : Nat) (xs ys : List Int) (h1 : Sl w a1 n1 c1 (ints xs)) (h2 : Sl w a2 n2 c2 (ints ys)) :
    Calls Tryz.prog 15 #[.slice a1 n1 c1, .slice a2 n2 c2] w fun e w' => e = .returned (.bool (decide (xs = ys))) ∧ Below w.heap.size w w' := by
  have l1 : xs.length = n1 := by have := h1.len; rw [ints_len] at this; exact this
  have l2 : ys.length = n2 := by have := h2.len; rw [ints_len] at this; exact this
  have hb1 := h1.cap
  have hb2 := h1.big
  by_cases hn : n1 = n2
  · subst hn
    subst l1
    have L2 := Lib.hid l2
    have l2' : ys.length ≤ xs.length := by omega
    have l2'' : xs.length ≤ ys.length := by omega
    clear l2
    go_enter Tryz.func15, Tryz.ntmps15
    go_wp2
    go_loopw [5] (fun i wr => ∃ k : Nat, k ≤ xs.length ∧ i = .int .i64 k ∧ Hid (xs.take k = ys.take k) ∧ Below w.heap.size w wr) (fun i _ => xs.length - (intOf i).toNat)
    case atStart => exact ⟨0, Nat.zero_le _, rfl, rfl, Below.refl _ _⟩
    case round =>
      obtain ⟨k, hk, rfl, hI, hbr⟩ := hrel
      by_cases hlt : k < xs.length
      · obtain ⟨b, o, hx, rfl, hbs, hc⟩ := h1.int hlt
        obtain ⟨b', o', hy, rfl, hbs', hc'⟩ := h2.int hlt
        have hcr : wr.cell? ⟨b, o + k, none⟩ = some (.int .i64 xs[k]) := (hbr.cell (p := ⟨b, o + k, none⟩) hbs).trans hc
        have hcr' : wr.cell? ⟨b', o' + k, none⟩ = some (.int .i64 ys[k]) := (hbr.cell (p := ⟨b', o' + k, none⟩) hbs').trans hc'
        clear hc hc'
        generalize hp : xs[k] = p at *
        generalize hq : ys[k] = q at *
        have HP := Lib.hid hp
        have HQ := Lib.hid hq
        clear hp hq
        by_cases hpq : p = q
        · have hv : (p != q) = false := by simp [hpq]
          have E := Lib.hid hpq
          clear hpq
          go_wp2_with fail
          go_quiet (fail)
          go_wp2
          go_roundw
          case rel => exact ⟨k + 1, by omega, by go_num, take_more hx hy hI.out (by rw [HP.out, HQ.out, E.out]), below_drewN hbr _⟩
          case measure => simp [intOf]; omega
        · have hv : (p != q) = true := by simp [hpq]
          have E := Lib.hid hpq
          clear hpq
          go_wp2_with fail
          go_quiet (fail)
          go_wp2
          go_ret
          refine ⟨ret_bool ?_, below_drewN hbr _⟩
          symm
          apply decide_eq_false
          intro h
          apply E.out
          rw [← HP.out, ← HQ.out]
          subst h
          rfl
      · go_wp2
        go_ret
        refine ⟨ret_bool ?_, hbr⟩
        symm
        apply decide_eq_true
        have hk' : k = xs.length := by omega
        subst hk'
        exact take_all L2.out.symm hI.out
  · have hne : ((n1 : Int) != (n2 : Int)) = true := by simp; omega
    have hne' : ((n1 : Int) == (n2 : Int)) = false := by simp; omega
    have hd : decide (xs = ys) = false := decide_eq_false (fun h => hn (by rw [← l1, ← l2, h]))
    have HD := Lib.hid hd
    clear hd
    go_enter Tryz.func15, Tryz.ntmps15
    go_wp2
    go_ret
    exact ⟨ret_bool HD.out.symm, Below.refl _ _⟩
end Plain
end Go.Proofs.YtninglnchengeaaGreatDoor

/-
  coi.Needed; interlocklaw35's alive.
-/
namespace Go.Proofs.YtninglnchengeaaGreatDoor
open Go.RowKit Base Go.Maps
set_option linter.unusedVariables false
set_option linter.unusedSimpArgs false
namespace Coi
open Circuit StrashP

set_option maxRecDepth 8000 in
set_option maxHeartbeats 4000000 in
theorem needed_ok (w : World) (x : Circ) (p : At) (hin : InCirc w x p) (hw : WfC x) (aA : Option Addr) (n cA : Nat) (vals : List Value) (A : List (List Int)) (hA : Sl2 w aA n cA vals A) (hA64 : ∀ y ∈ A.flatten, Circuit.I64 y) (k : Nat) (hk : k < x.bads.length) (hok : askE x A k = 0)
    (hz1 : n ≤ 4000000) (hz2 : A.flatten.length ≤ 4000000) (hz3 : x.ands.length ≤ 4000000) :
    Calls Tryz.prog 14 #[.agg (cells x p), .slice aA n cA, .int .i64 k] w fun e w' => ∃ a' c' T, e = .returned (.tuple #[.slice a' T.length c', .int .i64 0]) ∧ Sl w' a' T.length c' (ints T) ∧ T.Pairwise (· < ·) ∧ (∀ v, v ∈ T ↔ v ≠ 0 ∧ NR x (A.flatten ++ x.invs ++ [x.bads[k]]) v) ∧ Below w.heap.size w w' := by
  obtain ⟨W1, hW1⟩ : ∃ W1, w.alloc (.cells (cells x p) 27) = W1 := ⟨_, rfl⟩
  obtain ⟨hb1, hc1⟩ := cbox_new w x p W1 hW1
  have HB1 := Lib.hid hb1
  have hck := (askE_zero hok).1
  have has := asked_any W1 x p (hin.next hb1) hw aA n cA vals A (hA.next hb1) hA64 k (by omega) (by have := hck.1.2.2.2.2.2.1; omega)
  rw [hok] at has
  have HAS := Lib.hid has
  have HBX := Lib.hid (And.intro hz2 (And.intro hz3 (And.intro hck.1.2.2.2.2.2.2 hck.1.2.2.2.1)))
  have HCN := Lib.hid (fun (U : World) (hU : Below w.heap.size w U) => counted_any U x p (hin.next hU) hw aA n cA vals A (hA.next hU) hA64 k hk hz1 hz2 hz3 (by have := hck.1.2.2.2.2.2.2; omega) (by have := hck.1.2.2.2.1; omega))
  have HCB := Lib.hid (fun (U : World) (hU : Below W1.heap.size W1 U) => hc1.next hU (Nat.le_refl _))
  have k0 := hc1.k0
  have k1 := hc1.k1
  have k2 := hc1.k2
  have k3 := hc1.k3
  have k4 := hc1.k4
  have k5 := hc1.k5
  have k6 := hc1.k6
  have k7 := hc1.k7
  generalize x.bads[k] = bl at *
  obtain ⟨l, hl⟩ : ∃ l, A.flatten ++ x.invs ++ [bl] = l := ⟨_, rfl⟩
  simp only [hl] at HCN ⊢
  have HLL : Hid (l.length = A.flatten.length + x.invs.length + 1) := by show _ = _; rw [← hl]; simp only [List.length_append, List.length_singleton]
  obtain ⟨a1, c1, a2, c2, a3, c3, a4, c4, a5, c5, a6, c6, a7, c7⟩ := p
  simp only [cells] at *
  clear hin hw hA hA64 hb1 hc1 hok hck has hz1 hz2 hz3 hl
  go_enter Tryz.func14, Tryz.ntmps14
  go_wp2_with fail
  with_reducible refine HAS.out.mono ?_
  rintro e w2 ⟨rfl, hb2⟩
  have hb12 := HB1.out.trans (hb2.mono HB1.out.size)
  have HB12 := Lib.hid hb12
  have HCN2 := Lib.hid (HCN.out w2 hb12)
  have hcw := HCB.out w2 hb2
  clear k0 k1 k2 k3 k4 k5 k6 k7 hW1
  have k0 := hcw.k0
  have k1 := hcw.k1
  have k2 := hcw.k2
  have k3 := hcw.k3
  have k4 := hcw.k4
  have k5 := hcw.k5
  have k6 := hcw.k6
  have k7 := hcw.k7
  clear hb2 hb12 hcw
  go_wp2_with fail
  with_reducible refine HCN2.out.mono ?_
  rintro e w3 ⟨mb, X, rfl, hmb, hset, hnd, hX, hb3⟩
  have hfew : X.length ≤ 100000000 := by
    have h := nodup_len hnd (C := uni x l) (fun v hv => nr_uni ((hX v).1 hv).2)
    unfold uni at h
    simp only [List.length_append, List.length_map] at h
    have h1 := HBX.out
    have h2 := HLL.out
    omega
  obtain ⟨D, hown, hD1, hD2, hD3⟩ := hset
  have hds := SetI.keys_size hD3
  have HKS := Lib.hid (fun (U : World) => SortedN.keys_any (some mb) U)
  have HSS := Lib.hid (SortedN.sorted_any mb X.length D (plainElem Tryz.prog 4) w3 hown (by rw [hds]; unfold maxLen; omega) (by rw [hds]; omega))
  have hpm : (intKeys D).Perm X := by obtain ⟨es, rfl, _, h⟩ := hD3; exact h
  have HPM := Lib.hid hpm
  have HND := Lib.hid hnd
  have HX := Lib.hid hX
  have HB3 := Lib.hid (HB12.out.trans (hb3.mono HB12.out.size))
  clear hfew hds hown hD1 hD2 hD3 hmb hnd hX hb3 hpm k0 k1 k2 k3 k4 k5 k6 k7
  go_wp2_with fail
  with_reducible refine (HKS.out _).mono ?_
  rintro e w5 ⟨rfl, rfl⟩
  go_wp2_with fail
  with_reducible refine HSS.out.mono ?_
  rintro e w6 ⟨v, ss, rfl, hperm, hrow, hnil, hb⟩
  obtain ⟨a9, c9, rfl, hs9⟩ := own_sl hrow
  have HS9 := Lib.hid hs9
  have HBB := Lib.hid hb
  clear hrow hb hnil hs9
  go_wp2_with fail
  obtain ⟨hs1, hs2, hs3⟩ := sorted_strict (hperm.trans HPM.out) HND.out
  refine bodyPost_ret (v := .tuple #[.slice a9 ss.length c9, .int .i64 0]) (by simp [results, Tryz.results14, go_sem]) rfl ?_
  refine ⟨a9, c9, ss.mergeSort (fun x y => decide (x ≤ y)), by rw [hs3], ?_, hs1, fun v => (hs2 v).trans (HX.out v), HB3.out.trans (HBB.out.mono HB3.out.size)⟩
  rw [hs3]
  exact HS9.out
end Coi
end Go.Proofs.YtninglnchengeaaGreatDoor

/-
  interlocklaw35's alive.
-/
namespace Go.Proofs.YtninglnchengeaaGreatDoor
open Go.RowKit Base Go.Maps
set_option linter.unusedVariables false
set_option linter.unusedSimpArgs false
namespace Coi
open Circuit StrashP

def x1 : Circ := ⟨1, [2], [], [], [2], [], [], []⟩
theorem x1_ok : CheckOk x1 := by
  refine ⟨by unfold Few x1; simp, ⟨?_, ?_, ?_⟩, ?_, ?_, ?_, ?_, ?_, ?_⟩
  · refine StrashP.ownOk_iff.2 ⟨fun m hm => ?_, ?_⟩
    · have : m = 2 := by unfold ownL x1 at hm; simpa using hm
      subst this
      exact ⟨by decide, by decide, by decide⟩
    · show ([2].map var).Nodup
      simp
  · intro t ht; exact absurd ht (by unfold x1; simp)
  · intro j hj
    have : (0 : Nat) > j + 1 := hj
    omega
  · intro t ht; exact absurd ht (by unfold x1; simp)
  · intro t ht; exact absurd ht (by unfold x1; simp)
  · intro t ht; exact absurd ht (by unfold x1; simp)
  · intro t ht
    have : t = 2 := by unfold x1 at ht; simpa using ht
    subst this
    exact ⟨by decide, Or.inr (by show var 2 ∈ [var 2]; simp)⟩
  · intro t ht; exact absurd ht (by unfold x1; simp)
  · intro j hj; exact absurd hj (by unfold x1; simp)
theorem x1_ask : askE x1 [] ((0 : Nat) : Int) = 0 := askE_ok x1_ok (by show ¬ (_ ∨ ((([2] : List Int).length : Nat) : Int) ≤ _); simp) rfl
theorem x1_nr (v : Int) : (v ≠ 0 ∧ NR x1 [2] v) ↔ v = 1 := by
  constructor
  · rintro ⟨h0, h⟩
    cases h with
    | lit ht => rw [List.mem_singleton.1 ht]; decide
    | left _ _ hg => exact absurd (gate_mem hg) (by show _ ∉ ([] : List Tri); simp)
    | right _ _ hg => exact absurd (gate_mem hg) (by show _ ∉ ([] : List Tri); simp)
    | next _ _ ht => exact absurd ht (by show _ ∉ ([] : List Tri); simp)
  · rintro rfl
    refine ⟨by decide, ?_⟩
    have h := NR.lit (x := x1) (l := [2]) (t := 2) (by simp)
    exact h
theorem only_one {T : List Int} (hp : T.Pairwise (· < ·)) (hm : ∀ v, v ∈ T ↔ v = 1) : T = [1] := by
  cases T with
  | nil => exact absurd ((hm 1).2 rfl) (by simp)
  | cons y r =>
    have hy := (hm y).1 List.mem_cons_self
    subst hy
    rw [List.pairwise_cons] at hp
    cases r with
    | nil => rfl
    | cons z q =>
      have hz := (hm z).1 (by simp)
      have := hp.1 z List.mem_cons_self
      omega

set_option maxRecDepth 8000 in
set_option maxHeartbeats 4000000 in
theorem alive_any (w : World) : Calls Tryz.prog 5 #[] w fun e w' => e = .returned (.bool true) ∧ Below w.heap.size w w' := by
  obtain ⟨W1, hW1⟩ : ∃ U, w.alloc (.cells #[.int .i64 2] 3) = U := ⟨_, rfl⟩
  obtain ⟨W2, hW2⟩ : ∃ U, W1.alloc (.cells #[.int .i64 2] 3) = U := ⟨_, rfl⟩
  have hb1 : Below w.heap.size w W1 := by rw [← hW1]; exact (Below.refl _ _).alloc (Nat.le_refl _) _
  have hb2 : Below W1.heap.size W1 W2 := by rw [← hW2]; exact (Below.refl _ _).alloc (Nat.le_refl _) _
  have hs1 : Sl W1 (some ⟨w.heap.size, 0, none⟩) 1 1 (ints [2]) := by rw [← hW1]; exact sl_new w #[.int .i64 2] 3 1 rfl (by decide)
  have hs2 : Sl W2 (some ⟨W1.heap.size, 0, none⟩) 1 1 (ints [2]) := by rw [← hW2]; exact sl_new W1 #[.int .i64 2] 3 1 rfl (by decide)
  have hT : ∀ k, SlT W2 k none 0 0 [] := fun k => ⟨rfl, Nat.le_refl _, by omega, fun _ => ⟨rfl, rfl⟩, fun i r h => by simp at h⟩
  have hin : InCirc W2 x1 ⟨some ⟨w.heap.size, 0, none⟩, 1, none, 0, none, 0, some ⟨W1.heap.size, 0, none⟩, 1, none, 0, none, 0, none, 0⟩ := ⟨hs1.next hb2, hT 3, Sl.nil _, hs2, Sl.nil _, hT 3, hT 3⟩
  have hw : WfC x1 := ⟨by show Circuit.I64 1; unfold Circuit.I64; omega, fun l hl => by have : l = 2 := (by unfold x1 at hl; simpa using hl); subst this; unfold Circuit.I64; omega, fun t ht => absurd ht (by unfold x1; simp), fun t ht => absurd ht (by unfold x1; simp), fun l hl => by have : l = 2 := (by unfold x1 at hl; simpa using hl); subst this; unfold Circuit.I64; omega, fun t ht => absurd ht (by unfold x1; simp), fun t ht => absurd ht (by unfold x1; simp), fun t ht => absurd ht (by unfold x1; simp)⟩
  have HN0 := needed_ok W2 x1 _ hin hw none 0 0 [] [] (Sl2.nil _) (fun y hy => by simp at hy) 0 (by show 0 < ([2] : List Int).length; simp) x1_ask (by omega) (by simp) (by show ([] : List Tri).length ≤ _; simp)
  simp only [cells] at HN0
  have HN := Lib.hid HN0
  have HB := Lib.hid (hb1.trans (hb2.mono hb1.size))
  clear hb1 hb2 hs1 hs2 hT hin hw HN0
  go_enter Tryz.func5, Tryz.ntmps5
  go_wp2_with fail
  clear hW1 hW2
  refine HN.out.mono ?_
  rintro e w3 ⟨a9, c9, T, rfl, hs9, hp, hm, hb3⟩
  have hT1 : T = [1] := only_one hp (fun v => by rw [hm v]; exact x1_nr v)
  subst hT1
  obtain ⟨W4, hW4⟩ : ∃ U, w3.alloc (.cells #[.int .i64 1] 3) = U := ⟨_, rfl⟩
  have hb4 : Below w3.heap.size w3 W4 := by rw [← hW4]; exact (Below.refl _ _).alloc (Nat.le_refl _) _
  have hs4 : Sl W4 (some ⟨w3.heap.size, 0, none⟩) 1 1 (ints [1]) := by rw [← hW4]; exact sl_new w3 #[.int .i64 1] 3 1 rfl (by decide)
  have HI0 := Plain.ints_any W4 a9 (some ⟨w3.heap.size, 0, none⟩) 1 1 c9 1 [1] [1] (hs9.next hb4) hs4
  rw [decide_eq_true rfl] at HI0
  have HI := Lib.hid HI0
  have HB4 := Lib.hid (HB.out.trans ((hb3.trans (hb4.mono hb3.size)).mono HB.out.size))
  simp only [List.length_singleton]
  clear hs9 hp hm hb3 hb4 hs4 HI0
  go_wp2_with fail
  with_reducible refine HI.out.mono ?_
  rintro e w5 ⟨rfl, hb5⟩
  go_wp2_with fail
  go_ret
  exact ⟨rfl, HB4.out.trans (hb5.mono HB4.out.size)⟩
end Coi
end Go.Proofs.YtninglnchengeaaGreatDoor

/-
  interlocklaw35.CoiRefuses walked.
-/
namespace Go.Proofs.YtninglnchengeaaGreatDoor
open Go.RowKit Base
set_option linter.unusedVariables false
set_option linter.unusedSimpArgs false
namespace Spr
open Circuit StrashP

theorem all_take {α : Type} (l : List α) (f : α → Bool) {k : Nat} (h : k < l.length) : (l.take (k + 1)).all f = ((l.take k).all f && f l[k]) := by
  rw [List.take_add_one, List.getElem?_eq_getElem h, List.all_append]; simp
theorem any_take {α : Type} (l : List α) (f : α → Bool) {k : Nat} (h : k < l.length) : (l.take (k + 1)).any f = ((l.take k).any f || f l[k]) := by
  rw [List.take_add_one, List.getElem?_eq_getElem h, List.any_append]; simp
noncomputable def partI (x y : Circ) (k : Nat) : Bool := (y.ins.take k).all fun t => tt (t ∈ x.ins)
def inL (x : Circ) (l : Int) (k : Nat) : Bool := (x.lats.take k).any fun t => t.1 == l
noncomputable def partL (x y : Circ) (k : Nat) : Bool := partI x y y.ins.length && (y.lats.take k).all fun t => inL x t.1 x.lats.length
def bitsI (y : Circ) (st : ByteArray) (inp : List ByteArray) (k : Nat) : Bool := RefBits.bits st.data.toList y.lats.length && (inp.take k).all fun s => RefBits.bits s.data.toList y.ins.length
theorem partI_more (x y : Circ) {k : Nat} (h : k < y.ins.length) : partI x y (k + 1) = (partI x y k && tt (y.ins[k] ∈ x.ins)) := all_take _ _ h
theorem inL_more (x : Circ) (l : Int) {k : Nat} (h : k < x.lats.length) : inL x l (k + 1) = (inL x l k || x.lats[k].1 == l) := any_take _ _ h
theorem partL_more (x y : Circ) {k : Nat} (h : k < y.lats.length) : partL x y (k + 1) = (partL x y k && inL x y.lats[k].1 x.lats.length) := by
  unfold partL; rw [all_take _ _ h, Bool.and_assoc]
theorem bitsI_more (y : Circ) (st : ByteArray) (inp : List ByteArray) {k : Nat} (h : k < inp.length) : bitsI y st inp (k + 1) = (bitsI y st inp k && RefBits.bits inp[k].data.toList y.ins.length) := by
  unfold bitsI; rw [all_take _ _ h, Bool.and_assoc]
theorem partL_zero (x y : Circ) : partL x y 0 = partI x y y.ins.length := by unfold partL; simp
theorem bitsI_zero (y : Circ) (st : ByteArray) (inp : List ByteArray) : bitsI y st inp 0 = RefBits.bits st.data.toList y.lats.length := by unfold bitsI; simp
theorem bitsI_end (y : Circ) (st : ByteArray) (inp : List ByteArray) : bitsI y st inp inp.length = bitsB y st inp := by unfold bitsI bitsB; rw [List.take_length]
theorem partL_end (x y : Circ) : partL x y y.lats.length = partB x y := by
  unfold partL partI partB beyondB inL
  rw [List.take_length, List.take_length, List.take_length, Bool.eq_iff_iff]
  simp only [Bool.and_eq_true, List.all_eq_true, List.any_eq_true, Bool.not_eq_true', Bool.or_eq_false_iff, List.any_eq_false, Bool.not_eq_true, Bool.not_eq_false, decide_eq_true_eq, tt_iff, List.mem_map, beq_iff_eq]
  constructor
  · rintro ⟨h1, h2⟩
    refine ⟨fun t ht => by have := h1 t ht; simpa using this, ?_⟩
    rintro _ ⟨t, ht, rfl⟩
    obtain ⟨u, hu, e⟩ := h2 t ht
    exact ⟨u, hu, e⟩
  · rintro ⟨h1, h2⟩
    refine ⟨fun t ht => by have := h1 t ht; simpa using this, fun t ht => ?_⟩
    have := h2 t.1 ⟨t, ht, rfl⟩
    exact this

theorem spread_all (w : World) (x : Circ) (p : At) (hin : InCirc w x p) (hw : WfC x) (y : Circ) (q : At) (hiq : InCirc w y q) (hyw : WfC y) (bad : Int) (st : ByteArray) (hst : st.size ≤ 9223372036854775807)
    (aI : Option Addr) (cI : Nat) (inp : List ByteArray) (hI : Sl w aI inp.length cI (inp.map Value.string)) (hIz : ∀ s ∈ inp, s.size ≤ 9223372036854775807) (hIL : inp.length * 16 ≤ 140737488351232) :
    Calls Tryz.prog 6 #[.agg (cells x p), .agg (cells y q), .agg #[.int .i64 bad, .string st, .slice aI inp.length cI]] w fun e w' => ∃ (b : Int) (s : ByteArray) (aO : Option Addr) (nO cO : Nat), e = .returned (.tuple #[.agg #[.int .i64 b, .string s, .slice aO nO cO], .int .i64 (rightE x y st inp)]) ∧
      (rightE x y st inp ≠ 0 → s = ⟨#[]⟩) ∧ (rightE x y st inp = 0 → b = bad) ∧ Below w.heap.size w w' := by
  by_cases h : rightE x y st inp = 0
  · refine (spread_ok w x p hin hw y q hiq hyw bad st hst aI cI inp hI hIz hIL h).mono fun e w' hh => ?_
    obtain ⟨R, aO, cO, outs, rfl, _, _, _, _, hb⟩ := hh
    exact ⟨bad, _, aO, inp.length, cO, by rw [h], fun hn => absurd h hn, fun _ => rfl, hb⟩
  · refine (spread_no w x p hin hw y q hiq hyw bad st hst aI cI inp hI hIz h).mono fun e w' hh => ?_
    obtain ⟨rfl, hb⟩ := hh
    exact ⟨0, _, none, 0, 0, rfl, fun _ => rfl, fun hn => absurd hn h, hb⟩

set_option maxRecDepth 8000 in
set_option maxHeartbeats 16000000 in
theorem refuses_any (w : World) (x : Circ) (p : At) (hin : InCirc w x p) (hw : WfC x) (hza : x.ands.length * 24 ≤ 140737488355328) (y : Circ) (q : At) (hiq : InCirc w y q) (hyw : WfC y) (hzy : y.ands.length * 24 ≤ 140737488355328) (bad : Int) (st : ByteArray) (hst : st.size ≤ 9223372036854775807)
    (aI : Option Addr) (cI : Nat) (inp : List ByteArray) (hI : Sl w aI inp.length cI (inp.map Value.string)) (hIz : ∀ s ∈ inp, s.size ≤ 9223372036854775807) (hIL : inp.length * 16 ≤ 140737488351232) :
    Calls Tryz.prog 3 #[.agg (cells x p), .agg (cells y q), .agg #[.int .i64 bad, .string st, .slice aI inp.length cI]] w fun e w' => e = .returned (.bool true) ∧ Below w.heap.size w w' := by
  obtain ⟨W1, hW1⟩ : ∃ U, w.alloc (.cells (cells x p) 27) = U := ⟨_, rfl⟩
  obtain ⟨hb1, hx1⟩ := cbox_new w x p W1 hW1
  obtain ⟨W2, hW2⟩ : ∃ U, W1.alloc (.cells (cells y q) 27) = U := ⟨_, rfl⟩
  obtain ⟨hb2, hx2⟩ := cbox_new W1 y q W2 hW2
  obtain ⟨W3, hW3⟩ : ∃ U, W2.alloc (.cells #[.int .i64 bad, .string st, .slice aI inp.length cI] 30) = U := ⟨_, rfl⟩
  have hb3 : Below W2.heap.size W2 W3 := by rw [← hW3]; exact (Below.refl _ _).alloc (Nat.le_refl _) _
  have hx3 : BoxN W2.heap.size [.int .i64 bad, .string st, .slice aI inp.length cI] W3 := by rw [← hW3]; exact BoxN.new W2 _ _
  have hb13 : Below w.heap.size w W3 := hb1.trans ((hb2.trans (hb3.mono hb2.size)).mono hb1.size)
  have HB3 := Lib.hid hb13
  have HX := Lib.hid (fun (U : World) (hU : Below W3.heap.size W3 U) => (hx1.next (hb2.trans (hb3.mono hb2.size)) (Nat.le_refl _)).next hU (Nat.le_refl _))
  have HY := Lib.hid (fun (U : World) (hU : Below W3.heap.size W3 U) => (hx2.next hb3 (Nat.le_refl _)).next hU (Nat.le_refl _))
  have HW := Lib.hid (fun (U : World) (hU : Below W3.heap.size W3 U) => hx3.next hU hx3.lt)
  have HIX := Lib.hid (fun (U : World) (hU : Below W3.heap.size W3 U) => hin.next (hb13.trans (hU.mono hb13.size)))
  have HIY := Lib.hid (fun (U : World) (hU : Below W3.heap.size W3 U) => hiq.next (hb13.trans (hU.mono hb13.size)))
  have HII := Lib.hid (fun (U : World) (hU : Below W3.heap.size W3 U) => hI.next (hb13.trans (hU.mono hb13.size)))
  have HCX := fun (U : World) (hU : Below W3.heap.size W3 U) => refCheck_any U x p (HIX.out U hU) hw hza
  have HCY := fun (U : World) (hU : Below W3.heap.size W3 U) => refCheck_any U y q (HIY.out U hU) hyw hzy
  have HSP := fun (U : World) (hU : Below W3.heap.size W3 U) => spread_all U x p (HIX.out U hU) hw y q (HIY.out U hU) hyw bad st hst aI cI inp (HII.out U hU) hIz hIL
  have HST := Lib.hid (fun (U : World) => RefBits.bits_any U st hst (y.lats.length : Int))
  have HBI := Lib.hid (fun (U : World) s hs => RefBits.bits_any U s (hIz s hs) (y.ins.length : Int))
  have HAL := Lib.hid (Coi.alive_any W3)
  have HEE : Hid (rightE x y st inp = if (tt (CheckOk x) && tt (CheckOk y)) = false then 9 else if partB x y = false then 23 else if bitsB y st inp = false then 5 else 0) := rfl
  have HH := Lib.hid (fun (U : World) (hU : Below W3.heap.size W3 U) => has_any U p.a1 x.ins.length p.c1 x.ins (HIX.out U hU).ins)
  have hcy1 := hiq.ins.cap
  have hgy1 := hiq.ins.big
  have hcy2 := hiq.lats.cap
  have hgy2 := hiq.lats.big
  have hcx2 := hin.lats.cap
  have hgx2 := hin.lats.big
  have hcI := hI.cap
  have hgI := hI.big
  rw [refchk_eq, chk_tt] at HCX HCY
  obtain ⟨a1, c1, a2, c2, a3, c3, a4, c4, a5, c5, a6, c6, a7, c7⟩ := p
  obtain ⟨b1, d1, b2, d2, b3, d3, b4, d4, b5, d5, b6, d6, b7, d7⟩ := q
  simp only [cells] at hW1 hW2 HCX HCY HSP hcy1 hgy1 hcy2 hgy2 hcx2 hgx2 ⊢
  have HCX1 := Lib.hid HCX
  have HCY1 := Lib.hid HCY
  have HSP1 := Lib.hid HSP
  clear hin hw hza hiq hyw hzy hst hI hIz hIL hb1 hx1 hb2 hx2 hb3 hx3 hb13 HCX HCY HSP
  go_enter Tryz.func3, Tryz.ntmps3
  go_wp2_with fail
  clear hW1 hW2 hW3
  with_reducible refine HAL.out.mono ?_
  rintro e w4 ⟨rfl, hb4⟩
  have HB4 := Lib.hid hb4
  have HS4 := Lib.hid (HSP1.out w4 hb4)
  have c := HX.out w4 hb4
  have k0 := c.k0
  have k1 := c.k1
  have k2 := c.k2
  have k3 := c.k3
  have k4 := c.k4
  have k5 := c.k5
  have k6 := c.k6
  have k7 := c.k7
  clear c
  have c := HY.out w4 hb4
  have l0 := c.k0
  have l1 := c.k1
  have l2 := c.k2
  have l3 := c.k3
  have l4 := c.k4
  have l5 := c.k5
  have l6 := c.k6
  have l7 := c.k7
  clear c
  have c := HW.out w4 hb4
  have j0 := c.at' 0 _ rfl
  have j1 := c.at' 1 _ rfl
  have j2 := c.at' 2 _ rfl
  clear c hb4
  try simp only at k0 k1 k2 k3 k4 k5 k6 k7 l0 l1 l2 l3 l4 l5 l6 l7
  go_wp2_with fail
  with_reducible refine HS4.out.mono ?_
  rintro e w5 ⟨ob, os, oa, on, oc, rfl, hs0, hb0, hb5⟩
  have HB5 := Lib.hid (HB4.out.trans (hb5.mono HB4.out.size))
  have HS0 := Lib.hid hs0
  have HO0 := Lib.hid hb0
  clear k0 k1 k2 k3 k4 k5 k6 k7 l0 l1 l2 l3 l4 l5 l6 l7 j0 j1 j2 hb5 hs0 hb0
  generalize hrr : rightE x y st inp = rr at *
  obtain ⟨W6, hW6⟩ : ∃ U, w5.alloc (.cells #[.int .i64 ob, .string os, .slice oa on oc] 30) = U := ⟨_, rfl⟩
  have hb6 : Below w5.heap.size w5 W6 := by rw [← hW6]; exact (Below.refl _ _).alloc (Nat.le_refl _) _
  have hx6 : BoxN w5.heap.size [.int .i64 ob, .string os, .slice oa on oc] W6 := by rw [← hW6]; exact BoxN.new w5 _ _
  have HT := Lib.hid (fun (U : World) (hU : Below W6.heap.size W6 U) => (HB5.out.trans (hb6.mono HB5.out.size)).trans (hU.mono (HB5.out.trans (hb6.mono HB5.out.size)).size))
  have HO := Lib.hid (fun (U : World) (hU : Below W6.heap.size W6 U) => hx6.next hU hx6.lt)
  clear hb6 hx6 HAL HS4
  go_upto_region 4 with fail
  clear hW6
  go_wp2_with fail
  go_loopw [9, 10] (fun b i wr => ∃ k : Nat, k ≤ y.ins.length ∧ i = .int .i64 k ∧ b = .bool (partI x y k) ∧ Below W6.heap.size W6 wr) (fun b i _ => y.ins.length - (Go.RowKit.intOf i).toNat)
  case atStart => exact ⟨0, Nat.zero_le _, rfl, by rw [show partI x y 0 = true by unfold partI; simp], Below.refl _ _⟩
  case round =>
    obtain ⟨k, hk, rfl, rfl, hB⟩ := hrel
    have HB := Lib.hid hB
    have k1 := (HX.out wr (HT.out wr hB)).k1
    have l1 := (HY.out wr (HT.out wr hB)).k1
    try simp only at k1 l1
    by_cases hlt : k < y.ins.length
    · have HM := Lib.hid (partI_more x y hlt)
      obtain ⟨b, o, hx, ha, hbs, hc⟩ := (HIY.out wr (HT.out wr hB)).ins.int hlt
      simp only at ha
      subst ha
      have HHU := Lib.hid (fun n => HH.out (wr.drewN n) (HT.out _ (below_drewN hB n)) y.ins[k])
      generalize y.ins[k] = t at *
      generalize partI x y k = b0 at *
      generalize tt (t ∈ x.ins) = b1 at *
      clear hB
      cases b0
      · go_upto_region 8 with fail
        go_quiet (fail)
        go_wp2_with fail
        go_roundw
        case rel => exact ⟨k + 1, by omega, by go_num, by rw [HM.out]; rfl, below_drewN HB.out _⟩
        case measure => simp [Go.RowKit.intOf]; omega
      · go_upto_region 8 with fail
        go_quiet ((go_at_call 7; exact Calls.quiet_of_same ((HHU.out _).mono fun e w' h => ⟨h.1, h.2.symm⟩)))
        go_wp2_with fail
        go_roundw
        case rel => exact ⟨k + 1, by omega, by go_num, by rw [HM.out]; rfl, below_drewN HB.out _⟩
        case measure => simp [Go.RowKit.intOf]; omega
    · have hend : k = y.ins.length := by omega
      subst hend
      have HP0 : Hid (partL x y 0 = partI x y y.ins.length) := partL_zero x y
      generalize partI x y y.ins.length = b0 at *
      clear k1 hB hlt hk
      go_wp2_with fail
      clear l1
      go_loopw [9, 11] (fun b i ws => ∃ k : Nat, k ≤ y.lats.length ∧ i = .int .i64 k ∧ b = .bool (partL x y k) ∧ Below W6.heap.size W6 ws) (fun b i _ => y.lats.length - (Go.RowKit.intOf i).toNat)
      case atStart => exact ⟨0, Nat.zero_le _, rfl, by rw [HP0.out], HB.out⟩
      case round =>
        obtain ⟨k, hk, rfl, rfl, hC⟩ := hrel
        generalize wr = ws at *
        have HC := Lib.hid hC
        have l2 := (HY.out ws (HT.out ws hC)).k2
        have k2 := (HX.out ws (HT.out ws hC)).k2
        try simp only at k2 l2
        by_cases hlt : k < y.lats.length
        · have HM := Lib.hid (partL_more x y hlt)
          obtain ⟨b, o, hx, ha, hbs, hc, hc', hc''⟩ := (HIY.out ws (HT.out ws hC)).lats.tri hlt
          simp only at ha
          subst ha
          generalize y.lats[k].1 = t at *
          generalize partL x y k = b1 at *
          clear hC hc' hc''
          have hc8 := Lib.hid hc
          have hbs8 : Hid (b < ws.heap.size) := hbs
          clear hc hbs
          have HK := Lib.hid hlt
          go_wp2_with fail
          go_loopw [12, 13] (fun u i wt => ∃ j : Nat, j ≤ x.lats.length ∧ i = .int .i64 j ∧ u = .bool (inL x t j) ∧ Below ws.heap.size ws wt) (fun u i _ => x.lats.length - (Go.RowKit.intOf i).toNat)
          case atStart => exact ⟨0, Nat.zero_le _, rfl, by rw [show inL x t 0 = false by unfold inL; simp], Below.refl _ _⟩
          case round =>
            obtain ⟨j, hj, rfl, rfl, hD⟩ := hrel
            generalize wr = wt at *
            have hD6 : Below W6.heap.size W6 wt := HC.out.trans (hD.mono HC.out.size)
            have HD := Lib.hid hD6
            have HDs := Lib.hid hD
            clear k2 l2
            have l2 := (HY.out wt (HT.out wt hD6)).k2
            have k2 := (HX.out wt (HT.out wt hD6)).k2
            try simp only at k2 l2
            by_cases hlj : j < x.lats.length
            · have HMJ := Lib.hid (inL_more x t hlj)
              obtain ⟨g, o2, hx2, ha2, hbs2, hg, hg', hg''⟩ := (HIX.out wt (HT.out wt hD6)).lats.tri hlj
              have hc : wt.cell? ⟨b, o + k * 3, none⟩ = some (.int .i64 t) := (hD.cell (p := ⟨b, o + k * 3, none⟩) hbs8.out).trans hc8.out
              simp only at ha2
              subst ha2
              generalize x.lats[j].1 = s at *
              generalize inL x t j = u0 at *
              clear hD hD6 hg' hg'' hbs2
              have hlt := HK.out
              cases u0
              · go_upto_region 16 with fail
                go_quiet (fail)
                go_wp2_with fail
                go_roundw
                case rel => exact ⟨j + 1, by omega, by go_num, by rw [HMJ.out]; rfl, below_drewN HDs.out _⟩
                case measure => simp [Go.RowKit.intOf]; omega
              · go_upto_region 16 with fail
                go_quiet (fail)
                go_wp2_with fail
                go_roundw
                case rel => exact ⟨j + 1, by omega, by go_num, by rw [HMJ.out]; rfl, below_drewN HDs.out _⟩
                case measure => simp [Go.RowKit.intOf]; omega
            · have hend : j = x.lats.length := by omega
              subst hend
              generalize inL x t x.lats.length = u0 at *
              clear hD hD6
              cases b1
              · go_wp2_with fail
                go_roundw
                case rel => exact ⟨k + 1, by have := HK.out; omega, by go_num, by rw [HM.out]; rfl, by first | exact HD.out | exact below_drewN HD.out _⟩
                case measure => have := HK.out; simp [Go.RowKit.intOf]; omega
              · go_wp2_with fail
                go_roundw
                case rel => exact ⟨k + 1, by have := HK.out; omega, by go_num, by rw [HM.out]; rfl, by first | exact HD.out | exact below_drewN HD.out _⟩
                case measure => have := HK.out; simp [Go.RowKit.intOf]; omega
        · have hend : k = y.lats.length := by omega
          subst hend
          have HPE := Lib.hid (partL_end x y)
          generalize partL x y y.lats.length = pt at *
          have c := HW.out ws (HT.out ws hC)
          have j0 := c.at' 0 _ rfl
          have j1 := c.at' 1 _ rfl
          have j2 := c.at' 2 _ rfl
          have HS5 := Lib.hid (HST.out ws)
          have HB0 := Lib.hid (bitsI_zero y st inp)
          generalize RefBits.bits st.data.toList y.lats.length = bz at *
          clear c hC hk hlt k2
          go_wp2_with fail
          with_reducible refine HS5.out.mono ?_
          rintro e w7 ⟨rfl, rfl⟩
          go_wp2_with fail
          clear l2 j0 j1 j2
          go_loopw [14, 15] (fun b i wu => ∃ k : Nat, k ≤ inp.length ∧ i = .int .i64 k ∧ b = .bool (bitsI y st inp k) ∧ Below W6.heap.size W6 wu) (fun b i _ => inp.length - (Go.RowKit.intOf i).toNat)
          case atStart => exact ⟨0, Nat.zero_le _, rfl, by rw [HB0.out], by first | exact HC.out | exact below_drewN HC.out _⟩
          case round =>
            obtain ⟨k, hk, rfl, rfl, hF⟩ := hrel
            generalize wr = wu at *
            have HF := Lib.hid hF
            have l1 := (HY.out wu (HT.out wu hF)).k1
            try simp only at l1
            have j2 := (HW.out wu (HT.out wu hF)).at' 2 _ rfl
            by_cases hlt : k < inp.length
            · have HM := Lib.hid (bitsI_more y st inp hlt)
              obtain ⟨b, o, ha, hbs, hc⟩ := (HII.out wu (HT.out wu hF)).cell k (.string inp[k]) (by rw [List.getElem?_map, List.getElem?_eq_getElem hlt]; rfl)
              subst ha
              have HHU := Lib.hid (fun n => HBI.out (wu.drewN n) inp[k] (List.getElem_mem hlt))
              generalize inp[k] = s at *
              generalize bitsI y st inp k = b0 at *
              generalize RefBits.bits s.data.toList y.ins.length = b1 at *
              clear hF
              cases b0
              · go_upto_region 22 with fail
                go_quiet (fail)
                go_wp2_with fail
                go_roundw
                case rel => exact ⟨k + 1, by omega, by go_num, by rw [HM.out]; rfl, below_drewN HF.out _⟩
                case measure => simp [Go.RowKit.intOf]; omega
              · go_upto_region 22 with fail
                go_quiet ((go_at_call 8; exact Calls.quiet_of_same ((HHU.out _).mono fun e w' h => ⟨h.1, h.2.symm⟩)))
                go_wp2_with fail
                go_roundw
                case rel => exact ⟨k + 1, by omega, by go_num, by rw [HM.out]; rfl, below_drewN HF.out _⟩
                case measure => simp [Go.RowKit.intOf]; omega
            · have hend : k = inp.length := by omega
              subst hend
              have HBE := Lib.hid (bitsI_end y st inp)
              have HE1 : Hid (rr = if (tt (CheckOk x) && tt (CheckOk y)) = false then 9 else if pt = false then 23 else if bitsI y st inp inp.length = false then 5 else 0) := by show _ = _; rw [HEE.out, HPE.out, HBE.out]
              generalize bitsI y st inp inp.length = bt at *
              clear HEE HPE HBE hrr
              have HCX2 := Lib.hid (HCX1.out wu (HT.out wu hF))
              have c := HX.out wu (HT.out wu hF)
              have k0 := c.k0
              have k1 := c.k1
              have k2 := c.k2
              have k3 := c.k3
              have k4 := c.k4
              have k5 := c.k5
              have k6 := c.k6
              have k7 := c.k7
              clear c
              try simp only at k0 k1 k2 k3 k4 k5 k6 k7
              have HTU := Lib.hid (fun (U : World) (hU : Below wu.heap.size wu U) => HF.out.trans (hU.mono HF.out.size))
              clear hF
              generalize tt (CheckOk x) = cx at *
              go_wp2_with fail
              with_reducible refine HCX2.out.mono ?_
              rintro e w8 ⟨rfl, hb8⟩
              have HB8 := Lib.hid (HTU.out w8 hb8)
              clear k0 k1 k2 k3 k4 k5 k6 k7 j2 l1
              cases cx
              · have HR : Hid (rr = 9) := HE1.out
                obtain rfl := HR.out
                obtain rfl := HS0.out (by decide)
                have o1 := (HO.out w8 HB8.out).at' 1 _ rfl
                clear hb8
                go_wp2_with fail
                go_ret
                exact ⟨rfl, HB3.out.trans ((HT.out w8 HB8.out).mono HB3.out.size)⟩
              · have HCY2 := Lib.hid (HCY1.out w8 (HT.out w8 HB8.out))
                have c := HY.out w8 (HT.out w8 HB8.out)
                have l0 := c.k0
                have l1 := c.k1
                have l2 := c.k2
                have l3 := c.k3
                have l4 := c.k4
                have l5 := c.k5
                have l6 := c.k6
                have l7 := c.k7
                clear c
                try simp only at l0 l1 l2 l3 l4 l5 l6 l7
                clear hb8
                generalize tt (CheckOk y) = cy at *
                go_wp2_with fail
                with_reducible refine HCY2.out.mono ?_
                rintro e w9 ⟨rfl, hb9⟩
                have HB9 := Lib.hid (HB8.out.trans (hb9.mono HB8.out.size))
                clear l0 l1 l2 l3 l4 l5 l6 l7 hb9
                cases cy
                · have HR : Hid (rr = 9) := HE1.out
                  obtain rfl := HR.out
                  obtain rfl := HS0.out (by decide)
                  have o1 := (HO.out w9 HB9.out).at' 1 _ rfl
                  go_wp2_with fail
                  go_ret
                  exact ⟨rfl, HB3.out.trans ((HT.out w9 HB9.out).mono HB3.out.size)⟩
                · cases pt
                  · have HR : Hid (rr = 23) := HE1.out
                    obtain rfl := HR.out
                    obtain rfl := HS0.out (by decide)
                    have o1 := (HO.out w9 HB9.out).at' 1 _ rfl
                    go_wp2_with fail
                    go_ret
                    exact ⟨rfl, HB3.out.trans ((HT.out w9 HB9.out).mono HB3.out.size)⟩
                  · cases bt
                    · have HR : Hid (rr = 5) := HE1.out
                      obtain rfl := HR.out
                      obtain rfl := HS0.out (by decide)
                      have o1 := (HO.out w9 HB9.out).at' 1 _ rfl
                      go_wp2_with fail
                      go_ret
                      exact ⟨rfl, HB3.out.trans ((HT.out w9 HB9.out).mono HB3.out.size)⟩
                    · have HR : Hid (rr = 0) := HE1.out
                      obtain rfl := HR.out
                      obtain rfl := HO0.out rfl
                      have o0 := (HO.out w9 HB9.out).at' 0 _ rfl
                      have j0 := (HW.out w9 (HT.out w9 HB9.out)).at' 0 _ rfl
                      go_wp2_with fail
                      go_ret
                      exact ⟨rfl, HB3.out.trans ((HT.out w9 HB9.out).mono HB3.out.size)⟩
end Spr
end Go.Proofs.YtninglnchengeaaGreatDoor

/-
  interlocklaw35.CoiRefuses: its walk as the frame asks for it.
-/
namespace Go.Proofs.YtninglnchengeaaGreatDoor.coiRefuses
open Go.RowKit Base Circuit
set_option linter.unusedVariables false

theorem walk (x : Circ) (p : At) {w : World} (hin : InCirc w x p) (hw : WfC x) (hz : Open.SizedCirc x) (y : Circ) (q : At) (hiq : InCirc w y q) (hyw : WfC y) (hzy : Open.SizedCirc y)
    (bad : Int) (hb : -9223372036854775808 ≤ bad ∧ bad ≤ 9223372036854775807) (st : ByteArray) (hst : st.size ≤ 9223372036854775807) (aI : Option Addr) (cI : Nat) (inp : List ByteArray) (hI : Sl w aI inp.length cI (inp.map Value.string)) (hIz : ∀ s ∈ inp, s.size ≤ 9223372036854775807)
    (hIL : inp.length * 16 ≤ 140737488351232) (W : World) (hW : W = w) :
    Calls Tryz.prog 3 #[.agg (cells x p), .agg (cells y q), .agg #[.int .i64 bad, .string st, .slice aI inp.length cI]] W fun e W' => e = .returned (.bool true) ∧ Below W.heap.size W W' := by
  subst hW
  exact Spr.refuses_any W x p hin hw (by have := hz.ands; omega) y q hiq hyw (by have := hzy.ands; omega) bad st hst aI cI inp hI hIz hIL
end Go.Proofs.YtninglnchengeaaGreatDoor.coiRefuses
