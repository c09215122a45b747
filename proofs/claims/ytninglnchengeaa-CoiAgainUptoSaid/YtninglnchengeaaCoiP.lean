/-
  Plain: what a Bad hangs on: what counts; the circuit of that alone may be, and stays when it is reduced again.
-/
import Derived.Test.YtninglnchengeaaStrashQ
import Derived.Test.YtninglnchengeaaWfC
namespace Go.Proofs.Ytninglnchengeaa
open Go.RowKit Base
set_option linter.unusedVariables false
set_option linter.unusedSimpArgs false
namespace Coi
open Circuit

/-- What counts, of a circuit and literals. -/
inductive NR (x : Circ) (l : List Int) : Int → Prop
  | lit {t : Int} : t ∈ l → NR x l (var t)
  | left {v : Int} {g : Tri} : NR x l v → v ≠ 0 → gate x.ands v = some g → NR x l (var g.2.1)
  | right {v : Int} {g : Tri} : NR x l v → v ≠ 0 → gate x.ands v = some g → NR x l (var g.2.2)
  | next {t : Tri} : NR x l (var t.1) → var t.1 ≠ 0 → t ∈ x.lats → NR x l (var t.2.1)

theorem nr_of_rch {x : Circ} {l L : List Int} (hL : ∀ t ∈ L, NR x l (var t)) {v : Int} (h : Rch x.ands L v) : NR x l v := by
  induction h with
  | lit ht => exact hL _ ht
  | left _ h0 hg ih => exact .left ih h0 hg
  | right _ h0 hg ih => exact .right ih h0 hg

structure CInv (x : Circ) (l X : List Int) : Prop where
  nodup : X.Nodup
  sound : ∀ v ∈ X, v ≠ 0 ∧ NR x l v
  lits : ∀ t ∈ l, var t = 0 ∨ var t ∈ X
  gates : ∀ v ∈ X, ∀ g, gate x.ands v = some g → (var g.2.1 = 0 ∨ var g.2.1 ∈ X) ∧ (var g.2.2 = 0 ∨ var g.2.2 ∈ X)

/-- X2 is X and what L hangs on. -/
def Adds (x : Circ) (L X X2 : List Int) : Prop := X2.Nodup ∧ ∀ v, v ∈ X2 ↔ v ∈ X ∨ (v ≠ 0 ∧ Rch x.ands L v)

theorem adds_gates {x : Circ} {L X X2 : List Int} (h : Adds x L X X2) (hg : ∀ v ∈ X, ∀ g, gate x.ands v = some g → (var g.2.1 = 0 ∨ var g.2.1 ∈ X) ∧ (var g.2.2 = 0 ∨ var g.2.2 ∈ X)) :
    ∀ v ∈ X2, ∀ g, gate x.ands v = some g → (var g.2.1 = 0 ∨ var g.2.1 ∈ X2) ∧ (var g.2.2 = 0 ∨ var g.2.2 ∈ X2) := by
  intro v hv g hgv
  rcases (h.2 v).1 hv with h1 | ⟨h0, h1⟩
  · obtain ⟨a, b⟩ := hg v h1 g hgv
    exact ⟨a.imp id fun h2 => (h.2 _).2 (Or.inl h2), b.imp id fun h2 => (h.2 _).2 (Or.inl h2)⟩
  · constructor
    · by_cases e : var g.2.1 = 0
      · exact Or.inl e
      · exact Or.inr ((h.2 _).2 (Or.inr ⟨e, .left h1 h0 hgv⟩))
    · by_cases e : var g.2.2 = 0
      · exact Or.inl e
      · exact Or.inr ((h.2 _).2 (Or.inr ⟨e, .right h1 h0 hgv⟩))

theorem cinv_start {x : Circ} {l X2 : List Int} (h : Adds x l [] X2) : CInv x l X2 :=
  ⟨h.1, fun v hv => by
    rcases (h.2 v).1 hv with h1 | ⟨h0, h1⟩
    · simp at h1
    · exact ⟨h0, nr_of_rch (fun t ht => .lit ht) h1⟩, fun t ht => by
    by_cases e : var t = 0
    · exact Or.inl e
    · exact Or.inr ((h.2 _).2 (Or.inr ⟨e, .lit ht⟩)), adds_gates h (fun v hv => by simp at hv)⟩
theorem cinv_next {x : Circ} {l X X2 : List Int} (hi : CInv x l X) {t : Tri} (ht : t ∈ x.lats) (hm : var t.1 ∈ X) (h : Adds x [t.2.1] X X2) : CInv x l X2 :=
  ⟨h.1, fun v hv => by
    rcases (h.2 v).1 hv with h1 | ⟨h0, h1⟩
    · exact hi.sound v h1
    · refine ⟨h0, nr_of_rch (fun u hu => ?_) h1⟩
      rw [List.mem_singleton.1 hu]
      exact .next (hi.sound _ hm).2 (hi.sound _ hm).1 ht, fun u hu => (hi.lits u hu).imp id fun h2 => (h.2 _).2 (Or.inl h2), adds_gates h hi.gates⟩
/-- Nothing is new of a latch that is met. -/
def Shut (x : Circ) (X : List Int) (t : Tri) : Prop := var t.1 ∈ X → ∀ v, v ≠ 0 → Rch x.ands [t.2.1] v → v ∈ X
theorem cinv_end {x : Circ} {l X : List Int} (h : CInv x l X) (hs : ∀ t ∈ x.lats, Shut x X t) (v : Int) : v ∈ X ↔ v ≠ 0 ∧ NR x l v := by
  refine ⟨h.sound v, fun hh => ?_⟩
  obtain ⟨h0, hn⟩ := hh
  induction hn with
  | lit ht => exact (h.lits _ ht).resolve_left h0
  | left _ hv hg ih => exact ((h.gates _ (ih hv) _ hg).1).resolve_left h0
  | right _ hv hg ih => exact ((h.gates _ (ih hv) _ hg).2).resolve_left h0
  | next _ hv ht ih => exact hs _ ht (ih hv) _ h0 (.lit (List.mem_singleton.2 rfl))
def uni (x : Circ) (l : List Int) : List Int := l.map var ++ x.ands.map (fun t => var t.2.1) ++ x.ands.map (fun t => var t.2.2) ++ x.lats.map (fun t => var t.2.1)
theorem nr_uni {x : Circ} {l : List Int} {v : Int} (h : NR x l v) : v ∈ uni x l := by
  unfold uni
  simp only [List.mem_append, List.mem_map]
  cases h with
  | lit ht => exact Or.inl (Or.inl (Or.inl ⟨_, ht, rfl⟩))
  | left _ _ hg => exact Or.inl (Or.inl (Or.inr ⟨_, gate_mem hg, rfl⟩))
  | right _ _ hg => exact Or.inl (Or.inr ⟨_, gate_mem hg, rfl⟩)
  | next _ _ ht => exact Or.inr ⟨_, ht, rfl⟩
theorem cinv_few {x : Circ} {l X : List Int} (h : CInv x l X) : X.length ≤ l.length + 2 * x.ands.length + x.lats.length := by
  have := nodup_len h.nodup (C := uni x l) (fun v hv => nr_uni (h.sound v hv).2)
  unfold uni at this
  simp only [List.length_append, List.length_map] at this
  omega

/-! ### The circuit of that alone. -/
noncomputable def cnt (x : Circ) (l : List Int) (m : Int) : Bool := tt (var m ≠ 0 ∧ NR x l (var m))
noncomputable def reduced (x : Circ) (l : List Int) (b : Int) : Circ :=
  { max := x.max, ins := x.ins.filter (cnt x l), lats := x.lats.filter (fun t => cnt x l t.1), outs := [], bads := [b], invs := x.invs, ands := x.ands.filter (fun t => cnt x l t.1), names := [] }

theorem tt_iff {p : Prop} : tt p = true ↔ p := by
  constructor
  · intro h
    exact Classical.byContradiction fun hn => by rw [tt_neg hn] at h; cases h
  · exact tt_pos
theorem cnt_iff {x : Circ} {l : List Int} {m : Int} : cnt x l m = true ↔ var m ≠ 0 ∧ NR x l (var m) := tt_iff
theorem cnt_congr {x : Circ} {l : List Int} {m k : Int} (h : var m = var k) : cnt x l m = cnt x l k := by unfold cnt; rw [h]

theorem gate_red {x : Circ} {l : List Int} {b v : Int} (h0 : v ≠ 0) (hn : NR x l v) : gate (reduced x l b).ands v = gate x.ands v := by
  show gate (x.ands.filter _) v = _
  unfold gate
  rw [List.find?_filter]
  congr 1
  funext t
  by_cases e : var t.1 = v
  · have : cnt x l t.1 = true := cnt_iff.2 (by rw [e]; exact ⟨h0, hn⟩)
    simp [this]
  · simp [e]
theorem nr_red {x : Circ} {l : List Int} {b : Int} {v : Int} : NR (reduced x l b) l v ↔ NR x l v := by
  constructor
  · intro h
    induction h with
    | lit ht => exact .lit ht
    | left _ h0 hg ih => exact .left ih h0 (by rw [← gate_red h0 ih]; exact hg)
    | right _ h0 hg ih => exact .right ih h0 (by rw [← gate_red h0 ih]; exact hg)
    | next _ h0 ht ih => exact .next ih h0 (List.mem_filter.1 ht).1
  · intro h
    induction h with
    | lit ht => exact .lit ht
    | left hv h0 hg ih => exact .left ih h0 (by rw [gate_red h0 hv]; exact hg)
    | right hv h0 hg ih => exact .right ih h0 (by rw [gate_red h0 hv]; exact hg)
    | next hv h0 ht ih => exact .next ih h0 (List.mem_filter.2 ⟨ht, cnt_iff.2 ⟨h0, hv⟩⟩)
theorem cnt_red (x : Circ) (l : List Int) (b m : Int) : cnt (reduced x l b) l m = cnt x l m := by
  rw [Bool.eq_iff_iff, cnt_iff, cnt_iff, nr_red]
theorem red_again (x : Circ) (l : List Int) (b : Int) : reduced (reduced x l b) l b = reduced x l b := by
  have e1 : cnt (reduced x l b) l = cnt x l := funext (cnt_red x l b)
  have h1 : (reduced (reduced x l b) l b).ins = (reduced x l b).ins := by
    show (x.ins.filter (cnt x l)).filter (cnt (reduced x l b) l) = _
    rw [e1, List.filter_filter]
    simp only [Bool.and_self]
    rfl
  have h2 : (reduced (reduced x l b) l b).lats = (reduced x l b).lats := by
    show (x.lats.filter _).filter (fun t => cnt (reduced x l b) l t.1) = _
    rw [e1, List.filter_filter]
    simp only [Bool.and_self]
    rfl
  have h3 : (reduced (reduced x l b) l b).ands = (reduced x l b).ands := by
    show (x.ands.filter _).filter (fun t => cnt (reduced x l b) l t.1) = _
    rw [e1, List.filter_filter]
    simp only [Bool.and_self]
    rfl
  have : reduced (reduced x l b) l b = { reduced x l b with ins := (reduced (reduced x l b) l b).ins, lats := (reduced (reduced x l b) l b).lats, ands := (reduced (reduced x l b) l b).ands } := rfl
  rw [this, h1, h2, h3]

theorem own_red {x : Circ} {l : List Int} {b : Int} : (ownL (reduced x l b)) = (ownL x).filter (cnt x l) := by
  unfold ownL
  rw [List.filter_append, List.filter_append, List.filter_map, List.filter_map]
  rfl
theorem known_red {x : Circ} {l : List Int} {b m : Int} (hk : knownV (vsOf x) m) (hn : NR x l (var m)) : knownV (vsOf (reduced x l b)) m := by
  obtain ⟨h0, h1⟩ := hk
  refine ⟨h0, ?_⟩
  by_cases hv : var m = 0
  · left; unfold var at hv; omega
  · rcases h1 with h1 | h1
    · exact Or.inl h1
    · right
      unfold vsOf at h1 ⊢
      obtain ⟨u, hu, he⟩ := List.mem_map.1 h1
      refine List.mem_map.2 ⟨u, ?_, he⟩
      rw [own_red]
      exact List.mem_filter.2 ⟨hu, cnt_iff.2 (by rw [he]; exact ⟨hv, hn⟩)⟩
theorem red_ok {x : Circ} (h : CheckOk x) {l : List Int} {b : Int} (hb : b ∈ x.bads) (hbl : b ∈ l) (hi : ∀ m ∈ x.invs, m ∈ l) : CheckOk (reduced x l b) := by
  have hord := StrashP.ord_of h
  obtain ⟨⟨f0, f1, f2, f3, f4, f5, f6⟩, ⟨hd, hr, hs⟩, hl, ha, ho, hbk, hv, hn⟩ := h
  obtain ⟨d1, d2⟩ := StrashP.ownOk_iff.1 hd
  have hg : ∀ t ∈ x.ands, gate x.ands (var t.1) = some t := fun t ht => StrashP.gate_ord hord ht
  have fl : ∀ {α : Type} (p : α → Bool) (l : List α), (l.filter p).length ≤ l.length := fun p l => List.length_filter_le p l
  refine ⟨⟨f0, f1, Nat.le_trans (fl _ _) f2, Nat.le_trans (fl _ _) f3, by show ([] : List Int).length ≤ 64; simp, by show [b].length ≤ 64; simp, f6⟩, ⟨?_, ?_, ?_⟩, ?_, ?_, ?_, ?_, ?_, ?_⟩
  · rw [own_red]
    refine StrashP.ownOk_iff.2 ⟨fun m hm => d1 m (List.mem_filter.1 hm).1, ?_⟩
    exact List.Sublist.nodup (List.Sublist.map var (List.filter_sublist (l := ownL x))) d2
  · exact fun t ht => hr t (List.mem_filter.1 ht).1
  · intro j hj
    have hp : ((x.ands.filter fun t => cnt x l t.1)).Pairwise fun a b => a.1 < b.1 := List.Pairwise.sublist (List.filter_sublist (l := x.ands)) hord.rise
    exact (List.pairwise_iff_getElem.1 hp) j (j + 1) (Nat.lt_of_succ_lt hj) hj (Nat.lt_succ_self j)
  · intro t ht
    obtain ⟨h1, h2⟩ := List.mem_filter.1 ht
    exact known_red (hl t h1) (.next (cnt_iff.1 h2).2 (cnt_iff.1 h2).1 h1)
  · intro t ht
    obtain ⟨h1, h2⟩ := List.mem_filter.1 ht
    obtain ⟨g1, g2, g3, g4⟩ := ha t h1
    exact ⟨known_red g1 (.left (cnt_iff.1 h2).2 (cnt_iff.1 h2).1 (hg t h1)), known_red g2 (.right (cnt_iff.1 h2).2 (cnt_iff.1 h2).1 (hg t h1)), g3, g4⟩
  · intro m hm; cases hm
  · intro m hm
    rw [List.mem_singleton.1 hm]
    exact known_red (hbk b hb) (.lit hbl)
  · exact fun m hm => known_red (hv m hm) (.lit (hi m hm))
  · intro j hj
    exact absurd hj (by show ¬ j < ([] : List (ByteArray × Int × ByteArray)).length; simp)
end Coi
end Go.Proofs.Ytninglnchengeaa
