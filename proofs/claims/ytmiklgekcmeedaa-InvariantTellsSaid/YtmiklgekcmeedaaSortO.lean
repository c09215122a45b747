/-
  slices.SortFunc by clause.order, on a slice of the call's own: its elements, in the order of literals.
-/
import Derived.Test.YtmiklgekcmeedaaOrder
import Derived.Test.YtmiklgekcmeedaaOwnP
import Derived.Test.YtmiklgekcmeedaaCompactP
import Derived.Shelf.SlSortCmp.NoneTotal
import Derived.Shelf.SlGeneric
import Derived.Ground.SlsfProg
namespace Go.Proofs.Ytmiklgekcmeedaa
open Go.RowKit Base
set_option linter.unusedVariables false
set_option linter.unusedSimpArgs false
namespace SortO
open Go.Shelf Go.Sort

shelf_lay_g SlLaysF.n6 Slsf 6 at Try 33 as sortLaid

abbrev I := { x : Int // RefC.I64 x }
instance : Inhabited I := ⟨⟨0, by unfold RefC.I64; omega⟩⟩
def enc (x : I) : Value := .int .i64 x.1
def cf (x y : I) : Int := Order.ordI x.1 y.1

theorem one : OneCell enc := fun _ => rfl

theorem lt_iff (x y : I) : ltOf cf x y = true ↔ (Clause.absI x.1 < Clause.absI y.1 ∨ (Clause.absI x.1 = Clause.absI y.1 ∧ x.1 < y.1)) := by
  unfold ltOf cf
  rw [decide_eq_true_iff, Order.ord_lt]

theorem swo : SWO (ltOf cf) where
  irrefl x := by rw [Bool.eq_false_iff, ne_eq, lt_iff]; omega
  trans x y z h1 h2 := by rw [lt_iff] at *; omega
  ntrans x y z h1 h2 := by
    rw [Bool.eq_false_iff, ne_eq, lt_iff] at *
    omega

theorem total (x y : I) (h1 : ltOf cf x y = false) (h2 : ltOf cf y x = false) : x = y := by
  rw [Bool.eq_false_iff, ne_eq, lt_iff] at *
  exact Subtype.ext (Order.lt_total _ _ h1 h2)

theorem eg : ∀ args w, (callFunc 34 args).run Try.prog w = .ok (.enter 34 args) w := enters_of Try.func34 (by kernel_rfl) rfl

theorem cmp (blk off size : Nat) (w : World) : CmpLays1 Try.prog 34 #[] enc cf blk off size w := by
  intro m os dk _ x y
  refine (Order.order_any x.1 y.1 x.2 y.2 _).mono ?_
  rintro e w' ⟨rfl, os', rfl⟩
  exact ⟨rfl, 0, os', rfl⟩

theorem sorted_of {d d' : Array I} (hp : PermIn 0 d.size d d') (hs : SortedIn (ltOf cf) 0 d.size d') : d'.size = d.size ∧ (d'.toList.map Subtype.val).Perm (d.toList.map Subtype.val) ∧ (d'.toList.map Subtype.val).Pairwise RefC.Le := by
  obtain ⟨h1, _, h2⟩ := hp
  have h2' : d'.toList.Perm d.toList := by
    have e1 : d'.extract 0 d.size = d' := by rw [← h1]; simp
    have e2 : d.extract 0 d.size = d := by simp
    rwa [e1, e2] at h2
  refine ⟨h1, h2'.map _, ?_⟩
  rw [List.pairwise_map, List.pairwise_iff_getElem]
  intro i j hi hj hij
  have h := hs i j (Nat.zero_le _) hij (by rw [← h1]; simpa using hj)
  simp only [Array.length_toList] at hi hj
  rw [getElem!_pos d' j hj, getElem!_pos d' i hi, Bool.eq_false_iff, ne_eq, lt_iff] at h
  unfold RefC.Le
  rw [RefC.less_iff]
  simpa using h

theorem vals_att (xs : List Int) (hw : Clause.Wf xs) : ∃ ds : List I, ds.map Subtype.val = xs ∧ ds.length = xs.length ∧ ds.map enc = ints xs := by
  induction xs with
  | nil => exact ⟨[], rfl, rfl, rfl⟩
  | cons x r ih =>
    obtain ⟨ds, h1, h2, h3⟩ := ih (fun y hy => hw y (List.mem_cons_of_mem _ hy))
    exact ⟨⟨x, hw x List.mem_cons_self⟩ :: ds, by simp [h1], by simp [h2], by simp [h3, ints, enc]⟩

set_option maxHeartbeats 1000000 in
theorem sort_own (w : World) (B : Nat) (a : Option Addr) (n c : Nat) (xs : List Int) (hw : Clause.Wf xs) (hown : w.ownsRow B 3 1 (.slice a n c) n (ints xs)) (hB : B ≤ w.heap.size) (hn : n < 4611686018427387904) :
    Calls Try.prog 33 #[.slice a n c, .func (.func 34) #[] #[]] w fun e w' => e = .returned (.tuple #[]) ∧ ∃ ys : List Int, ys.Perm xs ∧ ys.Pairwise RefC.Le ∧ w'.ownsRow B 3 1 (.slice a n c) n (ints ys) ∧ Below B w w' := by
  have hl := hown.1
  rw [ints_len, Nat.mul_one] at hl
  rcases hown.2 with ⟨hv, hnil⟩ | ⟨g, cap, cur, hv, hg, hh, h1, h2, h3, h4⟩
  · simp only [Value.slice.injEq] at hv
    obtain ⟨rfl, rfl, rfl⟩ := hv
    have hx : xs = [] := List.eq_nil_of_length_eq_zero hl
    subst hx
    have hcon := AnyF.slices_SortFunc_none (P := Try.prog) (ρ := sortLaid_ren) { sortLaid with } none 0 (.func (.func 34) #[] #[]) w
    change Calls Try.prog 33 _ _ _ at hcon
    refine hcon.mono ?_
    rintro e w' ⟨rfl, rfl⟩
    exact ⟨rfl, [], List.Perm.refl _, List.Pairwise.nil, hown, Below.refl _ _⟩
  · simp only [Value.slice.injEq] at hv
    obtain ⟨rfl, _, rfl⟩ := hv
    obtain ⟨ds, hd1, hd2, hd3⟩ := vals_att xs hw
    have ht : cur.toList.take ds.length = ds.map enc := by rw [hd3, hd2, hl, ← h4, Nat.mul_one]
    have hsz : ds.toArray.size = n := by simp [hd2, hl]
    have hcon := Any.slices_SortFunc sortLaid enc one cf swo 34 #[] g 0 c ds.toArray w eg (cmp g 0 _ w) (OwnP.holds hh ht) (Array.getElem?_eq_some_iff.1 hh).1 (by rw [hsz]; exact hn)
    change Calls Try.prog 33 _ _ _ at hcon
    rw [hsz] at hcon
    refine hcon.mono ?_
    rintro e w' ⟨rfl, d', nn, os, hp, hs, rfl⟩
    have hps := sorted_of (d := ds.toArray) (by rw [hsz]; exact hp) (by rw [hsz]; exact hs)
    obtain ⟨q1, q2, q3⟩ := hps
    rw [hd1] at q2
    have hln : d'.toList.length = n := by rw [Array.length_toList, q1, hsz]
    refine ⟨rfl, d'.toList.map Subtype.val, q2, q3, ?_, OwnP.below_put _ hg hB⟩
    have ho := OwnP.own_put (enc := enc) (n := nn) (os := os) (ys := d'.toList) (zs := []) hg hh (by rw [List.append_nil, hln]; exact h1) h2 h3
    rw [List.append_nil, hln] at ho
    have e1 : d'.toList.map enc = ints (d'.toList.map Subtype.val) := by simp [ints, enc, Function.comp_def]
    rw [e1] at ho
    exact ho

end SortO
end Go.Proofs.Ytmiklgekcmeedaa
