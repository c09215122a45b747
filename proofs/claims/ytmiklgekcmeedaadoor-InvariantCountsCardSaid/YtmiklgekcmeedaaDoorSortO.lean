/-
  slices.SortFunc by clause.order, on a slice of the call's own: its elements, in the order of literals.
-/
import Derived.Test.YtmiklgekcmeedaaDoorOrder
import Derived.Test.YtmiklgekcmeedaaDoorOwnP
import Derived.Test.YtmiklgekcmeedaaDoorCompactP
import Derived.Shelf.SlSortCmp.NoneTotal
import Derived.Shelf.SlGeneric
import Derived.Ground.SlsfProg
namespace Go.Proofs.YtmiklgekcmeedaaDoor
open Go.RowKit Base
set_option linter.unusedVariables false
set_option linter.unusedSimpArgs false
namespace SortO
open Go.Shelf Go.Sort

def sortLaid_ren : Go.Shelf.Ren := ⟨fun | 6 => 33 | 15 => 49 | 14 => 48 | 28 => 69 | 29 => 70 | 20 => 61 | 21 => 62 | 22 => 63 | 23 => 64 | 24 => 65 | 25 => 66 | 26 => 67 | 27 => 68 | 46 => 79 | 47 => 80 | 48 => 81 | 49 => 82 | 50 => 83 | 57 => 86 | n => n, fun | 22 => 33 | 24 => 3 | 25 => 66 | 3 => 3 | 39 => 44 | 0 => 0 | 53 => 98 | 55 => 100 | 4 => 4 | 46 => 91 | 45 => 90 | 50 => 95 | 5 => 5 | 9 => 9 | 66 => 103 | 70 => 107 | 76 => 115 | 77 => 116 | n => n, fun | n => n⟩
theorem sortLaid : Go.Proofs.SlLaysF.n6 Tryd.prog sortLaid_ren := {
  mixed := by kernel_rfl
  f6 := ⟨Tryd.f33.name, by decide, Tryd.func33.trans (congrArg some (by kernel_rfl))⟩
  f14 := ⟨Tryd.f48.name, by decide, Tryd.func48.trans (congrArg some (by kernel_rfl))⟩
  f15 := Tryd.func49.trans (congrArg some (by kernel_rfl))
  f20 := ⟨Tryd.f61.name, by decide, Tryd.func61.trans (congrArg some (by kernel_rfl))⟩
  f21 := ⟨Tryd.f62.name, by decide, Tryd.func62.trans (congrArg some (by kernel_rfl))⟩
  f22 := ⟨Tryd.f63.name, by decide, Tryd.func63.trans (congrArg some (by kernel_rfl))⟩
  f23 := ⟨Tryd.f64.name, by decide, Tryd.func64.trans (congrArg some (by kernel_rfl))⟩
  f24 := ⟨Tryd.f65.name, by decide, Tryd.func65.trans (congrArg some (by kernel_rfl))⟩
  f25 := ⟨Tryd.f66.name, by decide, Tryd.func66.trans (congrArg some (by kernel_rfl))⟩
  f26 := ⟨Tryd.f67.name, by decide, Tryd.func67.trans (congrArg some (by kernel_rfl))⟩
  f27 := ⟨Tryd.f68.name, by decide, Tryd.func68.trans (congrArg some (by kernel_rfl))⟩
  f28 := Tryd.func69.trans (congrArg some (by kernel_rfl))
  f29 := Tryd.func70.trans (congrArg some (by kernel_rfl))
  f46 := ⟨Tryd.f79.name, by decide, Tryd.func79.trans (congrArg some (by kernel_rfl))⟩
  f47 := Tryd.func80.trans (congrArg some (by kernel_rfl))
  f48 := Tryd.func81.trans (congrArg some (by kernel_rfl))
  f49 := ⟨Tryd.f82.name, by decide, Tryd.func82.trans (congrArg some (by kernel_rfl))⟩
  f50 := ⟨Tryd.f83.name, by decide, Tryd.func83.trans (congrArg some (by kernel_rfl))⟩
  f57 := ⟨Tryd.f86.name, by decide, Tryd.func86.trans (congrArg some (by kernel_rfl))⟩
  t0 := Tryd.underlying0
  a0 := Tryd.isAgg0
  z0 := Tryd.sizeOf0
  v0 := Tryd.zeroValue0
  t3 := Tryd.underlying3
  a3 := Tryd.isAgg3
  z3 := Tryd.sizeOf3
  v3 := Tryd.zeroValue3
  t4 := Tryd.underlying4
  a4 := Tryd.isAgg4
  z4 := Tryd.sizeOf4
  v4 := Tryd.zeroValue4
  t5 := Tryd.underlying5
  a5 := Tryd.isAgg5
  z5 := Tryd.sizeOf5
  v5 := Tryd.zeroValue5
  t9 := Tryd.underlying9
  a9 := Tryd.isAgg9
  z9 := Tryd.sizeOf9
  v9 := Tryd.zeroValue9
  t22 := Tryd.underlying33
  a22 := Tryd.isAgg33
  z22 := Tryd.sizeOf33
  v22 := Tryd.zeroValue33
  a24 := Tryd.isAgg3
  z24 := Tryd.sizeOf3
  t25 := Tryd.underlying66
  a25 := Tryd.isAgg66
  z25 := Tryd.sizeOf66
  v25 := Tryd.zeroValue66
  t39 := Tryd.underlying44
  a39 := Tryd.isAgg44
  z39 := Tryd.sizeOf44
  v39 := Tryd.zeroValue44
  t45 := Tryd.underlying90
  a45 := Tryd.isAgg90
  z45 := Tryd.sizeOf90
  v45 := Tryd.zeroValue90
  t46 := Tryd.underlying91
  a46 := Tryd.isAgg91
  z46 := Tryd.sizeOf91
  v46 := Tryd.zeroValue91
  t50 := Tryd.underlying95
  a50 := Tryd.isAgg95
  z50 := Tryd.sizeOf95
  v50 := Tryd.zeroValue95
  t53 := Tryd.underlying98
  a53 := Tryd.isAgg98
  z53 := Tryd.sizeOf98
  v53 := Tryd.zeroValue98
  t55 := Tryd.underlying100
  a55 := Tryd.isAgg100
  z55 := Tryd.sizeOf100
  v55 := Tryd.zeroValue100
  t66 := Tryd.underlying103
  a66 := Tryd.isAgg103
  z66 := Tryd.sizeOf103
  v66 := Tryd.zeroValue103
  t70 := Tryd.underlying107
  a70 := Tryd.isAgg107
  z70 := Tryd.sizeOf107
  v70 := Tryd.zeroValue107
  t76 := Tryd.underlying115
  a76 := Tryd.isAgg115
  z76 := Tryd.sizeOf115
  v76 := Tryd.zeroValue115
  t77 := Tryd.underlying116
  a77 := Tryd.isAgg116
  z77 := Tryd.sizeOf116
  v77 := Tryd.zeroValue116 }

abbrev I := { x : Int // RefC.I64 x }
instance : Inhabited I := ⟨⟨0, by unfold RefC.I64; omega⟩⟩
def enc (x : I) : Value := .int .i64 x.1
def cf (x y : I) : Int := Order.ordI x.1 y.1

theorem one : OneCell enc := fun _ => rfl

theorem lt_iff (x y : I) : ltOf cf x y = true ↔ (Clause.absI x.1 < Clause.absI y.1 ∨ (Clause.absI x.1 = Clause.absI y.1 ∧ x.1 < y.1)) := by
  unfold ltOf cf
  rw [decide_eq_true_iff, Order.ord_lt]

theorem swo : SWO (ltOf cf) where
  irrefl x := by rw [Bool.eq_false_iff, ne_eq, lt_iff]; omega
  trans x y z h1 h2 := by rw [lt_iff] at *; omega
  ntrans x y z h1 h2 := by
    rw [Bool.eq_false_iff, ne_eq, lt_iff] at *
    omega

theorem total (x y : I) (h1 : ltOf cf x y = false) (h2 : ltOf cf y x = false) : x = y := by
  rw [Bool.eq_false_iff, ne_eq, lt_iff] at *
  exact Subtype.ext (Order.lt_total _ _ h1 h2)

theorem eg : ∀ args w, (callFunc 34 args).run Tryd.prog w = .ok (.enter 34 args) w := enters_of Tryd.func34 (by kernel_rfl) rfl

theorem cmp (blk off size : Nat) (w : World) : CmpLays1 Tryd.prog 34 #[] enc cf blk off size w := by
  intro m os dk _ x y
  refine (Order.order_any x.1 y.1 x.2 y.2 _).mono ?_
  rintro e w' ⟨rfl, os', rfl⟩
  exact ⟨rfl, 0, os', rfl⟩

theorem sorted_of {d d' : Array I} (hp : PermIn 0 d.size d d') (hs : SortedIn (ltOf cf) 0 d.size d') : d'.size = d.size ∧ (d'.toList.map Subtype.val).Perm (d.toList.map Subtype.val) ∧ (d'.toList.map Subtype.val).Pairwise RefC.Le := by
  obtain ⟨h1, _, h2⟩ := hp
  have h2' : d'.toList.Perm d.toList := by
    have e1 : d'.extract 0 d.size = d' := by rw [← h1]; simp
    have e2 : d.extract 0 d.size = d := by simp
    rwa [e1, e2] at h2
  refine ⟨h1, h2'.map _, ?_⟩
  rw [List.pairwise_map, List.pairwise_iff_getElem]
  intro i j hi hj hij
  have h := hs i j (Nat.zero_le _) hij (by rw [← h1]; simpa using hj)
  simp only [Array.length_toList] at hi hj
  rw [getElem!_pos d' j hj, getElem!_pos d' i hi, Bool.eq_false_iff, ne_eq, lt_iff] at h
  unfold RefC.Le
  rw [RefC.less_iff]
  simpa using h

theorem vals_att (xs : List Int) (hw : Clause.Wf xs) : ∃ ds : List I, ds.map Subtype.val = xs ∧ ds.length = xs.length ∧ ds.map enc = ints xs := by
  induction xs with
  | nil => exact ⟨[], rfl, rfl, rfl⟩
  | cons x r ih =>
    obtain ⟨ds, h1, h2, h3⟩ := ih (fun y hy => hw y (List.mem_cons_of_mem _ hy))
    exact ⟨⟨x, hw x List.mem_cons_self⟩ :: ds, by simp [h1], by simp [h2], by simp [h3, ints, enc]⟩

set_option maxHeartbeats 1000000 in
theorem sort_own (w : World) (B : Nat) (a : Option Addr) (n c : Nat) (xs : List Int) (hw : Clause.Wf xs) (hown : w.ownsRow B 3 1 (.slice a n c) n (ints xs)) (hB : B ≤ w.heap.size) (hn : n < 4611686018427387904) :
    Calls Tryd.prog 33 #[.slice a n c, .func (.func 34) #[] #[]] w fun e w' => e = .returned (.tuple #[]) ∧ ∃ ys : List Int, ys.Perm xs ∧ ys.Pairwise RefC.Le ∧ w'.ownsRow B 3 1 (.slice a n c) n (ints ys) ∧ Below B w w' := by
  have hl := hown.1
  rw [ints_len, Nat.mul_one] at hl
  rcases hown.2 with ⟨hv, hnil⟩ | ⟨g, cap, cur, hv, hg, hh, h1, h2, h3, h4⟩
  · simp only [Value.slice.injEq] at hv
    obtain ⟨rfl, rfl, rfl⟩ := hv
    have hx : xs = [] := List.eq_nil_of_length_eq_zero hl
    subst hx
    have hcon := AnyF.slices_SortFunc_none (P := Tryd.prog) (ρ := sortLaid_ren) { sortLaid with } none 0 (.func (.func 34) #[] #[]) w
    change Calls Tryd.prog 33 _ _ _ at hcon
    refine hcon.mono ?_
    rintro e w' ⟨rfl, rfl⟩
    exact ⟨rfl, [], List.Perm.refl _, List.Pairwise.nil, hown, Below.refl _ _⟩
  · simp only [Value.slice.injEq] at hv
    obtain ⟨rfl, _, rfl⟩ := hv
    obtain ⟨ds, hd1, hd2, hd3⟩ := vals_att xs hw
    have ht : cur.toList.take ds.length = ds.map enc := by rw [hd3, hd2, hl, ← h4, Nat.mul_one]
    have hsz : ds.toArray.size = n := by simp [hd2, hl]
    have hcon := Any.slices_SortFunc sortLaid enc one cf swo 34 #[] g 0 c ds.toArray w eg (cmp g 0 _ w) (OwnP.holds hh ht) (Array.getElem?_eq_some_iff.1 hh).1 (by rw [hsz]; exact hn)
    change Calls Tryd.prog 33 _ _ _ at hcon
    rw [hsz] at hcon
    refine hcon.mono ?_
    rintro e w' ⟨rfl, d', nn, os, hp, hs, rfl⟩
    have hps := sorted_of (d := ds.toArray) (by rw [hsz]; exact hp) (by rw [hsz]; exact hs)
    obtain ⟨q1, q2, q3⟩ := hps
    rw [hd1] at q2
    have hln : d'.toList.length = n := by rw [Array.length_toList, q1, hsz]
    refine ⟨rfl, d'.toList.map Subtype.val, q2, q3, ?_, OwnP.below_put _ hg hB⟩
    have ho := OwnP.own_put (enc := enc) (n := nn) (os := os) (ys := d'.toList) (zs := []) hg hh (by rw [List.append_nil, hln]; exact h1) h2 h3
    rw [List.append_nil, hln] at ho
    have e1 : d'.toList.map enc = ints (d'.toList.map Subtype.val) := by simp [ints, enc, Function.comp_def]
    rw [e1] at ho
    exact ho

end SortO
end Go.Proofs.YtmiklgekcmeedaaDoor
