/-
  slices.SortFunc by clause.order, on a slice of the call's own: its elements, in the order of literals.
-/
import Derived.Test.YtdkclipjlleacaaOrder
import Derived.Test.YtdkclipjlleacaaOwnP
import Derived.Test.YtdkclipjlleacaaCompactP
import Derived.Shelf.SlSortCmp.NoneTotal
import Derived.Shelf.SlGeneric
import Derived.Ground.SlsfProg
namespace Go.Proofs.Ytdkclipjlleacaa
open Go.RowKit Base
set_option linter.unusedVariables false
set_option linter.unusedSimpArgs false
namespace SortO
open Go.Shelf Go.Sort

def sortLaid_ren : Go.Shelf.Ren := ⟨fun | 6 => 19 | 15 => 30 | 14 => 29 | 28 => 43 | 29 => 44 | 20 => 35 | 21 => 36 | 22 => 37 | 23 => 38 | 24 => 39 | 25 => 40 | 26 => 41 | 27 => 42 | 46 => 46 | 47 => 47 | 48 => 48 | 49 => 49 | 50 => 50 | 57 => 51 | n => n, fun | 22 => 22 | 24 => 3 | 25 => 41 | 3 => 3 | 39 => 48 | 0 => 0 | 53 => 60 | 55 => 62 | 4 => 4 | 46 => 53 | 45 => 52 | 50 => 57 | 5 => 5 | 9 => 9 | 66 => 63 | 70 => 67 | 76 => 69 | 77 => 70 | n => n, fun | n => n⟩
theorem sortLaid : Go.Proofs.SlLaysF.n6 Try.prog sortLaid_ren := {
  mixed := by kernel_rfl
  f6 := ⟨Try.f19.name, by decide, Try.func19.trans (congrArg some (by kernel_rfl))⟩
  f14 := ⟨Try.f29.name, by decide, Try.func29.trans (congrArg some (by kernel_rfl))⟩
  f15 := Try.func30.trans (congrArg some (by kernel_rfl))
  f20 := ⟨Try.f35.name, by decide, Try.func35.trans (congrArg some (by kernel_rfl))⟩
  f21 := ⟨Try.f36.name, by decide, Try.func36.trans (congrArg some (by kernel_rfl))⟩
  f22 := ⟨Try.f37.name, by decide, Try.func37.trans (congrArg some (by kernel_rfl))⟩
  f23 := ⟨Try.f38.name, by decide, Try.func38.trans (congrArg some (by kernel_rfl))⟩
  f24 := ⟨Try.f39.name, by decide, Try.func39.trans (congrArg some (by kernel_rfl))⟩
  f25 := ⟨Try.f40.name, by decide, Try.func40.trans (congrArg some (by kernel_rfl))⟩
  f26 := ⟨Try.f41.name, by decide, Try.func41.trans (congrArg some (by kernel_rfl))⟩
  f27 := ⟨Try.f42.name, by decide, Try.func42.trans (congrArg some (by kernel_rfl))⟩
  f28 := Try.func43.trans (congrArg some (by kernel_rfl))
  f29 := Try.func44.trans (congrArg some (by kernel_rfl))
  f46 := ⟨Try.f46.name, by decide, Try.func46.trans (congrArg some (by kernel_rfl))⟩
  f47 := Try.func47.trans (congrArg some (by kernel_rfl))
  f48 := Try.func48.trans (congrArg some (by kernel_rfl))
  f49 := ⟨Try.f49.name, by decide, Try.func49.trans (congrArg some (by kernel_rfl))⟩
  f50 := ⟨Try.f50.name, by decide, Try.func50.trans (congrArg some (by kernel_rfl))⟩
  f57 := ⟨Try.f51.name, by decide, Try.func51.trans (congrArg some (by kernel_rfl))⟩
  t0 := Try.underlying0
  a0 := Try.isAgg0
  z0 := Try.sizeOf0
  v0 := Try.zeroValue0
  t3 := Try.underlying3
  a3 := Try.isAgg3
  z3 := Try.sizeOf3
  v3 := Try.zeroValue3
  t4 := Try.underlying4
  a4 := Try.isAgg4
  z4 := Try.sizeOf4
  v4 := Try.zeroValue4
  t5 := Try.underlying5
  a5 := Try.isAgg5
  z5 := Try.sizeOf5
  v5 := Try.zeroValue5
  t9 := Try.underlying9
  a9 := Try.isAgg9
  z9 := Try.sizeOf9
  v9 := Try.zeroValue9
  t22 := Try.underlying22
  a22 := Try.isAgg22
  z22 := Try.sizeOf22
  v22 := Try.zeroValue22
  a24 := Try.isAgg3
  z24 := Try.sizeOf3
  t25 := Try.underlying41
  a25 := Try.isAgg41
  z25 := Try.sizeOf41
  v25 := Try.zeroValue41
  t39 := Try.underlying48
  a39 := Try.isAgg48
  z39 := Try.sizeOf48
  v39 := Try.zeroValue48
  t45 := Try.underlying52
  a45 := Try.isAgg52
  z45 := Try.sizeOf52
  v45 := Try.zeroValue52
  t46 := Try.underlying53
  a46 := Try.isAgg53
  z46 := Try.sizeOf53
  v46 := Try.zeroValue53
  t50 := Try.underlying57
  a50 := Try.isAgg57
  z50 := Try.sizeOf57
  v50 := Try.zeroValue57
  t53 := Try.underlying60
  a53 := Try.isAgg60
  z53 := Try.sizeOf60
  v53 := Try.zeroValue60
  t55 := Try.underlying62
  a55 := Try.isAgg62
  z55 := Try.sizeOf62
  v55 := Try.zeroValue62
  t66 := Try.underlying63
  a66 := Try.isAgg63
  z66 := Try.sizeOf63
  v66 := Try.zeroValue63
  t70 := Try.underlying67
  a70 := Try.isAgg67
  z70 := Try.sizeOf67
  v70 := Try.zeroValue67
  t76 := Try.underlying69
  a76 := Try.isAgg69
  z76 := Try.sizeOf69
  v76 := Try.zeroValue69
  t77 := Try.underlying70
  a77 := Try.isAgg70
  z77 := Try.sizeOf70
  v77 := Try.zeroValue70 }

abbrev I := { x : Int // RefC.I64 x }
instance : Inhabited I := ⟨⟨0, by unfold RefC.I64; omega⟩⟩
def enc (x : I) : Value := .int .i64 x.1
def cf (x y : I) : Int := Order.ordI x.1 y.1

theorem one : OneCell enc := fun _ => rfl

theorem lt_iff (x y : I) : ltOf cf x y = true ↔ (Clause.absI x.1 < Clause.absI y.1 ∨ (Clause.absI x.1 = Clause.absI y.1 ∧ x.1 < y.1)) := by
  unfold ltOf cf
  rw [decide_eq_true_iff, Order.ord_lt]

theorem swo : SWO (ltOf cf) where
  irrefl x := by rw [Bool.eq_false_iff, ne_eq, lt_iff]; omega
  trans x y z h1 h2 := by rw [lt_iff] at *; omega
  ntrans x y z h1 h2 := by
    rw [Bool.eq_false_iff, ne_eq, lt_iff] at *
    omega

theorem total (x y : I) (h1 : ltOf cf x y = false) (h2 : ltOf cf y x = false) : x = y := by
  rw [Bool.eq_false_iff, ne_eq, lt_iff] at *
  exact Subtype.ext (Order.lt_total _ _ h1 h2)

theorem eg : ∀ args w, (callFunc 20 args).run Try.prog w = .ok (.enter 20 args) w := enters_of Try.func20 (by kernel_rfl) rfl

theorem cmp (blk off size : Nat) (w : World) : CmpLays1 Try.prog 20 #[] enc cf blk off size w := by
  intro m os dk _ x y
  refine (Order.order_any x.1 y.1 x.2 y.2 _).mono ?_
  rintro e w' ⟨rfl, os', rfl⟩
  exact ⟨rfl, 0, os', rfl⟩

theorem sorted_of {d d' : Array I} (hp : PermIn 0 d.size d d') (hs : SortedIn (ltOf cf) 0 d.size d') : d'.size = d.size ∧ (d'.toList.map Subtype.val).Perm (d.toList.map Subtype.val) ∧ (d'.toList.map Subtype.val).Pairwise RefC.Le := by
  obtain ⟨h1, _, h2⟩ := hp
  have h2' : d'.toList.Perm d.toList := by
    have e1 : d'.extract 0 d.size = d' := by rw [← h1]; simp
    have e2 : d.extract 0 d.size = d := by simp
    rwa [e1, e2] at h2
  refine ⟨h1, h2'.map _, ?_⟩
  rw [List.pairwise_map, List.pairwise_iff_getElem]
  intro i j hi hj hij
  have h := hs i j (Nat.zero_le _) hij (by rw [← h1]; simpa using hj)
  simp only [Array.length_toList] at hi hj
  rw [getElem!_pos d' j hj, getElem!_pos d' i hi, Bool.eq_false_iff, ne_eq, lt_iff] at h
  unfold RefC.Le
  rw [RefC.less_iff]
  simpa using h

theorem vals_att (xs : List Int) (hw : Clause.Wf xs) : ∃ ds : List I, ds.map Subtype.val = xs ∧ ds.length = xs.length ∧ ds.map enc = ints xs := by
  induction xs with
  | nil => exact ⟨[], rfl, rfl, rfl⟩
  | cons x r ih =>
    obtain ⟨ds, h1, h2, h3⟩ := ih (fun y hy => hw y (List.mem_cons_of_mem _ hy))
    exact ⟨⟨x, hw x List.mem_cons_self⟩ :: ds, by simp [h1], by simp [h2], by simp [h3, ints, enc]⟩

set_option maxHeartbeats 1000000 in
theorem sort_own (w : World) (B : Nat) (a : Option Addr) (n c : Nat) (xs : List Int) (hw : Clause.Wf xs) (hown : w.ownsRow B 3 1 (.slice a n c) n (ints xs)) (hB : B ≤ w.heap.size) (hn : n < 4611686018427387904) :
    Calls Try.prog 19 #[.slice a n c, .func (.func 20) #[] #[]] w fun e w' => e = .returned (.tuple #[]) ∧ ∃ ys : List Int, ys.Perm xs ∧ ys.Pairwise RefC.Le ∧ w'.ownsRow B 3 1 (.slice a n c) n (ints ys) ∧ Below B w w' := by
  have hl := hown.1
  rw [ints_len, Nat.mul_one] at hl
  rcases hown.2 with ⟨hv, hnil⟩ | ⟨g, cap, cur, hv, hg, hh, h1, h2, h3, h4⟩
  · simp only [Value.slice.injEq] at hv
    obtain ⟨rfl, rfl, rfl⟩ := hv
    have hx : xs = [] := List.eq_nil_of_length_eq_zero hl
    subst hx
    have hcon := AnyF.slices_SortFunc_none (P := Try.prog) (ρ := sortLaid_ren) { sortLaid with } none 0 (.func (.func 20) #[] #[]) w
    change Calls Try.prog 19 _ _ _ at hcon
    refine hcon.mono ?_
    rintro e w' ⟨rfl, rfl⟩
    exact ⟨rfl, [], List.Perm.refl _, List.Pairwise.nil, hown, Below.refl _ _⟩
  · simp only [Value.slice.injEq] at hv
    obtain ⟨rfl, _, rfl⟩ := hv
    obtain ⟨ds, hd1, hd2, hd3⟩ := vals_att xs hw
    have ht : cur.toList.take ds.length = ds.map enc := by rw [hd3, hd2, hl, ← h4, Nat.mul_one]
    have hsz : ds.toArray.size = n := by simp [hd2, hl]
    have hcon := Any.slices_SortFunc sortLaid enc one cf swo 20 #[] g 0 c ds.toArray w eg (cmp g 0 _ w) (OwnP.holds hh ht) (Array.getElem?_eq_some_iff.1 hh).1 (by rw [hsz]; exact hn)
    change Calls Try.prog 19 _ _ _ at hcon
    rw [hsz] at hcon
    refine hcon.mono ?_
    rintro e w' ⟨rfl, d', nn, os, hp, hs, rfl⟩
    have hps := sorted_of (d := ds.toArray) (by rw [hsz]; exact hp) (by rw [hsz]; exact hs)
    obtain ⟨q1, q2, q3⟩ := hps
    rw [hd1] at q2
    have hln : d'.toList.length = n := by rw [Array.length_toList, q1, hsz]
    refine ⟨rfl, d'.toList.map Subtype.val, q2, q3, ?_, OwnP.below_put _ hg hB⟩
    have ho := OwnP.own_put (enc := enc) (n := nn) (os := os) (ys := d'.toList) (zs := []) hg hh (by rw [List.append_nil, hln]; exact h1) h2 h3
    rw [List.append_nil, hln] at ho
    have e1 : d'.toList.map enc = ints (d'.toList.map Subtype.val) := by simp [ints, enc, Function.comp_def]
    rw [e1] at ho
    exact ho

end SortO
end Go.Proofs.Ytdkclipjlleacaa
