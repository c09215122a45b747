/-
  slices.SortFunc by clause.order, on a slice of the call's own: its elements, in the order of literals.
-/
import Derived.Test.YteamijldmhcicaaOrder
import Derived.Test.YteamijldmhcicaaOwnP
import Derived.Test.YteamijldmhcicaaCompactP
import Derived.Shelf.SlSortCmp.NoneTotal
import Derived.Shelf.SlGeneric
import Derived.Ground.SlsfProg
namespace Go.Proofs.Yteamijldmhcicaa
open Go.RowKit Base
set_option linter.unusedVariables false
set_option linter.unusedSimpArgs false
namespace SortO
open Go.Shelf Go.Sort

def sortLaid_ren : Go.Shelf.Ren := ⟨fun | 6 => 33 | 15 => 44 | 14 => 43 | 28 => 57 | 29 => 58 | 20 => 49 | 21 => 50 | 22 => 51 | 23 => 52 | 24 => 53 | 25 => 54 | 26 => 55 | 27 => 56 | 46 => 60 | 47 => 61 | 48 => 62 | 49 => 63 | 50 => 64 | 57 => 65 | n => n, fun | 22 => 25 | 24 => 3 | 25 => 55 | 3 => 3 | 39 => 62 | 0 => 0 | 53 => 74 | 55 => 76 | 4 => 4 | 46 => 67 | 45 => 66 | 50 => 71 | 5 => 5 | 9 => 9 | 66 => 77 | 70 => 81 | 76 => 83 | 77 => 84 | n => n, fun | n => n⟩
theorem sortLaid : Go.Proofs.SlLaysF.n6 Try.prog sortLaid_ren := {
  mixed := by kernel_rfl
  f6 := ⟨Try.f33.name, by decide, Try.func33.trans (congrArg some (by kernel_rfl))⟩
  f14 := ⟨Try.f43.name, by decide, Try.func43.trans (congrArg some (by kernel_rfl))⟩
  f15 := Try.func44.trans (congrArg some (by kernel_rfl))
  f20 := ⟨Try.f49.name, by decide, Try.func49.trans (congrArg some (by kernel_rfl))⟩
  f21 := ⟨Try.f50.name, by decide, Try.func50.trans (congrArg some (by kernel_rfl))⟩
  f22 := ⟨Try.f51.name, by decide, Try.func51.trans (congrArg some (by kernel_rfl))⟩
  f23 := ⟨Try.f52.name, by decide, Try.func52.trans (congrArg some (by kernel_rfl))⟩
  f24 := ⟨Try.f53.name, by decide, Try.func53.trans (congrArg some (by kernel_rfl))⟩
  f25 := ⟨Try.f54.name, by decide, Try.func54.trans (congrArg some (by kernel_rfl))⟩
  f26 := ⟨Try.f55.name, by decide, Try.func55.trans (congrArg some (by kernel_rfl))⟩
  f27 := ⟨Try.f56.name, by decide, Try.func56.trans (congrArg some (by kernel_rfl))⟩
  f28 := Try.func57.trans (congrArg some (by kernel_rfl))
  f29 := Try.func58.trans (congrArg some (by kernel_rfl))
  f46 := ⟨Try.f60.name, by decide, Try.func60.trans (congrArg some (by kernel_rfl))⟩
  f47 := Try.func61.trans (congrArg some (by kernel_rfl))
  f48 := Try.func62.trans (congrArg some (by kernel_rfl))
  f49 := ⟨Try.f63.name, by decide, Try.func63.trans (congrArg some (by kernel_rfl))⟩
  f50 := ⟨Try.f64.name, by decide, Try.func64.trans (congrArg some (by kernel_rfl))⟩
  f57 := ⟨Try.f65.name, by decide, Try.func65.trans (congrArg some (by kernel_rfl))⟩
  t0 := Try.underlying0
  a0 := Try.isAgg0
  z0 := Try.sizeOf0
  v0 := Try.zeroValue0
  t3 := Try.underlying3
  a3 := Try.isAgg3
  z3 := Try.sizeOf3
  v3 := Try.zeroValue3
  t4 := Try.underlying4
  a4 := Try.isAgg4
  z4 := Try.sizeOf4
  v4 := Try.zeroValue4
  t5 := Try.underlying5
  a5 := Try.isAgg5
  z5 := Try.sizeOf5
  v5 := Try.zeroValue5
  t9 := Try.underlying9
  a9 := Try.isAgg9
  z9 := Try.sizeOf9
  v9 := Try.zeroValue9
  t22 := Try.underlying25
  a22 := Try.isAgg25
  z22 := Try.sizeOf25
  v22 := Try.zeroValue25
  a24 := Try.isAgg3
  z24 := Try.sizeOf3
  t25 := Try.underlying55
  a25 := Try.isAgg55
  z25 := Try.sizeOf55
  v25 := Try.zeroValue55
  t39 := Try.underlying62
  a39 := Try.isAgg62
  z39 := Try.sizeOf62
  v39 := Try.zeroValue62
  t45 := Try.underlying66
  a45 := Try.isAgg66
  z45 := Try.sizeOf66
  v45 := Try.zeroValue66
  t46 := Try.underlying67
  a46 := Try.isAgg67
  z46 := Try.sizeOf67
  v46 := Try.zeroValue67
  t50 := Try.underlying71
  a50 := Try.isAgg71
  z50 := Try.sizeOf71
  v50 := Try.zeroValue71
  t53 := Try.underlying74
  a53 := Try.isAgg74
  z53 := Try.sizeOf74
  v53 := Try.zeroValue74
  t55 := Try.underlying76
  a55 := Try.isAgg76
  z55 := Try.sizeOf76
  v55 := Try.zeroValue76
  t66 := Try.underlying77
  a66 := Try.isAgg77
  z66 := Try.sizeOf77
  v66 := Try.zeroValue77
  t70 := Try.underlying81
  a70 := Try.isAgg81
  z70 := Try.sizeOf81
  v70 := Try.zeroValue81
  t76 := Try.underlying83
  a76 := Try.isAgg83
  z76 := Try.sizeOf83
  v76 := Try.zeroValue83
  t77 := Try.underlying84
  a77 := Try.isAgg84
  z77 := Try.sizeOf84
  v77 := Try.zeroValue84 }

abbrev I := { x : Int // RefC.I64 x }
instance : Inhabited I := ⟨⟨0, by unfold RefC.I64; omega⟩⟩
def enc (x : I) : Value := .int .i64 x.1
def cf (x y : I) : Int := Order.ordI x.1 y.1

theorem one : OneCell enc := fun _ => rfl

theorem lt_iff (x y : I) : ltOf cf x y = true ↔ (Clause.absI x.1 < Clause.absI y.1 ∨ (Clause.absI x.1 = Clause.absI y.1 ∧ x.1 < y.1)) := by
  unfold ltOf cf
  rw [decide_eq_true_iff, Order.ord_lt]

theorem swo : SWO (ltOf cf) where
  irrefl x := by rw [Bool.eq_false_iff, ne_eq, lt_iff]; omega
  trans x y z h1 h2 := by rw [lt_iff] at *; omega
  ntrans x y z h1 h2 := by
    rw [Bool.eq_false_iff, ne_eq, lt_iff] at *
    omega

theorem total (x y : I) (h1 : ltOf cf x y = false) (h2 : ltOf cf y x = false) : x = y := by
  rw [Bool.eq_false_iff, ne_eq, lt_iff] at *
  exact Subtype.ext (Order.lt_total _ _ h1 h2)

theorem eg : ∀ args w, (callFunc 34 args).run Try.prog w = .ok (.enter 34 args) w := enters_of Try.func34 (by kernel_rfl) rfl

theorem cmp (blk off size : Nat) (w : World) : CmpLays1 Try.prog 34 #[] enc cf blk off size w := by
  intro m os dk _ x y
  refine (Order.order_any x.1 y.1 x.2 y.2 _).mono ?_
  rintro e w' ⟨rfl, os', rfl⟩
  exact ⟨rfl, 0, os', rfl⟩

theorem sorted_of {d d' : Array I} (hp : PermIn 0 d.size d d') (hs : SortedIn (ltOf cf) 0 d.size d') : d'.size = d.size ∧ (d'.toList.map Subtype.val).Perm (d.toList.map Subtype.val) ∧ (d'.toList.map Subtype.val).Pairwise RefC.Le := by
  obtain ⟨h1, _, h2⟩ := hp
  have h2' : d'.toList.Perm d.toList := by
    have e1 : d'.extract 0 d.size = d' := by rw [← h1]; simp
    have e2 : d.extract 0 d.size = d := by simp
    rwa [e1, e2] at h2
  refine ⟨h1, h2'.map _, ?_⟩
  rw [List.pairwise_map, List.pairwise_iff_getElem]
  intro i j hi hj hij
  have h := hs i j (Nat.zero_le _) hij (by rw [← h1]; simpa using hj)
  simp only [Array.length_toList] at hi hj
  rw [getElem!_pos d' j hj, getElem!_pos d' i hi, Bool.eq_false_iff, ne_eq, lt_iff] at h
  unfold RefC.Le
  rw [RefC.less_iff]
  simpa using h

theorem vals_att (xs : List Int) (hw : Clause.Wf xs) : ∃ ds : List I, ds.map Subtype.val = xs ∧ ds.length = xs.length ∧ ds.map enc = ints xs := by
  induction xs with
  | nil => exact ⟨[], rfl, rfl, rfl⟩
  | cons x r ih =>
    obtain ⟨ds, h1, h2, h3⟩ := ih (fun y hy => hw y (List.mem_cons_of_mem _ hy))
    exact ⟨⟨x, hw x List.mem_cons_self⟩ :: ds, by simp [h1], by simp [h2], by simp [h3, ints, enc]⟩

set_option maxHeartbeats 1000000 in
theorem sort_own (w : World) (B : Nat) (a : Option Addr) (n c : Nat) (xs : List Int) (hw : Clause.Wf xs) (hown : w.ownsRow B 3 1 (.slice a n c) n (ints xs)) (hB : B ≤ w.heap.size) (hn : n < 4611686018427387904) :
    Calls Try.prog 33 #[.slice a n c, .func (.func 34) #[] #[]] w fun e w' => e = .returned (.tuple #[]) ∧ ∃ ys : List Int, ys.Perm xs ∧ ys.Pairwise RefC.Le ∧ w'.ownsRow B 3 1 (.slice a n c) n (ints ys) ∧ Below B w w' := by
  have hl := hown.1
  rw [ints_len, Nat.mul_one] at hl
  rcases hown.2 with ⟨hv, hnil⟩ | ⟨g, cap, cur, hv, hg, hh, h1, h2, h3, h4⟩
  · simp only [Value.slice.injEq] at hv
    obtain ⟨rfl, rfl, rfl⟩ := hv
    have hx : xs = [] := List.eq_nil_of_length_eq_zero hl
    subst hx
    have hcon := AnyF.slices_SortFunc_none (P := Try.prog) (ρ := sortLaid_ren) { sortLaid with } none 0 (.func (.func 34) #[] #[]) w
    change Calls Try.prog 33 _ _ _ at hcon
    refine hcon.mono ?_
    rintro e w' ⟨rfl, rfl⟩
    exact ⟨rfl, [], List.Perm.refl _, List.Pairwise.nil, hown, Below.refl _ _⟩
  · simp only [Value.slice.injEq] at hv
    obtain ⟨rfl, _, rfl⟩ := hv
    obtain ⟨ds, hd1, hd2, hd3⟩ := vals_att xs hw
    have ht : cur.toList.take ds.length = ds.map enc := by rw [hd3, hd2, hl, ← h4, Nat.mul_one]
    have hsz : ds.toArray.size = n := by simp [hd2, hl]
    have hcon := Any.slices_SortFunc sortLaid enc one cf swo 34 #[] g 0 c ds.toArray w eg (cmp g 0 _ w) (OwnP.holds hh ht) (Array.getElem?_eq_some_iff.1 hh).1 (by rw [hsz]; exact hn)
    change Calls Try.prog 33 _ _ _ at hcon
    rw [hsz] at hcon
    refine hcon.mono ?_
    rintro e w' ⟨rfl, d', nn, os, hp, hs, rfl⟩
    have hps := sorted_of (d := ds.toArray) (by rw [hsz]; exact hp) (by rw [hsz]; exact hs)
    obtain ⟨q1, q2, q3⟩ := hps
    rw [hd1] at q2
    have hln : d'.toList.length = n := by rw [Array.length_toList, q1, hsz]
    refine ⟨rfl, d'.toList.map Subtype.val, q2, q3, ?_, OwnP.below_put _ hg hB⟩
    have ho := OwnP.own_put (enc := enc) (n := nn) (os := os) (ys := d'.toList) (zs := []) hg hh (by rw [List.append_nil, hln]; exact h1) h2 h3
    rw [List.append_nil, hln] at ho
    have e1 : d'.toList.map enc = ints (d'.toList.map Subtype.val) := by simp [ints, enc, Function.comp_def]
    rw [e1] at ho
    exact ho

end SortO
end Go.Proofs.Yteamijldmhcicaa
