/-
  Several texts in one (written by merge.py): XSortedKeys XCone XHashM XHashH XHashN XBitL XStrashM XApp2 XStrashTwice
-/
import Derived.Test.YthdhlkcdbogcaaaBase
import Derived.Shelf.SlIterI.Nil
import Derived.Shelf.SortM.Plain
import Derived.Shelf.SortM.SortNone
import Derived.Ground.GgzProg
import Derived.Ground.SlgmProg
import Derived.Test.YthdhlkcdbogcaaaConeP
import Derived.Test.YthdhlkcdbogcaaaGate
import Derived.Test.YthdhlkcdbogcaaaSetI
import Derived.Test.YthdhlkcdbogcaaaCloneI
import Derived.Test.YthdhlkcdbogcaaaCBox
import Derived.WalkSmall
import Derived.Deep.DeepCutAuto
import Derived.BigQuiet
import Derived.Maps.OwnOps
import Derived.Lib.AppendZeros
import Derived.Test.YthdhlkcdbogcaaaHashA
import Derived.Test.YthdhlkcdbogcaaaCopyC
import Derived.Test.YthdhlkcdbogcaaaStrashQ
import Derived.Test.YthdhlkcdbogcaaaRefSmall
import Derived.Test.YthdhlkcdbogcaaaHeldBr
import Derived.Test.YthdhlkcdbogcaaaNot
import Derived.Deep.QuietTactic
import Derived.Test.YthdhlkcdbogcaaaTrip
import Derived.Laws.AppendOwn
import Derived.Laws.OwnMore
import Derived.Maps.AppendAt
import Derived.Test.YthdhlkcdbogcaaaRefCheck
import Derived.Test.YthdhlkcdbogcaaaCheckP
import Derived.Test.YthdhlkcdbogcaaaOpenCirc
import Derived.Test.YthdhlkcdbogcaaaLex
/-
  slices.Sorted(maps.Keys(m)) at map[int]bool: the keys, sorted.
-/
namespace Go.Proofs.Ythdhlkcdbogcaaa
open Go.RowKit Base
set_option linter.unusedVariables false
namespace SortedK
open Go.Maps Go.Sort Go.Shelf

def keysA_ren : Go.Shelf.Ren := ⟨fun | 7 => 44 | 10 => 57 | n => n, fun | 23 => 58 | 26 => 3 | 3 => 4 | 28 => 82 | 0 => 0 | 27 => 81 | 33 => 67 | 4 => 4 | n => n, fun | n => n⟩
theorem keysA : Go.Proofs.SlLaysZI.n7 Try.prog keysA_ren := {
  mixed := by kernel_rfl
  f7 := ⟨Try.f44.name, by decide, Try.func44.trans (congrArg some (by kernel_rfl))⟩
  f10 := ⟨Try.f57.name, by decide, Try.func57.trans (congrArg some (by kernel_rfl))⟩
  t0 := Try.underlying0
  a0 := Try.isAgg0
  z0 := Try.sizeOf0
  v0 := Try.zeroValue0
  t4 := Try.underlying4
  a4 := Try.isAgg4
  z4 := Try.sizeOf4
  v4 := Try.zeroValue4
  t23 := Try.underlying58
  a23 := Try.isAgg58
  z23 := Try.sizeOf58
  v23 := Try.zeroValue58
  t26 := Try.underlying3
  a26 := Try.isAgg3
  z26 := Try.sizeOf3
  v26 := Try.zeroValue3
  t27 := Try.underlying81
  a27 := Try.isAgg81
  z27 := Try.sizeOf81
  v27 := Try.zeroValue81
  t28 := Try.underlying82
  a28 := Try.isAgg82
  z28 := Try.sizeOf82
  v28 := Try.zeroValue82
  t33 := Try.underlying67
  a33 := Try.isAgg67
  z33 := Try.sizeOf67
  v33 := Try.zeroValue67 }
def sortedA_ren : Go.Shelf.Ren := ⟨fun | 6 => 43 | 8 => 55 | 9 => 56 | 11 => 62 | 13 => 64 | 12 => 63 | 23 => 76 | 24 => 77 | 14 => 67 | 15 => 68 | 16 => 69 | 17 => 70 | 18 => 71 | 19 => 72 | 20 => 73 | 21 => 74 | 22 => 75 | 25 => 82 | 26 => 83 | 27 => 84 | 28 => 85 | 29 => 86 | 30 => 87 | 31 => 90 | n => n, fun | 26 => 3 | 28 => 82 | 24 => 22 | 0 => 0 | 3 => 3 | 37 => 66 | 48 => 115 | 50 => 28 | 4 => 4 | 40 => 108 | 39 => 107 | 45 => 44 | 5 => 5 | 9 => 9 | 51 => 118 | 55 => 122 | 57 => 126 | 58 => 127 | 33 => 67 | n => n, fun | n => n⟩
theorem sortedA : Go.Proofs.SlLaysZI.n6 Try.prog sortedA_ren := {
  mixed := by kernel_rfl
  f6 := ⟨Try.f43.name, by decide, Try.func43.trans (congrArg some (by kernel_rfl))⟩
  f8 := ⟨Try.f55.name, by decide, Try.func55.trans (congrArg some (by kernel_rfl))⟩
  f11 := ⟨Try.f62.name, by decide, Try.func62.trans (congrArg some (by kernel_rfl))⟩
  t0 := Try.underlying0
  a0 := Try.isAgg0
  z0 := Try.sizeOf0
  v0 := Try.zeroValue0
  t24 := Try.underlying22
  a24 := Try.isAgg22
  z24 := Try.sizeOf22
  v24 := Try.zeroValue22
  t26 := Try.underlying3
  a26 := Try.isAgg3
  z26 := Try.sizeOf3
  v26 := Try.zeroValue3
  t28 := Try.underlying82
  a28 := Try.isAgg82
  z28 := Try.sizeOf82
  v28 := Try.zeroValue82
  i26 := by kernel_rfl }
def sortA_ren : Go.Shelf.Ren := ⟨fun | 5 => 56 | 8 => 64 | 7 => 63 | 19 => 76 | 20 => 77 | 10 => 67 | 11 => 68 | 12 => 69 | 13 => 70 | 14 => 71 | 15 => 72 | 16 => 73 | 17 => 74 | 18 => 75 | 30 => 82 | 31 => 83 | 32 => 84 | 33 => 85 | 34 => 86 | 35 => 87 | 40 => 90 | n => n, fun | 23 => 22 | 25 => 3 | 3 => 3 | 32 => 66 | 22 => 22 | 0 => 0 | 44 => 115 | 46 => 28 | 4 => 4 | 36 => 108 | 35 => 107 | 41 => 44 | 5 => 5 | 9 => 9 | 53 => 118 | 57 => 122 | 63 => 126 | 64 => 127 | n => n, fun | n => n⟩
theorem sortA : Go.Proofs.SlLaysM.n5 Try.prog sortA_ren := {
  mixed := by kernel_rfl
  f5 := ⟨Try.f56.name, by decide, Try.func56.trans (congrArg some (by kernel_rfl))⟩
  f7 := ⟨Try.f63.name, by decide, Try.func63.trans (congrArg some (by kernel_rfl))⟩
  f8 := Try.func64.trans (congrArg some (by kernel_rfl))
  f10 := ⟨Try.f67.name, by decide, Try.func67.trans (congrArg some (by kernel_rfl))⟩
  f11 := ⟨Try.f68.name, by decide, Try.func68.trans (congrArg some (by kernel_rfl))⟩
  f12 := ⟨Try.f69.name, by decide, Try.func69.trans (congrArg some (by kernel_rfl))⟩
  f13 := ⟨Try.f70.name, by decide, Try.func70.trans (congrArg some (by kernel_rfl))⟩
  f14 := ⟨Try.f71.name, by decide, Try.func71.trans (congrArg some (by kernel_rfl))⟩
  f15 := ⟨Try.f72.name, by decide, Try.func72.trans (congrArg some (by kernel_rfl))⟩
  f16 := ⟨Try.f73.name, by decide, Try.func73.trans (congrArg some (by kernel_rfl))⟩
  f17 := ⟨Try.f74.name, by decide, Try.func74.trans (congrArg some (by kernel_rfl))⟩
  f18 := ⟨Try.f75.name, by decide, Try.func75.trans (congrArg some (by kernel_rfl))⟩
  f19 := Try.func76.trans (congrArg some (by kernel_rfl))
  f20 := Try.func77.trans (congrArg some (by kernel_rfl))
  f30 := ⟨Try.f82.name, by decide, Try.func82.trans (congrArg some (by kernel_rfl))⟩
  f31 := Try.func83.trans (congrArg some (by kernel_rfl))
  f32 := Try.func84.trans (congrArg some (by kernel_rfl))
  f33 := ⟨Try.f85.name, by decide, Try.func85.trans (congrArg some (by kernel_rfl))⟩
  f34 := ⟨Try.f86.name, by decide, Try.func86.trans (congrArg some (by kernel_rfl))⟩
  f35 := ⟨Try.f87.name, by decide, Try.func87.trans (congrArg some (by kernel_rfl))⟩
  f40 := ⟨Try.f90.name, by decide, Try.func90.trans (congrArg some (by kernel_rfl))⟩
  t0 := Try.underlying0
  a0 := Try.isAgg0
  z0 := Try.sizeOf0
  v0 := Try.zeroValue0
  t3 := Try.underlying3
  a3 := Try.isAgg3
  z3 := Try.sizeOf3
  v3 := Try.zeroValue3
  t4 := Try.underlying4
  a4 := Try.isAgg4
  z4 := Try.sizeOf4
  v4 := Try.zeroValue4
  t5 := Try.underlying5
  a5 := Try.isAgg5
  z5 := Try.sizeOf5
  v5 := Try.zeroValue5
  t9 := Try.underlying9
  a9 := Try.isAgg9
  z9 := Try.sizeOf9
  v9 := Try.zeroValue9
  t22 := Try.underlying22
  a22 := Try.isAgg22
  z22 := Try.sizeOf22
  v22 := Try.zeroValue22
  t23 := Try.underlying22
  a23 := Try.isAgg22
  z23 := Try.sizeOf22
  v23 := Try.zeroValue22
  t25 := Try.underlying3
  a25 := Try.isAgg3
  z25 := Try.sizeOf3
  v25 := Try.zeroValue3
  t32 := Try.underlying66
  a32 := Try.isAgg66
  z32 := Try.sizeOf66
  v32 := Try.zeroValue66
  t35 := Try.underlying107
  a35 := Try.isAgg107
  z35 := Try.sizeOf107
  v35 := Try.zeroValue107
  t36 := Try.underlying108
  a36 := Try.isAgg108
  z36 := Try.sizeOf108
  v36 := Try.zeroValue108
  t41 := Try.underlying44
  a41 := Try.isAgg44
  z41 := Try.sizeOf44
  v41 := Try.zeroValue44
  t44 := Try.underlying115
  a44 := Try.isAgg115
  z44 := Try.sizeOf115
  v44 := Try.zeroValue115
  t46 := Try.underlying28
  a46 := Try.isAgg28
  z46 := Try.sizeOf28
  v46 := Try.zeroValue28
  t53 := Try.underlying118
  a53 := Try.isAgg118
  z53 := Try.sizeOf118
  v53 := Try.zeroValue118
  t57 := Try.underlying122
  a57 := Try.isAgg122
  z57 := Try.sizeOf122
  v57 := Try.zeroValue122
  t63 := Try.underlying126
  a63 := Try.isAgg126
  z63 := Try.sizeOf126
  v63 := Try.zeroValue126
  t64 := Try.underlying127
  a64 := Try.isAgg127
  z64 := Try.sizeOf127
  v64 := Try.zeroValue127 }

theorem sortsA (m : Nat) : AnyZI.SortsIn Try.prog sortedA_ren Fence.wide m :=
  ⟨fun blk off cap ss W hH hblk hsz => callsIn_wide.2 (AnyM.slices_Sort_int sortA blk off cap ss W hH hblk hsz),
   fun p cap W => callsIn_wide.2 (AnyM.slices_Sort_int_none sortA p cap W)⟩

theorem keys_any (mb : Option Nat) (w : World) : Calls Try.prog 44 #[.map mb] w fun e w' => e = .returned (.func (.func 57) #[] #[.pointer (some ⟨w.heap.size, 0, none⟩)]) ∧ w' = w.alloc (.cells #[.map mb] 58) :=
  (callsIn_wide (n := 5)).1 (AnyZI.keys_in keysA Fence.wide 5 trivial rfl mb w)

set_option maxHeartbeats 1000000 in
theorem sorted_any {H : Type} (b nn : Nat) (D0 : DataW H) (R : Value → Option (DataW H × List MemPlace)) (w : World) (hown : w.ownsMap Try.prog 3 R b nn D0) (hmax : Maps.size D0 ≤ maxLen) (hbytes : Maps.size D0 * 8 ≤ 140737488355328) :
    Calls Try.prog 43 #[.func (.func 57) #[] #[.pointer (some ⟨w.heap.size, 0, none⟩)]] (w.alloc (.cells #[.map (some b)] 58)) fun e w' => ∃ (v : Value) (ss : List Int), e = .returned v ∧ ss.Perm (intKeys D0) ∧
      w'.ownsRow w.heap.size 3 1 v ss.length ((ss.mergeSort (fun x y => decide (x ≤ y))).map encZ) ∧ (v = .slice none 0 0 ↔ ss = []) ∧ Below w.heap.size w w' := by
  refine (callsIn_wide (n := 5)).1 ?_
  have hbl := hown.lt
  have hseq : SeqGives Fence.wide 2 Try.prog 57 #[.pointer (some ⟨w.heap.size, 0, none⟩)] encZ (fun ss => ss.Perm (intKeys D0)) (Maps.size D0) (w.alloc (.cells #[.map (some b)] 58)) :=
    AnyZI.keys_gives (ρ := keysA_ren) { keysA with } Fence.wide _ trivial rfl (by omega) w.heap.size b nn D0 _ (by simp) (by simp) (by
      obtain ⟨es, clock, hb, Ft, hs, hD⟩ := hown
      exact ⟨es, clock, (Below.heap_alloc _ _ b hbl).trans hb, Ft, hs, hD⟩)
  have cS := AnyZI.sorted_in sortedA Fence.wide 5 trivial trivial trivial trivial rfl (by omega) (sortsA _) (enters_of Try.func56 (by kernel_rfl) rfl) 57 #[.pointer (some ⟨w.heap.size, 0, none⟩)] trivial (enters_of Try.func57 (by kernel_rfl) rfl) _ _ hmax hbytes _ hseq
  refine cS.mono ?_
  rintro e w' ⟨v, ss, he, hS, hrow, hnil, hb⟩
  exact ⟨v, ss, he, hS, ownsRow_base_a hrow (by simp), hnil, ((Below.refl _ w).alloc (Nat.le_refl _) _).trans (hb.mono (by simp))⟩

end SortedK
end Go.Proofs.Ythdhlkcdbogcaaa

/-
  circuit.Cone: what literals hang on.
-/
namespace Go.Proofs.Ythdhlkcdbogcaaa
open Go.RowKit Base Go.Maps
set_option linter.unusedVariables false
set_option linter.unusedSimpArgs false
namespace Circuit

theorem info_intC : (Try.prog.info? 3).map (fun i => (i.zero, i.size, i.bytes)) = some (some (.int .i64 0), 1, 8) := by kernel_rfl

/-- The set of what is met, and its keys. -/
def SetK (w : World) (b n : Nat) (M : List Int) : Prop :=
  ∃ D : DataW Unit, w.ownsMap Try.prog 3 (plainElem Try.prog 4) b n D ∧ IsMap D ∧ (∀ x, SetI.I64 x → D.atKey (.int .i64 x) (.lit (.bool false)) = .lit (.bool (SetI.inX M x))) ∧ SetI.KeysAre D M

theorem SetK.set {w : World} {b n : Nat} {M : List Int} (h : SetK w b n M) : SetI.SetIs w b n M := by
  obtain ⟨D, h1, h2, h3, _⟩ := h
  exact ⟨D, h1, h2, h3⟩
theorem SetK.next {w w' : World} {b n : Nat} {M : List Int} (h : SetK w b n M) (hb : Below w.heap.size w w') : SetK w' b n M := by
  obtain ⟨D, ⟨es, cl, hh, r⟩, hm, hat, hk⟩ := h
  exact ⟨D, ⟨es, cl, (hb.block b (Array.getElem?_eq_some_iff.1 hh).1).trans hh, r⟩, hm, hat, hk⟩

theorem _root_.Go.Proofs.Ythdhlkcdbogcaaa.SetI.keys_size {D : DataW Unit} {X : List Int} (h : SetI.KeysAre D X) : Maps.size D = X.length := by
  obtain ⟨es, rfl, _, hp⟩ := h
  have := hp.length_eq
  unfold Go.intKeys at this
  rw [List.length_map] at this
  exact this

theorem sorted_strict {ss M : List Int} (hp : ss.Perm M) (hn : M.Nodup) : (ss.mergeSort (fun x y => decide (x ≤ y))).Pairwise (· < ·) ∧ (∀ v, v ∈ ss.mergeSort (fun x y => decide (x ≤ y)) ↔ v ∈ M) ∧ (ss.mergeSort (fun x y => decide (x ≤ y))).length = ss.length := by
  have hperm : (ss.mergeSort (fun x y => decide (x ≤ y))).Perm M := (List.mergeSort_perm _ _).trans hp
  have h1 : (ss.mergeSort (fun x y => decide (x ≤ y))).Pairwise (fun x y => decide (x ≤ y) = true) :=
    List.pairwise_mergeSort (fun a b c h1 h2 => by simp only [decide_eq_true_eq] at *; omega) (fun a b => by simp only [Bool.or_eq_true, decide_eq_true_eq]; omega) ss
  have h2 : (ss.mergeSort (fun x y => decide (x ≤ y))).Nodup := hperm.nodup_iff.2 hn
  refine ⟨?_, fun v => hperm.mem_iff, by simp⟩
  refine (h1.and h2).imp ?_
  intro a b h
  simp only [decide_eq_true_eq] at h
  omega

theorem SetK.keep {w w' : World} {b n : Nat} {M : List Int} (h : SetK w b n M) {B : Nat} (hb : Below B w w') (hB : b < B) : SetK w' b n M := by
  obtain ⟨D, ⟨es, cl, hh, r⟩, hm, hat, hk⟩ := h
  exact ⟨D, ⟨es, cl, (hb.block b hB).trans hh, r⟩, hm, hat, hk⟩

theorem pop_last {T : List Int} (h : 0 < T.length) : ∃ T' t, T = T' ++ [t] ∧ T'.length + 1 = T.length := by
  refine ⟨T.dropLast, T.getLast (by intro e; rw [e] at h; simp at h), (List.dropLast_concat_getLast _).symm, ?_⟩
  rw [List.length_dropLast]
  omega

set_option maxRecDepth 8000 in
set_option maxHeartbeats 16000000 in
theorem cone_any (w : World) (x : Circ) (p : At) (hin : InCirc w x p) (hwa : WfT x.ands) (a : Option Addr) (c : Nat) (l : List Int) (hsl : Sl w a l.length c (ints l)) (hl : ∀ y ∈ l, I64 y) (hsz : (2 * l.length + 2 * x.ands.length + 2) * 8 ≤ 140737488355328) :
    Calls Try.prog 20 #[.agg (cells x p), .slice a l.length c] w fun e w' => ∃ a' c' vs, e = .returned (.slice a' vs.length c') ∧ w'.ownsRow w.heap.size 3 1 (.slice a' vs.length c') vs.length (ints vs) ∧ (vs.Pairwise (· < ·)) ∧ (∀ v, v ∈ vs ↔ v ≠ 0 ∧ Rch x.ands l v) ∧ Below w.heap.size w w' := by
  obtain ⟨W1, hW1⟩ : ∃ W1, w.alloc (.cells (cells x p) 27) = W1 := ⟨_, rfl⟩
  obtain ⟨hb1, hcb⟩ := cbox_new w x p W1 hW1
  obtain ⟨W2, hW2⟩ : ∃ W2, W1.alloc (.map #[] 0) = W2 := ⟨_, rfl⟩
  have hb2 : Below W1.heap.size W1 W2 := by rw [← hW2]; exact (Below.refl _ _).alloc (Nat.le_refl _) _
  have z2 : W2.heap.size = W1.heap.size + 1 := by rw [← hW2]; simp
  have hset : SetK W2 W1.heap.size 0 [] := by rw [← hW2]; exact ⟨.map [], World.ownsMap_made _ _ _ _, ⟨_, rfl⟩, fun x _ => by simp [DataW.atKey, SetI.inX], SetI.keys_nil⟩
  have CL := CloneI.clone W2 a l.length c (ints l) (hsl.next (hb1.trans (hb2.mono hb1.size))) (fun u hu => by unfold ints at hu; obtain ⟨y, _, rfl⟩ := List.mem_map.1 hu; rfl) (by omega)
  have HCL := Lib.hid CL
  have HB1 := Lib.hid hb1
  have HB2 := Lib.hid hb2
  have HZ2 := Lib.hid z2
  have HSET := Lib.hid hset
  have KB := Lib.hid (fun (U : World) (hU : Below W1.heap.size W1 U) => hcb.next hU (Nat.le_refl _))
  have HGA := fun (U : World) (hU : Below W1.heap.size W1 U) (v : Int) => gate_any U x p ((hin.next hb1).next hU) hwa v
  have HSZ := Lib.hid hsz
  have HWA := Lib.hid hwa
  have HL := Lib.hid hl
  obtain ⟨a1, c1, a2, c2, a3, c3, a4, c4, a5, c5, a6, c6, a7, c7⟩ := p
  simp only [cells] at hW1 HGA ⊢
  have HG := Lib.hid HGA
  have hmm := @run_makeMap Try.prog
  clear hin hwa hsl hl hsz hb1 hcb hb2 z2 hset CL HGA
  go_enter Try.func20, Try.ntmps20
  go_wp2_with fail
  with_reducible refine HCL.out.mono ?_
  rintro e w3 ⟨a3', c3', rfl, hown3, hb3⟩
  have hset3 := HSET.out.next hb3
  have hb13 := HB2.out.trans (hb3.mono HB2.out.size)
  have hz3 := hb3.size
  have HST : Hid (∃ (T M : List Int) (a' : Option Addr) (c' n : Nat), (.slice a3' l.length c3' : Value) = .slice a' n c' ∧ Hid (T.length = n) ∧ Hid (w3.ownsRow W2.heap.size 3 1 (.slice a' n c') n (ints T)) ∧ Hid (ConeInv x.ands l T M) ∧ Hid (SetK w3 W1.heap.size M.length M) ∧ Hid (∀ t ∈ T, I64 t) ∧ Hid (l.length + 3 * (l.length + 2 * x.ands.length) = T.length + 3 * (l.length + 2 * x.ands.length - M.length)) ∧ Hid (Below W1.heap.size W1 w3) ∧ Hid (W2.heap.size ≤ w3.heap.size)) :=
    ⟨l, [], a3', c3', l.length, rfl, rfl, hown3, cone_start _ _, hset3, HL.out, by show _ = _; simp, hb13, hz3⟩
  clear hW1 hW2 hmm HCL hset3 hb13 hz3 hown3 hb3
  go_wp2_with fail
  go_loopg [6] (l.length + 3 * (l.length + 2 * x.ands.length)) (fun gk s6 wr => ∃ (T M : List Int) (a' : Option Addr) (c' n : Nat), s6 = .slice a' n c' ∧ Hid (T.length = n) ∧ Hid (wr.ownsRow W2.heap.size 3 1 (.slice a' n c') n (ints T)) ∧ Hid (ConeInv x.ands l T M) ∧ Hid (SetK wr W1.heap.size M.length M) ∧ Hid (∀ t ∈ T, I64 t) ∧ Hid (gk = T.length + 3 * (l.length + 2 * x.ands.length - M.length)) ∧ Hid (Below W1.heap.size W1 wr) ∧ Hid (W2.heap.size ≤ wr.heap.size))
  case atStart => exact HST.out
  case round =>
    clear HST
    obtain ⟨T, M, a', c', n, rfl, hn, hown, hI, hS, h64, hgk, hB, hZ⟩ := hrel
    by_cases hpos : 0 < n
    · obtain ⟨T', t, hT, hlen⟩ := pop_last (T := T) (by have := hn.out; omega)
      obtain ⟨m, rfl⟩ : ∃ m, n = m + 1 := ⟨n - 1, by omega⟩
      have hm : T'.length = m := by have := hn.out; omega
      have HTM := Lib.hid hm
      subst hT
      obtain ⟨g, rfl, hgl, hgs⟩ := own_addr hown.out hpos
      have HPOP : Hid (wr.ownsRow W2.heap.size 3 1 (.slice (some ⟨g, 0, none⟩) m c') m (ints T')) := by
        have h := hown.out
        have e : ints (T' ++ [t]) = ints T' ++ [.int .i64 t] := by unfold ints; rw [List.map_append]; rfl
        rw [e] at h
        exact ownsRow_pop (by rw [ints_len, hm, Nat.mul_one]) h
      obtain ⟨a4, c4', hae, hsl⟩ := own_sl hown.out
      simp only [Value.slice.injEq, true_and] at hae
      obtain ⟨rfl, rfl⟩ := hae
      have HGK : Hid (gk = m + 1 + 3 * (l.length + 2 * x.ands.length - M.length)) := by
        have h := hgk.out
        rw [List.length_append, hm] at h
        exact h
      have H64' : Hid (∀ u ∈ T', I64 u) := fun u hu => h64.out u (List.mem_append_left _ hu)
      obtain ⟨b, o, hx, hae2, hbs, d0⟩ := hsl.int (show m < m + 1 by omega)
      simp only [Option.some.injEq, Addr.mk.injEq, and_true] at hae2
      obtain ⟨rfl, rfl⟩ := hae2
      have het : (T' ++ [t])[m] = t := by simp [← hm]
      rw [het, Nat.zero_add] at d0
      have hcap := hsl.cap
      have hbig := hsl.big
      have ht64 := h64.out t (by simp)
      have HV := Lib.hid (fun U => var_any t ht64.1 ht64.2 U)
      have hv64 : SetI.I64 (var t) := by have := ht64; unfold I64 at this; unfold SetI.I64 var; omega
      have HLK := SetI.set_look hS.out.set hv64
      clear hsl hx het hm
      generalize hgv : var t = v at *
      have HGV := Lib.hid hgv
      clear hgv hpos
      by_cases hv0 : v = 0
      · have hv0' : (v == 0) = true := by rw [hv0]; rfl
        have HVZ := Lib.hid hv0
        clear hv0
        go_wp2_with fail
        with_reducible refine (HV.out _).mono ?_
        rintro e w5 ⟨rfl, rfl⟩
        go_wp2_with fail
        go_roundg (m + 3 * (l.length + 2 * x.ands.length - M.length))
        case measure => have := HGK.out; omega
        case rel => exact ⟨T', M, _, c', m, rfl, HTM.out, HPOP.out, cone_skip hI.out (Or.inl (HGV.out.trans HVZ.out)), hS.out, H64'.out, by show _ = _; rw [HTM.out], hB.out, hZ.out⟩
      · have hv0' : (v == 0) = false := by simpa using hv0
        have HV0 := Lib.hid hv0
        clear hv0
        cases hin : SetI.inX M v
        · rw [hin] at HLK
          have HNM : Hid (v ∉ M) := fun hm => by
            have := SetI.inX_iff.2 hm
            rw [hin] at this
            cases this
          have HIN := Lib.hid hin
          clear hin
          obtain ⟨D, hown6, hD1, hD2, hD3⟩ := hS.out
          have hfew := cone_few hI.out
          have HFEW := Lib.hid hfew
          have HML : Hid (M.length < maxLen) := by show _ < _; have := HSZ.out; unfold maxLen; omega
          have HWF := Lib.hid (SetI.wf_lit hv64)
          go_upto_region 8 with ((first | (go_at_call 22; with_reducible refine (HV.out _).mono ?_; rintro e w5 ⟨rfl, rfl⟩) | (at_mapUpdate; refine wpList_mapUpdate_own _ rfl _ _ _ 58 rfl 3 4 SetI.law Try.underlying58 _ W1.heap.size M.length _ rfl hown6 HML.out _ _ _ rfl rfl (keyOf_int_mk Try.underlying3 HWF.out) _ [] (plainElem_bool Try.underlying4 true) ?_; intro w6 hmap6 hgrow6)))
          have hput := SetI.set_put hD1 hD2 v
          have hS6 : SetK w6 W1.heap.size (M.length + 1) (M ++ [v]) := ⟨_, hmap6, hput.1, hput.2, SetI.keys_put hD3 HNM.out _⟩
          have hgB : g ≠ W1.heap.size := by have := HZ2.out; omega
          have hown7 := HPOP.out.kept hgrow6 (Or.inr (by simpa [Value.ownBlock] using hgB))
          have hB6 := hB.out.grown hgrow6 hB.out.size (fun q hq => by cases hq; exact Nat.le_refl _)
          have HB6 := Lib.hid hB6
          have HS6 := Lib.hid hS6
          have HO6 := Lib.hid hown7
          have HZ6 := Lib.hid (Nat.le_trans hZ.out hgrow6.size)
          have CB := KB.out w6 hB6
          have HG6 := Lib.hid (HG.out w6 hB6 v)
          have HI := Lib.hid hI.out
          clear hput hS6 hown7 hB6 hgrow6 hmap6 hown6 hD1 hD2 hD3 HLK d0 hown hS
          have m0 : w6.cell? ⟨w.heap.size, 0, none⟩ = some (.int .i64 x.max) := CB.k0
          have m1 : w6.cell? ⟨w.heap.size, 1, none⟩ = some (.slice a1 x.ins.length c1) := CB.k1
          have m2 : w6.cell? ⟨w.heap.size, 2, none⟩ = some (.slice a2 x.lats.length c2) := CB.k2
          have m3 : w6.cell? ⟨w.heap.size, 3, none⟩ = some (.slice a3 x.outs.length c3) := CB.k3
          have m4 : w6.cell? ⟨w.heap.size, 4, none⟩ = some (.slice a4 x.bads.length c4) := CB.k4
          have m5 : w6.cell? ⟨w.heap.size, 5, none⟩ = some (.slice a5 x.invs.length c5) := CB.k5
          have m6 : w6.cell? ⟨w.heap.size, 6, none⟩ = some (.slice a6 x.ands.length c6) := CB.k6
          have m7 : w6.cell? ⟨w.heap.size, 7, none⟩ = some (.slice a7 x.names.length c7) := CB.k7
          clear CB
          cases hgt : gate x.ands v
          · rw [hgt] at HG6
            have HIN := Lib.hid (cone_meet_none HI.out (by rw [HGV.out]; exact HV0.out) (by rw [HGV.out]; exact HNM.out) (by rw [HGV.out]; exact hgt))
            have HG7 : Hid (Calls Try.prog 42 #[.agg #[.int .i64 x.max, .slice a1 x.ins.length c1, .slice a2 x.lats.length c2, .slice a3 x.outs.length c3, .slice a4 x.bads.length c4, .slice a5 x.invs.length c5, .slice a6 x.ands.length c6, .slice a7 x.names.length c7], .int .i64 v] w6 fun e w' => e = .returned (.tuple #[.agg #[.int .i64 0, .int .i64 0, .int .i64 0], .bool false]) ∧ Below w6.heap.size w6 w') := HG6.out
            clear HG6 hgt
            go_wp2_with fail
            with_reducible refine HG7.out.mono ?_
            rintro e w7 ⟨rfl, hb7⟩
            obtain ⟨W8, hW8⟩ : ∃ W8, w7.alloc (.cells #[.int .i64 0, .int .i64 0, .int .i64 0] 43) = W8 := ⟨_, rfl⟩
            obtain ⟨hb8, htb⟩ := tbox_new w7 (0, 0, 0) 43 W8 hW8
            have f0 : W8.frozen? ⟨w7.heap.size, 0, none⟩ = false := by rw [← hW8]; simp [go_sem]
            have f1 : W8.frozen? ⟨w7.heap.size, 1, none⟩ = false := by rw [← hW8]; simp [go_sem]
            have f2 : W8.frozen? ⟨w7.heap.size, 2, none⟩ = false := by rw [← hW8]; simp [go_sem]
            have s0 : W8.setCell ⟨w7.heap.size, 0, none⟩ (.int .i64 0) = W8 := setCell_same _ _ _ htb.t0
            have s1 : W8.setCell ⟨w7.heap.size, 1, none⟩ (.int .i64 0) = W8 := setCell_same _ _ _ htb.t1
            have s2 : W8.setCell ⟨w7.heap.size, 2, none⟩ (.int .i64 0) = W8 := setCell_same _ _ _ htb.t2
            have hb68 := hb7.trans (hb8.mono hb7.size)
            have HB68 := Lib.hid hb68
            have q0 : W8.cell? ⟨w7.heap.size, 0, none⟩ = some (.int .i64 0) := htb.t0
            have q1 : W8.cell? ⟨w7.heap.size, 1, none⟩ = some (.int .i64 0) := htb.t1
            have q2 : W8.cell? ⟨w7.heap.size, 2, none⟩ = some (.int .i64 0) := htb.t2
            clear hb7 hb8 htb hb68 m0 m1 m2 m3 m4 m5 m6 m7
            go_wp2_with fail
            go_roundg (m + 3 * (l.length + 2 * x.ands.length - (M.length + 1)))
            case measure => have := HGK.out; have := cone_few HIN.out; simp only [List.length_append, List.length_singleton] at this; omega
            case rel => exact ⟨T', M ++ [v], _, c', m, rfl, HTM.out, own_next HO6.out HB68.out, by have h := HIN.out; rw [HGV.out] at h; exact h, by show SetK _ _ (M ++ [v]).length _; rw [List.length_append]; exact HS6.out.next HB68.out, H64'.out, by show _ = _; rw [HTM.out, List.length_append]; rfl, HB6.out.trans (HB68.out.mono HB6.out.size), Nat.le_trans HZ6.out HB68.out.size⟩
          · rename_i gy
            obtain ⟨y0, y1, y2⟩ := gy
            rw [hgt] at HG6
            have HIN := Lib.hid (cone_meet_some HI.out (by rw [HGV.out]; exact HV0.out) (by rw [HGV.out]; exact HNM.out) (by rw [HGV.out]; exact hgt))
            have HY := Lib.hid (HWA.out _ (gate_mem hgt))
            have HG7 : Hid (Calls Try.prog 42 #[.agg #[.int .i64 x.max, .slice a1 x.ins.length c1, .slice a2 x.lats.length c2, .slice a3 x.outs.length c3, .slice a4 x.bads.length c4, .slice a5 x.invs.length c5, .slice a6 x.ands.length c6, .slice a7 x.names.length c7], .int .i64 v] w6 fun e w' => e = .returned (.tuple #[.agg #[.int .i64 y0, .int .i64 y1, .int .i64 y2], .bool true]) ∧ Below w6.heap.size w6 w') := HG6.out
            clear HG6 hgt
            go_wp2_with fail
            with_reducible refine HG7.out.mono ?_
            rintro e w7 ⟨rfl, hb7⟩
            obtain ⟨W8, hW8⟩ : ∃ W8, w7.alloc (.cells #[.int .i64 y0, .int .i64 y1, .int .i64 y2] 43) = W8 := ⟨_, rfl⟩
            obtain ⟨hb8, htb⟩ := tbox_new w7 (y0, y1, y2) 43 W8 hW8
            have hb68 := hb7.trans (hb8.mono hb7.size)
            have HB68 := Lib.hid hb68
            have q0 : W8.cell? ⟨w7.heap.size, 0, none⟩ = some (.int .i64 y0) := htb.t0
            have q1 : W8.cell? ⟨w7.heap.size, 1, none⟩ = some (.int .i64 y1) := htb.t1
            have q2 : W8.cell? ⟨w7.heap.size, 2, none⟩ = some (.int .i64 y2) := htb.t2
            clear hb7 hb8 htb hb68 m0 m1 m2 m3 m4 m5 m6 m7
            go_upto_region 10 with fail
            obtain ⟨W9, hW9⟩ : ∃ W9, W8.alloc (.cells #[.int .i64 y1, .int .i64 y2] 3) = W9 := ⟨_, rfl⟩
            have hb9 : Below W8.heap.size W8 W9 := by rw [← hW9]; exact (Below.refl _ _).alloc (Nat.le_refl _) _
            have hsl9 : Sl W9 (some ⟨W8.heap.size, 0, none⟩) 2 2 [.int .i64 y1, .int .i64 y2] := by rw [← hW9]; exact sl_new W8 _ _ 2 rfl (by omega)
            have hb69 := HB68.out.trans (hb9.mono HB68.out.size)
            have HO9 := Lib.hid (own_next HO6.out hb69)
            have HZ9 := Lib.hid (Nat.le_trans HZ6.out hb69.size)
            have HB69 := Lib.hid hb69
            have HSL9 := Lib.hid hsl9
            have HAN : Hid ((m + 2) * 8 ≤ 140737488355328) := by
              show _ ≤ _
              have h1 := HI.out.few
              have h2 := cone_few HIN.out
              have h3 := HSZ.out
              have h4 := HTM.out
              rw [List.length_append, h4] at h1
              rw [List.length_append] at h2
              simp only [List.length_singleton] at h1 h2
              omega
            clear hb9 hsl9 hb69
            go_wp2_with ((with_reducible refine wpL_app W2.heap.size (.slice (some ⟨g, 0, none⟩) m c') m (ints T') (some ⟨W8.heap.size, 0, none⟩) 2 2 [.int .i64 y1, .int .i64 y2] info_intC Try.underlying22 rfl ?_ ?_ ?_ HO9.out HSL9.out HZ9.out HAN.out ?_ (Below.refl _ W9) ?_); rfl; rfl; (intro u hu; simp only [List.mem_cons, List.not_mem_nil, or_false] at hu; rcases hu with rfl | rfl <;> rfl); (have := HAN.out; omega); (intro a10 c10 w10 hown10 hb10 hz10))
            have hb610 : Below W2.heap.size w6 w10 := (HB69.out.mono (by have := HZ6.out; omega)).trans hb10
            have hB10 : Below W1.heap.size W1 w10 := HB6.out.trans (hb610.mono (by have := HZ2.out; omega))
            have hS10 : SetK w10 W1.heap.size (M.length + 1) (M ++ [v]) := HS6.out.keep hb610 (by have := HZ2.out; omega)
            have h10 : ∀ u ∈ T' ++ [y1, y2], I64 u := fun u hu => by
              rw [List.mem_append] at hu
              rcases hu with hu | hu
              · exact H64'.out u hu
              · simp only [List.mem_cons, List.not_mem_nil, or_false] at hu
                rcases hu with rfl | rfl
                · exact HY.out.2.1
                · exact HY.out.2.2
            have hI10 : ConeInv x.ands l (T' ++ [y1, y2]) (M ++ [v]) := by have h := HIN.out; rw [HGV.out] at h; exact h
            have hO10 : w10.ownsRow W2.heap.size 3 1 (.slice a10 (m + 2) c10) (m + 2) (ints (T' ++ [y1, y2])) := by
              have e : ints (T' ++ [y1, y2]) = ints T' ++ [.int .i64 y1, .int .i64 y2] := by unfold ints; rw [List.map_append]; rfl
              rw [e]
              exact hown10
            have HZ10 := Lib.hid (Nat.le_trans HZ9.out hz10)
            have HB10 := Lib.hid hB10
            have HS10 := Lib.hid hS10
            have H10 := Lib.hid h10
            have HI10 := Lib.hid hI10
            have HO10 := Lib.hid hO10
            clear hb610 hB10 hS10 h10 hI10 hO10 hown10 hb10 hz10 q0 q1 q2
            go_wp2_with fail
            go_roundg (m + 2 + 3 * (l.length + 2 * x.ands.length - (M.length + 1)))
            case measure => have := HGK.out; have := cone_few HI10.out; simp only [List.length_append, List.length_singleton] at this; omega
            case rel => exact ⟨T' ++ [y1, y2], M ++ [v], a10, c10, m + 2, rfl, by show (_ : List Int).length = _; rw [List.length_append, HTM.out]; rfl, HO10.out, HI10.out, by show SetK _ _ (M ++ [v]).length _; rw [List.length_append]; exact HS10.out, H10.out, by show _ = _; rw [List.length_append, List.length_append, HTM.out]; rfl, HB10.out, HZ10.out⟩
        · rw [hin] at HLK
          have HMEM := Lib.hid (SetI.inX_iff.1 hin)
          clear hin
          go_wp2_with fail
          with_reducible refine (HV.out _).mono ?_
          rintro e w5 ⟨rfl, rfl⟩
          go_wp2_with fail
          go_roundg (m + 3 * (l.length + 2 * x.ands.length - M.length))
          case measure => have := HGK.out; omega
          case rel => exact ⟨T', M, _, c', m, rfl, HTM.out, HPOP.out, cone_skip hI.out (Or.inr (by rw [HGV.out]; exact HMEM.out)), hS.out, H64'.out, by show _ = _; rw [HTM.out], hB.out, hZ.out⟩
    · have hn0 : n = 0 := by omega
      subst hn0
      have hT : T = [] := List.eq_nil_of_length_eq_zero hn.out
      subst hT
      obtain ⟨D, hown6, hD1, hD2, hD3⟩ := hS.out
      have hfew := cone_few hI.out
      have hds := SetI.keys_size hD3
      have HKS := Lib.hid (fun (U : World) => SortedK.keys_any (some W1.heap.size) U)
      have HSS := Lib.hid (SortedK.sorted_any W1.heap.size M.length D (plainElem Try.prog 4) wr hown6 (by rw [hds]; have := HSZ.out; unfold maxLen; omega) (by rw [hds]; have := HSZ.out; omega))
      have HD3 := Lib.hid hD3
      clear hfew hds hown6 hD1 hD2 hD3
      go_wp2_with fail
      with_reducible refine (HKS.out _).mono ?_
      rintro e w5 ⟨rfl, rfl⟩
      go_wp2_with fail
      with_reducible refine HSS.out.mono ?_
      rintro e w6 ⟨v, ss, rfl, hperm, hrow, hnil, hb⟩
      obtain ⟨a9, c9, rfl, _⟩ := own_sl hrow
      have HROW := Lib.hid hrow
      have HBB := Lib.hid hb
      clear hrow hb hnil
      go_wp2_with fail
      go_ret
      have hpm : (intKeys D).Perm M := by obtain ⟨es, rfl, _, h⟩ := HD3.out; exact h
      obtain ⟨hs1, hs2, hs3⟩ := sorted_strict (hperm.trans hpm) hI.out.nodup
      refine ⟨a9, c9, ss.mergeSort (fun x y => decide (x ≤ y)), by rw [hs3]; rfl, ?_, hs1, fun v => (hs2 v).trans (cone_end hI.out v), ?_⟩
      · rw [hs3]
        exact own_mono HROW.out (by have h1 := hB.out.size; have h2 := HB1.out.size; omega)
      · exact (HB1.out.trans (hB.out.mono HB1.out.size)).trans (HBB.out.mono (by have h1 := hB.out.size; have h2 := HB1.out.size; omega))
end Circuit
end Go.Proofs.Ythdhlkcdbogcaaa

/-
  strash.Hash's memory: what stays when one block is written; latches in own memory, one by one; the set of what is needed.
-/
namespace Go.Proofs.Ythdhlkcdbogcaaa
open Go.RowKit Base Go.Maps
set_option linter.unusedVariables false
set_option linter.unusedSimpArgs false
namespace StrashP
open Circuit GetI

/-- w2 is as w, but for one block. -/
structure OffB (b : Nat) (w w2 : World) : Prop where
  os : w2.os = w.os
  tape : w2.tape = w.tape
  output : w2.output = w.output
  size : w.heap.size ≤ w2.heap.size
  block : ∀ k, k < w.heap.size → k ≠ b → w2.heap[k]? = w.heap[k]?

theorem OffB.refl (b : Nat) (w : World) : OffB b w w := ⟨rfl, rfl, rfl, Nat.le_refl _, fun _ _ _ => rfl⟩
theorem OffB.below {b : Nat} {w w2 w3 : World} (h : OffB b w w2) (hb : Below w2.heap.size w2 w3) : OffB b w w3 :=
  ⟨hb.os.trans h.os, hb.tape.trans h.tape, hb.output.trans h.output, Nat.le_trans h.size hb.size, fun k hk hne => (hb.block k (Nat.lt_of_lt_of_le hk h.size)).trans (h.block k hk hne)⟩
theorem OffB.set {b : Nat} {w w2 : World} (h : OffB b w w2) (j : Nat) (u : Value) : OffB b w (w2.setCell ⟨b, j, none⟩ u) :=
  ⟨h.os, h.tape, h.output, by simpa [World.setCell] using h.size, fun k hk hne => (Below.heap_setCell w2 ⟨b, j, none⟩ u k hne).trans (h.block k hk hne)⟩
theorem OffB.grown {b : Nat} {w w2 w3 : World} (h : OffB b w w2) {row : Option Nat} (hg : w2.grownBy w3 row) (hr : ∀ k, row = some k → w.heap.size ≤ k) : OffB b w w3 :=
  ⟨hg.os.trans h.os, hg.tape.trans h.tape, hg.output.trans h.output, Nat.le_trans h.size hg.size, fun k hk hne => (hg.block k (Nat.lt_of_lt_of_le hk h.size) (fun e => by have := hr k e.symm; omega)).trans (h.block k hk hne)⟩
theorem OffB.own {b : Nat} {w w2 : World} (h : OffB b w w2) {B : Nat} {e : TypeId} {size : Nat} {v : Value} {n : Nat} {vs : List Value} (ho : w.ownsRow B e size v n vs) (hne : v.ownBlock ≠ some b) : w2.ownsRow B e size v n vs := by
  refine ⟨ho.1, ?_⟩
  rcases ho.2 with hn | ⟨g, cap, cur, hv, hb, hh, r⟩
  · exact .inl hn
  · refine .inr ⟨g, cap, cur, hv, hb, ?_, r⟩
    rw [h.block g (Array.getElem?_eq_some_iff.1 hh).1 (by rintro rfl; exact hne (by rw [hv]; rfl))]
    exact hh
theorem OffB.base {b : Nat} {w w2 : World} (h : OffB b w w2) {B : Nat} {w0 : World} (h0 : Below B w0 w) (hB : B ≤ w.heap.size) (hb : B ≤ b) : Below B w0 w2 :=
  ⟨h.os.trans h0.os, h.tape.trans h0.tape, h.output.trans h0.output, Nat.le_trans h0.size h.size, fun k hk => (h.block k (by omega) (by omega)).trans (h0.block k hk)⟩
theorem OffB.box {b : Nat} {w w2 : World} (h : OffB b w w2) {N : Nat} {cs : List Value} (hx : BoxN N cs w) (hne : N ≠ b) : BoxN N cs w2 := by
  have hblk := h.block N hx.lt hne
  refine ⟨Nat.lt_of_lt_of_le hx.lt h.size, fun j u hu => ?_, fun j => ?_⟩
  · exact (World.cell?_of_block (w := w) (a := ⟨N, j, none⟩) hblk).trans (hx.at' j u hu)
  · exact (World.frozen?_of_block (w := w) (a := ⟨N, j, none⟩) hblk).trans (hx.fz j)
theorem OffB.seti {b : Nat} {w w2 : World} (h : OffB b w w2) {m n : Nat} {X : List Int} (hx : SetI.SetIs w m n X) (hne : m ≠ b) : SetI.SetIs w2 m n X := by
  obtain ⟨D, ⟨es, cl, hh, r⟩, hm, hat⟩ := hx
  exact ⟨D, ⟨es, cl, (h.block m (Array.getElem?_eq_some_iff.1 hh).1 hne).trans hh, r⟩, hm, hat⟩
theorem own_not {w : World} {B : Nat} {e : TypeId} {size : Nat} {v : Value} {n : Nat} {vs : List Value} (h : w.ownsRow B e size v n vs) {N : Nat} (hN : w.heap.size ≤ N) : v.ownBlock ≠ some N := by
  intro e
  have := (h.lt N e).2
  omega
theorem own_not' {w : World} {B : Nat} {e : TypeId} {size : Nat} {v : Value} {n : Nat} {vs : List Value} (h : w.ownsRow B e size v n vs) {N : Nat} (hN : N < B) : v.ownBlock ≠ some N := by
  intro e
  have := (h.lt N e).1
  omega

/-! ### Latches, one by one. -/
theorem tris_set1 : ∀ (l : List Tri) (k : Nat) (hk : k < l.length) (u : Int), (tris l).flatten.set (k * 3 + 1) (.int .i64 u) = (tris (l.set k (l[k].1, u, l[k].2.2))).flatten
  | t :: r, 0, hk, u => by simp [tris]
  | t :: r, k + 1, hk, u => by
    have ih := tris_set1 r k (by simpa using hk) u
    have e : (k + 1) * 3 + 1 = k * 3 + 1 + 1 + 1 + 1 := by omega
    have e2 : (tris (t :: r)).flatten = .int .i64 t.1 :: .int .i64 t.2.1 :: .int .i64 t.2.2 :: (tris r).flatten := by simp [tris]
    have e3 : ∀ q : Tri, (tris (t :: (r.set k q))).flatten = .int .i64 t.1 :: .int .i64 t.2.1 :: .int .i64 t.2.2 :: (tris (r.set k q)).flatten := fun q => by simp [tris]
    rw [e, e2, List.set_cons_succ, List.set_cons_succ, List.set_cons_succ, ih, List.set_cons_succ, e3]
    rfl
theorem tris_flat1 (l : List Tri) (k : Nat) (hk : k < l.length) : (tris l).flatten[k * 3 + 1]? = some (.int .i64 l[k].2.1) := by
  rw [Base.flat_at (tris_row l) k 1 (by decide)]
  have : (tris l)[k]? = some [.int .i64 l[k].1, .int .i64 l[k].2.1, .int .i64 l[k].2.2] := by unfold tris; rw [List.getElem?_map, List.getElem?_eq_getElem hk]; rfl
  rw [this]; rfl

theorem own_some_at {w : World} {B : Nat} {e : TypeId} {size : Nat} {a : Option Addr} {n c : Nat} {vs : List Value} (h : w.ownsRow B e size (.slice a n c) n vs) {k : Nat} (hk : k < n) : ∃ g, a = some ⟨g, 0, none⟩ := by
  rcases h.2 with ⟨hv, h0⟩ | ⟨g, cap, cur, hv, _⟩
  · omega
  · simp only [Value.slice.injEq] at hv; exact ⟨g, hv.1⟩
theorem own_tri_set {w : World} {B : Nat} {e : TypeId} {g n c : Nat} {l : List Tri} (h : w.ownsRow B e 3 (.slice (some ⟨g, 0, none⟩) n c) n (tris l).flatten) {k : Nat} (hl : l.length = n) {q : Tri} (hq : l[k]? = some q) (u : Int) :
    B ≤ g ∧ g < w.heap.size ∧ (∃ cur, w.heap[g]? = some (.cells cur e (0, 0))) ∧ w.cell? ⟨g, k * 3 + 1, none⟩ = some (.int .i64 q.2.1) ∧ w.frozen? ⟨g, k * 3 + 1, none⟩ = false ∧
      (w.setCell ⟨g, k * 3 + 1, none⟩ (.int .i64 u)).ownsRow B e 3 (.slice (some ⟨g, 0, none⟩) n c) n (tris (l.set k (q.1, u, q.2.2))).flatten := by
  obtain ⟨hk, rfl⟩ := List.getElem?_eq_some_iff.1 hq
  rcases h.2 with ⟨hv, h0⟩ | ⟨g', cap, cur, hv, hb, hh, hnc, hcap, hsz, ht⟩
  · simp only [Value.slice.injEq] at hv; omega
  · simp only [Value.slice.injEq, true_and, Option.some.injEq, Addr.mk.injEq, and_true] at hv
    obtain ⟨rfl, rfl⟩ := hv
    have hcell : cur[k * 3 + 1]? = some (.int .i64 l[k].2.1) := by
      have h1 := tris_flat1 l k hk
      rw [← ht, List.getElem?_take_of_lt (by omega)] at h1
      simpa using h1
    refine ⟨hb, (Array.getElem?_eq_some_iff.1 hh).1, ⟨cur, hh⟩, ?_, ?_, ?_⟩
    · simp only [World.cell?, hh]
      simpa using hcell
    · simp [World.frozen?, hh]
    · refine ⟨by rw [← tris_set1 l k hk u, List.length_set]; exact h.1, .inr ⟨g, c, cur.setIfInBounds (k * 3 + 1) (.int .i64 u), rfl, hb, ?_, hnc, hcap, by simpa using hsz, ?_⟩⟩
      · simp only [World.setCell, Array.getElem?_modify, hh, if_true]
        rfl
      · rw [Array.toList_setIfInBounds, List.take_set, ht, tris_set1 l k hk u]
theorem own_otherS {w : World} {B : Nat} {e e' : TypeId} {size : Nat} {v : Value} {n : Nat} {vs : List Value} (h : w.ownsRow B e size v n vs) {g : Nat} {cur : Array Value} {fz : Nat × Nat} (hg : w.heap[g]? = some (.cells cur e' fz)) (he : e' ≠ e) (i : Nat) (u : Value) : (w.setCell ⟨g, i, none⟩ u).ownsRow B e size v n vs := by
  refine ownsRow_setCell_other h (fun e2 => ?_) u
  rcases h.2 with ⟨rfl, _⟩ | ⟨g', cap, cur', rfl, _, hh, _⟩
  · cases e2
  · simp only [Value.ownBlock, Option.some.injEq] at e2
    subst e2
    rw [hg] at hh
    simp only [Option.some.injEq, Obj.cells.injEq] at hh
    exact he hh.2.1

def updL (S : List (Int × Int)) (l : List Tri) (k : Nat) : List Tri := (l.take k).map (fun t => (t.1, litS S t.2.1, t.2.2)) ++ l.drop k
theorem updL_zero (S : List (Int × Int)) (l : List Tri) : updL S l 0 = l := by simp [updL]
theorem updL_len (S : List (Int × Int)) (l : List Tri) {k : Nat} (hk : k ≤ l.length) : (updL S l k).length = l.length := by simp [updL]; omega
theorem updL_at (S : List (Int × Int)) (l : List Tri) {k : Nat} (hk : k < l.length) : (updL S l k)[k]? = some l[k] := by
  unfold updL
  have e1 : ((l.take k).map (fun t => (t.1, litS S t.2.1, t.2.2))).length = k := by simp; omega
  rw [List.getElem?_append_right (by omega), e1, Nat.sub_self, List.drop_eq_getElem_cons hk]
  rfl
theorem updL_step (S : List (Int × Int)) (l : List Tri) {k : Nat} (hk : k < l.length) : (updL S l k).set k (l[k].1, litS S l[k].2.1, l[k].2.2) = updL S l (k + 1) := by
  unfold updL
  have e1 : ((l.take k).map (fun t => (t.1, litS S t.2.1, t.2.2))).length = k := by simp; omega
  rw [List.set_append_right _ _ (by omega), e1, Nat.sub_self, List.drop_eq_getElem_cons hk, List.set_cons_zero, List.take_succ_eq_append_getElem hk, List.map_append, List.append_assoc]
  rfl
theorem updL_full (S : List (Int × Int)) (l : List Tri) : updL S l l.length = l.map (fun t => (t.1, litS S t.2.1, t.2.2)) := by simp [updL]

/-! ### The set of what is needed. -/
theorem set_store {w : World} {b n : Nat} {X : List Int} (h : SetI.SetIs w b n X) {x : Int} (hx : SetI.I64 x) (hn : n < 9223372036854775807) :
    ∃ w', (Instr.mapUpdate 58 (.map (some b)) (.int .i64 x) (.bool true)).run Try.prog w = .ok () w' ∧ SetI.SetIs w' b (n + 1) (X ++ [x]) ∧ w.grownBy w' (some b) := by
  obtain ⟨D, ho, hm, hat⟩ := h
  obtain ⟨w', hrun, ho', hg⟩ := ho.update SetI.law Try.underlying58 (by unfold maxLen; omega) (keyOf_int_mk Try.underlying3 (SetI.wf_lit hx)) (plainElem_bool Try.underlying4 true)
  have hput := SetI.set_put hm hat x
  exact ⟨w', hrun, ⟨_, ho', hput.1, hput.2⟩, hg⟩
end StrashP
end Go.Proofs.Ythdhlkcdbogcaaa

/-
  strash.Hash.
-/
namespace Go.Proofs.Ythdhlkcdbogcaaa
open Go.RowKit Base
set_option linter.unusedVariables false
set_option linter.unusedSimpArgs false
namespace StrashP
open Circuit GetI

theorem box8S {N : Nat} {c0 c1 c2 c3 c4 c5 c6 c7 : Value} {w : World} (h : BoxN N [c0, c1, c2, c3, c4, c5, c6, c7] w) : w.cell? ⟨N, 0, none⟩ = some c0 ∧ w.cell? ⟨N, 1, none⟩ = some c1 ∧ w.cell? ⟨N, 2, none⟩ = some c2 ∧ w.cell? ⟨N, 3, none⟩ = some c3 ∧ w.cell? ⟨N, 4, none⟩ = some c4 ∧ w.cell? ⟨N, 5, none⟩ = some c5 ∧ w.cell? ⟨N, 6, none⟩ = some c6 ∧ w.cell? ⟨N, 7, none⟩ = some c7 :=
  ⟨h.at' 0 _ rfl, h.at' 1 _ rfl, h.at' 2 _ rfl, h.at' 3 _ rfl, h.at' 4 _ rfl, h.at' 5 _ rfl, h.at' 6 _ rfl, h.at' 7 _ rfl⟩

theorem foldG_take {l : List Tri} {k : Nat} (hk : k < l.length) : foldG (l.take (k + 1)) = gateS (foldG (l.take k)) l[k] := by
  rw [List.take_succ_eq_append_getElem hk, foldG_snoc]

theorem and_bounds {x : Circ} (h : CheckOk x) (hw : WfC x) {t : Tri} (ht : t ∈ x.ands) : (0 ≤ t.1 ∧ t.1 ≤ 9223372036854775807) ∧ (0 ≤ t.2.1 ∧ t.2.1 ≤ 9223372036854775807) ∧ (0 ≤ t.2.2 ∧ t.2.2 ≤ 9223372036854775807) := by
  have hf := (ord_of h).fine t ht
  obtain ⟨k1, k2, _⟩ := h.2.2.2.1 t ht
  obtain ⟨i1, i2, i3⟩ := hw.ands t ht
  unfold I64 at i1 i2 i3
  have := hf.1
  have := k1.1
  have := k2.1
  omega
theorem told_bounds {x : Circ} (h : CheckOk x) (hw : WfC x) {m : Int} (hm : m ∈ told x) : 0 ≤ m ∧ m ≤ 9223372036854775807 := by
  refine ⟨(told_known h hm).1, ?_⟩
  unfold told at hm
  simp only [List.mem_append] at hm
  rcases hm with ((hm | hm) | hm) | hm
  · obtain ⟨t, ht, rfl⟩ := List.mem_map.1 hm
    exact (hw.lats t ht).2.1.2
  · exact (hw.outs m hm).2
  · exact (hw.bads m hm).2
  · exact (hw.invs m hm).2

/-- append of one struct of k cells, the block that it grew in told. -/
theorem wpL_pushKS {P : Program} {w : World} {ops : Array Oper} {rest : List Oper} {dst : Option Tmp} {ty : TypeId} {pos : String} {af : Array Edge} {a : Act} {Q : Exit → Act → World → Prop}
    {s x : Operand} {t e : TypeId} {z : Value} {k bytes : Nat} (hk : 0 < k) (B : Nat) (v : Value) (n : Nat) (vs : List (List Value)) (ad : Addr) (c : Nat) (u : List Value)
    (hinfo : (P.info? e).map (fun i => (i.zero, i.size, i.bytes)) = some (some z, k, bytes)) (ht : P.underlying t = some (.slice e)) (hzs : z.cells.size = k)
    (hs : a.eval s = v) (hx : a.eval x = .slice (some ad) 1 c) (hu : ∀ y ∈ u, y.oneCell' = true) (hul : u.length = k)
    (hown : w.ownsRow B e k v n vs.flatten) (hc : ∀ (j : Nat) (y : Value), u[j]? = some y → w.cell? (ad.add j) = some y) (hB : B ≤ w.heap.size) (hn : (n + 1) * bytes ≤ 140737488355328) (hn' : n + 1 ≤ 9223372036854775807)
    (hK : ∀ a' c' w1, w1.ownsRow B e k (.slice a' (n + 1) c') (n + 1) (vs ++ [u]).flatten → w.grownBy w1 v.ownBlock → wpList P ops Q rest (a.put dst (.slice a' (n + 1) c')) w1) :
    wpList P ops Q (⟨dst, .call { callee := .builtin .append, args := #[s, x], argTypes := #[t, t] }, ty, pos, af, none⟩ :: rest) a w := by
  obtain ⟨i, hi, hz0, hz1, hz2⟩ := info_parts hinfo
  refine wpList_append_own _ rfl s x t rfl B e i z k bytes ht hi hz0 hz1 hz2 hzs hk v n vs.flatten hs hown ad 1 c u hx (by omega) hc hu
    (by unfold maxLen; omega) hn hB ?_
  intro v' w1 hown' hgrow _
  obtain ⟨g, cap, rfl⟩ : ∃ g cap, v' = .slice (some ⟨g, 0, none⟩) (n + 1) cap := by
    rcases hown'.2 with ⟨_, h0⟩ | ⟨g, cap, _, rfl, _⟩
    · omega
    · exact ⟨g, cap, rfl⟩
  exact hK _ _ w1 (by rw [List.flatten_append]; simpa using hown') hgrow

theorem mid_in {U : World} {x : Circ} {B1 B2 B3 B4 B5 B6 B7 : Nat} {b1 : Option Addr} {d1 : Nat} {b2 : Option Addr} {d2 : Nat} {m3 : Option Addr} {q3 : Nat} {m4 : Option Addr} {q4 : Nat} {m5 : Option Addr} {q5 : Nat} {aK : Option Addr} {cK : Nat} {b7 : Option Addr} {d7 : Nat}
    (h1 : U.ownsRow B1 3 1 (.slice b1 x.ins.length d1) x.ins.length (ints x.ins)) (h2 : U.ownsRow B2 39 3 (.slice b2 x.lats.length d2) x.lats.length (tris (mid x).lats).flatten)
    (h3 : U.ownsRow B3 3 1 (.slice m3 x.outs.length q3) x.outs.length (ints (x.outs.map (litS (stOf x).S)))) (h4 : U.ownsRow B4 3 1 (.slice m4 x.bads.length q4) x.bads.length (ints (x.bads.map (litS (stOf x).S))))
    (h5 : U.ownsRow B5 3 1 (.slice m5 x.invs.length q5) x.invs.length (ints (x.invs.map (litS (stOf x).S)))) (A : List Tri) (h6 : U.ownsRow B6 43 3 (.slice aK A.length cK) A.length (tris A).flatten)
    (h7 : U.ownsRow B7 65 3 (.slice b7 x.names.length d7) x.names.length (namesV x.names).flatten) : InCirc U { mid x with ands := A } ⟨b1, d1, b2, d2, m3, q3, m4, q4, m5, q5, aK, cK, b7, d7⟩ := by
  have e2 : (mid x).lats.length = x.lats.length := by simp [mid]
  have e3 : (x.outs.map (litS (stOf x).S)).length = x.outs.length := by simp
  have e4 : (x.bads.map (litS (stOf x).S)).length = x.bads.length := by simp
  have e5 : (x.invs.map (litS (stOf x).S)).length = x.invs.length := by simp
  refine ⟨own_sl' h1, ?_, ?_, ?_, ?_, own_slT' (tris_row _) (tris_len _) h6, own_slT' (names_row _) (names_len _) h7⟩
  · show SlT U 3 b2 (mid x).lats.length d2 (tris (mid x).lats)
    rw [e2]
    exact own_slT' (tris_row _) (by rw [tris_len, e2]) h2
  · show Sl U m3 (x.outs.map (litS (stOf x).S)).length q3 _
    rw [e3]
    exact own_sl' h3
  · show Sl U m4 (x.bads.map (litS (stOf x).S)).length q4 _
    rw [e4]
    exact own_sl' h4
  · show Sl U m5 (x.invs.map (litS (stOf x).S)).length q5 _
    rw [e5]
    exact own_sl' h5

theorem var_64 {t : Int} (h : I64 t) : I64 (var t) := by unfold I64 var at *; omega
theorem rch_64 {A : List Tri} {l : List Int} {v : Int} (ha : WfT A) (hl : ∀ t ∈ l, I64 t) (h : Rch A l v) : I64 v := by
  cases h with
  | lit ht => exact var_64 (hl _ ht)
  | left _ _ hg => exact var_64 (ha _ (gate_mem hg)).2.1
  | right _ _ hg => exact var_64 (ha _ (gate_mem hg)).2.2
theorem k_wf {x : Circ} (h : CheckOk x) (hw : WfC x) : WfT (stOf x).K := by
  intro t ht
  have hf := (kOrd h).fine t ht
  have hs := (inv_of h).sub
  have h1 : t.1 ∈ x.ands.map (·.1) := hs.subset (List.mem_map.2 ⟨t, ht, rfl⟩)
  obtain ⟨u, hu, he⟩ := List.mem_map.1 h1
  have := (hw.ands u hu).1
  unfold I64 at *
  obtain ⟨f1, f2, f3, f4, f5, f6⟩ := hf
  omega
theorem mid_told {x : Circ} (h : CheckOk x) (hw : WfC x) (hs : WfS (stOf x)) {t : Int} (ht : t ∈ told (mid x)) : I64 t := by
  obtain ⟨m, hm, rfl⟩ := told_lit ht
  obtain ⟨h0, h1⟩ := told_bounds h hw hm
  have := lit_64 hs h0 h1
  unfold I64
  omega
theorem told_len (x : Circ) : (told (mid x)).length = x.lats.length + x.outs.length + x.bads.length + x.invs.length := by unfold told mid; simp; omega
theorem offb_at {b : Nat} {w w2 w3 : World} (h : OffB b w w2) (hg : w2.grownBy w3 (some b)) : OffB b w w3 :=
  ⟨hg.os.trans h.os, hg.tape.trans h.tape, hg.output.trans h.output, Nat.le_trans h.size hg.size, fun k hk hne => (hg.block k (Nat.lt_of_lt_of_le hk h.size) (by simpa using hne)).trans (h.block k hk hne)⟩

set_option maxRecDepth 8000 in
set_option maxHeartbeats 2000000 in
theorem hash_ok (w : World) (x : Circ) (p : At) (hin : InCirc w x p) (hw : WfC x) (hfit : Fits x) (hok : CheckOk x) :
    Calls Try.prog 7 #[.agg (cells x p)] w fun e w' => ∃ p', e = .returned (.tuple #[.agg (cells (hashed x) p'), .int .i64 0]) ∧ InCirc w' (hashed x) p' ∧ Below w.heap.size w w' := by
  obtain ⟨W1, hW1⟩ : ∃ U, w.alloc (.cells (cells x p) 27) = U := ⟨_, rfl⟩
  obtain ⟨W2, hW2⟩ : ∃ U, W1.alloc (.cells #[.int .i64 0, .slice none 0 0, .slice none 0 0, .slice none 0 0, .slice none 0 0, .slice none 0 0, .slice none 0 0, .slice none 0 0] 27) = U := ⟨_, rfl⟩
  have b1 : Below w.heap.size w W1 := by rw [← hW1]; exact (Below.refl _ _).alloc (Nat.le_refl _) _
  have b2 : Below W1.heap.size W1 W2 := by rw [← hW2]; exact (Below.refl _ _).alloc (Nat.le_refl _) _
  have b12 := b1.trans (b2.mono b1.size)
  have x1 : BoxN w.heap.size (cells x p).toList W2 := by
    have h := BoxN.new w (cells x p) 27
    rw [hW1] at h
    exact h.next b2 h.lt
  have x2 : BoxN W1.heap.size [.int .i64 0, .slice none 0 0, .slice none 0 0, .slice none 0 0, .slice none 0 0, .slice none 0 0, .slice none 0 0, .slice none 0 0] W2 := by
    have h := BoxN.new W1 #[.int .i64 0, .slice none 0 0, .slice none 0 0, .slice none 0 0, .slice none 0 0, .slice none 0 0, .slice none 0 0, .slice none 0 0] 27
    rw [hW2] at h
    exact h
  have hc := check_any W2 x p (hin.next b12) hw.ins hw.outs hw.bads hw.invs hw.lats hw.ands hw.mx
  rw [chk_pos hok] at hc
  have HC := Lib.hid hc
  have HIN := Lib.hid (fun (U : World) (hU : Below w.heap.size w U) => hin.next hU)
  have HA := Lib.hid (fun t ht => and_bounds hok hw (t := t) ht)
  have HT := Lib.hid (fun m hm => told_bounds hok hw (m := m) hm)
  have HKW := Lib.hid (k_wf hok hw)
  have HTW := Lib.hid (fun (hs : WfS (stOf x)) (t : Int) ht => mid_told hok hw hs (t := t) ht)
  have HFIT := Lib.hid hfit
  have HFEW := Lib.hid hok.1
  have HOK := Lib.hid hok
  have HX1 := Lib.hid x1
  have HX2 := Lib.hid x2
  have HW1 : Hid (w.heap.size ≤ W1.heap.size) := b1.size
  have HB2 := Lib.hid b12
  obtain ⟨a1, c1, a2, c2, a3, c3, a4, c4, a5, c5, a6, c6, a7, c7⟩ := p
  simp only [cells] at *
  obtain ⟨n0, n1, n2, n3, n4, n5, n6, n7⟩ := box8S HX1.out
  clear hin hw hfit hok x1 x2 b1 b2 b12 hc
  go_enter Try.func7, Try.ntmps7
  go_wp2_with fail
  clear hW1 hW2 n0 n1 n2 n3 n4 n5 n6 n7
  with_reducible refine HC.out.mono ?_
  rintro e w3 ⟨rfl, hb3⟩
  obtain ⟨V1, hV1⟩ : ∃ U, w3.alloc (.map #[] 0) = U := ⟨_, rfl⟩
  obtain ⟨V2, hV2⟩ : ∃ U, V1.alloc (.map #[] 0) = U := ⟨_, rfl⟩
  obtain ⟨V3, hV3⟩ : ∃ U, V2.alloc (.cells #[.map (some w3.heap.size), .map (some V1.heap.size), .slice none 0 0] 53) = U := ⟨_, rfl⟩
  have f1 : Below w3.heap.size w3 V1 := by rw [← hV1]; exact (Below.refl _ _).alloc (Nat.le_refl _) _
  have f2 : Below V1.heap.size V1 V2 := by rw [← hV2]; exact (Below.refl _ _).alloc (Nat.le_refl _) _
  have f3 : Below V2.heap.size V2 V3 := by rw [← hV3]; exact (Below.refl _ _).alloc (Nat.le_refl _) _
  have e1 : w3.heap.size < V1.heap.size := by rw [← hV1]; simp
  have e2 : V1.heap.size < V2.heap.size := by rw [← hV2]; simp
  have hmS : SMap V1 w3.heap.size 0 [] := by rw [← hV1]; exact MapG.made _ _ _ _ _ w3
  have hmM : MMap V2 V1.heap.size 0 [] := by rw [← hV2]; exact MapG.made _ _ _ _ _ V1
  have hbx : BoxN V2.heap.size [.map (some w3.heap.size), .map (some V1.heap.size), .slice none 0 0] V3 := by
    have h := BoxN.new V2 #[.map (some w3.heap.size), .map (some V1.heap.size), .slice none 0 0] 53
    rw [hV3] at h
    exact h
  have hh : HsIs V3 w3.heap.size V2.heap.size 0 ⟨[], [], []⟩ w3.heap.size V1.heap.size none 0 :=
    ⟨hbx, Nat.le_refl _, e1, e2, ⟨0, Nat.le_refl _, (hmS.next f2).next f3⟩, ⟨0, Nat.le_refl _, hmM.next f3⟩, World.ownsRow_nil _ _ _ _, Nat.le_refl _, ⟨fun u v h => by simp [getI] at h, fun u v h => by simp [getI] at h⟩⟩
  have HH0 := Lib.hid hh
  have HB3 := Lib.hid (HB2.out.trans (hb3.mono HB2.out.size))
  have f23 := f2.trans (f3.mono f2.size)
  have f13 := f1.trans (f23.mono f1.size)
  have HBV := Lib.hid f13
  have x13 := HX1.out.next (hb3.trans (f13.mono hb3.size)) HX1.out.lt
  have HX2B := Lib.hid (HX2.out.next hb3 HX2.out.lt)
  have HX1B := Lib.hid (HX1.out.next hb3 HX1.out.lt)
  have n6 := x13.at' 6 _ rfl
  have hsa := (HIN.out w3 HB3.out).ands
  have hca := hsa.cap
  have hga := hsa.big
  have HSA := Lib.hid hsa
  have hmm := @run_makeMap Try.prog
  clear hb3 f1 f2 f3 e1 e2 hmS hmM hbx hh f23 f13 x13 hsa
  go_wp2_with fail
  clear n6 hV1 hV2 hV3 hmm
  go_loopw [28] (fun s wr => ∃ (k : Nat) (aK : Option Addr) (cK : Nat), k ≤ x.ands.length ∧ s = .int .i64 k ∧ Hid (HsIs wr w3.heap.size V2.heap.size k (foldG (x.ands.take k)) w3.heap.size V1.heap.size aK cK) ∧ Hid (Below w3.heap.size w3 wr)) (fun s _ => x.ands.length - (intOf s).toNat)
  case atStart => exact ⟨0, none, 0, Nat.zero_le _, rfl, HH0.out, HBV.out⟩
  case round =>
    obtain ⟨k, aK, cK, hk, rfl, hH, hB⟩ := hrel
    by_cases hlt : k < x.ands.length
    · obtain ⟨b, o, hx, rfl, hbs, hc0, hc1, hc2⟩ := HSA.out.tri hlt
      have d0 := (hB.out.cell (p := ⟨b, o + k * 3, none⟩) hbs).trans hc0
      have d1 := (hB.out.cell (p := ⟨b, o + k * 3 + 1, none⟩) hbs).trans hc1
      have d2 := (hB.out.cell (p := ⟨b, o + k * 3 + 2, none⟩) hbs).trans hc2
      have HF := Lib.hid (foldG_take hx)
      obtain ⟨⟨g0, g1⟩, ⟨g2, g3⟩, ⟨g4, g5⟩⟩ := HA.out _ (List.getElem_mem hx)
      clear hc0 hc1 hc2
      generalize x.ands[k] = t at *
      obtain ⟨U, hU⟩ : ∃ U, wr.alloc (.cells (triC t) 43) = U := ⟨_, rfl⟩
      obtain ⟨hbU, htb⟩ := tbox_new wr t 43 U hU
      have HG := Lib.hid (gate_any U (hH.out.next hbU) t.1 t.2.1 t.2.2 g0 g1 g2 g3 g4 g5 (by have := HFIT.out.ands; omega))
      have t0 := htb.t0
      have t1 := htb.t1
      have t2 := htb.t2
      have HBU := Lib.hid (hB.out.trans (hbU.mono hB.out.size))
      simp only [triC] at hU
      clear hbU htb g0 g1 g2 g3 g4 g5 hH hB
      go_wp2_with fail
      with_reducible refine HG.out.mono ?_
      rintro e w5 ⟨rfl, aK', cK', hh5, hb5⟩
      have HH5 := Lib.hid hh5
      have HB5 := Lib.hid (HBU.out.trans hb5)
      clear hh5 hb5
      go_wp2_with fail
      go_roundw
      case rel => exact ⟨k + 1, aK', cK', by omega, by go_num, by rw [HF.out]; exact HH5.out, HB5.out⟩
      case measure => simp [intOf]; omega
    · have hke : k = x.ands.length := by omega
      obtain ⟨wA, hwA⟩ : ∃ U : World, U = wr := ⟨_, rfl⟩
      subst hwA
      have hH' : HsIs wA w3.heap.size V2.heap.size x.ands.length (stOf x) w3.heap.size V1.heap.size aK cK := by
        have h := hH.out
        rw [hke, List.take_length] at h
        exact h
      have HHR := Lib.hid hH'
      have HBR := Lib.hid hB.out
      have HB4 := Lib.hid (HB3.out.trans (hB.out.mono HB3.out.size))
      have hcp := copy_any wA x ⟨a1, c1, a2, c2, a3, c3, a4, c4, a5, c5, a6, c6, a7, c7⟩ (HIN.out wA HB4.out) HFIT.out
      have hx1r : BoxN w.heap.size _ wA := HX1B.out.next hB.out HX1B.out.lt
      obtain ⟨n0, n1, n2, n3, n4, n5, n6, n7⟩ := box8S hx1r
      have HX1R := Lib.hid hx1r
      have HX2R := Lib.hid (HX2B.out.next hB.out HX2B.out.lt)
      simp only [cells] at hcp
      have HCP := Lib.hid hcp
      clear hH hB hH' hcp hx1r HSA hca hga hke
      go_wp2_with fail
      with_reducible refine HCP.out.mono ?_
      rintro e w5 ⟨q, rfl, hown, hb5⟩
      obtain ⟨b1, d1, b2, d2, b3, d3, b4, d4, b5, d5, b6, d6, b7, d7⟩ := q
      simp only [cells]
      obtain ⟨W6, hW6⟩ : ∃ U, w5.alloc (.cells #[.int .i64 x.max, .slice b1 x.ins.length d1, .slice b2 x.lats.length d2, .slice b3 x.outs.length d3, .slice b4 x.bads.length d4, .slice b5 x.invs.length d5, .slice b6 x.ands.length d6, .slice b7 x.names.length d7] 27) = U := ⟨_, rfl⟩
      have hb6 : Below w5.heap.size w5 W6 := by rw [← hW6]; exact (Below.refl _ _).alloc (Nat.le_refl _) _
      have hx6 : BoxN w5.heap.size [.int .i64 x.max, .slice b1 x.ins.length d1, .slice b2 x.lats.length d2, .slice b3 x.outs.length d3, .slice b4 x.bads.length d4, .slice b5 x.invs.length d5, .slice b6 x.ands.length d6, .slice b7 x.names.length d7] W6 := by
        have h := BoxN.new w5 #[.int .i64 x.max, .slice b1 x.ins.length d1, .slice b2 x.lats.length d2, .slice b3 x.outs.length d3, .slice b4 x.bads.length d4, .slice b5 x.invs.length d5, .slice b6 x.ands.length d6, .slice b7 x.names.length d7] 27
        rw [hW6] at h
        exact h
      have HB56 := Lib.hid (hb5.trans (hb6.mono hb5.size))
      have HNI : Hid ((Value.slice b1 x.ins.length d1).ownBlock ≠ some w5.heap.size) := own_not hown.ins (Nat.le_refl _)
      have HNL : Hid ((Value.slice b2 x.lats.length d2).ownBlock ≠ some w5.heap.size) := own_not hown.lats (Nat.le_refl _)
      have HNN : Hid ((Value.slice b7 x.names.length d7).ownBlock ≠ some w5.heap.size) := own_not hown.names (Nat.le_refl _)
      have HOI := Lib.hid (own_next hown.ins hb6)
      have HOL := Lib.hid (own_next hown.lats hb6)
      have HON := Lib.hid (own_next hown.names hb6)
      have HL5 : Hid (wA.heap.size ≤ w5.heap.size) := hb5.size
      have HX6 := Lib.hid hx6
      have m2 := hx6.at' 2 _ rfl
      clear hown hb5 hb6 hx6 n0 n1 n2 n3 n4 n5 n6 n7
      go_wp2_with fail
      clear m2 hW6
      go_loopw [41] (fun s wr => ∃ (k : Nat), k ≤ x.lats.length ∧ s = .int .i64 k ∧ Hid (wr.ownsRow wA.heap.size 39 3 (.slice b2 x.lats.length d2) x.lats.length (tris (updL (stOf x).S x.lats k)).flatten) ∧ Hid (wr.ownsRow wA.heap.size 3 1 (.slice b1 x.ins.length d1) x.ins.length (ints x.ins)) ∧ Hid (wr.ownsRow wA.heap.size 65 3 (.slice b7 x.names.length d7) x.names.length (namesV x.names).flatten) ∧ Hid (BoxN w5.heap.size [.int .i64 x.max, .slice b1 x.ins.length d1, .slice b2 x.lats.length d2, .slice b3 x.outs.length d3, .slice b4 x.bads.length d4, .slice b5 x.invs.length d5, .slice b6 x.ands.length d6, .slice b7 x.names.length d7] wr) ∧ Hid (Below wA.heap.size wA wr)) (fun s _ => x.lats.length - (intOf s).toNat)
      case atStart => exact ⟨0, Nat.zero_le _, rfl, by rw [updL_zero]; exact HOL.out, HOI.out, HON.out, HX6.out, HB56.out⟩
      case round =>
        obtain ⟨k, hk, rfl, hL, hI, hN, hX, hB⟩ := hrel
        by_cases hlt : k < x.lats.length
        · obtain ⟨g, rfl⟩ := own_some_at hL.out hlt
          have hl64 := HFEW.out.2.2.2.1
          have hq := updL_at (stOf x).S x.lats hlt
          obtain ⟨hgB, hgl, _, hgc, _, _⟩ := own_tri_set hL.out (updL_len _ _ hk) hq 0
          have HST := Lib.hid (updL_step (stOf x).S x.lats hlt)
          have HQ := Lib.hid hq
          obtain ⟨h0, h1⟩ := HT.out x.lats[k].2.1 (by unfold told; simp only [List.mem_append]; exact Or.inl (Or.inl (Or.inl (List.mem_map.2 ⟨_, List.getElem_mem hlt, rfl⟩))))
          have hcl := (own_slT' (tris_row _) (by rw [tris_len]; exact updL_len _ _ hk) hL.out).cap
          generalize x.lats[k] = t at *
          have HGB := Lib.hid hgB
          have hb0 : Below wr.heap.size wr wr.drew := (Below.refl _ _).drew
          have HP := Lib.hid (lit_any wr.drew ((HHR.out.next hB.out).next hb0) t.2.1 h0 h1)
          have hgl' := hgl
          clear hq hgB h0 h1
          go_upto_region 14 with fail
          have hSK : ∀ U : World, Below wr.heap.size wr U → U.cell? ⟨w5.heap.size, 2, none⟩ = some (.slice (some ⟨g, 0, none⟩) x.lats.length d2) ∧ U.cell? ⟨g, k * 3 + 1, none⟩ = some (.int .i64 t.2.1) := fun U hU =>
            ⟨(hX.out.next hU hX.out.lt).at' 2 _ rfl, (hU.cell (p := ⟨g, k * 3 + 1, none⟩) hgl').trans hgc⟩
          have hS := hSK _ hb0
          refine HeldTo.region (fun U : World => U.cell? ⟨w5.heap.size, 2, none⟩ = some (.slice (some ⟨g, 0, none⟩) x.lats.length d2) ∧ U.cell? ⟨g, k * 3 + 1, none⟩ = some (.int .i64 t.2.1)) 13 (by kernel_rfl) ?_
          (refine HeldTo.plain (i := 0) (oi := _) (d := some 44) (v := ?_) rfl rfl (by kernel_rfl) (by kernel_rfl) (by kernel_rfl) (by kernel_rfl) (fun _ _ _ h => h) (Or.inl ⟨by rfl, ?_⟩) (fun _ => hS) ?_; rotate_left; (focus (intro w hSw; clear hSw; go_simp; (try with_reducible rfl); done)); (try simp only [Act.put, List.setIfInBounds_toArray, List.set_cons_zero, List.set_cons_succ]))
          (refine HeldTo.take (i := 1) (oi := _) (d := some 45) (v := ?_) rfl rfl (by kernel_rfl) (by kernel_rfl) (by kernel_rfl) (by kernel_rfl) (by kernel_rfl) (by kernel_rfl) (fun _ _ _ h => h) (Or.inl ⟨by rfl, ?_⟩) hS ?_; rotate_left; (focus (intro w hSw; (try dsimp only at hSw); go_simp; (try with_reducible rfl); done)); (try simp only [Act.put, List.setIfInBounds_toArray, List.set_cons_zero, List.set_cons_succ]))
          (refine HeldTo.plain (i := 2) (oi := _) (d := some 46) (v := ?_) rfl rfl (by kernel_rfl) (by kernel_rfl) (by kernel_rfl) (by kernel_rfl) (fun _ _ _ h => h) (Or.inl ⟨by rfl, ?_⟩) (fun _ => hS) ?_; rotate_left; (focus (intro w hSw; clear hSw; go_simp; (try with_reducible rfl); done)); (try simp only [Act.put, List.setIfInBounds_toArray, List.set_cons_zero, List.set_cons_succ]))
          (refine HeldTo.plain (i := 3) (oi := _) (d := some 47) (v := ?_) rfl rfl (by kernel_rfl) (by kernel_rfl) (by kernel_rfl) (by kernel_rfl) (fun _ _ _ h => h) (Or.inl ⟨by rfl, ?_⟩) (fun _ => hS) ?_; rotate_left; (focus (intro w hSw; clear hSw; go_simp; (try with_reducible rfl); done)); (try simp only [Act.put, List.setIfInBounds_toArray, List.set_cons_zero, List.set_cons_succ]))
          (refine HeldTo.plain (i := 4) (oi := _) (d := some 48) (v := ?_) rfl rfl (by kernel_rfl) (by kernel_rfl) (by kernel_rfl) (by kernel_rfl) (fun _ _ _ h => h) (Or.inl ⟨by rfl, ?_⟩) (fun _ => hS) ?_; rotate_left; (focus (intro w hSw; clear hSw; go_simp; (try with_reducible rfl); done)); (try simp only [Act.put, List.setIfInBounds_toArray, List.set_cons_zero, List.set_cons_succ]))
          (refine HeldTo.take (i := 5) (oi := _) (d := some 49) (v := ?_) rfl rfl (by kernel_rfl) (by kernel_rfl) (by kernel_rfl) (by kernel_rfl) (by kernel_rfl) (by kernel_rfl) (fun _ _ _ h => h) (Or.inl ⟨by rfl, ?_⟩) hS ?_; rotate_left; (focus (intro w hSw; (try dsimp only at hSw); go_simp; (try with_reducible rfl); done)); (try simp only [Act.put, List.setIfInBounds_toArray, List.set_cons_zero, List.set_cons_succ]))
          (refine HeldTo.plain (i := 6) (oi := _) (d := some 50) (v := ?_) rfl rfl (by kernel_rfl) (by kernel_rfl) (by kernel_rfl) (by kernel_rfl) (fun _ _ _ h => h) (Or.inl ⟨by rfl, ?_⟩) (fun _ => hS) ?_; rotate_left; (focus (intro w hSw; clear hSw; go_simp; (try with_reducible rfl); done)); (try simp only [Act.put, List.setIfInBounds_toArray, List.set_cons_zero, List.set_cons_succ]))
          (refine HeldTo.plain (i := 7) (oi := _) (d := some 51) (v := ?_) rfl rfl (by kernel_rfl) (by kernel_rfl) (by kernel_rfl) (by kernel_rfl) (fun _ _ _ h => h) (Or.inl ⟨by rfl, ?_⟩) (fun _ => hS) ?_; rotate_left; (focus (intro w hSw; clear hSw; go_simp; (try with_reducible rfl); done)); (try simp only [Act.put, List.setIfInBounds_toArray, List.set_cons_zero, List.set_cons_succ]))
          (refine HeldTo.plain (i := 8) (oi := _) (d := some 52) (v := ?_) rfl rfl (by kernel_rfl) (by kernel_rfl) (by kernel_rfl) (by kernel_rfl) (fun _ _ _ h => h) (Or.inl ⟨by rfl, ?_⟩) (fun _ => hS) ?_; rotate_left; (focus (intro w hSw; clear hSw; go_simp; (try with_reducible rfl); done)); (try simp only [Act.put, List.setIfInBounds_toArray, List.set_cons_zero, List.set_cons_succ]))
          (refine HeldTo.take (i := 9) (oi := _) (d := some 53) (v := ?_) rfl rfl (by kernel_rfl) (by kernel_rfl) (by kernel_rfl) (by kernel_rfl) (by kernel_rfl) (by kernel_rfl) (fun _ _ _ h => h) (Or.inl ⟨by rfl, ?_⟩) hS ?_; rotate_left; (focus (intro w hSw; (try dsimp only at hSw); go_simp; (try with_reducible rfl); done)); (try simp only [Act.put, List.setIfInBounds_toArray, List.set_cons_zero, List.set_cons_succ]))
          refine HeldTo.call (i := 10) (oi := _) (d := some 54) (R := fun v w' => v = .int .i64 (litS (stOf x).S t.2.1) ∧ Below wr.drew.heap.size wr.drew w') rfl rfl (by kernel_rfl) (by rfl) (by go_simp; done) (HP.out.mono fun e w' h => ⟨_, h.1, rfl, by obtain ⟨_, q, h2⟩ := h; rw [h2]; exact below_drewN (Below.refl _ _) q⟩) ?_
          rintro v wk11 ⟨rfl, hbk11⟩
          have hB11 := hb0.trans (hbk11.mono hb0.size)
          have hS11 := hSK _ hB11
          refine ⟨hS11, ?_⟩
          (try simp only [Act.put, List.setIfInBounds_toArray, List.set_cons_zero, List.set_cons_succ])
          (refine HeldTo.plain (i := 11) (oi := _) (d := some 55) (v := ?_) rfl rfl (by kernel_rfl) (by kernel_rfl) (by kernel_rfl) (by kernel_rfl) (fun _ _ _ h => h) (Or.inl ⟨by rfl, ?_⟩) (fun _ => hS11) ?_; rotate_left; (focus (intro w hSw; clear hSw; go_simp; (try with_reducible rfl); done)); (try simp only [Act.put, List.setIfInBounds_toArray, List.set_cons_zero, List.set_cons_succ]))
          (refine HeldTo.plain (i := 12) (oi := _) (d := some 56) (v := ?_) rfl rfl (by kernel_rfl) (by kernel_rfl) (by kernel_rfl) (by kernel_rfl) (fun _ _ _ h => h) (Or.inl ⟨by rfl, ?_⟩) (fun _ => hS11) ?_; rotate_left; (focus (intro w hSw; clear hSw; go_simp; (try with_reducible rfl); done)); (try simp only [Act.put, List.setIfInBounds_toArray, List.set_cons_zero, List.set_cons_succ]))
          obtain ⟨w12, hw12⟩ : ∃ U, wk11.setCell ⟨g, k * 3 + 1, none⟩ (.int .i64 (litS (stOf x).S t.2.1)) = U := ⟨_, rfl⟩
          obtain ⟨_, _, ⟨cur, hcur⟩, g12, z12, ho12⟩ := own_tri_set (own_next hL.out hB11) (updL_len _ _ hk) HQ.out (litS (stOf x).S t.2.1)
          rw [hw12] at ho12
          (refine HeldTo.store (i := 13) (oi := _) (d := none) (w2 := w12) rfl rfl (by kernel_rfl) (by kernel_rfl) (by rfl) (by go_simp; done) ?_; (try simp only [Act.put, List.setIfInBounds_toArray, List.set_cons_zero, List.set_cons_succ]))
          refine HeldTo.done (by kernel_rfl) ?_ _
          have hne : w5.heap.size ≠ g := fun e => HNL.out (by rw [e]; rfl)
          have HL12 := Lib.hid ho12
          have hI12 := own_otherS (own_next hI.out hB11) hcur (by decide) (k * 3 + 1) (.int .i64 (litS (stOf x).S t.2.1))
          rw [hw12] at hI12
          have HI12 := Lib.hid hI12
          have hN12 := own_otherS (own_next hN.out hB11) hcur (by decide) (k * 3 + 1) (.int .i64 (litS (stOf x).S t.2.1))
          rw [hw12] at hN12
          have HN12 := Lib.hid hN12
          have hX12 := (hX.out.next hB11 hX.out.lt).other (a := ⟨g, k * 3 + 1, none⟩) (fun e => hne e.symm) (.int .i64 (litS (stOf x).S t.2.1))
          rw [hw12] at hX12
          have HX12 := Lib.hid hX12
          have hB12 := (hB.out.trans (hB11.mono hB.out.size)).setCell (p := ⟨g, k * 3 + 1, none⟩) HGB.out (.int .i64 (litS (stOf x).S t.2.1))
          rw [hw12] at hB12
          have HB12 := Lib.hid hB12
          clear g12 z12 ho12 hI12 hN12 hX12 hB12 hbk11 hB11 hS11 hS hSK hw12 hcur hgc hgl hgl' hne hb0 hcl hI hN hX hL hB
          go_wp2_with fail
          go_roundw
          case rel => exact ⟨k + 1, by omega, by go_num, by rw [← HST.out]; exact HL12.out, HI12.out, HN12.out, HX12.out, HB12.out⟩
          case measure => simp [intOf]; omega
        · have hke : k = x.lats.length := by omega
          obtain ⟨wB, hwB⟩ : ∃ U : World, U = wr := ⟨_, rfl⟩
          subst hwB
          have hL' : wB.ownsRow wA.heap.size 39 3 (.slice b2 x.lats.length d2) x.lats.length (tris (mid x).lats).flatten := by
            have h := hL.out
            rw [hke, updL_full] at h
            exact h
          have HLB := Lib.hid hL'
          have HIB1 := hI
          have HNB := hN
          have HXB := hX
          have HBB := hB
          have HHB := Lib.hid (fun (U : World) (hU : OffB w5.heap.size wB U) => HHR.out.next (hU.base HBB.out (Nat.le_trans HL5.out (Nat.le_of_lt HXB.out.lt)) HL5.out))
          have HIB := Lib.hid (fun (U : World) (hU : OffB w5.heap.size wB U) => HIN.out U (HB4.out.trans ((hU.base HBB.out (Nat.le_trans HL5.out (Nat.le_of_lt HXB.out.lt)) HL5.out).mono HB4.out.size)))
          have HT3 : Hid (∀ y ∈ x.outs, 0 ≤ y ∧ y ≤ 9223372036854775807) := fun y hy => HT.out y (by unfold told; simp only [List.mem_append]; exact Or.inl (Or.inl (Or.inr hy)))
          have HT4 : Hid (∀ y ∈ x.bads, 0 ≤ y ∧ y ≤ 9223372036854775807) := fun y hy => HT.out y (by unfold told; simp only [List.mem_append]; exact Or.inl (Or.inr hy))
          have HT5 : Hid (∀ y ∈ x.invs, 0 ≤ y ∧ y ≤ 9223372036854775807) := fun y hy => HT.out y (by unfold told; simp only [List.mem_append]; exact Or.inr hy)
          have HF3 := Lib.hid HFIT.out.outs
          have HF4 := Lib.hid HFIT.out.bads
          have HF5 := Lib.hid HFIT.out.invs
          have hx1b := HX1R.out.next HBB.out HX1R.out.lt
          have HLT5 : Hid (w5.heap.size < wB.heap.size) := HXB.out.lt
          have HNE1 : Hid (w.heap.size ≠ w5.heap.size) := by show _ ≠ _; have := HX1R.out.lt; have := HL5.out; omega
          have HX1B2 := Lib.hid hx1b
          clear hL hI hN hX hB hL' hk hx1b hke
          go_upto_region 16 with fail
          go_cut [58] from 58 to 73 (fun u58 wx => ∃ (m3 : Option Addr) (q3 : Nat) (m4 : Option Addr) (q4 : Nat) (m5 : Option Addr) (q5 : Nat), Hid (wx.ownsRow wB.heap.size 3 1 (.slice m3 x.outs.length q3) x.outs.length (ints (x.outs.map (litS (stOf x).S)))) ∧ Hid (wx.ownsRow wB.heap.size 3 1 (.slice m4 x.bads.length q4) x.bads.length (ints (x.bads.map (litS (stOf x).S)))) ∧ Hid (wx.ownsRow wB.heap.size 3 1 (.slice m5 x.invs.length q5) x.invs.length (ints (x.invs.map (litS (stOf x).S)))) ∧ Hid (BoxN w5.heap.size [.int .i64 x.max, .slice b1 x.ins.length d1, .slice b2 x.lats.length d2, .slice m3 x.outs.length q3, .slice m4 x.bads.length q4, .slice m5 x.invs.length q5, .slice b6 x.ands.length d6, .slice b7 x.names.length d7] wx) ∧ Hid (OffB w5.heap.size wB wx))
          case first =>
            have hb0 : OffB w5.heap.size wB wB.drew := (OffB.refl _ _).below ((Below.refl _ _).drew)
            have bx0 := HXB.out.next ((Below.refl _ _).drew : Below wB.heap.size wB wB.drew) HXB.out.lt
            have hlt5 := HLT5.out
            have hSK : ∀ U : World, OffB w5.heap.size wB U → U.cell? ⟨w.heap.size, 3, none⟩ = some (.slice a3 x.outs.length c3) ∧ U.cell? ⟨w.heap.size, 4, none⟩ = some (.slice a4 x.bads.length c4) ∧ U.cell? ⟨w.heap.size, 5, none⟩ = some (.slice a5 x.invs.length c5) := fun U hU => by
              have h := hU.box HX1B2.out HNE1.out
              exact ⟨h.at' 3 _ rfl, h.at' 4 _ rfl, h.at' 5 _ rfl⟩
            have hS := hSK _ hb0
            refine HeldTo.region (fun U : World => U.cell? ⟨w.heap.size, 3, none⟩ = some (.slice a3 x.outs.length c3) ∧ U.cell? ⟨w.heap.size, 4, none⟩ = some (.slice a4 x.bads.length c4) ∧ U.cell? ⟨w.heap.size, 5, none⟩ = some (.slice a5 x.invs.length c5)) 17 (by kernel_rfl) ?_
            (refine HeldTo.plain (i := 0) (oi := _) (d := some 58) (v := ?_) rfl rfl (by kernel_rfl) (by kernel_rfl) (by kernel_rfl) (by kernel_rfl) (fun _ _ _ h => h) (Or.inl ⟨by rfl, ?_⟩) (fun _ => hS) ?_; rotate_left; (focus (intro w hSw; clear hSw; go_simp; (try with_reducible rfl); done)); (try simp only [Act.put, List.setIfInBounds_toArray, List.set_cons_zero, List.set_cons_succ]))
            (refine HeldTo.plain (i := 1) (oi := _) (d := some 59) (v := ?_) rfl rfl (by kernel_rfl) (by kernel_rfl) (by kernel_rfl) (by kernel_rfl) (fun _ _ _ h => h) (Or.inl ⟨by rfl, ?_⟩) (fun _ => hS) ?_; rotate_left; (focus (intro w hSw; clear hSw; go_simp; (try with_reducible rfl); done)); (try simp only [Act.put, List.setIfInBounds_toArray, List.set_cons_zero, List.set_cons_succ]))
            (refine HeldTo.take (i := 2) (oi := _) (d := some 60) (v := ?_) rfl rfl (by kernel_rfl) (by kernel_rfl) (by kernel_rfl) (by kernel_rfl) (by kernel_rfl) (by kernel_rfl) (fun _ _ _ h => h) (Or.inl ⟨by rfl, ?_⟩) hS ?_; rotate_left; (focus (intro w hSw; (try dsimp only at hSw); go_simp; (try with_reducible rfl); done)); (try simp only [Act.put, List.setIfInBounds_toArray, List.set_cons_zero, List.set_cons_succ]))
            (refine HeldTo.plain (i := 4) (oi := _) (d := some 62) (v := ?_) rfl rfl (by kernel_rfl) (by kernel_rfl) (by kernel_rfl) (by kernel_rfl) (fun _ _ _ h => h) (Or.inl ⟨by rfl, ?_⟩) (fun _ => hS) ?_; rotate_left; (focus (intro w hSw; clear hSw; go_simp; (try with_reducible rfl); done)); (try simp only [Act.put, List.setIfInBounds_toArray, List.set_cons_zero, List.set_cons_succ]))
            (refine HeldTo.plain (i := 5) (oi := _) (d := some 63) (v := ?_) rfl rfl (by kernel_rfl) (by kernel_rfl) (by kernel_rfl) (by kernel_rfl) (fun _ _ _ h => h) (Or.inl ⟨by rfl, ?_⟩) (fun _ => hS) ?_; rotate_left; (focus (intro w hSw; clear hSw; go_simp; (try with_reducible rfl); done)); (try simp only [Act.put, List.setIfInBounds_toArray, List.set_cons_zero, List.set_cons_succ]))
            (refine HeldTo.take (i := 6) (oi := _) (d := some 64) (v := ?_) rfl rfl (by kernel_rfl) (by kernel_rfl) (by kernel_rfl) (by kernel_rfl) (by kernel_rfl) (by kernel_rfl) (fun _ _ _ h => h) (Or.inl ⟨by rfl, ?_⟩) hS ?_; rotate_left; (focus (intro w hSw; (try dsimp only at hSw); go_simp; (try with_reducible rfl); done)); (try simp only [Act.put, List.setIfInBounds_toArray, List.set_cons_zero, List.set_cons_succ]))
            (refine HeldTo.plain (i := 8) (oi := _) (d := some 66) (v := ?_) rfl rfl (by kernel_rfl) (by kernel_rfl) (by kernel_rfl) (by kernel_rfl) (fun _ _ _ h => h) (Or.inl ⟨by rfl, ?_⟩) (fun _ => hS) ?_; rotate_left; (focus (intro w hSw; clear hSw; go_simp; (try with_reducible rfl); done)); (try simp only [Act.put, List.setIfInBounds_toArray, List.set_cons_zero, List.set_cons_succ]))
            (refine HeldTo.plain (i := 9) (oi := _) (d := some 67) (v := ?_) rfl rfl (by kernel_rfl) (by kernel_rfl) (by kernel_rfl) (by kernel_rfl) (fun _ _ _ h => h) (Or.inl ⟨by rfl, ?_⟩) (fun _ => hS) ?_; rotate_left; (focus (intro w hSw; clear hSw; go_simp; (try with_reducible rfl); done)); (try simp only [Act.put, List.setIfInBounds_toArray, List.set_cons_zero, List.set_cons_succ]))
            (refine HeldTo.take (i := 10) (oi := _) (d := some 68) (v := ?_) rfl rfl (by kernel_rfl) (by kernel_rfl) (by kernel_rfl) (by kernel_rfl) (by kernel_rfl) (by kernel_rfl) (fun _ _ _ h => h) (Or.inl ⟨by rfl, ?_⟩) hS ?_; rotate_left; (focus (intro w hSw; (try dsimp only at hSw); go_simp; (try with_reducible rfl); done)); (try simp only [Act.put, List.setIfInBounds_toArray, List.set_cons_zero, List.set_cons_succ]))
            refine HeldTo.one (i := 3) (by kernel_rfl) ?_
            refine HeldTo.opCall (i := 3) (oi := _) (d := some 61) (R := fun v w' => ∃ a' c', v = .slice a' x.outs.length c' ∧ w'.ownsRow wB.drew.heap.size 3 1 (.slice a' x.outs.length c') x.outs.length (ints (x.outs.map (litS (stOf x).S))) ∧ Below wB.drew.heap.size wB.drew w') rfl rfl (by rfl) (by go_simp; done) ((all_any wB.drew (HHB.out wB.drew hb0) a3 c3 x.outs (HIB.out wB.drew hb0).outs HT3.out HF3.out).mono fun e w' h => by obtain ⟨a', c', he, ho, hb⟩ := h; exact ⟨_, he, a', c', rfl, ho, hb⟩) ?_
            rintro v wk101 ⟨m101, q101, rfl, ho101, hbk101⟩
            have ob101 := hb0.below hbk101
            have bx101 : BoxN w5.heap.size [.int .i64 x.max, .slice b1 x.ins.length d1, .slice b2 x.lats.length d2, .slice b3 x.outs.length d3, .slice b4 x.bads.length d4, .slice b5 x.invs.length d5, .slice b6 x.ands.length d6, .slice b7 x.names.length d7] wk101 := bx0.next hbk101 bx0.lt
            have ro101 := own_mono ho101 hb0.size
            have hS101 := hSK _ ob101
            refine ⟨hS101, ?_⟩
            (try simp only [Act.put, List.setIfInBounds_toArray, List.set_cons_zero, List.set_cons_succ])
            (refine HeldTo.plain (i := 12) (oi := _) (d := some 70) (v := ?_) rfl rfl (by kernel_rfl) (by kernel_rfl) (by kernel_rfl) (by kernel_rfl) (fun _ _ _ h => h) (Or.inl ⟨by rfl, ?_⟩) (fun _ => hS101) ?_; rotate_left; (focus (intro w hSw; clear hSw; go_simp; (try with_reducible rfl); done)); (try simp only [Act.put, List.setIfInBounds_toArray, List.set_cons_zero, List.set_cons_succ]))
            refine HeldTo.one (i := 7) (by kernel_rfl) ?_
            refine HeldTo.opCall (i := 7) (oi := _) (d := some 65) (R := fun v w' => ∃ a' c', v = .slice a' x.bads.length c' ∧ w'.ownsRow wk101.heap.size 3 1 (.slice a' x.bads.length c') x.bads.length (ints (x.bads.map (litS (stOf x).S))) ∧ Below wk101.heap.size wk101 w') rfl rfl (by rfl) (by go_simp; done) ((all_any wk101 (HHB.out wk101 ob101) a4 c4 x.bads (HIB.out wk101 ob101).bads HT4.out HF4.out).mono fun e w' h => by obtain ⟨a', c', he, ho, hb⟩ := h; exact ⟨_, he, a', c', rfl, ho, hb⟩) ?_
            rintro v wk102 ⟨m102, q102, rfl, ho102, hbk102⟩
            have ob102 := ob101.below hbk102
            have bx102 : BoxN w5.heap.size [.int .i64 x.max, .slice b1 x.ins.length d1, .slice b2 x.lats.length d2, .slice b3 x.outs.length d3, .slice b4 x.bads.length d4, .slice b5 x.invs.length d5, .slice b6 x.ands.length d6, .slice b7 x.names.length d7] wk102 := bx101.next hbk102 bx101.lt
            have ro102 := own_mono ho102 ob101.size
            have ro102_3 := own_next ro101 hbk102
            have hS102 := hSK _ ob102
            refine ⟨hS102, ?_⟩
            (try simp only [Act.put, List.setIfInBounds_toArray, List.set_cons_zero, List.set_cons_succ])
            refine HeldTo.one (i := 11) (by kernel_rfl) ?_
            refine HeldTo.opCall (i := 11) (oi := _) (d := some 69) (R := fun v w' => ∃ a' c', v = .slice a' x.invs.length c' ∧ w'.ownsRow wk102.heap.size 3 1 (.slice a' x.invs.length c') x.invs.length (ints (x.invs.map (litS (stOf x).S))) ∧ Below wk102.heap.size wk102 w') rfl rfl (by rfl) (by go_simp; done) ((all_any wk102 (HHB.out wk102 ob102) a5 c5 x.invs (HIB.out wk102 ob102).invs HT5.out HF5.out).mono fun e w' h => by obtain ⟨a', c', he, ho, hb⟩ := h; exact ⟨_, he, a', c', rfl, ho, hb⟩) ?_
            rintro v wk103 ⟨m103, q103, rfl, ho103, hbk103⟩
            have ob103 := ob102.below hbk103
            have bx103 : BoxN w5.heap.size [.int .i64 x.max, .slice b1 x.ins.length d1, .slice b2 x.lats.length d2, .slice b3 x.outs.length d3, .slice b4 x.bads.length d4, .slice b5 x.invs.length d5, .slice b6 x.ands.length d6, .slice b7 x.names.length d7] wk103 := bx102.next hbk103 bx102.lt
            have ro103 := own_mono ho103 ob102.size
            have ro103_3 := own_next ro102_3 hbk103
            have ro103_4 := own_next ro102 hbk103
            have hS103 := hSK _ ob103
            refine ⟨hS103, ?_⟩
            (try simp only [Act.put, List.setIfInBounds_toArray, List.set_cons_zero, List.set_cons_succ])
            obtain ⟨w104, hw104⟩ : ∃ U, wk103.setCell ⟨w5.heap.size, 3, none⟩ (.slice m101 x.outs.length q101) = U := ⟨_, rfl⟩
            have ob104 := ob103.set 3 (.slice m101 x.outs.length q101)
            rw [hw104] at ob104
            have g104 := bx103.at' 3 _ rfl
            have z104 := bx103.fz 3
            have bx104' := bx103.set 3 (.slice m101 x.outs.length q101)
            rw [hw104] at bx104'
            have bx104 : BoxN w5.heap.size [.int .i64 x.max, .slice b1 x.ins.length d1, .slice b2 x.lats.length d2, .slice m101 x.outs.length q101, .slice b4 x.bads.length d4, .slice b5 x.invs.length d5, .slice b6 x.ands.length d6, .slice b7 x.names.length d7] w104 := bx104'
            have ro104_3 := ownsRow_setCell_below ro103_3 (a := ⟨w5.heap.size, 3, none⟩) hlt5 (.slice m101 x.outs.length q101)
            rw [hw104] at ro104_3
            have ro104_4 := ownsRow_setCell_below ro103_4 (a := ⟨w5.heap.size, 3, none⟩) hlt5 (.slice m101 x.outs.length q101)
            rw [hw104] at ro104_4
            have ro104_5 := ownsRow_setCell_below ro103 (a := ⟨w5.heap.size, 3, none⟩) hlt5 (.slice m101 x.outs.length q101)
            rw [hw104] at ro104_5
            have hS104 := hSK _ ob104
            refine HeldTo.one (i := 13) (by kernel_rfl) ?_
            refine HeldTo.opStore (i := 13) (oi := _) (d := none) (w2 := w104) rfl rfl (by rfl) (by go_simp; done) hS104 ?_
            (try simp only [Act.put, List.setIfInBounds_toArray, List.set_cons_zero, List.set_cons_succ])
            clear g104 z104
            (refine HeldTo.plain (i := 14) (oi := _) (d := some 71) (v := ?_) rfl rfl (by kernel_rfl) (by kernel_rfl) (by kernel_rfl) (by kernel_rfl) (fun _ _ _ h => h) (Or.inl ⟨by rfl, ?_⟩) (fun _ => hS104) ?_; rotate_left; (focus (intro w hSw; clear hSw; go_simp; (try with_reducible rfl); done)); (try simp only [Act.put, List.setIfInBounds_toArray, List.set_cons_zero, List.set_cons_succ]))
            obtain ⟨w105, hw105⟩ : ∃ U, w104.setCell ⟨w5.heap.size, 4, none⟩ (.slice m102 x.bads.length q102) = U := ⟨_, rfl⟩
            have ob105 := ob104.set 4 (.slice m102 x.bads.length q102)
            rw [hw105] at ob105
            have g105 := bx104.at' 4 _ rfl
            have z105 := bx104.fz 4
            have bx105' := bx104.set 4 (.slice m102 x.bads.length q102)
            rw [hw105] at bx105'
            have bx105 : BoxN w5.heap.size [.int .i64 x.max, .slice b1 x.ins.length d1, .slice b2 x.lats.length d2, .slice m101 x.outs.length q101, .slice m102 x.bads.length q102, .slice b5 x.invs.length d5, .slice b6 x.ands.length d6, .slice b7 x.names.length d7] w105 := bx105'
            have ro105_3 := ownsRow_setCell_below ro104_3 (a := ⟨w5.heap.size, 4, none⟩) hlt5 (.slice m102 x.bads.length q102)
            rw [hw105] at ro105_3
            have ro105_4 := ownsRow_setCell_below ro104_4 (a := ⟨w5.heap.size, 4, none⟩) hlt5 (.slice m102 x.bads.length q102)
            rw [hw105] at ro105_4
            have ro105_5 := ownsRow_setCell_below ro104_5 (a := ⟨w5.heap.size, 4, none⟩) hlt5 (.slice m102 x.bads.length q102)
            rw [hw105] at ro105_5
            have hS105 := hSK _ ob105
            refine HeldTo.one (i := 15) (by kernel_rfl) ?_
            refine HeldTo.opStore (i := 15) (oi := _) (d := none) (w2 := w105) rfl rfl (by rfl) (by go_simp; done) hS105 ?_
            (try simp only [Act.put, List.setIfInBounds_toArray, List.set_cons_zero, List.set_cons_succ])
            clear g105 z105
            (refine HeldTo.plain (i := 16) (oi := _) (d := some 72) (v := ?_) rfl rfl (by kernel_rfl) (by kernel_rfl) (by kernel_rfl) (by kernel_rfl) (fun _ _ _ h => h) (Or.inl ⟨by rfl, ?_⟩) (fun _ => hS105) ?_; rotate_left; (focus (intro w hSw; clear hSw; go_simp; (try with_reducible rfl); done)); (try simp only [Act.put, List.setIfInBounds_toArray, List.set_cons_zero, List.set_cons_succ]))
            obtain ⟨w106, hw106⟩ : ∃ U, w105.setCell ⟨w5.heap.size, 5, none⟩ (.slice m103 x.invs.length q103) = U := ⟨_, rfl⟩
            have ob106 := ob105.set 5 (.slice m103 x.invs.length q103)
            rw [hw106] at ob106
            have g106 := bx105.at' 5 _ rfl
            have z106 := bx105.fz 5
            have bx106' := bx105.set 5 (.slice m103 x.invs.length q103)
            rw [hw106] at bx106'
            have bx106 : BoxN w5.heap.size [.int .i64 x.max, .slice b1 x.ins.length d1, .slice b2 x.lats.length d2, .slice m101 x.outs.length q101, .slice m102 x.bads.length q102, .slice m103 x.invs.length q103, .slice b6 x.ands.length d6, .slice b7 x.names.length d7] w106 := bx106'
            have ro106_3 := ownsRow_setCell_below ro105_3 (a := ⟨w5.heap.size, 5, none⟩) hlt5 (.slice m103 x.invs.length q103)
            rw [hw106] at ro106_3
            have ro106_4 := ownsRow_setCell_below ro105_4 (a := ⟨w5.heap.size, 5, none⟩) hlt5 (.slice m103 x.invs.length q103)
            rw [hw106] at ro106_4
            have ro106_5 := ownsRow_setCell_below ro105_5 (a := ⟨w5.heap.size, 5, none⟩) hlt5 (.slice m103 x.invs.length q103)
            rw [hw106] at ro106_5
            have hS106 := hSK _ ob106
            refine HeldTo.one (i := 17) (by kernel_rfl) ?_
            refine HeldTo.opStore (i := 17) (oi := _) (d := none) (w2 := w106) rfl rfl (by rfl) (by go_simp; done) hS106 ?_
            (try simp only [Act.put, List.setIfInBounds_toArray, List.set_cons_zero, List.set_cons_succ])
            clear g106 z106
            refine HeldTo.done (by kernel_rfl) ?_ _
            (try go_wp2_with fail)
            go_meet
            exact ⟨m101, q101, m102, q102, m103, q103, ro106_3, ro106_4, ro106_5, bx106, ob106⟩
          case rest =>
            obtain ⟨m3, q3, m4, q4, m5, q5, P3, P4, P5, HX22, HOB22⟩ := hcut
            generalize wc = w22 at *
            have P1 := Lib.hid (HOB22.out.own HIB1.out HNI.out)
            have P2 := Lib.hid (HOB22.out.own HLB.out HNL.out)
            have P7 := Lib.hid (HOB22.out.own HNB.out HNN.out)
            have BA22 := HOB22.out.base HBB.out (Nat.le_trans HL5.out (Nat.le_of_lt HLT5.out)) HL5.out
            have hh22 := HHR.out.next BA22
            have HBA22 := Lib.hid BA22
            have HH22 := Lib.hid hh22
            have hd2 := hh22.box.at' 2 _ rfl
            have x6 := HX22.out.at' 6 _ rfl
            have y6 := HX22.out.fz 6
            obtain ⟨w23, hw23⟩ : ∃ U, w22.setCell ⟨w5.heap.size, 6, none⟩ (.slice aK (stOf x).K.length cK) = U := ⟨_, rfl⟩
            obtain ⟨w24, hw24⟩ : ∃ U, w23.alloc (.map #[] 0) = U := ⟨_, rfl⟩
            have X23 := HX22.out.set 6 (.slice aK (stOf x).K.length cK)
            rw [hw23] at X23
            have b24 : Below w23.heap.size w23 w24 := by rw [← hw24]; exact (Below.refl _ _).alloc (Nat.le_refl _) _
            have s24 : SetI.SetIs w24 w23.heap.size 0 [] := by rw [← hw24]; exact SetI.set_made w23
            have ob23 := (OffB.refl w5.heap.size w22).set 6 (.slice aK (stOf x).K.length cK)
            rw [hw23] at ob23
            have ob24 := ob23.below b24
            have hlt23 : w22.heap.size ≤ w23.heap.size := ob23.size
            have X24 : BoxN w5.heap.size [.int .i64 x.max, .slice b1 x.ins.length d1, .slice b2 x.lats.length d2, .slice m3 x.outs.length q3, .slice m4 x.bads.length q4, .slice m5 x.invs.length q5, .slice aK (stOf x).K.length cK, .slice b7 x.names.length d7] w24 := X23.next b24 X23.lt
            have HOB24 := Lib.hid ob24
            have HS24 := Lib.hid s24
            have HX24 := Lib.hid X24
            have HL22 : Hid (wB.heap.size ≤ w22.heap.size) := HOB22.out.size
            have HL23 := Lib.hid hlt23
            have HL24 : Hid (w23.heap.size < w24.heap.size) := by show _ < _; rw [← hw24]; simp
            have hmm := @run_makeMap Try.prog
            clear X23 ob23 ob24 X24 BA22 hh22 hlt23 b24 s24
            go_upto_region 19 with fail
            clear hw23 hw24 hd2 x6 y6 hmm
            have hKn : (Value.slice aK (stOf x).K.length cK).ownBlock ≠ some w5.heap.size := own_not HHR.out.k HL5.out
            have HKN := Lib.hid hKn
            have hmid : InCirc w24 (mid x) ⟨b1, d1, b2, d2, m3, q3, m4, q4, m5, q5, aK, cK, b7, d7⟩ := mid_in (HOB24.out.own P1.out HNI.out) (HOB24.out.own P2.out HNL.out) (HOB24.out.own P3.out (own_not' P3.out HLT5.out)) (HOB24.out.own P4.out (own_not' P4.out HLT5.out)) (HOB24.out.own P5.out (own_not' P5.out HLT5.out)) (stOf x).K (HOB24.out.own HH22.out.k hKn) (HOB24.out.own P7.out HNN.out)
            have hml := told_len x
            have hfew := HFEW.out
            obtain ⟨_, _, f1, f2, f3, f4, f5⟩ := hfew
            have hkl : (stOf x).K.length ≤ x.ands.length := HHR.out.few
            have hfa := HFIT.out.ands
            have hce : cells (mid x) ⟨b1, d1, b2, d2, m3, q3, m4, q4, m5, q5, aK, cK, b7, d7⟩ = #[.int .i64 x.max, .slice b1 x.ins.length d1, .slice b2 x.lats.length d2, .slice m3 x.outs.length q3, .slice m4 x.bads.length q4, .slice m5 x.invs.length q5, .slice aK (stOf x).K.length cK, .slice b7 x.names.length d7] := by simp only [cells, mid, List.length_map]
            have htd := fun (U : World) (hU : Below w24.heap.size w24 U) => told_any U (mid x) ⟨b1, d1, b2, d2, m3, q3, m4, q4, m5, q5, aK, cK, b7, d7⟩ (hmid.next hU) (by simp only [mid, List.length_map]; omega)
            have hcn := fun (U : World) (hU : Below w24.heap.size w24 U) (a' : Option Addr) (c' : Nat) hsl => cone_any U (mid x) ⟨b1, d1, b2, d2, m3, q3, m4, q4, m5, q5, aK, cK, b7, d7⟩ (hmid.next hU) HKW.out a' c' (told (mid x)) hsl (fun y hy => HTW.out HH22.out.wf y hy) (by have e : (mid x).ands = (stOf x).K := rfl; rw [hml, e]; omega)
            simp only [hce] at htd hcn
            have htw : ∀ t ∈ told (mid x), I64 t := fun y hy => HTW.out HH22.out.wf y hy
            have HTV := Lib.hid htw
            have HTD := Lib.hid htd
            have HCN := Lib.hid hcn
            have HWT : Hid (∀ t, wants x t = tt (Rch (stOf x).K (told (mid x)) (var t.1))) := fun t => rfl
            clear hmid hml f1 f2 f3 f4 f5 hkl hfa hce htd hcn htw hKn
            generalize told (mid x) = TL at *
            have hb0 : Below w24.heap.size w24 w24.drew := (Below.refl _ _).drew
            have hSK : ∀ U : World, Below w24.heap.size w24 U → U.cell? ⟨w5.heap.size, 0, none⟩ = some (.int .i64 x.max) ∧ U.cell? ⟨w5.heap.size, 1, none⟩ = some (.slice b1 x.ins.length d1) ∧ U.cell? ⟨w5.heap.size, 2, none⟩ = some (.slice b2 x.lats.length d2) ∧ U.cell? ⟨w5.heap.size, 3, none⟩ = some (.slice m3 x.outs.length q3) ∧ U.cell? ⟨w5.heap.size, 4, none⟩ = some (.slice m4 x.bads.length q4) ∧ U.cell? ⟨w5.heap.size, 5, none⟩ = some (.slice m5 x.invs.length q5) ∧ U.cell? ⟨w5.heap.size, 6, none⟩ = some (.slice aK (stOf x).K.length cK) ∧ U.cell? ⟨w5.heap.size, 7, none⟩ = some (.slice b7 x.names.length d7) := fun U hU => by
              have h := HX24.out.next hU HX24.out.lt
              exact box8S h
            have hS := hSK _ hb0
            refine HeldTo.region (fun U : World => U.cell? ⟨w5.heap.size, 0, none⟩ = some (.int .i64 x.max) ∧ U.cell? ⟨w5.heap.size, 1, none⟩ = some (.slice b1 x.ins.length d1) ∧ U.cell? ⟨w5.heap.size, 2, none⟩ = some (.slice b2 x.lats.length d2) ∧ U.cell? ⟨w5.heap.size, 3, none⟩ = some (.slice m3 x.outs.length q3) ∧ U.cell? ⟨w5.heap.size, 4, none⟩ = some (.slice m4 x.bads.length q4) ∧ U.cell? ⟨w5.heap.size, 5, none⟩ = some (.slice m5 x.invs.length q5) ∧ U.cell? ⟨w5.heap.size, 6, none⟩ = some (.slice aK (stOf x).K.length cK) ∧ U.cell? ⟨w5.heap.size, 7, none⟩ = some (.slice b7 x.names.length d7)) 3 (by kernel_rfl) ?_
            (refine HeldTo.plain (i := 5) (oi := _) (d := some 84) (v := ?_) rfl rfl (by kernel_rfl) (by kernel_rfl) (by kernel_rfl) (by kernel_rfl) (fun _ _ _ h => h) (Or.inl ⟨by rfl, ?_⟩) (fun _ => hS) ?_; rotate_left; (focus (intro w hSw; clear hSw; go_simp; (try with_reducible rfl); done)); (try simp only [Act.put, List.setIfInBounds_toArray, List.set_cons_zero, List.set_cons_succ]))
            (refine HeldTo.take (i := 0) (oi := _) (d := some 79) (v := ?_) rfl rfl (by kernel_rfl) (by kernel_rfl) (by kernel_rfl) (by kernel_rfl) (by kernel_rfl) (by kernel_rfl) (fun _ _ _ h => h) (Or.inl ⟨by rfl, ?_⟩) hS ?_; rotate_left; (focus (intro w hSw; (try dsimp only at hSw); go_simp; (try with_reducible rfl); done)); (try simp only [Act.put, List.setIfInBounds_toArray, List.set_cons_zero, List.set_cons_succ]))
            refine HeldTo.one (i := 1) (by kernel_rfl) ?_
            (refine HeldTo.opVal (i := 1) (oi := _) (d := some 80) (v := .agg #[.int .i64 x.max, .slice b1 x.ins.length d1, .slice b2 x.lats.length d2, .slice m3 x.outs.length q3, .slice m4 x.bads.length q4, .slice m5 x.invs.length q5, .slice aK (stOf x).K.length cK, .slice b7 x.names.length d7]) (w2 := w24.drew) rfl rfl (by rfl) ?_ hS ?_; (focus (obtain ⟨s0, s1, s2, s3, s4, s5, s6, s7⟩ := hS; go_simp; done)); (try simp only [Act.put, List.setIfInBounds_toArray, List.set_cons_zero, List.set_cons_succ]))
            refine HeldTo.call (i := 2) (oi := _) (d := some 81) (R := fun v w' => ∃ a' c', v = .slice a' TL.length c' ∧ w'.ownsRow w24.drew.heap.size 3 1 (.slice a' TL.length c') TL.length (ints TL) ∧ Below w24.drew.heap.size w24.drew w') rfl rfl (by kernel_rfl) (by rfl) (by go_simp; done) ((HTD.out w24.drew hb0).mono fun e w' h => by obtain ⟨a', c', he, ho, hb⟩ := h; exact ⟨_, he, a', c', rfl, ho, hb⟩) ?_
            rintro v wk2 ⟨a9, c9, rfl, ho2, hbk2⟩
            have hB2 := hb0.trans (hbk2.mono hb0.size)
            have hS2 := hSK _ hB2
            refine ⟨hS2, ?_⟩
            (try simp only [Act.put, List.setIfInBounds_toArray, List.set_cons_zero, List.set_cons_succ])
            refine HeldTo.call (i := 3) (oi := _) (d := some 82) (R := fun v w' => ∃ a' c' vs, v = .slice a' vs.length c' ∧ w'.ownsRow wk2.heap.size 3 1 (.slice a' vs.length c') vs.length (ints vs) ∧ (∀ y, y ∈ vs ↔ y ≠ 0 ∧ Rch (stOf x).K TL y) ∧ Below wk2.heap.size wk2 w') rfl rfl (by kernel_rfl) (by rfl) (by go_simp; done) ((HCN.out wk2 hB2 a9 c9 (own_sl' ho2)).mono fun e w' h => by obtain ⟨a', c', vs, he, ho, _, hv, hb⟩ := h; exact ⟨_, he, a', c', vs, rfl, ho, hv, hb⟩) ?_
            rintro v wk3 ⟨a10, c10, vs, rfl, ho3, hvs, hbk3⟩
            have hB3 := hB2.trans (hbk3.mono hB2.size)
            have hS3 := hSK _ hB3
            refine ⟨hS3, ?_⟩
            (try simp only [Act.put, List.setIfInBounds_toArray, List.set_cons_zero, List.set_cons_succ])
            (refine HeldTo.plain (i := 4) (oi := _) (d := some 83) (v := ?_) rfl rfl (by kernel_rfl) (by kernel_rfl) (by kernel_rfl) (by kernel_rfl) (fun _ _ _ h => h) (Or.inl ⟨by rfl, ?_⟩) (fun h => absurd h (by decide)) ?_; rotate_left; (focus (intro w hSw; clear hSw; go_simp; (try with_reducible rfl); done)); (try simp only [Act.put, List.setIfInBounds_toArray, List.set_cons_zero, List.set_cons_succ]))
            refine HeldTo.done (by kernel_rfl) ?_ _
            generalize wk3 = w26 at *
            have HV := Lib.hid ho3
            have HVS := Lib.hid hvs
            have HB26 := Lib.hid hB3
            have HMV : Hid (w23.heap.size < wk2.heap.size) := Nat.lt_of_lt_of_le HL24.out hB2.size
            have HS26 := Lib.hid (HS24.out.next hB3)
            have hvc := (own_sl' ho3).cap
            have hvb := (own_sl' ho3).big
            clear ho2 hbk2 ho3 hvs hbk3 hB2 hB3 hS hS2 hS3 hSK hb0
            go_wp2_with fail
            go_loopw [84] (fun s wr => ∃ k : Nat, k ≤ vs.length ∧ s = .int .i64 k ∧ Hid (SetI.SetIs wr w23.heap.size k (vs.take k)) ∧ Hid (OffB w23.heap.size w26 wr)) (fun s _ => vs.length - (intOf s).toNat)
            case atStart => exact ⟨0, Nat.zero_le _, rfl, HS26.out, OffB.refl _ _⟩
            case round =>
              obtain ⟨k, hk, rfl, hS, hO⟩ := hrel
              by_cases hlt : k < vs.length
              · obtain ⟨b, o, hx, rfl, hbs, hc⟩ := (own_sl' (hO.out.own HV.out (own_not' HV.out HMV.out))).int hlt
                have h64 : I64 vs[k] := rch_64 HKW.out HTV.out ((HVS.out _).1 (List.getElem_mem hx)).2
                have HTK : Hid (vs.take (k + 1) = vs.take k ++ [vs[k]]) := List.take_succ_eq_append_getElem hx
                generalize vs[k] = v at *
                obtain ⟨w9, hrun, hs9, hg9⟩ := set_store hS.out (show SetI.I64 v from h64) (by omega)
                have HS9 := Lib.hid hs9
                have HO9 := Lib.hid (offb_at hO.out hg9)
                clear hs9 hg9 h64 hbs
                go_wp2_with fail
                go_roundw
                case rel => exact ⟨k + 1, by omega, by go_num, by rw [HTK.out]; exact HS9.out, HO9.out⟩
                case measure => simp [intOf]; omega
              · have hke : k = vs.length := by omega
                obtain ⟨w29, hw29⟩ : ∃ U : World, U = wr := ⟨_, rfl⟩
                subst hw29
                have hS' : SetI.SetIs w29 w23.heap.size vs.length vs := by
                  have h := hS.out
                  rw [hke, List.take_length] at h
                  exact h
                have z1 := HL5.out
                have z2 := HLT5.out
                have z3 := HL22.out
                have z4 := HL23.out
                have z5 := HL24.out
                have z6 := HB26.out.size
                have z7 := HBA22.out.size
                have hne : w5.heap.size ≠ w23.heap.size := by omega
                have x29 : BoxN w5.heap.size [.int .i64 x.max, .slice b1 x.ins.length d1, .slice b2 x.lats.length d2, .slice m3 x.outs.length q3, .slice m4 x.bads.length q4, .slice m5 x.invs.length q5, .slice aK (stOf x).K.length cK, .slice b7 x.names.length d7] w29 := hO.out.box (HX24.out.next HB26.out HX24.out.lt) hne
                have ba24 := HOB24.out.base HBA22.out z7 HL5.out
                have ba26 := ba24.trans (HB26.out.mono ba24.size)
                have ba29 := hO.out.base ba26 ba26.size (by omega)
                obtain ⟨w30, hw30⟩ : ∃ U, w29.setCell ⟨w5.heap.size, 6, none⟩ (.slice none 0 0) = U := ⟨_, rfl⟩
                have ob30 := (OffB.refl w5.heap.size w29).set 6 (.slice none 0 0)
                rw [hw30] at ob30
                have x30' := x29.set 6 (.slice none 0 0)
                rw [hw30] at x30'
                have x30 : BoxN w5.heap.size [.int .i64 x.max, .slice b1 x.ins.length d1, .slice b2 x.lats.length d2, .slice m3 x.outs.length q3, .slice m4 x.bads.length q4, .slice m5 x.invs.length q5, .slice none 0 0, .slice b7 x.names.length d7] w30 := x30'
                have ba30 := ob30.base ba29 ba29.size HL5.out
                have s30 := ob30.seti hS' (fun e => hne e.symm)
                have hpr : ∀ {B : Nat} {e : TypeId} {sz : Nat} {v : Value} {n : Nat} {us : List Value}, w22.ownsRow B e sz v n us → v.ownBlock ≠ some w5.heap.size → w30.ownsRow B e sz v n us := fun h1 h2 =>
                  ob30.own (hO.out.own (own_next (HOB24.out.own h1 h2) HB26.out) (own_not h1 z4)) h2
                have HQ1 := Lib.hid (hpr P1.out HNI.out)
                have HQ2 := Lib.hid (hpr P2.out HNL.out)
                have HQ3 := Lib.hid (hpr P3.out (own_not' P3.out HLT5.out))
                have HQ4 := Lib.hid (hpr P4.out (own_not' P4.out HLT5.out))
                have HQ5 := Lib.hid (hpr P5.out (own_not' P5.out HLT5.out))
                have HQ7 := Lib.hid (hpr P7.out HNN.out)
                have hkr := hpr HH22.out.k HKN.out
                have HKR := Lib.hid hkr
                have hkc := (own_slT' (tris_row _) (tris_len _) hkr).cap
                have hkb := (own_slT' (tris_row _) (tris_len _) hkr).big
                have hd2 := (HHR.out.next ba30).box.at' 2 _ rfl
                have x6 := x29.at' 6 _ rfl
                have y6 := x29.fz 6
                have HX30 := Lib.hid x30
                have HBA30 := Lib.hid ba30
                have HS30 := Lib.hid s30
                have HNE := Lib.hid hne
                have HL30 : Hid (w5.heap.size < w30.heap.size) := by show _ < _; have := ba30.size; have := ob30.size; have := hO.out.size; omega
                have HKO := Lib.hid (kOrd HOK.out)
                have hK24 : ((stOf x).K.length + 1) * 24 ≤ 140737488355328 + 24 := by have := HHR.out.few; have := HFIT.out.ands; omega
                have HK24 := Lib.hid hK24
                clear x29 ba24 ba26 ba29 ob30 x30' x30 ba30 s30 hpr hkr hS' z1 z2 z3 z4 z5 z6 z7 hne hK24 hS hO hk hvc hvb hke
                go_wp2_with fail
                clear hw30 hd2 x6 y6
                go_loopw [97] (fun s wr => ∃ (k : Nat) (a6' : Option Addr) (c6' : Nat), k ≤ (stOf x).K.length ∧ s = .int .i64 k ∧ Hid (BoxN w5.heap.size [.int .i64 x.max, .slice b1 x.ins.length d1, .slice b2 x.lats.length d2, .slice m3 x.outs.length q3, .slice m4 x.bads.length q4, .slice m5 x.invs.length q5, .slice a6' (((stOf x).K.take k).filter (wants x)).length c6', .slice b7 x.names.length d7] wr) ∧ Hid (wr.ownsRow w30.heap.size 43 3 (.slice a6' (((stOf x).K.take k).filter (wants x)).length c6') (((stOf x).K.take k).filter (wants x)).length (tris (((stOf x).K.take k).filter (wants x))).flatten) ∧ Hid (OffB w5.heap.size w30 wr)) (fun s _ => (stOf x).K.length - (intOf s).toNat)
                case atStart => exact ⟨0, none, 0, Nat.zero_le _, rfl, HX30.out, World.ownsRow_nil _ _ _ _, OffB.refl _ _⟩
                case round =>
                  obtain ⟨k, a6', c6', hk, rfl, hX, hF, hO⟩ := hrel
                  by_cases hlt2 : k < (stOf x).K.length
                  · obtain ⟨b, o, hx, rfl, hbs, hc0, hc1, hc2⟩ := (own_slT' (tris_row _) (tris_len _) (hO.out.own HKR.out HKN.out)).tri hlt2
                    have hmem := List.getElem_mem hx
                    have ht64 := (HKW.out _ hmem).1
                    have hge : 2 ≤ (stOf x).K[k].1 := (HKO.out.fine _ hmem).1
                    have HWW := Lib.hid (HWT.out (stOf x).K[k])
                    have HFT : Hid (((stOf x).K.take (k + 1)).filter (wants x) = ((stOf x).K.take k).filter (wants x) ++ (if wants x (stOf x).K[k] = true then [(stOf x).K[k]] else [])) := by
                      show _ = _
                      rw [List.take_succ_eq_append_getElem hx, List.filter_append]
                      congr 1
                      by_cases hh : wants x (stOf x).K[k] = true <;> simp [hh]
                    have hFl : (((stOf x).K.take k).filter (wants x)).length ≤ k := Nat.le_trans (List.length_filter_le _ _) (by rw [List.length_take]; omega)
                    generalize (stOf x).K[k] = t at *
                    generalize ((stOf x).K.take k).filter (wants x) = F at *
                    have HFL := Lib.hid hFl
                    obtain ⟨U, hU⟩ : ∃ U, wr.alloc (.cells (triC t) 43) = U := ⟨_, rfl⟩
                    obtain ⟨hbU, htb⟩ := tbox_new wr t 43 U hU
                    have t0 := htb.t0
                    have t1 := htb.t1
                    have t2 := htb.t2
                    have hsU := (hO.out.seti HS30.out (fun e => HNE.out e.symm)).next hbU
                    have hl := SetI.set_look hsU (x := var t.1) (show SetI.I64 _ from var_64 ht64)
                    have VA := Lib.hid (fun (V : World) => var_any t.1 (by omega) (by unfold I64 at ht64; omega) V)
                    have hxU := hX.out.next hbU hX.out.lt
                    have hoU := hO.out.below hbU
                    have hfU := own_next hF.out hbU
                    have hv0 : var t.1 ≠ 0 := by unfold var; omega
                    simp only [triC] at hU
                    have HXU := Lib.hid hxU
                    have HOU := Lib.hid hoU
                    have HFU := Lib.hid hfU
                    clear hbU htb hsU hxU hoU hfU hX hF hO hbs ht64 hge hmem hFl
                    by_cases hwn : Rch (stOf x).K TL (var t.1)
                    · have hix : SetI.inX vs (var t.1) = true := SetI.inX_iff.2 ((HVS.out _).2 ⟨hv0, hwn⟩)
                      have hwt : wants x t = true := by rw [HWW.out]; exact tt_pos hwn
                      have HFT2 := Lib.hid HFT.out
                      rw [if_pos hwt] at HFT2
                      rw [hix] at hl
                      obtain ⟨W7, hW7⟩ : ∃ V, U.alloc (.cells #[.int .i64 t.1, .int .i64 t.2.1, .int .i64 t.2.2] 43) = V := ⟨_, rfl⟩
                      have hb7 : Below U.heap.size U W7 := by rw [← hW7]; exact (Below.refl _ _).alloc (Nat.le_refl _) _
                      have hx7 : BoxN U.heap.size [.int .i64 t.1, .int .i64 t.2.1, .int .i64 t.2.2] W7 := by
                        have h := BoxN.new U #[.int .i64 t.1, .int .i64 t.2.1, .int .i64 t.2.2] 43
                        rw [hW7] at h
                        exact h
                      have hf7 := own_next HFU.out hb7
                      have HX7 := Lib.hid hx7
                      have HF7 := Lib.hid hf7
                      have HXW7 := Lib.hid (HXU.out.next hb7 HXU.out.lt)
                      have HO7 := Lib.hid (HOU.out.below hb7)
                      have HZ7 : Hid (w30.heap.size ≤ W7.heap.size) := HO7.out.size
                      have n6 := HXU.out.at' 6 _ rfl
                      have HFX : Hid ((tris (F ++ [t])).flatten = (tris F ++ [[Value.int .i64 t.1, Value.int .i64 t.2.1, Value.int .i64 t.2.2]]).flatten) := by show _ = _; simp [tris]
                      have HN24 : Hid ((F.length + 1) * 24 ≤ 140737488355328) := by show _ ≤ _; have := HK24.out; have := HFL.out; omega
                      clear hix hwt hwn hv0 HFT HWW hb7 hx7 hf7
                      go_wp2_with fail
                      with_reducible refine (VA.out _).mono ?_
                      rintro e w2 ⟨rfl, rfl⟩
                      go_wp2_with ((with_reducible refine wpL_pushKS (k := 3) (by decide) w30.heap.size (.slice a6' F.length c6') F.length (tris F) ⟨U.heap.size, 0, none⟩ 1 [.int .i64 t.1, .int .i64 t.2.1, .int .i64 t.2.2] info_and Try.underlying24 rfl ?_ ?_ ?_ rfl HF7.out ?_ HZ7.out HN24.out ?_ ?_); rfl; rfl; (intro u hu; simp only [List.mem_cons, List.not_mem_nil, or_false] at hu; rcases hu with rfl | rfl | rfl <;> rfl); (intro j y hy; rw [Addr.add_lit, Nat.zero_add]; exact HX7.out.at' j y hy); (have := HN24.out; omega); (intro a8 c8 w8 hown8 hg8; have bx8 := box_grown HXW7.out hg8 (own_block HF7.out HL30.out); have n8 := bx8.at' 6 _ rfl; have f8 := bx8.fz 6; have HX8 := Lib.hid (bx8.set 6 (.slice a8 (F.length + 1) c8)); have HO8 := Lib.hid ((HO7.out.grown hg8 (fun q hq => (HF7.out.lt q hq).1)).set 6 (.slice a8 (F.length + 1) c8)); have HF8 := Lib.hid (ownsRow_setCell_below hown8 (a := ⟨w5.heap.size, 6, none⟩) HL30.out (.slice a8 (F.length + 1) c8)); clear bx8 hown8 hg8))
                      go_wp2_with fail
                      go_roundw
                      case rel => exact ⟨k + 1, a8, c8, by omega, by go_num, by rw [HFT2.out, List.length_append]; exact HX8.out, by rw [HFT2.out, List.length_append, HFX.out]; exact HF8.out, HO8.out⟩
                      case measure => simp [intOf]; omega
                    · have hix : SetI.inX vs (var t.1) = false := by
                        rw [Bool.eq_false_iff]
                        exact fun e => hwn ((HVS.out _).1 (SetI.inX_iff.1 e)).2
                      have hwt : ¬ wants x t = true := by rw [HWW.out, tt_neg hwn]; decide
                      have HFT2 := Lib.hid HFT.out
                      rw [if_neg hwt, List.append_nil] at HFT2
                      rw [hix] at hl
                      clear hix hwt hwn hv0 HFT HWW
                      go_wp2_with fail
                      with_reducible refine (VA.out _).mono ?_
                      rintro e w2 ⟨rfl, rfl⟩
                      go_wp2_with fail
                      go_roundw
                      case rel => exact ⟨k + 1, a6', c6', by omega, by go_num, by rw [HFT2.out]; exact HXU.out, by rw [HFT2.out]; exact HFU.out, HOU.out⟩
                      case measure => simp [intOf]; omega
                  · have hke2 : k = (stOf x).K.length := by omega
                    obtain ⟨w31, hw31⟩ : ∃ U : World, U = wr := ⟨_, rfl⟩
                    subst hw31
                    have hE : ((stOf x).K.take k).filter (wants x) = (hashed x).ands := by rw [hke2, List.take_length]; rfl
                    rw [hE] at hX hF
                    obtain ⟨F, hFe⟩ : ∃ F, (hashed x).ands = F := ⟨_, rfl⟩
                    have HHX : Hid (hashed x = { mid x with ands := F }) := by show _ = _; rw [← hFe]; rfl
                    rw [hFe] at hX hF
                    have hba31 := hO.out.base HBA30.out HBA30.out.size HL5.out
                    obtain ⟨r0, r1, r2, r3, r4, r5, r6, r7⟩ := box8S hX.out
                    obtain ⟨s0, s1, s2, s3, s4, s5, s6, s7⟩ := box8S (HX2R.out.next hba31 HX2R.out.lt)
                    have y0 := (HX2R.out.next hba31 HX2R.out.lt).fz 0
                    have y1 := (HX2R.out.next hba31 HX2R.out.lt).fz 1
                    have y2 := (HX2R.out.next hba31 HX2R.out.lt).fz 2
                    have y3 := (HX2R.out.next hba31 HX2R.out.lt).fz 3
                    have y4 := (HX2R.out.next hba31 HX2R.out.lt).fz 4
                    have y5 := (HX2R.out.next hba31 HX2R.out.lt).fz 5
                    have y6 := (HX2R.out.next hba31 HX2R.out.lt).fz 6
                    have y7 := (HX2R.out.next hba31 HX2R.out.lt).fz 7
                    have HBA31 := Lib.hid hba31
                    clear hba31 hke2 hE hFe
                    go_wp2_with fail
                    refine bodyPost_ret (v := .tuple #[.agg #[.int .i64 x.max, .slice b1 x.ins.length d1, .slice b2 x.lats.length d2, .slice m3 x.outs.length q3, .slice m4 x.bads.length q4, .slice m5 x.invs.length q5, .slice a6' F.length c6', .slice b7 x.names.length d7], .int .i64 0]) (by simp [results, Try.results7, go_sem, s0, s1, s2, s3, s4, s5, s6, s7]) rfl ?_
                    refine ⟨⟨b1, d1, b2, d2, m3, q3, m4, q4, m5, q5, a6', c6', b7, d7⟩, ?_, ?_, ?_⟩
                    · rw [HHX.out]
                      simp only [cells, mid, List.length_map]
                    · rw [HHX.out]
                      have l1 := HX2R.out.lt
                      have l2 := HBB.out.size
                      have l3 := HL22.out
                      have l4 := HBA30.out.size
                      have l5 := HLT5.out
                      have l6 := HL5.out
                      have ob : OffB W1.heap.size w31 _ := ((((((((OffB.refl W1.heap.size w31).set 0 (.int .i64 x.max)).set 1 (.slice b1 x.ins.length d1)).set 2 (.slice b2 x.lats.length d2)).set 3 (.slice m3 x.outs.length q3)).set 4 (.slice m4 x.bads.length q4)).set 5 (.slice m5 x.invs.length q5)).set 6 (.slice a6' F.length c6')).set 7 (.slice b7 x.names.length d7)
                      exact mid_in (ob.own (hO.out.own HQ1.out HNI.out) (own_not' HQ1.out l1)) (ob.own (hO.out.own HQ2.out HNL.out) (own_not' HQ2.out l1)) (ob.own (hO.out.own HQ3.out (own_not' P3.out HLT5.out)) (own_not' HQ3.out (by omega))) (ob.own (hO.out.own HQ4.out (own_not' P4.out HLT5.out)) (own_not' HQ4.out (by omega))) (ob.own (hO.out.own HQ5.out (own_not' P5.out HLT5.out)) (own_not' HQ5.out (by omega))) F (ob.own hF.out (own_not' hF.out (by omega))) (ob.own (hO.out.own HQ7.out HNN.out) (own_not' HQ7.out l1))
                    · have ob : OffB W1.heap.size w31 _ := ((((((((OffB.refl W1.heap.size w31).set 0 (.int .i64 x.max)).set 1 (.slice b1 x.ins.length d1)).set 2 (.slice b2 x.lats.length d2)).set 3 (.slice m3 x.outs.length q3)).set 4 (.slice m4 x.bads.length q4)).set 5 (.slice m5 x.invs.length q5)).set 6 (.slice a6' F.length c6')).set 7 (.slice b7 x.names.length d7)
                      have hb := HB4.out.trans (HBA31.out.mono HB4.out.size)
                      exact ob.base hb hb.size HW1.out
end StrashP
end Go.Proofs.Ythdhlkcdbogcaaa

/-
  strash.Hash of a circuit that may not be.
-/
namespace Go.Proofs.Ythdhlkcdbogcaaa
open Go.RowKit Base
set_option linter.unusedVariables false
set_option linter.unusedSimpArgs false
namespace StrashP
open Circuit GetI

set_option maxRecDepth 8000 in
set_option maxHeartbeats 2000000 in
theorem hash_no (w : World) (x : Circ) (p : At) (hin : InCirc w x p) (hw : WfC x) (hno : ¬ CheckOk x) :
    Calls Try.prog 7 #[.agg (cells x p)] w fun e w' => e = .returned (.tuple #[.agg #[.int .i64 0, .slice none 0 0, .slice none 0 0, .slice none 0 0, .slice none 0 0, .slice none 0 0, .slice none 0 0, .slice none 0 0], .int .i64 9]) ∧ Below w.heap.size w w' := by
  obtain ⟨W1, hW1⟩ : ∃ U, w.alloc (.cells (cells x p) 27) = U := ⟨_, rfl⟩
  obtain ⟨W2, hW2⟩ : ∃ U, W1.alloc (.cells #[.int .i64 0, .slice none 0 0, .slice none 0 0, .slice none 0 0, .slice none 0 0, .slice none 0 0, .slice none 0 0, .slice none 0 0] 27) = U := ⟨_, rfl⟩
  have b1 : Below w.heap.size w W1 := by rw [← hW1]; exact (Below.refl _ _).alloc (Nat.le_refl _) _
  have b2 : Below W1.heap.size W1 W2 := by rw [← hW2]; exact (Below.refl _ _).alloc (Nat.le_refl _) _
  have b12 := b1.trans (b2.mono b1.size)
  have x1 : BoxN w.heap.size (cells x p).toList W2 := by
    have h := BoxN.new w (cells x p) 27
    rw [hW1] at h
    exact h.next b2 h.lt
  have x2 : BoxN W1.heap.size [.int .i64 0, .slice none 0 0, .slice none 0 0, .slice none 0 0, .slice none 0 0, .slice none 0 0, .slice none 0 0, .slice none 0 0] W2 := by
    have h := BoxN.new W1 #[.int .i64 0, .slice none 0 0, .slice none 0 0, .slice none 0 0, .slice none 0 0, .slice none 0 0, .slice none 0 0, .slice none 0 0] 27
    rw [hW2] at h
    exact h
  have hc := check_any W2 x p (hin.next b12) hw.ins hw.outs hw.bads hw.invs hw.lats hw.ands hw.mx
  rw [chk_neg hno] at hc
  have HC := Lib.hid hc
  have HX1 := Lib.hid x1
  have HX2 := Lib.hid x2
  have HW1 : Hid (w.heap.size ≤ W1.heap.size) := b1.size
  have HB2 := Lib.hid b12
  obtain ⟨a1, c1, a2, c2, a3, c3, a4, c4, a5, c5, a6, c6, a7, c7⟩ := p
  simp only [cells] at *
  obtain ⟨n0, n1, n2, n3, n4, n5, n6, n7⟩ := box8S HX1.out
  clear hin hw hno x1 x2 b1 b2 b12 hc
  go_enter Try.func7, Try.ntmps7
  go_wp2_with fail
  clear hW1 hW2 n0 n1 n2 n3 n4 n5 n6 n7
  with_reducible refine HC.out.mono ?_
  rintro e w3 ⟨rfl, hb3⟩
  have hx3 := HX2.out.next hb3 HX2.out.lt
  obtain ⟨s0, s1, s2, s3, s4, s5, s6, s7⟩ := box8S hx3
  have y0 := hx3.fz 0
  have y1 := hx3.fz 1
  have y2 := hx3.fz 2
  have y3 := hx3.fz 3
  have y4 := hx3.fz 4
  have y5 := hx3.fz 5
  have y6 := hx3.fz 6
  have y7 := hx3.fz 7
  have HB3 := Lib.hid (HB2.out.trans (hb3.mono HB2.out.size))
  clear hx3 hb3
  go_wp2_with fail
  refine bodyPost_ret (v := .tuple #[.agg #[.int .i64 0, .slice none 0 0, .slice none 0 0, .slice none 0 0, .slice none 0 0, .slice none 0 0, .slice none 0 0, .slice none 0 0], .int .i64 9]) (by simp [results, Try.results7, go_sem, s0, s1, s2, s3, s4, s5, s6, s7]) rfl ?_
  refine ⟨rfl, ?_⟩
  have ob : OffB W1.heap.size w3 _ := ((((((((OffB.refl W1.heap.size w3).set 0 (.int .i64 0)).set 1 (.slice none 0 0)).set 2 (.slice none 0 0)).set 3 (.slice none 0 0)).set 4 (.slice none 0 0)).set 5 (.slice none 0 0)).set 6 (.slice none 0 0)).set 7 (.slice none 0 0)
  exact ob.base HB3.out HB3.out.size HW1.out
end StrashP
end Go.Proofs.Ythdhlkcdbogcaaa

/-
  interlocklaw06's alive and bit; the reference's Var and Neg.
-/
namespace Go.Proofs.Ythdhlkcdbogcaaa
open Go.RowKit Base
set_option linter.unusedVariables false
set_option linter.unusedSimpArgs false
namespace StrashP
open Circuit GetI

theorem refVar_any (a : Int) (h0 : 0 ≤ a) (h1 : a ≤ 9223372036854775807) (w : World) : Calls Try.prog 28 #[.int .i64 a] w fun e w' => e = .returned (.int .i64 (var a)) ∧ w' = w := by
  have hn : ¬ a < 0 := by omega
  have HV : Hid (var a = a / 2) := by show _ = _; unfold var; omega
  have HD : Hid (Int.tdiv a 2 = a / 2) := Int.tdiv_eq_ediv_of_nonneg h0
  go_enter Try.func28, Try.ntmps28
  go_wp2
  all_goals
    go_ret
    exact ⟨ret_int (by have := HV.out; have := HD.out; first | omega | (rw [HV.out, HD.out]) | (rw [HV.out])), rfl⟩

theorem refNeg_any (a : Int) (h0 : 0 ≤ a) (h1 : a ≤ 9223372036854775807) (w : World) : Calls Try.prog 29 #[.int .i64 a] w fun e w' => e = .returned (.bool (neg a)) ∧ w' = w := by
  have HV : Hid (neg a = (a % 2 == 1)) := by show _ = _; unfold neg; rw [if_neg (by omega)]
  go_enter Try.func29, Try.ntmps29
  go_wp2
  all_goals
    go_ret
    exact ⟨ret_bool (by rw [HV.out]; first | done | (have hz : a = 0 := (by omega); subst hz; decide)), rfl⟩

set_option maxHeartbeats 400000 in
theorem alive_any (w : World) : Calls Try.prog 6 #[] w fun e w' => e = .returned (.bool true) ∧ w' = w := by
  have h := plain_nn 4 5 (by decide) (by decide) (by decide) (by decide) w
  have e : plainV 4 5 = .tuple #[.int .i64 0, .bool true] := by unfold plainV; rfl
  rw [e] at h
  have H := Lib.hid h
  clear h e
  go_enter Try.func6, Try.ntmps6
  go_wp2_with fail
  with_reducible refine H.out.mono ?_
  rintro e w2 ⟨rfl, rfl⟩
  go_wp2_with fail
  go_ret
  exact ⟨rfl, rfl⟩

def bools (l : List Bool) : List Value := l.map .bool
/-- A literal's value among values. -/
def bitL (vs : List Bool) (l : Int) : Bool := vs.getD (var l).toNat false != neg l

set_option maxHeartbeats 1000000 in
theorem bit_any (w : World) (a : Option Addr) (c : Nat) (vs : List Bool) (hs : Sl w a vs.length c (bools vs)) (l : Int) (h0 : 0 ≤ l) (h1 : l ≤ 9223372036854775807) :
    Calls Try.prog 12 #[.slice a vs.length c, .int .i64 l] w fun e w' => e = .returned (.bool (bitL vs l)) ∧ ∃ q, w' = w.drewN q := by
  have HVV := Lib.hid (fun U => refVar_any l h0 h1 U)
  have HN := Lib.hid (fun U => refNeg_any l h0 h1 U)
  have hv0 : 0 ≤ var l := by unfold var; omega
  have hv1 : var l ≤ 9223372036854775807 := by unfold var; omega
  have hcap := hs.cap
  have hbig := hs.big
  by_cases hlt : (var l).toNat < vs.length
  · have hg : (bools vs)[(var l).toNat]? = some (.bool vs[(var l).toNat]) := by unfold bools; rw [List.getElem?_map, List.getElem?_eq_getElem hlt]; rfl
    obtain ⟨b, o, rfl, hb, hc⟩ := hs.cell _ _ hg
    have HR : Hid (bitL vs l = (vs[(var l).toNat] != neg l)) := by show _ = _; unfold bitL; rw [List.getD_eq_getElem?_getD, List.getElem?_eq_getElem hlt]; rfl
    generalize vs[(var l).toNat] = y at *
    generalize neg l = g at *
    obtain ⟨k, hk⟩ : ∃ k : Nat, var l = (k : Int) := ⟨(var l).toNat, by omega⟩
    rw [hk] at HVV
    have hkt : (var l).toNat = k := by omega
    rw [hkt] at hc hlt
    have hl2 : (k : Int) < (vs.length : Int) := by omega
    clear hs hg h0 h1 hv0 hv1 hk hkt hb
    generalize vs.length = m at *
    go_enter Try.func12, Try.ntmps12
    go_wp2_with fail
    with_reducible refine (HVV.out _).mono ?_
    rintro e w2 ⟨rfl, rfl⟩
    go_wp2_with fail
    go_quiet ((go_at_call 29; exact Calls.quiet_of_same (HN.out _)))
    go_wp2_with fail
    go_ret
    exact ⟨by rw [HR.out]; rfl, _, rfl⟩
  · have HR : Hid (bitL vs l = neg l) := by show _ = _; unfold bitL; rw [List.getD_eq_getElem?_getD, List.getElem?_eq_none (by omega)]; cases neg l <;> rfl
    generalize neg l = g at *
    obtain ⟨k, hk⟩ : ∃ k : Nat, var l = (k : Int) := ⟨(var l).toNat, by omega⟩
    rw [hk] at HVV
    have hkt : (var l).toNat = k := by omega
    rw [hkt] at hlt
    have hl2 : ¬ (k : Int) < (vs.length : Int) := by omega
    clear hs h0 h1 hv0 hv1 hk hkt
    generalize vs.length = m at *
    go_enter Try.func12, Try.ntmps12
    go_wp2_with fail
    with_reducible refine (HVV.out _).mono ?_
    rintro e w2 ⟨rfl, rfl⟩
    go_wp2_with fail
    go_quiet ((go_at_call 29; exact Calls.quiet_of_same (HN.out _)))
    go_wp2_with fail
    go_ret
    exact ⟨by rw [HR.out]; rfl, _, rfl⟩
end StrashP
end Go.Proofs.Ythdhlkcdbogcaaa

/-
  Plain: a circuit that may be, with names that are read, is of integers; it, hashed, is no longer.
-/
namespace Go.Proofs.Ythdhlkcdbogcaaa
open Go.RowKit Base
set_option linter.unusedVariables false
set_option linter.unusedSimpArgs false
namespace StrashP
open Circuit GetI

theorem known_64 {y : Circ} (h : CheckOk y) {l : Int} (hk : knownV (vsOf y) l) : I64 l := by
  obtain ⟨h0, h1⟩ := hk
  have hm := h.1.2.1
  rcases h1 with h1 | h1
  · unfold I64; omega
  · unfold vsOf at h1
    obtain ⟨m, hm2, he⟩ := List.mem_map.1 h1
    have := ((ownOk_iff.1 h.2.1.1).1 m hm2).2.2
    rw [he] at this
    unfold I64; unfold var at this; omega
theorem own_64 {y : Circ} (h : CheckOk y) {m : Int} (hm : m ∈ ownL y) : I64 m := by
  have h1 := ((ownOk_iff.1 h.2.1.1).1 m hm)
  have h2 := h.1.2.1
  obtain ⟨g1, _, g3⟩ := h1
  unfold I64; unfold var at g3; omega
theorem ok_wf {y : Circ} (h : CheckOk y) (hn : ∀ t ∈ y.names, I64 t.2.1) : WfC y := by
  have hl : ∀ t ∈ y.lats, I64 t.1 := fun t ht => own_64 h (by unfold ownL; exact List.mem_append_left _ (List.mem_append_right _ (List.mem_map.2 ⟨t, ht, rfl⟩)))
  have ha : ∀ t ∈ y.ands, I64 t.1 := fun t ht => own_64 h (by unfold ownL; exact List.mem_append_right _ (List.mem_map.2 ⟨t, ht, rfl⟩))
  refine ⟨by have h1 := h.1.1; have h2 := h.1.2.1; unfold I64; omega, fun l hl' => own_64 h (by unfold ownL; exact List.mem_append_left _ (List.mem_append_left _ hl')), fun t ht => ⟨hl t ht, known_64 h (h.2.2.1 t ht), ?_⟩, fun l hl' => known_64 h (h.2.2.2.2.1 l hl'), fun l hl' => known_64 h (h.2.2.2.2.2.1 l hl'), fun l hl' => known_64 h (h.2.2.2.2.2.2.1 l hl'), fun t ht => ⟨ha t ht, known_64 h (h.2.2.2.1 t ht).1, known_64 h (h.2.2.2.1 t ht).2.1⟩, hn⟩
  have h1 := hl t ht
  rcases h.2.1.2.1 t ht with e | e | e
  · rw [e]; unfold I64; omega
  · rw [e]; unfold I64; omega
  · rw [e]; exact h1
theorem hashed_wf {x : Circ} (h : CheckOk x) (hw : WfC x) : WfC (hashed x) := ok_wf (hashed_ok h) hw.names
theorem hashed_fits {x : Circ} (h : CheckOk x) (hf : Fits x) : Fits (hashed x) := by
  obtain ⟨_, _, f2, f3, f4, f5, f6⟩ := (hashed_ok h).1
  have hle := f_few h
  have h6 := hf.ands
  exact ⟨by omega, by omega, by omega, by omega, by omega, by omega, hf.names⟩

theorem num_any (w : World) (n : Int) : Calls Try.prog 8 #[.int .i64 n] w fun e w' => e = .returned (.int .i64 n) ∧ w = w' := by
  go_enter Try.func8, Try.ntmps8
  go_wp2
  go_ret
  exact ⟨rfl, rfl⟩

/-- The empty circuit. -/
def noC : Circ := ⟨0, [], [], [], [], [], [], []⟩
def noA : At := ⟨none, 0, none, 0, none, 0, none, 0, none, 0, none, 0, none, 0⟩
theorem noC_cells : cells noC noA = #[.int .i64 0, .slice none 0 0, .slice none 0 0, .slice none 0 0, .slice none 0 0, .slice none 0 0, .slice none 0 0, .slice none 0 0] := rfl
theorem slT_none (w : World) (k : Nat) : SlT w k none 0 0 [] := ⟨rfl, Nat.le_refl _, by omega, fun _ => ⟨rfl, rfl⟩, fun i r h => by simp at h⟩
theorem noC_in (w : World) : InCirc w noC noA := ⟨Sl.nil w, slT_none w 3, Sl.nil w, Sl.nil w, Sl.nil w, slT_none w 3, slT_none w 3⟩
end StrashP
end Go.Proofs.Ythdhlkcdbogcaaa

/-
  append(append([]T{}, l...), x): its two makings and two appends, in whatever order they come: their runs. No program's function.
-/
namespace Go.Proofs.Ythdhlkcdbogcaaa
open Go.RowKit Base
set_option linter.unusedVariables false
set_option linter.unusedSimpArgs false
namespace App2

theorem shape {w : World} {B : Nat} {e : TypeId} {k : Nat} {v : Value} {n : Nat} {xs : List Value} (h : w.ownsRow B e k v n xs) : ∃ a c, v = .slice a n c := by
  rcases h.2 with ⟨rfl, rfl⟩ | ⟨g, cap, cur, rfl, _⟩
  · exact ⟨none, 0, rfl⟩
  · exact ⟨_, _, rfl⟩

/-- append of a slice to a row of one's own: its run. -/
theorem runV {P : Program} {e t : TypeId} {k bytes : Nat} {z : Value} (ty : TypeId) (hk : 0 < k) (hinfo : (P.info? e).map (fun i => (i.zero, i.size, i.bytes)) = some (some z, k, bytes)) (ht : P.underlying t = some (.slice e)) (hzs : z.cells.size = k)
    (V : World) (B : Nat) (hB : B ≤ V.heap.size) (v : Value) (n : Nat) (vs : List (List Value)) (hown : V.ownsRow B e k v n vs.flatten) (ao : Option Addr) (m c : Nat) (us : List (List Value)) (hsl : SlT V k ao m c us) (hur : ∀ r ∈ us, r.length = k)
    (hu : ∀ u ∈ us.flatten, u.oneCell' = true) (hn : (n + m) * bytes ≤ 140737488355328) (hn' : n + m ≤ 9223372036854775807) :
    ∃ a' c' w1, (Builtin.append_ #[t, t] ty #[v, .slice ao m c]).run P V = .ok (.slice a' (n + m) c') w1 ∧ w1.ownsRow B e k (.slice a' (n + m) c') (n + m) (vs ++ us).flatten ∧ V.grownBy w1 v.ownBlock := by
  obtain ⟨i, hi, hz0, hz1, hz2⟩ := info_parts hinfo
  cases ao with
  | none =>
    obtain ⟨rfl, rfl⟩ := hsl.bare rfl
    have hus : us = [] := List.eq_nil_of_length_eq_zero hsl.len
    subst hus
    obtain ⟨a', c', rfl⟩ := shape hown
    exact ⟨a', c', V, run_append_owned_none (P := P) (w := V) B t ty e i k ht hi _ n _ hown, by simpa using hown, ⟨rfl, rfl, rfl, Nat.le_refl _, fun _ _ _ => rfl⟩⟩
  | some ad =>
    have hl : us.flatten.length = m * k := by rw [flat_len hur, hsl.len]
    obtain ⟨v', w1, hr, hown', hgrow, _, _⟩ := run_append_own_at (P := P) V B t ty e i z k bytes ht hi hz0 hz1 hz2 hzs hk v n vs.flatten hown ad m c us.flatten hl (hsl.flat hk) hu (by unfold maxLen; omega) hn hB
    obtain ⟨a', c', rfl⟩ := shape hown'
    exact ⟨a', c', w1, hr, by rw [List.flatten_append]; exact hown', hgrow⟩

theorem sl_grown {w w' : World} {k n c : Nat} {vs : List (List Value)} {g : Nat} (h : SlT w k (some ⟨g, 0, none⟩) n c vs) {ob : Option Nat} (hg : w.grownBy w' ob) (hne : some g ≠ ob) : SlT w' k (some ⟨g, 0, none⟩) n c vs :=
  ⟨h.len, h.cap, h.big, h.bare, fun i r hi => by
    obtain ⟨hl, b, o, ha, hs, hc⟩ := h.cell i r hi
    simp only [Option.some.injEq, Addr.mk.injEq] at ha
    obtain ⟨rfl, rfl, _⟩ := ha
    exact ⟨hl, g, 0, rfl, Nat.lt_of_lt_of_le hs hg.size, fun j x hx => (World.cell?_of_block (w := w) (a := ⟨g, 0 + i * k + j, none⟩) (hg.block g hs hne)).trans (hc j x hx)⟩⟩

theorem sl_one (w : World) (N : List Value) (e : TypeId) (k : Nat) (hN : N.length = k) : SlT (w.alloc (.cells N.toArray e)) k (some ⟨w.heap.size, 0, none⟩) 1 1 [N] :=
  ⟨rfl, Nat.le_refl _, by omega, fun h => (by cases h), fun i r hi => by
    obtain ⟨hi0, rfl⟩ := List.getElem?_eq_some_iff.1 hi
    have hi1 : i = 0 := by simp at hi0; omega
    subst hi1
    refine ⟨hN, w.heap.size, 0, rfl, by simp, fun j x hx => ?_⟩
    rw [World.cell?_alloc_new]
    simp at hx ⊢
    exact hx⟩

theorem exec_append {P : Program} {w : World} {o : Oper} {a : Act} {s x : Operand} {t : TypeId} {v vx v' : Value} {w' : World}
    (ho : o.op = .call { callee := .builtin .append, args := #[s, x], argTypes := #[t, t] }) (hs : a.eval s = v) (hx : a.eval x = vx)
    (hr : (Builtin.append_ #[t, t] o.type #[v, vx]).run P w = .ok v' w') : (execOp a.eval o).run P w = .ok (.value v') w' := by
  unfold execOp
  simp only [ho, resolve, invoke, builtin, Sem.run_bind, Sem.run_pure, Result.andThen_ok, List.map_toArray, List.map_cons, List.map_nil, hs, hx, hr]

def Good (U w : World) (B : Nat) (e : TypeId) (k m : Nat) (rows : List (List Value)) (A : Option Addr) (C : Nat) : Prop :=
  w.ownsRow B e k (.slice A (m + 1) C) (m + 1) rows.flatten ∧ Below B U w

theorem app2 {P : Program} {e t : TypeId} {k bytes : Nat} {z : Value} (ty : TypeId) (hk : 0 < k) (hinfo : (P.info? e).map (fun i => (i.zero, i.size, i.bytes)) = some (some z, k, bytes)) (ht : P.underlying t = some (.slice e)) (hzs : z.cells.size = k)
    (U : World) (ao : Option Addr) (m c : Nat) (us : List (List Value)) (hsl : SlT U k ao m c us) (hur : ∀ r ∈ us, r.length = k) (hu : ∀ u ∈ us.flatten, u.oneCell' = true)
    (N : List Value) (hN : N.length = k) (hN1 : ∀ u ∈ N, u.oneCell' = true) (hn : (m + 1) * bytes ≤ 140737488355328) (hn' : m + 1 ≤ 9223372036854775807) :
    (∃ A1 C1 w2, (Builtin.append_ #[t, t] ty #[.slice (some ⟨U.heap.size, 0, none⟩) 0 0, .slice ao m c]).run P (U.alloc (.cells #[] e)) = .ok (.slice A1 m C1) w2 ∧ Below U.heap.size U w2 ∧
      ∃ A2 C2 w4, (Builtin.append_ #[t, t] ty #[.slice A1 m C1, .slice (some ⟨w2.heap.size, 0, none⟩) 1 1]).run P (w2.alloc (.cells N.toArray e)) = .ok (.slice A2 (m + 1) C2) w4 ∧ Good U w4 U.heap.size e k m (us ++ [N]) A2 C2) ∧
    (∃ A1 C1 w2, (Builtin.append_ #[t, t] ty #[.slice (some ⟨U.heap.size, 0, none⟩) 0 0, .slice ao m c]).run P ((U.alloc (.cells #[] e)).alloc (.cells N.toArray e)) = .ok (.slice A1 m C1) w2 ∧ Below U.heap.size U w2 ∧
      ∃ A2 C2 w4, (Builtin.append_ #[t, t] ty #[.slice A1 m C1, .slice (some ⟨U.heap.size + 1, 0, none⟩) 1 1]).run P w2 = .ok (.slice A2 (m + 1) C2) w4 ∧ Good U w4 U.heap.size e k m (us ++ [N]) A2 C2) ∧
    (∃ A1 C1 w2, (Builtin.append_ #[t, t] ty #[.slice (some ⟨U.heap.size + 1, 0, none⟩) 0 0, .slice ao m c]).run P ((U.alloc (.cells N.toArray e)).alloc (.cells #[] e)) = .ok (.slice A1 m C1) w2 ∧ Below U.heap.size U w2 ∧
      ∃ A2 C2 w4, (Builtin.append_ #[t, t] ty #[.slice A1 m C1, .slice (some ⟨U.heap.size, 0, none⟩) 1 1]).run P w2 = .ok (.slice A2 (m + 1) C2) w4 ∧ Good U w4 U.heap.size e k m (us ++ [N]) A2 C2) := by
  have hm : (0 + m) * bytes ≤ 140737488355328 := by
    rw [Nat.zero_add]; exact Nat.le_trans (Nat.mul_le_mul_right _ (Nat.le_succ m)) hn
  have s1 : (U.alloc (.cells #[] e)).heap.size = U.heap.size + 1 := by simp
  have s2 : (U.alloc (.cells N.toArray e)).heap.size = U.heap.size + 1 := by simp
  have b1 : Below U.heap.size U (U.alloc (.cells #[] e)) := (Below.refl _ _).alloc (Nat.le_refl _) _
  have b2 : Below U.heap.size U (U.alloc (.cells N.toArray e)) := (Below.refl _ _).alloc (Nat.le_refl _) _
  have hone : ∀ u ∈ [N].flatten, u.oneCell' = true := fun u hu' => hN1 u (by simpa using hu')
  have hrow : ∀ r ∈ [N], r.length = k := fun r hr => by rw [List.mem_singleton.1 hr]; exact hN
  have o1 : (U.alloc (.cells #[] e)).ownsRow U.heap.size e k (.slice (some ⟨U.heap.size, 0, none⟩) 0 0) 0 ([] : List (List Value)).flatten :=
    World.ownsRow_lit U #[] 0 (Nat.le_refl _) (by unfold maxLen; omega) (by simp)
  have e1 : ∀ (v : Value) (ws : List (List Value)) (w : World), w.ownsRow U.heap.size e k v (0 + m) ([] ++ ws).flatten → w.ownsRow U.heap.size e k v m ws.flatten := fun v ws w h => by simpa using h
  refine ⟨?_, ?_, ?_⟩
  · obtain ⟨A1, C1, w2, r1, own1, g1⟩ := runV (P := P) ty hk hinfo ht hzs _ U.heap.size (by omega) _ 0 [] o1 ao m c us (hsl.next b1) hur hu hm (by omega)
    rw [Nat.zero_add] at r1 own1
    have bw2 : Below U.heap.size U w2 := b1.grown g1 (by omega) fun q hq => by simp [Value.ownBlock] at hq; omega
    have o2 : w2.ownsRow U.heap.size e k (.slice A1 m C1) m us.flatten := by simpa using own1
    obtain ⟨A2, C2, w4, r2, own2, g2⟩ := runV (P := P) ty hk hinfo ht hzs (w2.alloc (.cells N.toArray e)) U.heap.size (by simp; have := bw2.size; omega) _ m us (o2.alloc _) (some ⟨w2.heap.size, 0, none⟩) 1 1 [N] (sl_one w2 N e k hN) hrow hone hn hn'
    exact ⟨A1, C1, w2, r1, bw2, A2, C2, w4, r2, own2, (bw2.alloc bw2.size _).grown g2 (by simp; have := bw2.size; omega) fun q hq => (o2.lt q hq).1⟩
  · have o1' := o1.alloc (.cells N.toArray e)
    have hs2 : SlT ((U.alloc (.cells #[] e)).alloc (.cells N.toArray e)) k (some ⟨U.heap.size + 1, 0, none⟩) 1 1 [N] := by
      have h := sl_one (U.alloc (.cells #[] e)) N e k hN
      rw [s1] at h; exact h
    have b12 : Below U.heap.size U ((U.alloc (.cells #[] e)).alloc (.cells N.toArray e)) := b1.alloc (by omega) _
    obtain ⟨A1, C1, w2, r1, own1, g1⟩ := runV (P := P) ty hk hinfo ht hzs _ U.heap.size b12.size _ 0 [] o1' ao m c us (hsl.next b12) hur hu hm (by omega)
    rw [Nat.zero_add] at r1 own1
    have bw2 : Below U.heap.size U w2 := b12.grown g1 b12.size fun q hq => by simp [Value.ownBlock] at hq; omega
    have o2 : w2.ownsRow U.heap.size e k (.slice A1 m C1) m us.flatten := by simpa using own1
    have hs3 := sl_grown hs2 g1 (by simp [Value.ownBlock])
    obtain ⟨A2, C2, w4, r2, own2, g2⟩ := runV (P := P) ty hk hinfo ht hzs w2 U.heap.size bw2.size _ m us o2 (some ⟨U.heap.size + 1, 0, none⟩) 1 1 [N] hs3 hrow hone hn hn'
    exact ⟨A1, C1, w2, r1, bw2, A2, C2, w4, r2, own2, bw2.grown g2 bw2.size fun q hq => (o2.lt q hq).1⟩
  · have o1' : ((U.alloc (.cells N.toArray e)).alloc (.cells #[] e)).ownsRow U.heap.size e k (.slice (some ⟨U.heap.size + 1, 0, none⟩) 0 0) 0 ([] : List (List Value)).flatten := by
      have h := World.ownsRow_lit (base := U.heap.size) (size := k) (e := e) (U.alloc (.cells N.toArray e)) #[] 0 (by omega) (by unfold maxLen; omega) (by simp)
      rw [s2] at h; exact h
    have hs2 : SlT ((U.alloc (.cells N.toArray e)).alloc (.cells #[] e)) k (some ⟨U.heap.size, 0, none⟩) 1 1 [N] := (sl_one U N e k hN).next ((Below.refl _ _).alloc (Nat.le_refl _) _)
    have b12 : Below U.heap.size U ((U.alloc (.cells N.toArray e)).alloc (.cells #[] e)) := b2.alloc (by omega) _
    obtain ⟨A1, C1, w2, r1, own1, g1⟩ := runV (P := P) ty hk hinfo ht hzs _ U.heap.size b12.size _ 0 [] o1' ao m c us (hsl.next b12) hur hu hm (by omega)
    rw [Nat.zero_add] at r1 own1
    have bw2 : Below U.heap.size U w2 := b12.grown g1 b12.size fun q hq => by simp [Value.ownBlock] at hq; omega
    have o2 : w2.ownsRow U.heap.size e k (.slice A1 m C1) m us.flatten := by simpa using own1
    have hs3 := sl_grown hs2 g1 (by simp [Value.ownBlock])
    obtain ⟨A2, C2, w4, r2, own2, g2⟩ := runV (P := P) ty hk hinfo ht hzs w2 U.heap.size bw2.size _ m us o2 (some ⟨U.heap.size, 0, none⟩) 1 1 [N] hs3 hrow hone hn hn'
    exact ⟨A1, C1, w2, r1, bw2, A2, C2, w4, r2, own2, bw2.grown g2 bw2.size fun q hq => (o2.lt q hq).1⟩
/-- Elements of one cell. -/
theorem sl_t1 {w : World} {a : Option Addr} {n c : Nat} {vs : List Value} (h : Sl w a n c vs) : SlT w 1 a n c (vs.map fun v => [v]) :=
  ⟨by rw [List.length_map]; exact h.len, h.cap, h.big, h.bare, fun i r hi => by
    rw [List.getElem?_map, Option.map_eq_some_iff] at hi
    obtain ⟨v, hv, rfl⟩ := hi
    obtain ⟨b, o, ha, hs, hc⟩ := h.cell i v hv
    refine ⟨rfl, b, o, ha, hs, fun j x hx => ?_⟩
    have hj : j = 0 := by have := (List.getElem?_eq_some_iff.1 hx).1; simp at this; omega
    subst hj
    simp only [List.getElem?_cons_zero, Option.some.injEq] at hx
    subst hx
    rw [Nat.mul_one, Nat.add_zero]
    exact hc⟩
theorem flat1 (vs : List Value) : (vs.map fun v => [v]).flatten = vs := by
  induction vs with
  | nil => rfl
  | cons x r ih => rw [List.map_cons, List.flatten_cons, ih]; rfl
end App2
end Go.Proofs.Ythdhlkcdbogcaaa

/-
  interlocklaw06.StrashTwice: the walk.
-/
namespace Go.Proofs.Ythdhlkcdbogcaaa.strashTwice
open Go.RowKit Base Circuit GetI StrashP
set_option linter.unusedVariables false
set_option linter.unusedSimpArgs false

theorem more_in {w : World} {x : Circ} {a1 a2 a3 a4 a5 a6 a7 : Option Addr} {c1 c2 c3 c4 c5 c6 c7 : Nat} {t : Tri} {o : Int} {A3 A6 : Option Addr} {C3 C6 B B' : Nat} (h : InCirc w x ⟨a1, c1, a2, c2, a3, c3, a4, c4, a5, c5, a6, c6, a7, c7⟩)
    (ho : w.ownsRow B 3 1 (.slice A3 (x.outs.length + 1) C3) (x.outs.length + 1) (ints (x.outs ++ [o]))) (ha : w.ownsRow B' 43 3 (.slice A6 (x.ands.length + 1) C6) (x.ands.length + 1) (tris (x.ands ++ [(2 * (x.max + 1), t.2.2, t.2.1)])).flatten) :
    InCirc w (more x t o) ⟨a1, c1, a2, c2, A3, C3, a4, c4, a5, c5, A6, C6, a7, c7⟩ := by
  have e1 : (more x t o).outs.length = x.outs.length + 1 := by show (x.outs ++ [o]).length = _; simp
  have e2 : (more x t o).ands.length = x.ands.length + 1 := by show (x.ands ++ [_]).length = _; simp
  refine ⟨h.ins, h.lats, ?_, h.bads, h.invs, ?_, h.names⟩
  · rw [e1]; exact own_sl' ho
  · rw [e2]; exact own_slT' (tris_row _) (by unfold tris; rw [List.length_map]; exact e2) ha
theorem more_fits {x : Circ} {t : Tri} {o : Int} (h : Fits x) (hok : CheckOk (more x t o)) (hs : (x.ands.length + 1) * 24 ≤ 140737488355328) : Fits (more x t o) := by
  obtain ⟨_, _, f2, f3, f4, f5, f6⟩ := hok.1
  have e2 : (more x t o).ands.length = x.ands.length + 1 := by show (x.ands ++ [_]).length = _; simp
  exact ⟨by omega, by omega, by omega, by omega, by omega, by omega, h.names⟩
abbrev C8 (N : Nat) (x : Circ) (p : At) (w' : World) : Prop := w'.cell? ⟨N, 0, none⟩ = some (.int .i64 x.max) ∧ w'.cell? ⟨N, 1, none⟩ = some (.slice p.a1 x.ins.length p.c1) ∧ w'.cell? ⟨N, 2, none⟩ = some (.slice p.a2 x.lats.length p.c2) ∧ w'.cell? ⟨N, 3, none⟩ = some (.slice p.a3 x.outs.length p.c3) ∧ w'.cell? ⟨N, 4, none⟩ = some (.slice p.a4 x.bads.length p.c4) ∧ w'.cell? ⟨N, 5, none⟩ = some (.slice p.a5 x.invs.length p.c5) ∧ w'.cell? ⟨N, 6, none⟩ = some (.slice p.a6 x.ands.length p.c6) ∧ w'.cell? ⟨N, 7, none⟩ = some (.slice p.a7 x.names.length p.c7)
theorem c8 {N : Nat} {x : Circ} {p : At} {w' : World} (h : CBox N x p w') : C8 N x p w' := ⟨h.k0, h.k1, h.k2, h.k3, h.k4, h.k5, h.k6, h.k7⟩
structure LH (wq : World) (N8 N10 : Nat) (y : Circ) (p q : At) (A8 A9 : Addr) (u : Int) (U : World) : Prop where
  below : Below wq.heap.size wq U
  b8 : CBox N8 y p U
  b10 : CBox N10 y q U
  l8 : A8.block < U.heap.size
  l9 : A9.block < U.heap.size
  k8 : U.cell? A8 = some (.int .i64 u)
  k9 : U.cell? A9 = some (.int .i64 u)
theorem LH.more {wq : World} {N8 N10 : Nat} {y : Circ} {p q : At} {A8 A9 : Addr} {u : Int} {U U' : World} (h : LH wq N8 N10 y p q A8 A9 u U) (hb : Below U.heap.size U U') : LH wq N8 N10 y p q A8 A9 u U' :=
  ⟨h.below.trans (hb.mono h.below.size), h.b8.next hb (Nat.le_refl _), h.b10.next hb (Nat.le_refl _), Nat.lt_of_lt_of_le h.l8 hb.size, Nat.lt_of_lt_of_le h.l9 hb.size, (hb.cell h.l8).trans h.k8, (hb.cell h.l9).trans h.k9⟩
abbrev LAll (wq : World) (N8 N10 : Nat) (y : Circ) (p q : At) (A8 A9 : Addr) (u : Int) (U : World) : Prop := LH wq N8 N10 y p q A8 A9 u U ∧ C8 N8 y p U ∧ C8 N10 y q U ∧ U.cell? A8 = some (.int .i64 u) ∧ U.cell? A9 = some (.int .i64 u)
theorem lh_all {wq : World} {N8 N10 : Nat} {y : Circ} {p q : At} {A8 A9 : Addr} {u : Int} {U : World} (h : LH wq N8 N10 y p q A8 A9 u U) : LAll wq N8 N10 y p q A8 A9 u U := ⟨h, c8 h.b8, c8 h.b10, h.k8, h.k9⟩
theorem call_keep {P : Program} {f : FuncId} {args : Array Value} {v : Value} {S : World → Prop} (hc : ∀ U, S U → Calls P f args U fun e U' => e = .returned v ∧ Below U.heap.size U U') (hs : ∀ U U', S U → Below U.heap.size U U' → S U') :
    ∀ U, S U → Calls P f args U fun e U' => e = .returned v ∧ S U' := fun U hU => (hc U hU).mono fun e U' h => ⟨h.1, hs U U' hU h.2⟩
theorem ints_snoc1 (l : List Int) (u : Int) : (((ints l).map fun v => [v]) ++ [[Value.int .i64 u]]).flatten = ints (l ++ [u]) := by
  rw [List.flatten_append, App2.flat1]
  unfold ints
  rw [List.map_append]
  rfl
theorem tris_snoc (l : List Tri) (u v z : Int) : tris (l ++ [(u, v, z)]) = tris l ++ [[.int .i64 u, .int .i64 v, .int .i64 z]] := by unfold tris; rw [List.map_append]; rfl

set_option maxRecDepth 8000 in
set_option maxHeartbeats 4000000 in
theorem walk_off (x : Circ) (p : At) (at0 : Int) {W : World} (hin : InCirc W x p) (hw : WfC x) (hza : x.ands.length * 24 ≤ 140737488355328) (hoff : ¬ CheckOk x ∨ x.ands.length = 0 ∨ 1000 < x.max) :
    Calls Try.prog 5 #[.agg (cells x p), .int .i64 at0] W fun e W' => e = .returned (.bool true) ∧ Below W.heap.size W W' := by
  obtain ⟨W1, hW1⟩ : ∃ W1, W.alloc (.cells (cells x p) 27) = W1 := ⟨_, rfl⟩
  obtain ⟨hb1, hc1⟩ := cbox_new W x p W1 hW1
  have HB1 := Lib.hid hb1
  have HAL := Lib.hid (alive_any W1)
  have hch := refCheck_any W1 x p (hin.next hb1) hw hza
  have HCB := Lib.hid hc1
  have k0 := hc1.k0
  have k1 := hc1.k1
  have k2 := hc1.k2
  have k3 := hc1.k3
  have k4 := hc1.k4
  have k5 := hc1.k5
  have k6 := hc1.k6
  have k7 := hc1.k7
  obtain ⟨a1, c1, a2, c2, a3, c3, a4, c4, a5, c5, a6, c6, a7, c7⟩ := p
  simp only [cells] at *
  by_cases hok : CheckOk x
  · have h0 : refchk x = 0 := by rw [refchk_eq, chk_pos hok]
    rw [h0] at hch
    have HH := Lib.hid hch
    have hoff' : ((x.ands.length : Int) == 0) = true ∨ (((x.ands.length : Int) == 0) = false ∧ 1000 < x.max) := by
      rcases hoff with h | h | h
      · exact absurd hok h
      · left; rw [h]; rfl
      · by_cases e : x.ands.length = 0
        · left; rw [e]; rfl
        · right; exact ⟨by rw [beq_eq_false_iff_ne]; omega, h⟩
    clear hin hw hza hoff hb1 hc1 h0 hch hok
    rcases hoff' with hb | ⟨hb, hmx⟩
    all_goals
      go_enter Try.func5, Try.ntmps5
      go_wp2_with fail
      with_reducible refine HAL.out.mono ?_
      rintro e w2 ⟨rfl, rfl⟩
      go_wp2_with fail
      with_reducible refine HH.out.mono ?_
      rintro e w3 ⟨rfl, hb3⟩
      have HB3 := Lib.hid hb3
      have hcw := HCB.out.next hb3 (Nat.le_refl _)
      have m0 := hcw.k0
      have m6 := hcw.k6
      clear hb3 k0 k1 k2 k3 k4 k5 k6 k7 hW1 hcw
      go_wp2_with fail
      go_ret
      exact ⟨rfl, HB1.out.trans (HB3.out.mono HB1.out.size)⟩
  · have h0 : refchk x = 9 := by rw [refchk_eq, chk_neg hok]
    rw [h0] at hch
    have HH := Lib.hid hch
    clear hin hw hza hoff hb1 hc1 h0 hch hok
    go_enter Try.func5, Try.ntmps5
    go_wp2_with fail
    with_reducible refine HAL.out.mono ?_
    rintro e w2 ⟨rfl, rfl⟩
    go_wp2_with fail
    with_reducible refine HH.out.mono ?_
    rintro e w3 ⟨rfl, hb3⟩
    have HB3 := Lib.hid hb3
    clear hb3 k0 k1 k2 k3 k4 k5 k6 k7 hW1
    go_wp2_with fail
    go_ret
    exact ⟨rfl, HB1.out.trans (HB3.out.mono HB1.out.size)⟩

set_option maxRecDepth 8000 in
set_option maxHeartbeats 4000000 in
theorem walk_on (x : Circ) (p : At) (at0 : Int) (hat0 : -9223372036854775808 ≤ at0) (hat1 : at0 ≤ 9223372036854775807) {W : World} (hin : InCirc W x p) (hw : WfC x) (hza : x.ands.length * 24 ≤ 140737488351232) (hfit : Fits x) (hok : CheckOk x) (hn : 0 < x.ands.length) (hmx : x.max ≤ 1000) :
    Calls Try.prog 5 #[.agg (cells x p), .int .i64 at0] W fun e W' => e = .returned (.bool true) ∧ Below W.heap.size W W' := by
  obtain ⟨W1, hW1⟩ : ∃ W1, W.alloc (.cells (cells x p) 27) = W1 := ⟨_, rfl⟩
  obtain ⟨hb1, hc1⟩ := cbox_new W x p W1 hW1
  have HB1 := Lib.hid hb1
  have HAL := Lib.hid (alive_any W1)
  have hch := refCheck_any W1 x p (hin.next hb1) hw (by omega)
  rw [refchk_eq, chk_pos hok] at hch
  have HCB := Lib.hid hc1
  have HIN := Lib.hid (hin.next hb1)
  have HOK := Lib.hid hok
  have HWF := Lib.hid hw
  have HFIT := Lib.hid hfit
  have HMX := Lib.hid hmx
  have k0 := hc1.k0
  have k1 := hc1.k1
  have k2 := hc1.k2
  have k3 := hc1.k3
  have k4 := hc1.k4
  have k5 := hc1.k5
  have k6 := hc1.k6
  have k7 := hc1.k7
  obtain ⟨k, hk, hka, hkb, hkc, hkd⟩ : ∃ k : Nat, k < x.ands.length ∧ -9223372036854775808 ≤ Int.tmod at0 x.ands.length + x.ands.length ∧ Int.tmod at0 x.ands.length + x.ands.length ≤ 9223372036854775807 ∧ Int.tmod (Int.tmod at0 x.ands.length + x.ands.length) x.ands.length = (k : Int) ∧ True := by
    have h1 := Int.tmod_lt_of_pos at0 (b := x.ands.length) (by omega)
    have h2 : -(x.ands.length : Int) < Int.tmod at0 x.ands.length := by
      have h := Int.tmod_lt_of_pos (-at0) (b := x.ands.length) (by omega)
      rw [Int.neg_tmod] at h
      omega
    generalize Int.tmod at0 x.ands.length = r at *
    have h3 : 0 ≤ r + x.ands.length := by omega
    have h4 := Int.tmod_lt_of_pos (r + x.ands.length) (b := x.ands.length) (by omega)
    have h5 := Int.tmod_nonneg x.ands.length h3
    exact ⟨(Int.tmod (r + x.ands.length) x.ands.length).toNat, by omega, by omega, by omega, by omega, trivial⟩
  have hlb : ((x.ands.length : Int) == 0) = false := by rw [beq_eq_false_iff_ne]; omega
  have hsl := HIN.out.ands
  obtain ⟨b, o, hx, hbo, hbs, hc0, hcA, hcB⟩ := hsl.tri hk
  have hcap := hsl.cap
  have hbig := hsl.big
  obtain ⟨a1, c1, a2, c2, a3, c3, a4, c4, a5, c5, a6, c6, a7, c7⟩ := p
  simp only [cells] at *
  subst hbo
  have HH := Lib.hid hch
  obtain ⟨t, ht⟩ : ∃ t, x.ands[k] = t := ⟨_, rfl⟩
  rw [ht] at hc0 hcA hcB
  have HTM : Hid (t ∈ x.ands) := by rw [← ht]; exact List.getElem_mem _
  obtain ⟨t0, t1, t2⟩ := t
  simp only at hc0 hcA hcB
  clear hin hw hfit hok hb1 hc1 hch hsl ht hmx hx
  go_enter Try.func5, Try.ntmps5
  go_wp2_with fail
  with_reducible refine HAL.out.mono ?_
  rintro e w2 ⟨rfl, rfl⟩
  go_wp2_with fail
  with_reducible refine HH.out.mono ?_
  rintro e w3 ⟨rfl, hb3⟩
  have HB3 := Lib.hid hb3
  have HC3 := Lib.hid (HCB.out.next hb3 (Nat.le_refl _))
  have HI3 := Lib.hid (HIN.out.next hb3)
  have e0 := (hb3.cell (p := ⟨b, o + k * 3, none⟩) hbs).trans hc0
  have e1 := (hb3.cell (p := ⟨b, o + k * 3 + 1, none⟩) hbs).trans hcA
  have e2 := (hb3.cell (p := ⟨b, o + k * 3 + 2, none⟩) hbs).trans hcB
  have hbs3 : b < w3.heap.size := Nat.lt_of_lt_of_le hbs hb3.size
  clear hb3 k0 k1 k2 k3 k4 k5 k6 k7 hW1 HCB HIN hc0 hcA hcB hbs HAL HH
  have k0 := HC3.out.k0
  have k1 := HC3.out.k1
  have k2 := HC3.out.k2
  have k3 := HC3.out.k3
  have k4 := HC3.out.k4
  have k5 := HC3.out.k5
  have k6 := HC3.out.k6
  have k7 := HC3.out.k7
  have hmx2 : x.max ≤ 1000 := HMX.out
  have hmx0 : 0 ≤ x.max := HOK.out.1.1
  have hlt3 := HC3.out.lt
  have HNL : Hid (0 < x.ands.length) := hn
  go_upto_region 5 with fail
  go_region
  all_goals
    go_upto_region 8 with fail
    generalize hW5 : ((w3.alloc (.cells #[.int .i64 t0, .int .i64 t1, .int .i64 t2] 43)).alloc (.cells #[.int .i64 (x.max + 1), .slice a1 x.ins.length c1, .slice a2 x.lats.length c2, .slice a3 x.outs.length c3, .slice a4 x.bads.length c4, .slice a5 x.invs.length c5, .slice (some ⟨b, o, none⟩) x.ands.length c6, .slice a7 x.names.length c7] 27)).drew = W5
    -- W5
    have hx5 : BoxN w3.heap.size [.int .i64 t0, .int .i64 t1, .int .i64 t2] W5 ∧ BoxN (w3.heap.size + 1) [.int .i64 (x.max + 1), .slice a1 x.ins.length c1, .slice a2 x.lats.length c2, .slice a3 x.outs.length c3, .slice a4 x.bads.length c4, .slice a5 x.invs.length c5, .slice (some ⟨b, o, none⟩) x.ands.length c6, .slice a7 x.names.length c7] W5 ∧ Below w3.heap.size w3 W5 := by
      subst hW5
      have h1 := BoxN.new w3 #[.int .i64 t0, .int .i64 t1, .int .i64 t2] 43
      have h2 := BoxN.new (w3.alloc (.cells #[.int .i64 t0, .int .i64 t1, .int .i64 t2] 43)) #[.int .i64 (x.max + 1), .slice a1 x.ins.length c1, .slice a2 x.lats.length c2, .slice a3 x.outs.length c3, .slice a4 x.bads.length c4, .slice a5 x.invs.length c5, .slice (some ⟨b, o, none⟩) x.ands.length c6, .slice a7 x.names.length c7] 27
      have e : (w3.alloc (.cells #[.int .i64 t0, .int .i64 t1, .int .i64 t2] 43)).heap.size = w3.heap.size + 1 := by simp
      rw [e] at h2
      have b1 : Below w3.heap.size w3 (w3.alloc (.cells #[.int .i64 t0, .int .i64 t1, .int .i64 t2] 43)) := (Below.refl _ _).alloc (Nat.le_refl _) _
      have h1' := h1.next ((Below.refl _ _).alloc (Nat.le_refl _) (.cells #[.int .i64 (x.max + 1), .slice a1 x.ins.length c1, .slice a2 x.lats.length c2, .slice a3 x.outs.length c3, .slice a4 x.bads.length c4, .slice a5 x.invs.length c5, .slice (some ⟨b, o, none⟩) x.ands.length c6, .slice a7 x.names.length c7] 27)) h1.lt
      exact ⟨h1'.next (Below.refl _ _).drew h1'.lt, h2.next (Below.refl _ _).drew h2.lt, (b1.alloc b1.size _).drew⟩
    obtain ⟨hxa, hxd, hb5⟩ := hx5
    have HXA := Lib.hid hxa
    have HXD := Lib.hid hxd
    have HB5 := Lib.hid hb5
    have HSZ := Lib.hid hza
    have hza2 : (x.ands.length + 1) * 24 ≤ 140737488355328 := by omega
    have hfew := HOK.out.1.2.2.2.2.1
    have HFW : Hid (x.outs.length ≤ 64) := hfew
    have HBS : Hid (b < w3.heap.size) := hbs3
    clear hW5 hxa hxd hb5 e0 e1 e2 k0 k1 k2 k3 k4 k5 k6 k7 hka hkb hkc hkd hlb hk hn hza hfew hat0 hat1 hbs3
    go_cut [] from 51 to 66 (fun wx => ∃ (A6 : Option Addr) (C6 : Nat), Hid (BoxN w3.heap.size [.int .i64 t0, .int .i64 t1, .int .i64 t2] wx) ∧ Hid (BoxN (w3.heap.size + 1) [.int .i64 (x.max + 1), .slice a1 x.ins.length c1, .slice a2 x.lats.length c2, .slice a3 x.outs.length c3, .slice a4 x.bads.length c4, .slice a5 x.invs.length c5, .slice A6 (x.ands.length + 1) C6, .slice a7 x.names.length c7] wx) ∧ Hid (wx.ownsRow (w3.heap.size + 2) 43 3 (.slice A6 (x.ands.length + 1) C6) (x.ands.length + 1) (tris (x.ands ++ [(2 * (x.max + 1), t2, t1)])).flatten) ∧ Hid (Below w3.heap.size w3 wx))
    case first =>
      as_aux_lemma =>
        have hwr : IntKind.i64.wrap (2 * (x.max + 1)) = 2 * (x.max + 1) := IntWalk.i64_in _ (by omega)
        have hS8 : ∀ V : World, Below W5.heap.size W5 V → V.cell? ⟨W.heap.size, 6, none⟩ = some (.slice (some ⟨b, o, none⟩) x.ands.length c6) ∧ V.cell? ⟨w3.heap.size + 1, 0, none⟩ = some (.int .i64 (x.max + 1)) ∧ V.cell? ⟨w3.heap.size, 1, none⟩ = some (.int .i64 t1) ∧ V.cell? ⟨w3.heap.size, 2, none⟩ = some (.int .i64 t2) := fun V hV =>
          ⟨(HC3.out.next (HB5.out.trans (hV.mono HB5.out.size)) (Nat.le_refl _)).k6, (HXD.out.next hV HXD.out.lt).at' 0 _ rfl, (HXA.out.next hV HXA.out.lt).at' 1 _ rfl, (HXA.out.next hV HXA.out.lt).at' 2 _ rfl⟩
        have hB0 : Below W5.heap.size W5 W5.drew := (Below.refl _ _).drew
        have hS0 := hS8 _ hB0
        refine HeldTo.region (fun U : World => U.cell? ⟨W.heap.size, 6, none⟩ = some (.slice (some ⟨b, o, none⟩) x.ands.length c6) ∧ U.cell? ⟨w3.heap.size + 1, 0, none⟩ = some (.int .i64 (x.max + 1)) ∧ U.cell? ⟨w3.heap.size, 1, none⟩ = some (.int .i64 t1) ∧ U.cell? ⟨w3.heap.size, 2, none⟩ = some (.int .i64 t2)) 15 (by kernel_rfl) ?_
        (refine HeldTo.plain (i := 1) (oi := _) (d := some 52) (v := ?_) rfl rfl (by kernel_rfl) (by kernel_rfl) (by kernel_rfl) (by kernel_rfl) (fun _ _ _ h => h) (Or.inl ⟨by rfl, ?_⟩) (fun _ => hS0) ?_; rotate_left; (focus (intro w hSw; clear hSw; go_simp; (try with_reducible rfl); done)); (try simp only [Act.put, List.setIfInBounds_toArray, List.set_cons_zero, List.set_cons_succ]))
        (refine HeldTo.take (i := 2) (oi := _) (d := some 53) (v := ?_) rfl rfl (by kernel_rfl) (by kernel_rfl) (by kernel_rfl) (by kernel_rfl) (by kernel_rfl) (by kernel_rfl) (fun _ _ _ h => h) (Or.inl ⟨by rfl, ?_⟩) hS0 ?_; rotate_left; (focus (intro w hSw; (try dsimp only at hSw); go_simp; (try with_reducible rfl); done)); (try simp only [Act.put, List.setIfInBounds_toArray, List.set_cons_zero, List.set_cons_succ]))
        (refine HeldTo.plain (i := 4) (oi := _) (d := some 55) (v := ?_) rfl rfl (by kernel_rfl) (by kernel_rfl) (by kernel_rfl) (by kernel_rfl) (fun _ _ _ h => h) (Or.inl ⟨by rfl, ?_⟩) (fun _ => hS0) ?_; rotate_left; (focus (intro w hSw; clear hSw; go_simp; (try with_reducible rfl); done)); (try simp only [Act.put, List.setIfInBounds_toArray, List.set_cons_zero, List.set_cons_succ]))
        (refine HeldTo.take (i := 5) (oi := _) (d := some 56) (v := ?_) rfl rfl (by kernel_rfl) (by kernel_rfl) (by kernel_rfl) (by kernel_rfl) (by kernel_rfl) (by kernel_rfl) (fun _ _ _ h => h) (Or.inl ⟨by rfl, ?_⟩) hS0 ?_; rotate_left; (focus (intro w hSw; (try dsimp only at hSw); go_simp; (try with_reducible rfl); done)); (try simp only [Act.put, List.setIfInBounds_toArray, List.set_cons_zero, List.set_cons_succ]))
        (refine HeldTo.plain (i := 6) (oi := _) (d := some 57) (v := ?_) rfl rfl (by kernel_rfl) (by kernel_rfl) (by kernel_rfl) (by kernel_rfl) (fun _ _ _ h => h) (Or.inl ⟨by rfl, ?_⟩) (fun _ => hS0) ?_; rotate_left; (focus (intro w hSw; clear hSw; go_simp; (try with_reducible rfl); done)); (try simp only [Act.put, List.setIfInBounds_toArray, List.set_cons_zero, List.set_cons_succ]))
        (refine HeldTo.plain (i := 7) (oi := _) (d := some 58) (v := ?_) rfl rfl (by kernel_rfl) (by kernel_rfl) (by kernel_rfl) (by kernel_rfl) (fun _ _ _ h => h) (Or.inl ⟨by rfl, ?_⟩) (fun _ => hS0) ?_; rotate_left; (focus (intro w hSw; clear hSw; go_simp; (try with_reducible rfl); done)); (try simp only [Act.put, List.setIfInBounds_toArray, List.set_cons_zero, List.set_cons_succ]))
        (refine HeldTo.take (i := 8) (oi := _) (d := some 59) (v := ?_) rfl rfl (by kernel_rfl) (by kernel_rfl) (by kernel_rfl) (by kernel_rfl) (by kernel_rfl) (by kernel_rfl) (fun _ _ _ h => h) (Or.inl ⟨by rfl, ?_⟩) hS0 ?_; rotate_left; (focus (intro w hSw; (try dsimp only at hSw); go_simp; (try with_reducible rfl); done)); (try simp only [Act.put, List.setIfInBounds_toArray, List.set_cons_zero, List.set_cons_succ]))
        (refine HeldTo.plain (i := 9) (oi := _) (d := some 60) (v := ?_) rfl rfl (by kernel_rfl) (by kernel_rfl) (by kernel_rfl) (by kernel_rfl) (fun _ _ _ h => h) (Or.inl ⟨by rfl, ?_⟩) (fun _ => hS0) ?_; rotate_left; (focus (intro w hSw; clear hSw; go_simp; (try with_reducible rfl); done)); (try simp only [Act.put, List.setIfInBounds_toArray, List.set_cons_zero, List.set_cons_succ]))
        (refine HeldTo.take (i := 10) (oi := _) (d := some 61) (v := ?_) rfl rfl (by kernel_rfl) (by kernel_rfl) (by kernel_rfl) (by kernel_rfl) (by kernel_rfl) (by kernel_rfl) (fun _ _ _ h => h) (Or.inl ⟨by rfl, ?_⟩) hS0 ?_; rotate_left; (focus (intro w hSw; (try dsimp only at hSw); go_simp; (try with_reducible rfl); done)); (try simp only [Act.put, List.setIfInBounds_toArray, List.set_cons_zero, List.set_cons_succ]))
        (refine HeldTo.plain (i := 11) (oi := _) (d := some 62) (v := ?_) rfl rfl (by kernel_rfl) (by kernel_rfl) (by kernel_rfl) (by kernel_rfl) (fun _ _ _ h => h) (Or.inl ⟨by rfl, ?_⟩) (fun _ => hS0) ?_; rotate_left; (focus (intro w hSw; clear hSw; go_simp; (try with_reducible rfl); done)); (try simp only [Act.put, List.setIfInBounds_toArray, List.set_cons_zero, List.set_cons_succ]))
        obtain ⟨⟨A1, C1, x2, r1, X1, A2, C2, x4, r2, X2⟩, ⟨B1, D1, y2, s1, Y1, B2, D2, y4, s2, Y2⟩, ⟨E1, F1, z2, q1, Z1, E2, F2, z4, q2, Z2⟩⟩ := App2.app2 (P := Try.prog) (t := 24) 24 (by decide : 0 < 3) info_and Try.underlying24 rfl W5.drew (some ⟨b, o, none⟩) x.ands.length c6 (tris x.ands) (HI3.out.next (HB5.out.trans (hB0.mono HB5.out.size))).ands (tris_row _) (tris_one _) [.int .i64 (2 * (x.max + 1)), .int .i64 t2, .int .i64 t1] rfl (by intro u hu; simp only [List.mem_cons, List.not_mem_nil, or_false] at hu; rcases hu with rfl | rfl | rfl <;> rfl) hza2 (by omega)
        skip
        have bz1 : Below W5.heap.size W5 (W5.drew.alloc (.cells #[] 43)) := hB0.alloc hB0.size _
        have bz2 : Below W5.heap.size W5 (W5.drew.alloc (.cells #[.int .i64 (2 * (x.max + 1)), .int .i64 t2, .int .i64 t1] 43)) := hB0.alloc hB0.size _
        have bz3 : Below W5.heap.size W5 ((W5.drew.alloc (.cells #[] 43)).alloc (.cells #[.int .i64 (2 * (x.max + 1)), .int .i64 t2, .int .i64 t1] 43)) := bz1.alloc bz1.size _
        have bz4 : Below W5.heap.size W5 ((W5.drew.alloc (.cells #[.int .i64 (2 * (x.max + 1)), .int .i64 t2, .int .i64 t1] 43)).alloc (.cells #[] 43)) := bz2.alloc bz2.size _
        have bx2 : Below W5.heap.size W5 x2 := hB0.trans (X1.mono hB0.size)
        have bx3 : Below W5.heap.size W5 (x2.alloc (.cells #[.int .i64 (2 * (x.max + 1)), .int .i64 t2, .int .i64 t1] 43)) := bx2.alloc bx2.size _
        have bx4 : Below W5.heap.size W5 x4 := hB0.trans (X2.2.mono hB0.size)
        have by2 : Below W5.heap.size W5 y2 := hB0.trans (Y1.mono hB0.size)
        have by4 : Below W5.heap.size W5 y4 := hB0.trans (Y2.2.mono hB0.size)
        have bq2 : Below W5.heap.size W5 z2 := hB0.trans (Z1.mono hB0.size)
        have bq4 : Below W5.heap.size W5 z4 := hB0.trans (Z2.2.mono hB0.size)
        refine HeldTo.two (i := 0) (j := 12) (by kernel_rfl) ?_ ?_
        · skip
          refine HeldTo.opVal (i := 0) (oi := _) (d := some 51) (v := .slice (some ⟨W5.drew.heap.size, 0, none⟩) 0 0) (w2 := W5.drew.alloc (.cells #[] 43)) rfl rfl (by rfl) (by go_simp; done) (hS8 _ bz1) ?_
          (try simp only [Act.put, List.setIfInBounds_toArray, List.set_cons_zero, List.set_cons_succ])
          refine HeldTo.two (i := 3) (j := 12) (by kernel_rfl) ?_ ?_
          · skip
            refine HeldTo.opVal (i := 3) (oi := _) (d := some 54) (v := .slice A1 x.ands.length C1) (w2 := x2) rfl rfl (by rfl) (App2.exec_append rfl rfl rfl r1) (hS8 _ bx2) ?_
            (try simp only [Act.put, List.setIfInBounds_toArray, List.set_cons_zero, List.set_cons_succ])
            refine HeldTo.one (i := 12) (by kernel_rfl) ?_
            refine HeldTo.opVal (i := 12) (oi := _) (d := some 63) (v := .slice (some ⟨x2.heap.size, 0, none⟩) 1 1) (w2 := x2.alloc (.cells #[.int .i64 (2 * (x.max + 1)), .int .i64 t2, .int .i64 t1] 43)) rfl rfl (by rfl) (by go_simp; done) (hS8 _ bx3) ?_
            (try simp only [Act.put, List.setIfInBounds_toArray, List.set_cons_zero, List.set_cons_succ])
            refine HeldTo.one (i := 13) (by kernel_rfl) ?_
            refine HeldTo.opVal (i := 13) (oi := _) (d := some 64) (v := .slice A2 (x.ands.length + 1) C2) (w2 := x4) rfl rfl (by rfl) (App2.exec_append rfl rfl rfl r2) (hS8 _ bx4) ?_
            (try simp only [Act.put, List.setIfInBounds_toArray, List.set_cons_zero, List.set_cons_succ])
            have hbx := HXD.out.next bx4 HXD.out.lt
            have g0 := hbx.at' 6 _ rfl
            have z0 := hbx.fz 6
            (refine HeldTo.plain (i := 14) (oi := _) (d := some 65) (v := ?_) rfl rfl (by kernel_rfl) (by kernel_rfl) (by kernel_rfl) (by kernel_rfl) (fun _ _ _ h => h) (Or.inl ⟨by rfl, ?_⟩) (fun _ => (hS8 _ bx4)) ?_; rotate_left; (focus (intro w hSw; clear hSw; go_simp; (try with_reducible rfl); done)); (try simp only [Act.put, List.setIfInBounds_toArray, List.set_cons_zero, List.set_cons_succ]))
            refine HeldTo.store (i := 15) (oi := _) (d := none) (w2 := x4.setCell ⟨w3.heap.size + 1, 6, none⟩ (.slice A2 (x.ands.length + 1) C2)) rfl rfl (by kernel_rfl) (by kernel_rfl) (by rfl) (by go_simp; done) ?_
            (try simp only [Act.put, List.setIfInBounds_toArray, List.set_cons_zero, List.set_cons_succ])
            refine HeldTo.done (by kernel_rfl) ?_ _
            (try go_wp2_with fail)
            go_meet
            have h2 : w3.heap.size + 2 ≤ W5.heap.size := HXD.out.lt
            exact ⟨A2, C2, (HXA.out.next bx4 HXA.out.lt).other (a := ⟨w3.heap.size + 1, 6, none⟩) (by show w3.heap.size + 1 ≠ _; omega) _, hbx.set 6 _, ownsRow_setCell_below (own_mono (by have h := X2.1; rw [← tris_snoc x.ands (2 * (x.max + 1)) t2 t1] at h; exact h) h2) (a := ⟨w3.heap.size + 1, 6, none⟩) (by show w3.heap.size + 1 < _; omega) _, (HB5.out.trans (bx4.mono HB5.out.size)).setCell (p := ⟨w3.heap.size + 1, 6, none⟩) (by show _ ≤ w3.heap.size + 1; omega) _⟩
          · skip
            refine HeldTo.opVal (i := 12) (oi := _) (d := some 63) (v := .slice (some ⟨W5.drew.heap.size + 1, 0, none⟩) 1 1) (w2 := (W5.drew.alloc (.cells #[] 43)).alloc (.cells #[.int .i64 (2 * (x.max + 1)), .int .i64 t2, .int .i64 t1] 43)) rfl rfl (by rfl) (by go_simp; done) (hS8 _ bz3) ?_
            (try simp only [Act.put, List.setIfInBounds_toArray, List.set_cons_zero, List.set_cons_succ])
            refine HeldTo.one (i := 3) (by kernel_rfl) ?_
            refine HeldTo.opVal (i := 3) (oi := _) (d := some 54) (v := .slice B1 x.ands.length D1) (w2 := y2) rfl rfl (by rfl) (App2.exec_append rfl rfl rfl s1) (hS8 _ by2) ?_
            (try simp only [Act.put, List.setIfInBounds_toArray, List.set_cons_zero, List.set_cons_succ])
            refine HeldTo.one (i := 13) (by kernel_rfl) ?_
            refine HeldTo.opVal (i := 13) (oi := _) (d := some 64) (v := .slice B2 (x.ands.length + 1) D2) (w2 := y4) rfl rfl (by rfl) (App2.exec_append rfl rfl rfl s2) (hS8 _ by4) ?_
            (try simp only [Act.put, List.setIfInBounds_toArray, List.set_cons_zero, List.set_cons_succ])
            have hbx := HXD.out.next by4 HXD.out.lt
            have g0 := hbx.at' 6 _ rfl
            have z0 := hbx.fz 6
            (refine HeldTo.plain (i := 14) (oi := _) (d := some 65) (v := ?_) rfl rfl (by kernel_rfl) (by kernel_rfl) (by kernel_rfl) (by kernel_rfl) (fun _ _ _ h => h) (Or.inl ⟨by rfl, ?_⟩) (fun _ => (hS8 _ by4)) ?_; rotate_left; (focus (intro w hSw; clear hSw; go_simp; (try with_reducible rfl); done)); (try simp only [Act.put, List.setIfInBounds_toArray, List.set_cons_zero, List.set_cons_succ]))
            refine HeldTo.store (i := 15) (oi := _) (d := none) (w2 := y4.setCell ⟨w3.heap.size + 1, 6, none⟩ (.slice B2 (x.ands.length + 1) D2)) rfl rfl (by kernel_rfl) (by kernel_rfl) (by rfl) (by go_simp; done) ?_
            (try simp only [Act.put, List.setIfInBounds_toArray, List.set_cons_zero, List.set_cons_succ])
            refine HeldTo.done (by kernel_rfl) ?_ _
            (try go_wp2_with fail)
            go_meet
            have h2 : w3.heap.size + 2 ≤ W5.heap.size := HXD.out.lt
            exact ⟨B2, D2, (HXA.out.next by4 HXA.out.lt).other (a := ⟨w3.heap.size + 1, 6, none⟩) (by show w3.heap.size + 1 ≠ _; omega) _, hbx.set 6 _, ownsRow_setCell_below (own_mono (by have h := Y2.1; rw [← tris_snoc x.ands (2 * (x.max + 1)) t2 t1] at h; exact h) h2) (a := ⟨w3.heap.size + 1, 6, none⟩) (by show w3.heap.size + 1 < _; omega) _, (HB5.out.trans (by4.mono HB5.out.size)).setCell (p := ⟨w3.heap.size + 1, 6, none⟩) (by show _ ≤ w3.heap.size + 1; omega) _⟩
        · skip
          refine HeldTo.opVal (i := 12) (oi := _) (d := some 63) (v := .slice (some ⟨W5.drew.heap.size, 0, none⟩) 1 1) (w2 := W5.drew.alloc (.cells #[.int .i64 (2 * (x.max + 1)), .int .i64 t2, .int .i64 t1] 43)) rfl rfl (by rfl) (by go_simp; done) (hS8 _ bz2) ?_
          (try simp only [Act.put, List.setIfInBounds_toArray, List.set_cons_zero, List.set_cons_succ])
          refine HeldTo.one (i := 0) (by kernel_rfl) ?_
          refine HeldTo.opVal (i := 0) (oi := _) (d := some 51) (v := .slice (some ⟨W5.drew.heap.size + 1, 0, none⟩) 0 0) (w2 := (W5.drew.alloc (.cells #[.int .i64 (2 * (x.max + 1)), .int .i64 t2, .int .i64 t1] 43)).alloc (.cells #[] 43)) rfl rfl (by rfl) (by go_simp; done) (hS8 _ bz4) ?_
          (try simp only [Act.put, List.setIfInBounds_toArray, List.set_cons_zero, List.set_cons_succ])
          refine HeldTo.one (i := 3) (by kernel_rfl) ?_
          refine HeldTo.opVal (i := 3) (oi := _) (d := some 54) (v := .slice E1 x.ands.length F1) (w2 := z2) rfl rfl (by rfl) (App2.exec_append rfl rfl rfl q1) (hS8 _ bq2) ?_
          (try simp only [Act.put, List.setIfInBounds_toArray, List.set_cons_zero, List.set_cons_succ])
          refine HeldTo.one (i := 13) (by kernel_rfl) ?_
          refine HeldTo.opVal (i := 13) (oi := _) (d := some 64) (v := .slice E2 (x.ands.length + 1) F2) (w2 := z4) rfl rfl (by rfl) (App2.exec_append rfl rfl rfl q2) (hS8 _ bq4) ?_
          (try simp only [Act.put, List.setIfInBounds_toArray, List.set_cons_zero, List.set_cons_succ])
          have hbx := HXD.out.next bq4 HXD.out.lt
          have g0 := hbx.at' 6 _ rfl
          have z0 := hbx.fz 6
          (refine HeldTo.plain (i := 14) (oi := _) (d := some 65) (v := ?_) rfl rfl (by kernel_rfl) (by kernel_rfl) (by kernel_rfl) (by kernel_rfl) (fun _ _ _ h => h) (Or.inl ⟨by rfl, ?_⟩) (fun _ => (hS8 _ bq4)) ?_; rotate_left; (focus (intro w hSw; clear hSw; go_simp; (try with_reducible rfl); done)); (try simp only [Act.put, List.setIfInBounds_toArray, List.set_cons_zero, List.set_cons_succ]))
          refine HeldTo.store (i := 15) (oi := _) (d := none) (w2 := z4.setCell ⟨w3.heap.size + 1, 6, none⟩ (.slice E2 (x.ands.length + 1) F2)) rfl rfl (by kernel_rfl) (by kernel_rfl) (by rfl) (by go_simp; done) ?_
          (try simp only [Act.put, List.setIfInBounds_toArray, List.set_cons_zero, List.set_cons_succ])
          refine HeldTo.done (by kernel_rfl) ?_ _
          (try go_wp2_with fail)
          go_meet
          have h2 : w3.heap.size + 2 ≤ W5.heap.size := HXD.out.lt
          exact ⟨E2, F2, (HXA.out.next bq4 HXA.out.lt).other (a := ⟨w3.heap.size + 1, 6, none⟩) (by show w3.heap.size + 1 ≠ _; omega) _, hbx.set 6 _, ownsRow_setCell_below (own_mono (by have h := Z2.1; rw [← tris_snoc x.ands (2 * (x.max + 1)) t2 t1] at h; exact h) h2) (a := ⟨w3.heap.size + 1, 6, none⟩) (by show w3.heap.size + 1 < _; omega) _, (HB5.out.trans (bq4.mono HB5.out.size)).setCell (p := ⟨w3.heap.size + 1, 6, none⟩) (by show _ ≤ w3.heap.size + 1; omega) _⟩
    case rest =>
      as_aux_lemma =>
        obtain ⟨A6, C6, HXA6, HXD6, HO6, HB6⟩ := hcut
        generalize wc = W6 at *
        clear HXA HXD HB5
        go_upto_region 9 with fail
        have hxa6 := HXA6.out
        go_cut [] from 66 to 75 (fun wx => ∃ (A3 : Option Addr) (C3 : Nat), Hid (BoxN (w3.heap.size + 1) [.int .i64 (x.max + 1), .slice a1 x.ins.length c1, .slice a2 x.lats.length c2, .slice A3 (x.outs.length + 1) C3, .slice a4 x.bads.length c4, .slice a5 x.invs.length c5, .slice A6 (x.ands.length + 1) C6, .slice a7 x.names.length c7] wx) ∧ Hid (wx.ownsRow (w3.heap.size + 2) 43 3 (.slice A6 (x.ands.length + 1) C6) (x.ands.length + 1) (tris (x.ands ++ [(2 * (x.max + 1), t2, t1)])).flatten) ∧ Hid (wx.ownsRow (w3.heap.size + 2) 3 1 (.slice A3 (x.outs.length + 1) C3) (x.outs.length + 1) (ints (x.outs ++ [t0]))) ∧ Hid (Below w3.heap.size w3 wx))
        case first =>
          as_aux_lemma =>
            have hS9 : ∀ V : World, Below W6.heap.size W6 V → V.cell? ⟨W.heap.size, 3, none⟩ = some (.slice a3 x.outs.length c3) ∧ V.cell? ⟨w3.heap.size, 0, none⟩ = some (.int .i64 t0) := fun V hV =>
              ⟨(HC3.out.next (HB6.out.trans (hV.mono HB6.out.size)) (Nat.le_refl _)).k3, (HXA6.out.next hV HXA6.out.lt).at' 0 _ rfl⟩
            clear hxa6
            have hB0 : Below W6.heap.size W6 W6.drew := (Below.refl _ _).drew
            have hS0 := hS9 _ hB0
            refine HeldTo.region (fun U : World => U.cell? ⟨W.heap.size, 3, none⟩ = some (.slice a3 x.outs.length c3) ∧ U.cell? ⟨w3.heap.size, 0, none⟩ = some (.int .i64 t0)) 9 (by kernel_rfl) ?_
            (refine HeldTo.plain (i := 1) (oi := _) (d := some 67) (v := ?_) rfl rfl (by kernel_rfl) (by kernel_rfl) (by kernel_rfl) (by kernel_rfl) (fun _ _ _ h => h) (Or.inl ⟨by rfl, ?_⟩) (fun _ => hS0) ?_; rotate_left; (focus (intro w hSw; clear hSw; go_simp; (try with_reducible rfl); done)); (try simp only [Act.put, List.setIfInBounds_toArray, List.set_cons_zero, List.set_cons_succ]))
            (refine HeldTo.take (i := 2) (oi := _) (d := some 68) (v := ?_) rfl rfl (by kernel_rfl) (by kernel_rfl) (by kernel_rfl) (by kernel_rfl) (by kernel_rfl) (by kernel_rfl) (fun _ _ _ h => h) (Or.inl ⟨by rfl, ?_⟩) hS0 ?_; rotate_left; (focus (intro w hSw; (try dsimp only at hSw); go_simp; (try with_reducible rfl); done)); (try simp only [Act.put, List.setIfInBounds_toArray, List.set_cons_zero, List.set_cons_succ]))
            (refine HeldTo.plain (i := 4) (oi := _) (d := some 70) (v := ?_) rfl rfl (by kernel_rfl) (by kernel_rfl) (by kernel_rfl) (by kernel_rfl) (fun _ _ _ h => h) (Or.inl ⟨by rfl, ?_⟩) (fun _ => hS0) ?_; rotate_left; (focus (intro w hSw; clear hSw; go_simp; (try with_reducible rfl); done)); (try simp only [Act.put, List.setIfInBounds_toArray, List.set_cons_zero, List.set_cons_succ]))
            (refine HeldTo.take (i := 5) (oi := _) (d := some 71) (v := ?_) rfl rfl (by kernel_rfl) (by kernel_rfl) (by kernel_rfl) (by kernel_rfl) (by kernel_rfl) (by kernel_rfl) (fun _ _ _ h => h) (Or.inl ⟨by rfl, ?_⟩) hS0 ?_; rotate_left; (focus (intro w hSw; (try dsimp only at hSw); go_simp; (try with_reducible rfl); done)); (try simp only [Act.put, List.setIfInBounds_toArray, List.set_cons_zero, List.set_cons_succ]))
            obtain ⟨⟨A1, C1, x2, r1, X1, A2, C2, x4, r2, X2⟩, ⟨B1, D1, y2, s1, Y1, B2, D2, y4, s2, Y2⟩, ⟨E1, F1, z2, q1, Z1, E2, F2, z4, q2, Z2⟩⟩ := App2.app2 (P := Try.prog) (t := 22) 22 (by decide : 0 < 1) info_intS Try.underlying22 rfl W6.drew a3 x.outs.length c3 ((ints x.outs).map fun v => [v]) (App2.sl_t1 (HI3.out.next (HB6.out.trans (hB0.mono HB6.out.size))).outs) (by intro r hr; obtain ⟨v, _, rfl⟩ := List.mem_map.1 hr; rfl) (by rw [App2.flat1]; exact Base.ints_one _) [.int .i64 (t0)] rfl (by intro u hu; rw [List.mem_singleton.1 hu]; rfl) (by have := HFW.out; omega) (by have := HFW.out; omega)
            skip
            have bz1 : Below W6.heap.size W6 (W6.drew.alloc (.cells #[] 3)) := hB0.alloc hB0.size _
            have bz2 : Below W6.heap.size W6 (W6.drew.alloc (.cells #[.int .i64 t0] 3)) := hB0.alloc hB0.size _
            have bz3 : Below W6.heap.size W6 ((W6.drew.alloc (.cells #[] 3)).alloc (.cells #[.int .i64 t0] 3)) := bz1.alloc bz1.size _
            have bz4 : Below W6.heap.size W6 ((W6.drew.alloc (.cells #[.int .i64 t0] 3)).alloc (.cells #[] 3)) := bz2.alloc bz2.size _
            have bx2 : Below W6.heap.size W6 x2 := hB0.trans (X1.mono hB0.size)
            have bx3 : Below W6.heap.size W6 (x2.alloc (.cells #[.int .i64 t0] 3)) := bx2.alloc bx2.size _
            have bx4 : Below W6.heap.size W6 x4 := hB0.trans (X2.2.mono hB0.size)
            have by2 : Below W6.heap.size W6 y2 := hB0.trans (Y1.mono hB0.size)
            have by4 : Below W6.heap.size W6 y4 := hB0.trans (Y2.2.mono hB0.size)
            have bq2 : Below W6.heap.size W6 z2 := hB0.trans (Z1.mono hB0.size)
            have bq4 : Below W6.heap.size W6 z4 := hB0.trans (Z2.2.mono hB0.size)
            refine HeldTo.two (i := 0) (j := 6) (by kernel_rfl) ?_ ?_
            · skip
              refine HeldTo.opVal (i := 0) (oi := _) (d := some 66) (v := .slice (some ⟨W6.drew.heap.size, 0, none⟩) 0 0) (w2 := W6.drew.alloc (.cells #[] 3)) rfl rfl (by rfl) (by go_simp; done) (hS9 _ bz1) ?_
              (try simp only [Act.put, List.setIfInBounds_toArray, List.set_cons_zero, List.set_cons_succ])
              refine HeldTo.two (i := 3) (j := 6) (by kernel_rfl) ?_ ?_
              · skip
                refine HeldTo.opVal (i := 3) (oi := _) (d := some 69) (v := .slice A1 x.outs.length C1) (w2 := x2) rfl rfl (by rfl) (App2.exec_append rfl rfl rfl r1) (hS9 _ bx2) ?_
                (try simp only [Act.put, List.setIfInBounds_toArray, List.set_cons_zero, List.set_cons_succ])
                refine HeldTo.one (i := 6) (by kernel_rfl) ?_
                refine HeldTo.opVal (i := 6) (oi := _) (d := some 72) (v := .slice (some ⟨x2.heap.size, 0, none⟩) 1 1) (w2 := x2.alloc (.cells #[.int .i64 t0] 3)) rfl rfl (by rfl) (by go_simp; done) (hS9 _ bx3) ?_
                (try simp only [Act.put, List.setIfInBounds_toArray, List.set_cons_zero, List.set_cons_succ])
                refine HeldTo.one (i := 7) (by kernel_rfl) ?_
                refine HeldTo.opVal (i := 7) (oi := _) (d := some 73) (v := .slice A2 (x.outs.length + 1) C2) (w2 := x4) rfl rfl (by rfl) (App2.exec_append rfl rfl rfl r2) (hS9 _ bx4) ?_
                (try simp only [Act.put, List.setIfInBounds_toArray, List.set_cons_zero, List.set_cons_succ])
                have hbx := HXD6.out.next bx4 HXD6.out.lt
                have g0 := hbx.at' 3 _ rfl
                have z0 := hbx.fz 3
                (refine HeldTo.plain (i := 8) (oi := _) (d := some 74) (v := ?_) rfl rfl (by kernel_rfl) (by kernel_rfl) (by kernel_rfl) (by kernel_rfl) (fun _ _ _ h => h) (Or.inl ⟨by rfl, ?_⟩) (fun _ => (hS9 _ bx4)) ?_; rotate_left; (focus (intro w hSw; clear hSw; go_simp; (try with_reducible rfl); done)); (try simp only [Act.put, List.setIfInBounds_toArray, List.set_cons_zero, List.set_cons_succ]))
                refine HeldTo.store (i := 9) (oi := _) (d := none) (w2 := x4.setCell ⟨w3.heap.size + 1, 3, none⟩ (.slice A2 (x.outs.length + 1) C2)) rfl rfl (by kernel_rfl) (by kernel_rfl) (by rfl) (by go_simp; done) ?_
                (try simp only [Act.put, List.setIfInBounds_toArray, List.set_cons_zero, List.set_cons_succ])
                refine HeldTo.done (by kernel_rfl) ?_ _
                (try go_wp2_with fail)
                go_meet
                have h2 : w3.heap.size + 2 ≤ W6.heap.size := HXD6.out.lt
                exact ⟨A2, C2, hbx.set 3 _, ownsRow_setCell_below (own_next HO6.out bx4) (a := ⟨w3.heap.size + 1, 3, none⟩) (by show w3.heap.size + 1 < _; omega) _, ownsRow_setCell_below (own_mono (by have h := X2.1; rw [ints_snoc1] at h; exact h) h2) (a := ⟨w3.heap.size + 1, 3, none⟩) (by show w3.heap.size + 1 < _; omega) _, (HB6.out.trans (bx4.mono HB6.out.size)).setCell (p := ⟨w3.heap.size + 1, 3, none⟩) (by show _ ≤ w3.heap.size + 1; omega) _⟩
              · skip
                refine HeldTo.opVal (i := 6) (oi := _) (d := some 72) (v := .slice (some ⟨W6.drew.heap.size + 1, 0, none⟩) 1 1) (w2 := (W6.drew.alloc (.cells #[] 3)).alloc (.cells #[.int .i64 t0] 3)) rfl rfl (by rfl) (by go_simp; done) (hS9 _ bz3) ?_
                (try simp only [Act.put, List.setIfInBounds_toArray, List.set_cons_zero, List.set_cons_succ])
                refine HeldTo.one (i := 3) (by kernel_rfl) ?_
                refine HeldTo.opVal (i := 3) (oi := _) (d := some 69) (v := .slice B1 x.outs.length D1) (w2 := y2) rfl rfl (by rfl) (App2.exec_append rfl rfl rfl s1) (hS9 _ by2) ?_
                (try simp only [Act.put, List.setIfInBounds_toArray, List.set_cons_zero, List.set_cons_succ])
                refine HeldTo.one (i := 7) (by kernel_rfl) ?_
                refine HeldTo.opVal (i := 7) (oi := _) (d := some 73) (v := .slice B2 (x.outs.length + 1) D2) (w2 := y4) rfl rfl (by rfl) (App2.exec_append rfl rfl rfl s2) (hS9 _ by4) ?_
                (try simp only [Act.put, List.setIfInBounds_toArray, List.set_cons_zero, List.set_cons_succ])
                have hbx := HXD6.out.next by4 HXD6.out.lt
                have g0 := hbx.at' 3 _ rfl
                have z0 := hbx.fz 3
                (refine HeldTo.plain (i := 8) (oi := _) (d := some 74) (v := ?_) rfl rfl (by kernel_rfl) (by kernel_rfl) (by kernel_rfl) (by kernel_rfl) (fun _ _ _ h => h) (Or.inl ⟨by rfl, ?_⟩) (fun _ => (hS9 _ by4)) ?_; rotate_left; (focus (intro w hSw; clear hSw; go_simp; (try with_reducible rfl); done)); (try simp only [Act.put, List.setIfInBounds_toArray, List.set_cons_zero, List.set_cons_succ]))
                refine HeldTo.store (i := 9) (oi := _) (d := none) (w2 := y4.setCell ⟨w3.heap.size + 1, 3, none⟩ (.slice B2 (x.outs.length + 1) D2)) rfl rfl (by kernel_rfl) (by kernel_rfl) (by rfl) (by go_simp; done) ?_
                (try simp only [Act.put, List.setIfInBounds_toArray, List.set_cons_zero, List.set_cons_succ])
                refine HeldTo.done (by kernel_rfl) ?_ _
                (try go_wp2_with fail)
                go_meet
                have h2 : w3.heap.size + 2 ≤ W6.heap.size := HXD6.out.lt
                exact ⟨B2, D2, hbx.set 3 _, ownsRow_setCell_below (own_next HO6.out by4) (a := ⟨w3.heap.size + 1, 3, none⟩) (by show w3.heap.size + 1 < _; omega) _, ownsRow_setCell_below (own_mono (by have h := Y2.1; rw [ints_snoc1] at h; exact h) h2) (a := ⟨w3.heap.size + 1, 3, none⟩) (by show w3.heap.size + 1 < _; omega) _, (HB6.out.trans (by4.mono HB6.out.size)).setCell (p := ⟨w3.heap.size + 1, 3, none⟩) (by show _ ≤ w3.heap.size + 1; omega) _⟩
            · skip
              refine HeldTo.opVal (i := 6) (oi := _) (d := some 72) (v := .slice (some ⟨W6.drew.heap.size, 0, none⟩) 1 1) (w2 := W6.drew.alloc (.cells #[.int .i64 t0] 3)) rfl rfl (by rfl) (by go_simp; done) (hS9 _ bz2) ?_
              (try simp only [Act.put, List.setIfInBounds_toArray, List.set_cons_zero, List.set_cons_succ])
              refine HeldTo.one (i := 0) (by kernel_rfl) ?_
              refine HeldTo.opVal (i := 0) (oi := _) (d := some 66) (v := .slice (some ⟨W6.drew.heap.size + 1, 0, none⟩) 0 0) (w2 := (W6.drew.alloc (.cells #[.int .i64 t0] 3)).alloc (.cells #[] 3)) rfl rfl (by rfl) (by go_simp; done) (hS9 _ bz4) ?_
              (try simp only [Act.put, List.setIfInBounds_toArray, List.set_cons_zero, List.set_cons_succ])
              refine HeldTo.one (i := 3) (by kernel_rfl) ?_
              refine HeldTo.opVal (i := 3) (oi := _) (d := some 69) (v := .slice E1 x.outs.length F1) (w2 := z2) rfl rfl (by rfl) (App2.exec_append rfl rfl rfl q1) (hS9 _ bq2) ?_
              (try simp only [Act.put, List.setIfInBounds_toArray, List.set_cons_zero, List.set_cons_succ])
              refine HeldTo.one (i := 7) (by kernel_rfl) ?_
              refine HeldTo.opVal (i := 7) (oi := _) (d := some 73) (v := .slice E2 (x.outs.length + 1) F2) (w2 := z4) rfl rfl (by rfl) (App2.exec_append rfl rfl rfl q2) (hS9 _ bq4) ?_
              (try simp only [Act.put, List.setIfInBounds_toArray, List.set_cons_zero, List.set_cons_succ])
              have hbx := HXD6.out.next bq4 HXD6.out.lt
              have g0 := hbx.at' 3 _ rfl
              have z0 := hbx.fz 3
              (refine HeldTo.plain (i := 8) (oi := _) (d := some 74) (v := ?_) rfl rfl (by kernel_rfl) (by kernel_rfl) (by kernel_rfl) (by kernel_rfl) (fun _ _ _ h => h) (Or.inl ⟨by rfl, ?_⟩) (fun _ => (hS9 _ bq4)) ?_; rotate_left; (focus (intro w hSw; clear hSw; go_simp; (try with_reducible rfl); done)); (try simp only [Act.put, List.setIfInBounds_toArray, List.set_cons_zero, List.set_cons_succ]))
              refine HeldTo.store (i := 9) (oi := _) (d := none) (w2 := z4.setCell ⟨w3.heap.size + 1, 3, none⟩ (.slice E2 (x.outs.length + 1) F2)) rfl rfl (by kernel_rfl) (by kernel_rfl) (by rfl) (by go_simp; done) ?_
              (try simp only [Act.put, List.setIfInBounds_toArray, List.set_cons_zero, List.set_cons_succ])
              refine HeldTo.done (by kernel_rfl) ?_ _
              (try go_wp2_with fail)
              go_meet
              have h2 : w3.heap.size + 2 ≤ W6.heap.size := HXD6.out.lt
              exact ⟨E2, F2, hbx.set 3 _, ownsRow_setCell_below (own_next HO6.out bq4) (a := ⟨w3.heap.size + 1, 3, none⟩) (by show w3.heap.size + 1 < _; omega) _, ownsRow_setCell_below (own_mono (by have h := Z2.1; rw [ints_snoc1] at h; exact h) h2) (a := ⟨w3.heap.size + 1, 3, none⟩) (by show w3.heap.size + 1 < _; omega) _, (HB6.out.trans (bq4.mono HB6.out.size)).setCell (p := ⟨w3.heap.size + 1, 3, none⟩) (by show _ ≤ w3.heap.size + 1; omega) _⟩
        case rest =>
          as_aux_lemma =>
            obtain ⟨A3, C3, HXD7, HO7, HI7, HB7⟩ := hcut
            generalize wc = W7 at *
            clear HXA6 HXD6 HO6 HB6 hxa6
            obtain ⟨W8, hW8⟩ : ∃ U, W7.alloc (.cells #[.int .i64 (x.max + 1), .slice a1 x.ins.length c1, .slice a2 x.lats.length c2, .slice A3 (x.outs.length + 1) C3, .slice a4 x.bads.length c4, .slice a5 x.invs.length c5, .slice A6 (x.ands.length + 1) C6, .slice a7 x.names.length c7] 27) = U := ⟨_, rfl⟩
            have hb8 : Below W7.heap.size W7 W8 := by rw [← hW8]; exact (Below.refl _ _).alloc (Nat.le_refl _) _
            have hxf : BoxN W7.heap.size [.int .i64 (x.max + 1), .slice a1 x.ins.length c1, .slice a2 x.lats.length c2, .slice A3 (x.outs.length + 1) C3, .slice a4 x.bads.length c4, .slice a5 x.invs.length c5, .slice A6 (x.ands.length + 1) C6, .slice a7 x.names.length c7] W8 := by rw [← hW8]; exact BoxN.new W7 _ _
            have HXF := Lib.hid hxf
            have HXD8 := Lib.hid (HXD7.out.next hb8 HXD7.out.lt)
            have HO8 := Lib.hid (own_next HO7.out hb8)
            have HI8 := Lib.hid (own_next HI7.out hb8)
            have HB8 := Lib.hid (HB7.out.trans (hb8.mono HB7.out.size))
            have HLT7 : Hid (w3.heap.size + 1 < W7.heap.size) := HXD7.out.lt
            obtain ⟨m0, m1, m2, m3, m4, m5, m6, m7⟩ := box8S HXD7.out
            clear hb8 hxf
            go_upto_region 11 with fail
            try rw [hW8]
            clear hW8 m0 m1 m2 m3 m4 m5 m6 m7
            go_cut [] from 76 to 86 (fun wx => ∃ (A5 : Option Addr) (C5 : Nat), Hid (BoxN (w3.heap.size + 1) [.int .i64 (x.max + 1), .slice a1 x.ins.length c1, .slice a2 x.lats.length c2, .slice A3 (x.outs.length + 1) C3, .slice a4 x.bads.length c4, .slice a5 x.invs.length c5, .slice A6 (x.ands.length + 1) C6, .slice a7 x.names.length c7] wx) ∧ Hid (BoxN W7.heap.size [.int .i64 (x.max + 1), .slice a1 x.ins.length c1, .slice a2 x.lats.length c2, .slice A5 (x.outs.length + 1) C5, .slice a4 x.bads.length c4, .slice a5 x.invs.length c5, .slice A6 (x.ands.length + 1) C6, .slice a7 x.names.length c7] wx) ∧ Hid (wx.ownsRow (w3.heap.size + 2) 43 3 (.slice A6 (x.ands.length + 1) C6) (x.ands.length + 1) (tris (x.ands ++ [(2 * (x.max + 1), t2, t1)])).flatten) ∧ Hid (wx.ownsRow (w3.heap.size + 2) 3 1 (.slice A3 (x.outs.length + 1) C3) (x.outs.length + 1) (ints (x.outs ++ [t0]))) ∧ Hid (wx.ownsRow (W7.heap.size + 1) 3 1 (.slice A5 (x.outs.length + 1) C5) (x.outs.length + 1) (ints (x.outs ++ [2 * (x.max + 1)]))) ∧ Hid (Below w3.heap.size w3 wx))
            case first =>
              as_aux_lemma =>
                have hwr : IntKind.i64.wrap (2 * (x.max + 1)) = 2 * (x.max + 1) := IntWalk.i64_in _ (by omega)
                have hS11 : ∀ V : World, Below W8.heap.size W8 V → V.cell? ⟨W.heap.size, 3, none⟩ = some (.slice a3 x.outs.length c3) ∧ V.cell? ⟨w3.heap.size + 1, 0, none⟩ = some (.int .i64 (x.max + 1)) := fun V hV =>
                  ⟨(HC3.out.next (HB8.out.trans (hV.mono HB8.out.size)) (Nat.le_refl _)).k3, (HXD8.out.next hV HXD8.out.lt).at' 0 _ rfl⟩
                have hB0 : Below W8.heap.size W8 W8.drew := (Below.refl _ _).drew
                have hS0 := hS11 _ hB0
                refine HeldTo.region (fun U : World => U.cell? ⟨W.heap.size, 3, none⟩ = some (.slice a3 x.outs.length c3) ∧ U.cell? ⟨w3.heap.size + 1, 0, none⟩ = some (.int .i64 (x.max + 1))) 10 (by kernel_rfl) ?_
                (refine HeldTo.plain (i := 1) (oi := _) (d := some 77) (v := ?_) rfl rfl (by kernel_rfl) (by kernel_rfl) (by kernel_rfl) (by kernel_rfl) (fun _ _ _ h => h) (Or.inl ⟨by rfl, ?_⟩) (fun _ => hS0) ?_; rotate_left; (focus (intro w hSw; clear hSw; go_simp; (try with_reducible rfl); done)); (try simp only [Act.put, List.setIfInBounds_toArray, List.set_cons_zero, List.set_cons_succ]))
                (refine HeldTo.take (i := 2) (oi := _) (d := some 78) (v := ?_) rfl rfl (by kernel_rfl) (by kernel_rfl) (by kernel_rfl) (by kernel_rfl) (by kernel_rfl) (by kernel_rfl) (fun _ _ _ h => h) (Or.inl ⟨by rfl, ?_⟩) hS0 ?_; rotate_left; (focus (intro w hSw; (try dsimp only at hSw); go_simp; (try with_reducible rfl); done)); (try simp only [Act.put, List.setIfInBounds_toArray, List.set_cons_zero, List.set_cons_succ]))
                (refine HeldTo.plain (i := 4) (oi := _) (d := some 80) (v := ?_) rfl rfl (by kernel_rfl) (by kernel_rfl) (by kernel_rfl) (by kernel_rfl) (fun _ _ _ h => h) (Or.inl ⟨by rfl, ?_⟩) (fun _ => hS0) ?_; rotate_left; (focus (intro w hSw; clear hSw; go_simp; (try with_reducible rfl); done)); (try simp only [Act.put, List.setIfInBounds_toArray, List.set_cons_zero, List.set_cons_succ]))
                (refine HeldTo.take (i := 5) (oi := _) (d := some 81) (v := ?_) rfl rfl (by kernel_rfl) (by kernel_rfl) (by kernel_rfl) (by kernel_rfl) (by kernel_rfl) (by kernel_rfl) (fun _ _ _ h => h) (Or.inl ⟨by rfl, ?_⟩) hS0 ?_; rotate_left; (focus (intro w hSw; (try dsimp only at hSw); go_simp; (try with_reducible rfl); done)); (try simp only [Act.put, List.setIfInBounds_toArray, List.set_cons_zero, List.set_cons_succ]))
                (refine HeldTo.plain (i := 6) (oi := _) (d := some 82) (v := ?_) rfl rfl (by kernel_rfl) (by kernel_rfl) (by kernel_rfl) (by kernel_rfl) (fun _ _ _ h => h) (Or.inl ⟨by rfl, ?_⟩) (fun _ => hS0) ?_; rotate_left; (focus (intro w hSw; clear hSw; go_simp; (try with_reducible rfl); done)); (try simp only [Act.put, List.setIfInBounds_toArray, List.set_cons_zero, List.set_cons_succ]))
                obtain ⟨⟨A1, C1, x2, r1, X1, A2, C2, x4, r2, X2⟩, ⟨B1, D1, y2, s1, Y1, B2, D2, y4, s2, Y2⟩, ⟨E1, F1, z2, q1, Z1, E2, F2, z4, q2, Z2⟩⟩ := App2.app2 (P := Try.prog) (t := 22) 22 (by decide : 0 < 1) info_intS Try.underlying22 rfl W8.drew a3 x.outs.length c3 ((ints x.outs).map fun v => [v]) (App2.sl_t1 (HI3.out.next (HB8.out.trans (hB0.mono HB8.out.size))).outs) (by intro r hr; obtain ⟨v, _, rfl⟩ := List.mem_map.1 hr; rfl) (by rw [App2.flat1]; exact Base.ints_one _) [.int .i64 (2 * (x.max + 1))] rfl (by intro u hu; rw [List.mem_singleton.1 hu]; rfl) (by have := HFW.out; omega) (by have := HFW.out; omega)
                skip
                have bz1 : Below W8.heap.size W8 (W8.drew.alloc (.cells #[] 3)) := hB0.alloc hB0.size _
                have bz2 : Below W8.heap.size W8 (W8.drew.alloc (.cells #[.int .i64 (2 * (x.max + 1))] 3)) := hB0.alloc hB0.size _
                have bz3 : Below W8.heap.size W8 ((W8.drew.alloc (.cells #[] 3)).alloc (.cells #[.int .i64 (2 * (x.max + 1))] 3)) := bz1.alloc bz1.size _
                have bz4 : Below W8.heap.size W8 ((W8.drew.alloc (.cells #[.int .i64 (2 * (x.max + 1))] 3)).alloc (.cells #[] 3)) := bz2.alloc bz2.size _
                have bx2 : Below W8.heap.size W8 x2 := hB0.trans (X1.mono hB0.size)
                have bx3 : Below W8.heap.size W8 (x2.alloc (.cells #[.int .i64 (2 * (x.max + 1))] 3)) := bx2.alloc bx2.size _
                have bx4 : Below W8.heap.size W8 x4 := hB0.trans (X2.2.mono hB0.size)
                have by2 : Below W8.heap.size W8 y2 := hB0.trans (Y1.mono hB0.size)
                have by4 : Below W8.heap.size W8 y4 := hB0.trans (Y2.2.mono hB0.size)
                have bq2 : Below W8.heap.size W8 z2 := hB0.trans (Z1.mono hB0.size)
                have bq4 : Below W8.heap.size W8 z4 := hB0.trans (Z2.2.mono hB0.size)
                refine HeldTo.two (i := 0) (j := 7) (by kernel_rfl) ?_ ?_
                · skip
                  refine HeldTo.opVal (i := 0) (oi := _) (d := some 76) (v := .slice (some ⟨W8.drew.heap.size, 0, none⟩) 0 0) (w2 := W8.drew.alloc (.cells #[] 3)) rfl rfl (by rfl) (by go_simp; done) (hS11 _ bz1) ?_
                  (try simp only [Act.put, List.setIfInBounds_toArray, List.set_cons_zero, List.set_cons_succ])
                  refine HeldTo.two (i := 3) (j := 7) (by kernel_rfl) ?_ ?_
                  · skip
                    refine HeldTo.opVal (i := 3) (oi := _) (d := some 79) (v := .slice A1 x.outs.length C1) (w2 := x2) rfl rfl (by rfl) (App2.exec_append rfl rfl rfl r1) (hS11 _ bx2) ?_
                    (try simp only [Act.put, List.setIfInBounds_toArray, List.set_cons_zero, List.set_cons_succ])
                    refine HeldTo.one (i := 7) (by kernel_rfl) ?_
                    refine HeldTo.opVal (i := 7) (oi := _) (d := some 83) (v := .slice (some ⟨x2.heap.size, 0, none⟩) 1 1) (w2 := x2.alloc (.cells #[.int .i64 (2 * (x.max + 1))] 3)) rfl rfl (by rfl) (by go_simp; done) (hS11 _ bx3) ?_
                    (try simp only [Act.put, List.setIfInBounds_toArray, List.set_cons_zero, List.set_cons_succ])
                    refine HeldTo.one (i := 8) (by kernel_rfl) ?_
                    refine HeldTo.opVal (i := 8) (oi := _) (d := some 84) (v := .slice A2 (x.outs.length + 1) C2) (w2 := x4) rfl rfl (by rfl) (App2.exec_append rfl rfl rfl r2) (hS11 _ bx4) ?_
                    (try simp only [Act.put, List.setIfInBounds_toArray, List.set_cons_zero, List.set_cons_succ])
                    have hbx := HXF.out.next bx4 HXF.out.lt
                    have g0 := hbx.at' 3 _ rfl
                    have z0 := hbx.fz 3
                    (refine HeldTo.plain (i := 9) (oi := _) (d := some 85) (v := ?_) rfl rfl (by kernel_rfl) (by kernel_rfl) (by kernel_rfl) (by kernel_rfl) (fun _ _ _ h => h) (Or.inl ⟨by rfl, ?_⟩) (fun _ => (hS11 _ bx4)) ?_; rotate_left; (focus (intro w hSw; clear hSw; go_simp; (try with_reducible rfl); done)); (try simp only [Act.put, List.setIfInBounds_toArray, List.set_cons_zero, List.set_cons_succ]))
                    refine HeldTo.store (i := 10) (oi := _) (d := none) (w2 := x4.setCell ⟨W7.heap.size, 3, none⟩ (.slice A2 (x.outs.length + 1) C2)) rfl rfl (by kernel_rfl) (by kernel_rfl) (by rfl) (by go_simp; done) ?_
                    (try simp only [Act.put, List.setIfInBounds_toArray, List.set_cons_zero, List.set_cons_succ])
                    refine HeldTo.done (by kernel_rfl) ?_ _
                    (try go_wp2_with fail)
                    go_meet
                    have h2 : W7.heap.size + 1 ≤ W8.heap.size := HXF.out.lt
                    have h3 := HLT7.out
                    exact ⟨A2, C2, (HXD8.out.next bx4 HXD8.out.lt).other (a := ⟨W7.heap.size, 3, none⟩) (by show W7.heap.size ≠ _; omega) _, hbx.set 3 _, ownsRow_setCell_other (own_next HO8.out bx4) (fun e => own_not HO7.out (Nat.le_refl _) (by first | exact e | exact e.symm)) _, ownsRow_setCell_other (own_next HI8.out bx4) (fun e => own_not HI7.out (Nat.le_refl _) (by first | exact e | exact e.symm)) _, ownsRow_setCell_below (own_mono (by have h := X2.1; rw [ints_snoc1] at h; exact h) h2) (a := ⟨W7.heap.size, 3, none⟩) (Nat.lt_succ_self _) _, (HB8.out.trans (bx4.mono HB8.out.size)).setCell (p := ⟨W7.heap.size, 3, none⟩) (by show _ ≤ W7.heap.size; omega) _⟩
                  · skip
                    refine HeldTo.opVal (i := 7) (oi := _) (d := some 83) (v := .slice (some ⟨W8.drew.heap.size + 1, 0, none⟩) 1 1) (w2 := (W8.drew.alloc (.cells #[] 3)).alloc (.cells #[.int .i64 (2 * (x.max + 1))] 3)) rfl rfl (by rfl) (by go_simp; done) (hS11 _ bz3) ?_
                    (try simp only [Act.put, List.setIfInBounds_toArray, List.set_cons_zero, List.set_cons_succ])
                    refine HeldTo.one (i := 3) (by kernel_rfl) ?_
                    refine HeldTo.opVal (i := 3) (oi := _) (d := some 79) (v := .slice B1 x.outs.length D1) (w2 := y2) rfl rfl (by rfl) (App2.exec_append rfl rfl rfl s1) (hS11 _ by2) ?_
                    (try simp only [Act.put, List.setIfInBounds_toArray, List.set_cons_zero, List.set_cons_succ])
                    refine HeldTo.one (i := 8) (by kernel_rfl) ?_
                    refine HeldTo.opVal (i := 8) (oi := _) (d := some 84) (v := .slice B2 (x.outs.length + 1) D2) (w2 := y4) rfl rfl (by rfl) (App2.exec_append rfl rfl rfl s2) (hS11 _ by4) ?_
                    (try simp only [Act.put, List.setIfInBounds_toArray, List.set_cons_zero, List.set_cons_succ])
                    have hbx := HXF.out.next by4 HXF.out.lt
                    have g0 := hbx.at' 3 _ rfl
                    have z0 := hbx.fz 3
                    (refine HeldTo.plain (i := 9) (oi := _) (d := some 85) (v := ?_) rfl rfl (by kernel_rfl) (by kernel_rfl) (by kernel_rfl) (by kernel_rfl) (fun _ _ _ h => h) (Or.inl ⟨by rfl, ?_⟩) (fun _ => (hS11 _ by4)) ?_; rotate_left; (focus (intro w hSw; clear hSw; go_simp; (try with_reducible rfl); done)); (try simp only [Act.put, List.setIfInBounds_toArray, List.set_cons_zero, List.set_cons_succ]))
                    refine HeldTo.store (i := 10) (oi := _) (d := none) (w2 := y4.setCell ⟨W7.heap.size, 3, none⟩ (.slice B2 (x.outs.length + 1) D2)) rfl rfl (by kernel_rfl) (by kernel_rfl) (by rfl) (by go_simp; done) ?_
                    (try simp only [Act.put, List.setIfInBounds_toArray, List.set_cons_zero, List.set_cons_succ])
                    refine HeldTo.done (by kernel_rfl) ?_ _
                    (try go_wp2_with fail)
                    go_meet
                    have h2 : W7.heap.size + 1 ≤ W8.heap.size := HXF.out.lt
                    have h3 := HLT7.out
                    exact ⟨B2, D2, (HXD8.out.next by4 HXD8.out.lt).other (a := ⟨W7.heap.size, 3, none⟩) (by show W7.heap.size ≠ _; omega) _, hbx.set 3 _, ownsRow_setCell_other (own_next HO8.out by4) (fun e => own_not HO7.out (Nat.le_refl _) (by first | exact e | exact e.symm)) _, ownsRow_setCell_other (own_next HI8.out by4) (fun e => own_not HI7.out (Nat.le_refl _) (by first | exact e | exact e.symm)) _, ownsRow_setCell_below (own_mono (by have h := Y2.1; rw [ints_snoc1] at h; exact h) h2) (a := ⟨W7.heap.size, 3, none⟩) (Nat.lt_succ_self _) _, (HB8.out.trans (by4.mono HB8.out.size)).setCell (p := ⟨W7.heap.size, 3, none⟩) (by show _ ≤ W7.heap.size; omega) _⟩
                · skip
                  refine HeldTo.opVal (i := 7) (oi := _) (d := some 83) (v := .slice (some ⟨W8.drew.heap.size, 0, none⟩) 1 1) (w2 := W8.drew.alloc (.cells #[.int .i64 (2 * (x.max + 1))] 3)) rfl rfl (by rfl) (by go_simp; done) (hS11 _ bz2) ?_
                  (try simp only [Act.put, List.setIfInBounds_toArray, List.set_cons_zero, List.set_cons_succ])
                  refine HeldTo.one (i := 0) (by kernel_rfl) ?_
                  refine HeldTo.opVal (i := 0) (oi := _) (d := some 76) (v := .slice (some ⟨W8.drew.heap.size + 1, 0, none⟩) 0 0) (w2 := (W8.drew.alloc (.cells #[.int .i64 (2 * (x.max + 1))] 3)).alloc (.cells #[] 3)) rfl rfl (by rfl) (by go_simp; done) (hS11 _ bz4) ?_
                  (try simp only [Act.put, List.setIfInBounds_toArray, List.set_cons_zero, List.set_cons_succ])
                  refine HeldTo.one (i := 3) (by kernel_rfl) ?_
                  refine HeldTo.opVal (i := 3) (oi := _) (d := some 79) (v := .slice E1 x.outs.length F1) (w2 := z2) rfl rfl (by rfl) (App2.exec_append rfl rfl rfl q1) (hS11 _ bq2) ?_
                  (try simp only [Act.put, List.setIfInBounds_toArray, List.set_cons_zero, List.set_cons_succ])
                  refine HeldTo.one (i := 8) (by kernel_rfl) ?_
                  refine HeldTo.opVal (i := 8) (oi := _) (d := some 84) (v := .slice E2 (x.outs.length + 1) F2) (w2 := z4) rfl rfl (by rfl) (App2.exec_append rfl rfl rfl q2) (hS11 _ bq4) ?_
                  (try simp only [Act.put, List.setIfInBounds_toArray, List.set_cons_zero, List.set_cons_succ])
                  have hbx := HXF.out.next bq4 HXF.out.lt
                  have g0 := hbx.at' 3 _ rfl
                  have z0 := hbx.fz 3
                  (refine HeldTo.plain (i := 9) (oi := _) (d := some 85) (v := ?_) rfl rfl (by kernel_rfl) (by kernel_rfl) (by kernel_rfl) (by kernel_rfl) (fun _ _ _ h => h) (Or.inl ⟨by rfl, ?_⟩) (fun _ => (hS11 _ bq4)) ?_; rotate_left; (focus (intro w hSw; clear hSw; go_simp; (try with_reducible rfl); done)); (try simp only [Act.put, List.setIfInBounds_toArray, List.set_cons_zero, List.set_cons_succ]))
                  refine HeldTo.store (i := 10) (oi := _) (d := none) (w2 := z4.setCell ⟨W7.heap.size, 3, none⟩ (.slice E2 (x.outs.length + 1) F2)) rfl rfl (by kernel_rfl) (by kernel_rfl) (by rfl) (by go_simp; done) ?_
                  (try simp only [Act.put, List.setIfInBounds_toArray, List.set_cons_zero, List.set_cons_succ])
                  refine HeldTo.done (by kernel_rfl) ?_ _
                  (try go_wp2_with fail)
                  go_meet
                  have h2 : W7.heap.size + 1 ≤ W8.heap.size := HXF.out.lt
                  have h3 := HLT7.out
                  exact ⟨E2, F2, (HXD8.out.next bq4 HXD8.out.lt).other (a := ⟨W7.heap.size, 3, none⟩) (by show W7.heap.size ≠ _; omega) _, hbx.set 3 _, ownsRow_setCell_other (own_next HO8.out bq4) (fun e => own_not HO7.out (Nat.le_refl _) (by first | exact e | exact e.symm)) _, ownsRow_setCell_other (own_next HI8.out bq4) (fun e => own_not HI7.out (Nat.le_refl _) (by first | exact e | exact e.symm)) _, ownsRow_setCell_below (own_mono (by have h := Z2.1; rw [ints_snoc1] at h; exact h) h2) (a := ⟨W7.heap.size, 3, none⟩) (Nat.lt_succ_self _) _, (HB8.out.trans (bq4.mono HB8.out.size)).setCell (p := ⟨W7.heap.size, 3, none⟩) (by show _ ≤ W7.heap.size; omega) _⟩
            case rest =>
              as_aux_lemma =>
                obtain ⟨A5, C5, HXD9, HXF9, HO9, HI9, HJ9, HB9⟩ := hcut
                generalize wc = W9 at *
                clear HXF HXD8 HO8 HI8 HB8 HXD7 HO7 HI7 HB7
                have hfw := HFW.out
                have HIX := Lib.hid (HI3.out.next HB9.out)
                have HLD : Hid (w3.heap.size + 1 < W9.heap.size) := HXD9.out.lt
                have HLF : Hid (W7.heap.size < W9.heap.size) := HXF9.out.lt
                obtain ⟨m0, m1, m2, m3, m4, m5, m6, m7⟩ := box8S HXD9.out
                clear HC3 HI3
                by_cases h64 : x.outs.length + 1 ≤ 64
                · have hok1 := more_ok HOK.out HTM.out HMX.out h64 (o := t0) (Or.inl rfl)
                  have hok2 := more_ok HOK.out HTM.out HMX.out h64 (o := 2 * (x.max + 1)) (Or.inr rfl)
                  have htw : hashed (more x (t0, t1, t2) t0) = hashed (more x (t0, t1, t2) (2 * (x.max + 1))) := twice HOK.out HTM.out HMX.out h64
                  have hin1 : InCirc W9 (more x (t0, t1, t2) t0) ⟨a1, c1, a2, c2, A3, C3, a4, c4, a5, c5, A6, C6, a7, c7⟩ := more_in HIX.out HI9.out HO9.out
                  have hin2 : InCirc W9 (more x (t0, t1, t2) (2 * (x.max + 1))) ⟨a1, c1, a2, c2, A5, C5, a4, c4, a5, c5, A6, C6, a7, c7⟩ := more_in HIX.out HJ9.out HO9.out
                  have hwf1 := ok_wf hok1 HWF.out.names
                  have hwf2 := ok_wf hok2 HWF.out.names
                  have hft1 := more_fits HFIT.out hok1 (by have := HSZ.out; omega)
                  have hft2 := more_fits HFIT.out hok2 (by have := HSZ.out; omega)
                  have hlen : (hashed (more x (t0, t1, t2) t0)).outs.length = x.outs.length + 1 := by
                    show ((x.outs ++ [t0]).map _).length = _
                    simp
                  have hh1 := hash_ok W9 _ _ hin1 hwf1 hft1 hok1
                  have hh2 := fun (U : World) (hU : Below W9.heap.size W9 U) => hash_ok U _ _ (hin2.next hU) hwf2 hft2 hok2
                  rw [← htw] at hh2
                  generalize hashed (more x (t0, t1, t2) t0) = y at *
                  simp only [cells, more, List.length_append, List.length_singleton] at hh1 hh2
                  have HH1 := Lib.hid hh1
                  have HH2 := Lib.hid hh2
                  have HLY := Lib.hid hlen
                  clear hok1 hok2 htw hin1 hin2 hwf1 hwf2 hft1 hft2 hh1 hh2 hlen
                  go_wp2_with fail
                  with_reducible refine HH1.out.mono ?_
                  rintro e w10 ⟨p', rfl, hin10, hb10⟩
                  obtain ⟨W11, hW11⟩ : ∃ U, w10.alloc (.cells (cells y p') 27) = U := ⟨_, rfl⟩
                  obtain ⟨hb11, hc11⟩ := cbox_new w10 y p' W11 hW11
                  have hb911 : Below W9.heap.size W9 W11 := hb10.trans (hb11.mono hb10.size)
                  have HH3 := Lib.hid (HH2.out W11 hb911)
                  have hxf11 := HXF9.out.next hb911 HLF.out
                  have HXD11 := Lib.hid (HXD9.out.next hb911 HLD.out)
                  have HB911 := Lib.hid hb911
                  have HC11 := Lib.hid hc11
                  have HI11 := Lib.hid (hin10.next hb11)
                  obtain ⟨n0, n1, n2, n3, n4, n5, n6, n7⟩ := box8S hxf11
                  have HSZ8 := Lib.hid (fun U => size_any U y p')
                  obtain ⟨e1, f1, e2, f2, e3, f3, e4, f4, e5, f5, e6, f6, e7, f7⟩ := p'
                  simp only [cells] at hW11 HSZ8 ⊢
                  have HLF11 : Hid (W7.heap.size < W11.heap.size) := hxf11.lt
                  clear hin10 hb10 hb11 hc11 hb911 hxf11 m0 m1 m2 m3 m4 m5 m6 m7 HH1 HH2
                  go_wp2_with fail
                  with_reducible refine HH3.out.mono ?_
                  rintro e w12 ⟨q', rfl, hin12, hb12⟩
                  obtain ⟨W13, hW13⟩ : ∃ U, w12.alloc (.cells (cells y q') 27) = U := ⟨_, rfl⟩
                  obtain ⟨hb13, hc13⟩ := cbox_new w12 y q' W13 hW13
                  have hb1113 : Below W11.heap.size W11 W13 := hb12.trans (hb13.mono hb12.size)
                  have hxd := HXD11.out.next hb1113 HXD11.out.lt
                  obtain ⟨m0, m1, m2, m3, m4, m5, m6, m7⟩ := box8S hxd
                  have hk : x.outs.length < y.outs.length := by have := HLY.out; omega
                  have hc11' := HC11.out.next hb1113 (Nat.le_refl _)
                  obtain ⟨g8, o8, hx8, ha8, hs8, hv8⟩ := (HI11.out.next hb1113).outs.int hk
                  obtain ⟨g9, o9, hx9, ha9, hs9, hv9⟩ := (hin12.next hb13).outs.int hk
                  have hcp8 := (HI11.out.next hb1113).outs.cap
                  have hcp9 := (hin12.next hb13).outs.cap
                  have hbg8 := (HI11.out.next hb1113).outs.big
                  have hbg9 := (hin12.next hb13).outs.big
                  generalize y.outs[x.outs.length] = u at *
                  have HC13 := Lib.hid hc13
                  have HC11' := Lib.hid hc11'
                  have HB13 := Lib.hid (HB911.out.trans (hb1113.mono HB911.out.size))
                  have HSZ9 := Lib.hid (fun U => size_any U y q')
                  obtain ⟨i1, j1, i2, j2, i3, j3, i4, j4, i5, j5, i6, j6, i7, j7⟩ := q'
                  simp only [cells] at hW13 HSZ9 ha8 ha9 hcp8 hcp9 hbg8 hbg9 ⊢
                  subst ha8
                  subst ha9
                  clear hin12 hb12 hb13 hc13 hc11' hb1113 hxd n0 n1 n2 n3 n4 n5 n6 n7 hk hx8 hx9
                  clear m0 m1 m2 m4 m5 m6 m7
                  go_wp2_with fail
                  as_aux_lemma =>
                    have hf0 : LH W13 w10.heap.size w12.heap.size y ⟨e1, f1, e2, f2, some ⟨g8, o8, none⟩, f3, e4, f4, e5, f5, e6, f6, e7, f7⟩ ⟨i1, j1, i2, j2, some ⟨g9, o9, none⟩, j3, i4, j4, i5, j5, i6, j6, i7, j7⟩ ⟨g8, o8 + x.outs.length, none⟩ ⟨g9, o9 + x.outs.length, none⟩ u W13.drew := (⟨Below.refl _ _, HC11'.out, HC13.out, hs8, hs9, hv8, hv9⟩ : LH W13 w10.heap.size w12.heap.size y ⟨e1, f1, e2, f2, some ⟨g8, o8, none⟩, f3, e4, f4, e5, f5, e6, f6, e7, f7⟩ ⟨i1, j1, i2, j2, some ⟨g9, o9, none⟩, j3, i4, j4, i5, j5, i6, j6, i7, j7⟩ ⟨g8, o8 + x.outs.length, none⟩ ⟨g9, o9 + x.outs.length, none⟩ u W13).more (Below.refl _ _).drew
                    have HF := lh_all hf0
                    have C8' := call_keep (S := fun U => LAll W13 w10.heap.size w12.heap.size y ⟨e1, f1, e2, f2, some ⟨g8, o8, none⟩, f3, e4, f4, e5, f5, e6, f6, e7, f7⟩ ⟨i1, j1, i2, j2, some ⟨g9, o9, none⟩, j3, i4, j4, i5, j5, i6, j6, i7, j7⟩ ⟨g8, o8 + x.outs.length, none⟩ ⟨g9, o9 + x.outs.length, none⟩ u U) (fun U hU => (num_any U 0).mono fun e U' h => ⟨h.1, h.2 ▸ Below.refl _ _⟩) (fun U U' h hb => lh_all (h.1.more hb))
                    have C8 := Lib.hid C8'
                    clear C8'
                    have C13' := call_keep (S := fun U => LAll W13 w10.heap.size w12.heap.size y ⟨e1, f1, e2, f2, some ⟨g8, o8, none⟩, f3, e4, f4, e5, f5, e6, f6, e7, f7⟩ ⟨i1, j1, i2, j2, some ⟨g9, o9, none⟩, j3, i4, j4, i5, j5, i6, j6, i7, j7⟩ ⟨g8, o8 + x.outs.length, none⟩ ⟨g9, o9 + x.outs.length, none⟩ u U) (fun U hU => HSZ8.out U) (fun U U' h hb => lh_all (h.1.more hb))
                    have C13 := Lib.hid C13'
                    clear C13'
                    have C13x' := call_keep (S := fun U => LAll W13 w10.heap.size w12.heap.size y ⟨e1, f1, e2, f2, some ⟨g8, o8, none⟩, f3, e4, f4, e5, f5, e6, f6, e7, f7⟩ ⟨i1, j1, i2, j2, some ⟨g9, o9, none⟩, j3, i4, j4, i5, j5, i6, j6, i7, j7⟩ ⟨g8, o8 + x.outs.length, none⟩ ⟨g9, o9 + x.outs.length, none⟩ u U) (fun U hU => HSZ9.out U) (fun U U' h hb => lh_all (h.1.more hb))
                    have C13x := Lib.hid C13x'
                    clear C13x'
                    have hk2 : x.outs.length < y.outs.length := by have := HLY.out; omega
                    clear hf0 hv8 hv9 m3
                    refine Lex.region (fun w' => LAll W13 w10.heap.size w12.heap.size y ⟨e1, f1, e2, f2, some ⟨g8, o8, none⟩, f3, e4, f4, e5, f5, e6, f6, e7, f7⟩ ⟨i1, j1, i2, j2, some ⟨g9, o9, none⟩, j3, i4, j4, i5, j5, i6, j6, i7, j7⟩ ⟨g8, o8 + x.outs.length, none⟩ ⟨g9, o9 + x.outs.length, none⟩ u w') (by kernel_rfl) (by kernel_rfl) HF ?_
                    (refine Lex.step_val (v := ?_) ?_ (fun w' hSw => ?_) ?_; rotate_left; (focus rfl); (focus (clear hSw; go_simp; (try with_reducible rfl); done)); (try simp only [Act.put, List.setIfInBounds_toArray, List.set_cons_zero, List.set_cons_succ]))
                    (refine Lex.step_call (v := ?_) (f := ?_) (args := ?_) ?_ (fun w' hSw => ?_) ?_ ?_; rotate_left 3; (focus rfl); (focus (clear hSw; go_simp; (refine And.intro ?_ ?_ <;> with_reducible rfl); done)); (focus (first | with_reducible exact C8.out | with_reducible exact C13.out | with_reducible exact C13x.out)); (try simp only [Act.put, List.setIfInBounds_toArray, List.set_cons_zero, List.set_cons_succ]))
                    (refine Lex.step_val (v := ?_) ?_ (fun w' hSw => ?_) ?_; rotate_left; (focus rfl); (focus (clear hSw; go_simp; (try with_reducible rfl); done)); (try simp only [Act.put, List.setIfInBounds_toArray, List.set_cons_zero, List.set_cons_succ]))
                    (refine Lex.step_val (v := ?_) ?_ (fun w' hSw => ?_) ?_; rotate_left; (focus rfl); (focus (clear hSw; go_simp; (try with_reducible rfl); done)); (try simp only [Act.put, List.setIfInBounds_toArray, List.set_cons_zero, List.set_cons_succ]))
                    (refine Lex.step_val (v := ?_) ?_ (fun w' hSw => ?_) ?_; rotate_left; (focus (go_simp; done)); (focus (clear hSw; go_simp; (try with_reducible rfl); done)); (try simp only [Act.put, List.setIfInBounds_toArray, List.set_cons_zero, List.set_cons_succ]))
                    (refine Lex.step_call (v := ?_) (f := ?_) (args := ?_) ?_ (fun w' hSw => ?_) ?_ ?_; rotate_left 3; (focus (go_simp; done)); (focus (clear hSw; go_simp; (refine And.intro ?_ ?_ <;> with_reducible rfl); done)); (focus (first | with_reducible exact C8.out | with_reducible exact C13.out | with_reducible exact C13x.out)); (try simp only [Act.put, List.setIfInBounds_toArray, List.set_cons_zero, List.set_cons_succ]))
                    (refine Lex.step_val (v := ?_) ?_ (fun w' hSw => ?_) ?_; rotate_left; (focus (go_simp; done)); (focus (clear hSw; go_simp; (try with_reducible rfl); done)); (try simp only [Act.put, List.setIfInBounds_toArray, List.set_cons_zero, List.set_cons_succ]))
                    (refine Lex.step_val (v := ?_) ?_ (fun w' hSw => ?_) ?_; rotate_left; (focus rfl); (focus (clear hSw; go_simp; (try with_reducible rfl); done)); (try simp only [Act.put, List.setIfInBounds_toArray, List.set_cons_zero, List.set_cons_succ]))
                    (refine Lex.step_val (v := ?_) ?_ (fun w' hSw => ?_) ?_; rotate_left; (focus rfl); (focus (clear hSw; go_simp; (try with_reducible rfl); done)); (try simp only [Act.put, List.setIfInBounds_toArray, List.set_cons_zero, List.set_cons_succ]))
                    (refine Lex.step_val (v := ?_) ?_ (fun w' hSw => ?_) ?_; rotate_left; (focus (go_simp; done)); (focus (clear hSw; go_simp; (try with_reducible rfl); done)); (try simp only [Act.put, List.setIfInBounds_toArray, List.set_cons_zero, List.set_cons_succ]))
                    (refine Lex.step_val (v := ?_) ?_ (fun w' hSw => ?_) ?_; rotate_left; (focus (go_simp; done)); (focus ((try dsimp only at hSw); go_simp; (try with_reducible rfl); done)); (try simp only [Act.put, List.setIfInBounds_toArray, List.set_cons_zero, List.set_cons_succ]))
                    (refine Lex.step_val (v := ?_) ?_ (fun w' hSw => ?_) ?_; rotate_left; (focus (go_simp; done)); (focus (clear hSw; go_simp; (try with_reducible rfl); done)); (try simp only [Act.put, List.setIfInBounds_toArray, List.set_cons_zero, List.set_cons_succ]))
                    (refine Lex.step_val (v := ?_) ?_ (fun w' hSw => ?_) ?_; rotate_left; (focus (go_simp; done)); (focus (clear hSw; go_simp; (try with_reducible rfl); done)); (try simp only [Act.put, List.setIfInBounds_toArray, List.set_cons_zero, List.set_cons_succ]))
                    (refine Lex.step_val (v := ?_) ?_ (fun w' hSw => ?_) ?_; rotate_left; (focus (go_simp; done)); (focus ((try dsimp only at hSw); go_simp; (try with_reducible rfl); done)); (try simp only [Act.put, List.setIfInBounds_toArray, List.set_cons_zero, List.set_cons_succ]))
                    (refine Lex.step_val (v := ?_) ?_ (fun w' hSw => ?_) ?_; rotate_left; (focus (go_simp; done)); (focus (clear hSw; go_simp; (try with_reducible rfl); done)); (try simp only [Act.put, List.setIfInBounds_toArray, List.set_cons_zero, List.set_cons_succ]))
                    (refine Lex.step_val (v := ?_) ?_ (fun w' hSw => ?_) ?_; rotate_left; (focus (go_simp; done)); (focus ((try dsimp only at hSw); go_simp; (try with_reducible rfl); done)); (try simp only [Act.put, List.setIfInBounds_toArray, List.set_cons_zero, List.set_cons_succ]))
                    (refine Lex.step_val (v := ?_) ?_ (fun w' hSw => ?_) ?_; rotate_left; (focus (go_simp; done)); (focus (clear hSw; go_simp; (try with_reducible rfl); done)); (try simp only [Act.put, List.setIfInBounds_toArray, List.set_cons_zero, List.set_cons_succ]))
                    (refine Lex.step_val (v := ?_) ?_ (fun w' hSw => ?_) ?_; rotate_left; (focus (go_simp; done)); (focus (clear hSw; go_simp; (try with_reducible rfl); done)); (try simp only [Act.put, List.setIfInBounds_toArray, List.set_cons_zero, List.set_cons_succ]))
                    (refine Lex.step_val (v := ?_) ?_ (fun w' hSw => ?_) ?_; rotate_left; (focus (go_simp; done)); (focus ((try dsimp only at hSw); go_simp; (try with_reducible rfl); done)); (try simp only [Act.put, List.setIfInBounds_toArray, List.set_cons_zero, List.set_cons_succ]))
                    (refine Lex.step_val (v := ?_) ?_ (fun w' hSw => ?_) ?_; rotate_left; (focus (go_simp; done)); (focus (clear hSw; go_simp; (try with_reducible rfl); done)); (try simp only [Act.put, List.setIfInBounds_toArray, List.set_cons_zero, List.set_cons_succ]))
                    (refine Lex.step_val (v := ?_) ?_ (fun w' hSw => ?_) ?_; rotate_left; (focus rfl); (focus (clear hSw; go_simp; (try with_reducible rfl); done)); (try simp only [Act.put, List.setIfInBounds_toArray, List.set_cons_zero, List.set_cons_succ]))
                    (refine Lex.step_val (v := ?_) ?_ (fun w' hSw => ?_) ?_; rotate_left; (focus rfl); (focus (clear hSw; go_simp; (try with_reducible rfl); done)); (try simp only [Act.put, List.setIfInBounds_toArray, List.set_cons_zero, List.set_cons_succ]))
                    (refine Lex.step_val (v := ?_) ?_ (fun w' hSw => ?_) ?_; rotate_left; (focus (go_simp; done)); (focus ((try dsimp only at hSw); go_simp; (try with_reducible rfl); done)); (try simp only [Act.put, List.setIfInBounds_toArray, List.set_cons_zero, List.set_cons_succ]))
                    (refine Lex.step_call (v := ?_) (f := ?_) (args := ?_) ?_ (fun w' hSw => ?_) ?_ ?_; rotate_left 3; (focus (go_simp; done)); (focus (clear hSw; go_simp; (refine And.intro ?_ ?_ <;> with_reducible rfl); done)); (focus (first | with_reducible exact C8.out | with_reducible exact C13.out | with_reducible exact C13x.out)); (try simp only [Act.put, List.setIfInBounds_toArray, List.set_cons_zero, List.set_cons_succ]))
                    (refine Lex.step_val (v := ?_) ?_ (fun w' hSw => ?_) ?_; rotate_left; (focus (go_simp; done)); (focus ((try dsimp only at hSw); go_simp; (try with_reducible rfl); done)); (try simp only [Act.put, List.setIfInBounds_toArray, List.set_cons_zero, List.set_cons_succ]))
                    (refine Lex.step_call (v := ?_) (f := ?_) (args := ?_) ?_ (fun w' hSw => ?_) ?_ ?_; rotate_left 3; (focus (go_simp; done)); (focus (clear hSw; go_simp; (refine And.intro ?_ ?_ <;> with_reducible rfl); done)); (focus (first | with_reducible exact C8.out | with_reducible exact C13.out | with_reducible exact C13x.out)); (try simp only [Act.put, List.setIfInBounds_toArray, List.set_cons_zero, List.set_cons_succ]))
                    (refine Lex.step_val (v := ?_) ?_ (fun w' hSw => ?_) ?_; rotate_left; (focus (go_simp; done)); (focus (clear hSw; go_simp; (try with_reducible rfl); done)); (try simp only [Act.put, List.setIfInBounds_toArray, List.set_cons_zero, List.set_cons_succ]))
                    (refine Lex.step_val (v := ?_) ?_ (fun w' hSw => ?_) ?_; rotate_left; (focus rfl); (focus (clear hSw; go_simp; (try with_reducible rfl); done)); (try simp only [Act.put, List.setIfInBounds_toArray, List.set_cons_zero, List.set_cons_succ]))
                    (refine Lex.step_val (v := ?_) ?_ (fun w' hSw => ?_) ?_; rotate_left; (focus rfl); (focus (clear hSw; go_simp; (try with_reducible rfl); done)); (try simp only [Act.put, List.setIfInBounds_toArray, List.set_cons_zero, List.set_cons_succ]))
                    refine Lex.step_nil ?_
                    intro wz hz
                    go_wp2_with fail
                    go_ret
                    exact ⟨rfl, HB1.out.trans ((HB3.out.trans ((HB9.out.trans ((HB13.out.trans (hz.1.below.mono HB13.out.size)).mono HB9.out.size)).mono HB3.out.size)).mono HB1.out.size)⟩
                · go_wp2_with fail
                  go_ret
                  exact ⟨rfl, HB1.out.trans (HB3.out.trans (HB9.out.mono HB3.out.size) |>.mono HB1.out.size)⟩

theorem walk (x : Circ) (p : At) {w : World} (hin : InCirc w x p) (hw : WfC x) (hz : Open.SizedCirc x) (at0 : Int) (hat : -9223372036854775808 ≤ at0 ∧ at0 ≤ 9223372036854775807) (W : World) (hW : W = w) :
    Calls Try.prog 5 #[.agg (cells x p), .int .i64 at0] W fun e W' => e = .returned (.bool true) ∧ Below W.heap.size W W' := by
  subst hW
  have hfit : Fits x := ⟨by have := hz.ins; omega, by have := hz.lats; omega, by have := hz.outs; omega, by have := hz.bads; omega, by have := hz.invs; omega, by have := hz.ands; omega, by have := hz.names; omega⟩
  by_cases h : ¬ CheckOk x ∨ x.ands.length = 0 ∨ 1000 < x.max
  · exact walk_off x p at0 hin hw (by have := hz.ands; omega) h
  · have hok : CheckOk x := Classical.byContradiction fun hn => h (Or.inl hn)
    refine walk_on x p at0 hat.1 hat.2 hin hw hz.ands hfit hok ?_ ?_
    · exact Nat.pos_of_ne_zero fun hn => h (Or.inr (Or.inl hn))
    · exact Int.not_lt.1 fun hn => h (Or.inr (Or.inr hn))
end Go.Proofs.Ythdhlkcdbogcaaa.strashTwice
