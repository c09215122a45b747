/-
  cube.Widest of two cubes: its literals are both's.
-/
import Derived.Test.YtmfondpnphomoaaCont
import Derived.Test.YtmfondpnphomoaaSlfR
import Derived.Test.YtmfondpnphomoaaOwnP
import Derived.Test.YtmfondpnphomoaaAbsP
import Derived.Test.YtmfondpnphomoaaMix
import Derived.Shelf.SlSortCmp.NoneTotal
import Derived.Shelf.SlGeneric
import Derived.Ground.SlsfProg
namespace Go.Proofs.Ytmfondpnphomoaa
open Go.RowKit Base
set_option linter.unusedVariables false
set_option linter.unusedSimpArgs false
namespace Widest
open Go.Shelf Go.Sort

def sortLaid_ren : Go.Shelf.Ren := ⟨fun | 6 => 16 | 15 => 23 | 14 => 22 | 28 => 32 | 29 => 33 | 20 => 24 | 21 => 25 | 22 => 26 | 23 => 27 | 24 => 28 | 25 => 29 | 26 => 30 | 27 => 31 | 46 => 34 | 47 => 35 | 48 => 36 | 49 => 37 | 50 => 38 | 57 => 39 | n => n, fun | 22 => 24 | 24 => 3 | 25 => 39 | 3 => 3 | 39 => 45 | 0 => 0 | 53 => 55 | 55 => 57 | 4 => 4 | 46 => 48 | 45 => 47 | 50 => 52 | 5 => 5 | 9 => 9 | 66 => 58 | 70 => 62 | 76 => 64 | 77 => 65 | n => n, fun | n => n⟩
theorem sortLaid : Go.Proofs.SlLaysF.n6 Try.prog sortLaid_ren := {
  mixed := by kernel_rfl
  f6 := ⟨Try.f16.name, by decide, Try.func16.trans (congrArg some (by kernel_rfl))⟩
  f14 := ⟨Try.f22.name, by decide, Try.func22.trans (congrArg some (by kernel_rfl))⟩
  f15 := Try.func23.trans (congrArg some (by kernel_rfl))
  f20 := ⟨Try.f24.name, by decide, Try.func24.trans (congrArg some (by kernel_rfl))⟩
  f21 := ⟨Try.f25.name, by decide, Try.func25.trans (congrArg some (by kernel_rfl))⟩
  f22 := ⟨Try.f26.name, by decide, Try.func26.trans (congrArg some (by kernel_rfl))⟩
  f23 := ⟨Try.f27.name, by decide, Try.func27.trans (congrArg some (by kernel_rfl))⟩
  f24 := ⟨Try.f28.name, by decide, Try.func28.trans (congrArg some (by kernel_rfl))⟩
  f25 := ⟨Try.f29.name, by decide, Try.func29.trans (congrArg some (by kernel_rfl))⟩
  f26 := ⟨Try.f30.name, by decide, Try.func30.trans (congrArg some (by kernel_rfl))⟩
  f27 := ⟨Try.f31.name, by decide, Try.func31.trans (congrArg some (by kernel_rfl))⟩
  f28 := Try.func32.trans (congrArg some (by kernel_rfl))
  f29 := Try.func33.trans (congrArg some (by kernel_rfl))
  f46 := ⟨Try.f34.name, by decide, Try.func34.trans (congrArg some (by kernel_rfl))⟩
  f47 := Try.func35.trans (congrArg some (by kernel_rfl))
  f48 := Try.func36.trans (congrArg some (by kernel_rfl))
  f49 := ⟨Try.f37.name, by decide, Try.func37.trans (congrArg some (by kernel_rfl))⟩
  f50 := ⟨Try.f38.name, by decide, Try.func38.trans (congrArg some (by kernel_rfl))⟩
  f57 := ⟨Try.f39.name, by decide, Try.func39.trans (congrArg some (by kernel_rfl))⟩
  t0 := Try.underlying0
  a0 := Try.isAgg0
  z0 := Try.sizeOf0
  v0 := Try.zeroValue0
  t3 := Try.underlying3
  a3 := Try.isAgg3
  z3 := Try.sizeOf3
  v3 := Try.zeroValue3
  t4 := Try.underlying4
  a4 := Try.isAgg4
  z4 := Try.sizeOf4
  v4 := Try.zeroValue4
  t5 := Try.underlying5
  a5 := Try.isAgg5
  z5 := Try.sizeOf5
  v5 := Try.zeroValue5
  t9 := Try.underlying9
  a9 := Try.isAgg9
  z9 := Try.sizeOf9
  v9 := Try.zeroValue9
  t22 := Try.underlying24
  a22 := Try.isAgg24
  z22 := Try.sizeOf24
  v22 := Try.zeroValue24
  a24 := Try.isAgg3
  z24 := Try.sizeOf3
  t25 := Try.underlying39
  a25 := Try.isAgg39
  z25 := Try.sizeOf39
  v25 := Try.zeroValue39
  t39 := Try.underlying45
  a39 := Try.isAgg45
  z39 := Try.sizeOf45
  v39 := Try.zeroValue45
  t45 := Try.underlying47
  a45 := Try.isAgg47
  z45 := Try.sizeOf47
  v45 := Try.zeroValue47
  t46 := Try.underlying48
  a46 := Try.isAgg48
  z46 := Try.sizeOf48
  v46 := Try.zeroValue48
  t50 := Try.underlying52
  a50 := Try.isAgg52
  z50 := Try.sizeOf52
  v50 := Try.zeroValue52
  t53 := Try.underlying55
  a53 := Try.isAgg55
  z53 := Try.sizeOf55
  v53 := Try.zeroValue55
  t55 := Try.underlying57
  a55 := Try.isAgg57
  z55 := Try.sizeOf57
  v55 := Try.zeroValue57
  t66 := Try.underlying58
  a66 := Try.isAgg58
  z66 := Try.sizeOf58
  v66 := Try.zeroValue58
  t70 := Try.underlying62
  a70 := Try.isAgg62
  z70 := Try.sizeOf62
  v70 := Try.zeroValue62
  t76 := Try.underlying64
  a76 := Try.isAgg64
  z76 := Try.sizeOf64
  v76 := Try.zeroValue64
  t77 := Try.underlying65
  a77 := Try.isAgg65
  z77 := Try.sizeOf65
  v77 := Try.zeroValue65 }

def Small (x : Int) : Prop := -2305843009213693952 ≤ x ∧ x ≤ 2305843009213693952
abbrev I := { x : Int // Small x }
instance : Inhabited I := ⟨⟨0, by unfold Small; omega⟩⟩
def enc (x : I) : Value := .int .i64 x.1
def cfI (x y : Int) : Int := if max x (-x) ≠ max y (-y) then max x (-x) - max y (-y) else x - y
def cf (x y : I) : Int := cfI x.1 y.1

theorem one : OneCell enc := fun _ => rfl

theorem lt_iff (x y : I) : ltOf cf x y = true ↔ (max x.1 (-x.1) < max y.1 (-y.1) ∨ (max x.1 (-x.1) = max y.1 (-y.1) ∧ x.1 < y.1)) := by
  unfold ltOf cf cfI
  rw [decide_eq_true_iff]
  split <;> omega

theorem swo : SWO (ltOf cf) where
  irrefl x := by rw [Bool.eq_false_iff, ne_eq, lt_iff]; omega
  trans x y z h1 h2 := by rw [lt_iff] at *; omega
  ntrans x y z h1 h2 := by
    rw [Bool.eq_false_iff, ne_eq, lt_iff] at *
    omega

set_option maxHeartbeats 4000000 in
theorem cmp_any (x y : Int) (hx : Small x) (hy : Small y) (w : World) :
    Calls Try.prog 17 #[.int .i64 x, .int .i64 y] w fun e w' => e = .returned (.int .i64 (cfI x y)) ∧ w = w' := by
  obtain ⟨x0, x1⟩ := hx
  obtain ⟨y0, y1⟩ := hy
  have HC : Hid (cfI x y = if max x (-x) ≠ max y (-y) then max x (-x) - max y (-y) else x - y) := rfl
  go_enter Try.func17, Try.ntmps17
  go_wp2
  all_goals
    go_ret
    exact ⟨ret_int (by rw [HC.out]; simp only [Int.max_def] at *; (repeat' split) <;> first | omega | (exfalso; omega) | (simp_all <;> omega)), rfl⟩

theorem eg : ∀ args w, (callFunc 17 args).run Try.prog w = .ok (.enter 17 args) w := enters_of Try.func17 (by kernel_rfl) rfl

theorem cmp (blk off size : Nat) (w : World) : CmpLays1 Try.prog 17 #[] enc cf blk off size w := by
  intro m os dk _ x y
  refine (cmp_any x.1 y.1 x.2 y.2 _).mono ?_
  rintro e w' ⟨rfl, rfl⟩
  exact ⟨rfl, 0, #[], by rw [OwnP.grow_nil]; rfl⟩

theorem vals_att (xs : List Int) (hw : ∀ x ∈ xs, Small x) : ∃ ds : List I, ds.map Subtype.val = xs ∧ ds.length = xs.length ∧ ds.map enc = ints xs := by
  induction xs with
  | nil => exact ⟨[], rfl, rfl, rfl⟩
  | cons x r ih =>
    obtain ⟨ds, h1, h2, h3⟩ := ih (fun y hy => hw y (List.mem_cons_of_mem _ hy))
    exact ⟨⟨x, hw x List.mem_cons_self⟩ :: ds, by simp [h1], by simp [h2], by simp [h3, ints, enc]⟩

set_option maxHeartbeats 1000000 in
/-- Sorted: the same elements. -/
theorem sort_own (w : World) (B : Nat) (a : Option Addr) (n c : Nat) (xs : List Int) (hw : ∀ x ∈ xs, Small x) (hown : w.ownsRow B 3 1 (.slice a n c) n (ints xs)) (hB : B ≤ w.heap.size) (hn : n < 4611686018427387904) :
    Calls Try.prog 16 #[.slice a n c, .func (.func 17) #[] #[]] w fun e w' => e = .returned (.tuple #[]) ∧ ∃ ys : List Int, ys.Perm xs ∧ w'.ownsRow B 3 1 (.slice a n c) n (ints ys) ∧ Below B w w' := by
  have hl := hown.1
  rw [ints_len, Nat.mul_one] at hl
  rcases hown.2 with ⟨hv, hnil⟩ | ⟨g, cap, cur, hv, hg, hh, h1, h2, h3, h4⟩
  · simp only [Value.slice.injEq] at hv
    obtain ⟨rfl, rfl, rfl⟩ := hv
    have hx : xs = [] := List.eq_nil_of_length_eq_zero hl
    subst hx
    have hcon := AnyF.slices_SortFunc_none (P := Try.prog) (ρ := sortLaid_ren) { sortLaid with } none 0 (.func (.func 17) #[] #[]) w
    change Calls Try.prog 16 _ _ _ at hcon
    refine hcon.mono ?_
    rintro e w' ⟨rfl, rfl⟩
    exact ⟨rfl, [], List.Perm.refl _, hown, Below.refl _ _⟩
  · simp only [Value.slice.injEq] at hv
    obtain ⟨rfl, _, rfl⟩ := hv
    obtain ⟨ds, hd1, hd2, hd3⟩ := vals_att xs hw
    have ht : cur.toList.take ds.length = ds.map enc := by rw [hd3, hd2, hl, ← h4, Nat.mul_one]
    have hsz : ds.toArray.size = n := by simp [hd2, hl]
    have hcon := Any.slices_SortFunc sortLaid enc one cf swo 17 #[] g 0 c ds.toArray w eg (cmp g 0 _ w) (OwnP.holds hh ht) (Array.getElem?_eq_some_iff.1 hh).1 (by rw [hsz]; exact hn)
    change Calls Try.prog 16 _ _ _ at hcon
    rw [hsz] at hcon
    refine hcon.mono ?_
    rintro e w' ⟨rfl, d', nn, os, hp, hs, rfl⟩
    obtain ⟨q1, _, q2⟩ := hp
    rw [← hsz] at q2
    have q3 : d'.toList.Perm ds := by
      have e1 : d'.extract 0 ds.toArray.size = d' := by rw [← q1]; simp
      have e2 : ds.toArray.extract 0 ds.toArray.size = ds.toArray := by simp
      rw [e1, e2] at q2
      simpa using q2
    have hln : d'.toList.length = n := by rw [Array.length_toList, q1, hsz]
    refine ⟨rfl, d'.toList.map Subtype.val, ?_, ?_, OwnP.below_put _ hg hB⟩
    · rw [← hd1]; exact q3.map _
    · have ho := OwnP.own_put (enc := enc) (n := nn) (os := os) (ys := d'.toList) (zs := []) hg hh (by rw [List.append_nil, hln]; exact h1) h2 h3
      rw [List.append_nil, hln] at ho
      have e1 : d'.toList.map enc = ints (d'.toList.map Subtype.val) := by simp [ints, enc, Function.comp_def]
      rw [e1] at ho
      exact ho

theorem eg_in : SlfR.Enters 14 := enters_of Try.func14 (by kernel_rfl) rfl

set_option maxHeartbeats 400000 in
theorem in1_any (w : World) (a : Option Addr) (n c : Nat) (xs : List Int) (hsl : Sl w a n c (ints xs)) (l : Int) (B : Nat) (hc : w.cell? ⟨B, 0, none⟩ = some (.int .i64 l)) :
    Calls Try.prog 14 #[.slice a n c, .pointer (some ⟨B, 0, none⟩)] w fun e w' => e = .returned (.bool (!decide (l ∈ xs))) ∧ Below w.heap.size w w' := by
  have H := Lib.hid (Cont.contains_any w a n c xs hsl l)
  clear hsl
  generalize hq : decide (l ∈ xs) = q at *
  clear hq
  go_enter Try.func14, Try.ntmps14
  go_wp2_with fail
  refine H.out.mono ?_
  rintro e w1 ⟨rfl, rfl⟩
  go_wp2_with fail
  go_ret
  exact ⟨ret_bool rfl, Below.refl _ _⟩

/-- What is told: literals of both, of n variables. -/
def Good (n : Nat) (xs ys O : List Int) : Prop := ∀ x ∈ O, x ∈ xs ∧ x ∈ ys ∧ 1 ≤ Clause.absI x ∧ Clause.absI x ≤ n

theorem good_small {n : Nat} {xs ys O : List Int} (h : Good n xs ys O) (hn : n ≤ 140737488355328) (hw : Clause.Wf xs) : ∀ x ∈ O, Small x := by
  intro x hx
  have h1 := h x hx
  have h2 := hw x h1.1
  unfold Clause.absI at h1
  unfold Small
  split at h1 <;> omega

theorem info8 : (Try.prog.info? 3).map (fun i => (i.zero, i.size, i.bytes)) = some (some (.int .i64 0), 1, 8) := by kernel_rfl

set_option maxRecDepth 4000 in
set_option maxHeartbeats 8000000 in
theorem widest_any (n : Nat) (hn : n ≤ 140737488355328) (w : World) (a : Option Addr) (na ca : Nat) (xs : List Int) (hsl : Sl w a na ca (ints xs)) (hw : Clause.Wf xs) (b : Option Addr) (nb cb : Nat) (ys : List Int) (hsl2 : Sl w b nb cb (ints ys)) (hna : na * 8 ≤ 140737488355328)
    (g : Nat) (hcs : Sl w (some ⟨g, 0, none⟩) 2 2 [.slice a na ca, .slice b nb cb]) :
    Calls Try.prog 9 #[.int .i64 n, .slice (some ⟨g, 0, none⟩) 2 2] w fun e w' => ∃ O a' c', e = .returned (.slice a' O.length c') ∧ Good n xs ys O ∧ Sl w' a' O.length c' (ints O) ∧ Below w.heap.size w w' := by
  have HL : Hid (xs.length = na) := by have := hsl.len; rwa [ints_len] at this
  have hcap := hsl.cap
  have hbig := hsl.big
  obtain ⟨b0, o0, v0, e0, hb0, hv0, hc0⟩ := hcs.at (k := 0) (by omega)
  simp only [Option.some.injEq, Addr.mk.injEq] at e0
  obtain ⟨rfl, rfl, _⟩ := e0
  simp at hv0
  subst hv0
  rw [Nat.add_zero] at hc0
  have HSL := Lib.hid hsl
  have HSL2 := Lib.hid hsl2
  have HCS := Lib.hid hcs
  have HW := Lib.hid hw
  have HNA := Lib.hid hna
  obtain ⟨N, hN⟩ : ∃ N, N = w.heap.size := ⟨_, rfl⟩
  have HNN := Lib.hid hN
  clear hsl hsl2 hcs hw hna hN
  go_enter Try.func9, Try.ntmps9
  go_wp2_with fail
  go_loopw [5, 17] (fun v i wr => ∃ k m : Nat, ∃ O : List Int, k ≤ na ∧ i = .int .i64 k ∧ m ≤ k ∧ Hid (Good n xs ys O) ∧ (∃ a' c', v = .slice a' m c' ∧ Hid (wr.ownsRow N 3 1 (.slice a' m c') m (ints O))) ∧ Hid (Below N w wr)) (fun _ i _ => na - (intOf i).toNat)
  case atStart => exact ⟨0, 0, [], Nat.zero_le _, rfl, Nat.le_refl _, (fun x hx => by simp at hx), ⟨none, 0, rfl, World.ownsRow_nil _ _ _ _⟩, Below.refl _ _⟩
  case round =>
    obtain ⟨k, m, O, hk, rfl, hmk, hG, ⟨a', c', rfl, hown⟩, hbr⟩ := hrel
    have hbw : Below w.heap.size w wr := by rw [← HNN.out]; exact hbr.out
    by_cases hlt : k < na
    · obtain ⟨g1, o1, hx, rfl, hgs, hc⟩ := HSL.out.int hlt
      have k0 := (hbw.cell (p := ⟨g1, o1 + k, none⟩) hgs).trans hc
      have HX : Hid (xs[k] ∈ xs) := List.getElem_mem hx
      have hwx := HW.out _ (List.getElem_mem hx)
      clear hc
      generalize xs[k] = l at *
      obtain ⟨W1, hW1⟩ : ∃ W1, wr.alloc (.cells #[.int .i64 l] 3) = W1 := ⟨_, rfl⟩
      have hn1 : Below wr.heap.size wr W1 := by rw [← hW1]; exact (Below.refl _ _).alloc (Nat.le_refl _) _
      have kl : W1.cell? ⟨wr.heap.size, 0, none⟩ = some (.int .i64 l) := by rw [← hW1]; simp
      have hz1 : wr.heap.size < W1.heap.size := by rw [← hW1]; simp
      have hb1 : Below w.heap.size w W1 := hbw.trans (hn1.mono hbw.size)
      have CF := SlfR.containsFunc W1 _ 2 2 [.slice (some ⟨g1, o1, none⟩) na ca, .slice b nb cb] 14 #[] #[.pointer (some ⟨wr.heap.size, 0, none⟩)] [!decide (l ∈ xs), !decide (l ∈ ys)] (HCS.out.next hb1) rfl eg_in (by
        intro U hU j v q hv hq
        have hcl := (hU.cell (p := ⟨wr.heap.size, 0, none⟩) hz1).trans kl
        match j, hv, hq with
        | 0, hv, hq =>
          simp only [List.getElem?_cons_zero, Option.some.injEq] at hv hq
          subst hv; subst hq
          exact in1_any U _ na ca xs ((HSL.out.next hb1).next hU) l wr.heap.size hcl
        | 1, hv, hq =>
          simp only [List.getElem?_cons_zero, List.getElem?_cons_succ, Option.some.injEq] at hv hq
          subst hv; subst hq
          exact in1_any U _ nb cb ys ((HSL2.out.next hb1).next hU) l wr.heap.size hcl)
      have hany : ([!decide (l ∈ xs), !decide (l ∈ ys)].any id) = !decide (l ∈ ys) := by simp [HX.out]
      rw [hany] at CF
      have HCF := Lib.hid CF
      have HO := Lib.hid (own_next hown.out hn1)
      have HB1 : Hid (Below N w W1) := by show Below _ _ _; rw [HNN.out]; exact hb1
      have HKL := Lib.hid kl
      have HZ1 := Lib.hid hz1
      have HAB : Hid (Clause.absI l = if l = -9223372036854775808 then l else max l (-l)) := rfl
      clear CF hown hbw hbr hn1 hb1 hany
      have HBZ : Hid (w.heap.size ≤ W1.heap.size) := HB1.out.size
      by_cases hmin : l = -9223372036854775808
      · subst hmin
        clear HAB hwx
        have hwr : wrap64 9223372036854775808 = -9223372036854775808 := by unfold wrap64; omega
        cases hall : decide ((-9223372036854775808 : Int) ∈ ys)
        all_goals
          first | rw [hall, Bool.not_false] at HCF | rw [hall, Bool.not_true] at HCF
          clear hall
          go_wp2_with fail
          refine HCF.out.mono ?_
          rintro e w2 ⟨rfl, hb2⟩
          have kl2 := (hb2.cell (p := ⟨wr.heap.size, 0, none⟩) HZ1.out).trans HKL.out
          have HO2 := Lib.hid (own_next HO.out hb2)
          have HB2 := Lib.hid (HB1.out.trans (hb2.mono (by rw [HNN.out]; exact HBZ.out)))
          clear hb2
          go_wp2_with fail
          go_roundw
          case rel => exact ⟨k + 1, m, O, by omega, by go_num, by omega, hG, ⟨a', c', rfl, HO2.out⟩, HB2.out⟩
          case measure => simp [intOf]; omega
      · have hml : -9223372036854775807 ≤ l := by omega
        rw [if_neg hmin] at HAB
        have hu : l ≤ 9223372036854775807 := hwx.2
        clear hmin hwx
        by_cases hall : l ∈ ys
        · rw [decide_eq_true hall, Bool.not_true] at HCF
          have HY := Lib.hid hall
          clear hall
          by_cases h1 : 1 ≤ max l (-l)
          · by_cases h2 : max l (-l) ≤ (n : Int)
            · have HAB2 : Hid (1 ≤ Clause.absI l ∧ Clause.absI l ≤ n) := by show _ ∧ _; rw [HAB.out]; exact ⟨h1, h2⟩
              by_cases hin : l ∈ O
              · have hd : decide (l ∈ O) = true := decide_eq_true hin
                have HD := Lib.hid hd
                clear hin hd
                go_wp2_with fail
                refine HCF.out.mono ?_
                rintro e w2 ⟨rfl, hb2⟩
                have kl2 := (hb2.cell (p := ⟨wr.heap.size, 0, none⟩) HZ1.out).trans HKL.out
                have HO2 := Lib.hid (own_next HO.out hb2)
                have HB2 := Lib.hid (HB1.out.trans (hb2.mono (by rw [HNN.out]; exact HBZ.out)))
                have C := Cont.contains_any w2 a' m c' O (Base.own_ints HO2.out) l
                rw [HD.out] at C
                have HC := Lib.hid C
                clear hb2 C
                go_wp2_with fail
                refine HC.out.mono ?_
                rintro e w3 ⟨rfl, rfl⟩
                go_wp2_with fail
                go_roundw
                case rel => exact ⟨k + 1, m, O, by omega, by go_num, by omega, hG, ⟨a', c', rfl, HO2.out⟩, HB2.out⟩
                case measure => simp [intOf]; omega
              · have hd : decide (l ∈ O) = false := decide_eq_false hin
                have HD := Lib.hid hd
                have HG2 : Hid (Good n xs ys (O ++ [l])) := by
                  intro x hxm
                  rcases List.mem_append.1 hxm with h | h
                  · exact hG.out x h
                  · rw [List.mem_singleton] at h
                    subst h
                    exact ⟨HX.out, HY.out, HAB2.out⟩
                clear hin hd
                go_wp2_with fail
                refine HCF.out.mono ?_
                rintro e w2 ⟨rfl, hb2⟩
                have kl2 := (hb2.cell (p := ⟨wr.heap.size, 0, none⟩) HZ1.out).trans HKL.out
                have HO2 := Lib.hid (own_next HO.out hb2)
                have HB2 := Lib.hid (HB1.out.trans (hb2.mono (by rw [HNN.out]; exact HBZ.out)))
                have hN2 : N ≤ w2.heap.size := by rw [HNN.out]; exact Nat.le_trans HBZ.out hb2.size
                have HN2 := Lib.hid hN2
                have C := Cont.contains_any w2 a' m c' O (Base.own_ints HO2.out) l
                rw [HD.out] at C
                have HC := Lib.hid C
                have HSZ : Hid ((m + 1) * 8 ≤ 140737488355328) := by show _ ≤ _; have := HNA.out; omega
                clear hb2 C hN2
                go_wp2_with fail
                refine HC.out.mono ?_
                rintro e w3 ⟨rfl, rfl⟩
                go_wp2_with ((with_reducible refine wpL_push (B := N) (W := w) _ (.int .i64 l) _ m _ info8 Try.underlying24 ?_ ?_ ?_ ?_ ?_ HO2.out HN2.out HSZ.out ?_ HB2.out ?_); rfl; rfl; rfl; rfl; rfl; (have := HSZ.out; omega); (intro a8 c8 w8 hown8 hb8 hs8))
                go_roundw
                case rel => exact ⟨k + 1, m + 1, O ++ [l], by omega, by go_num, by omega, HG2, ⟨a8, c8, by go_num, by show World.ownsRow _ _ _ _ _ _ _; have e : ints (O ++ [l]) = ints O ++ [.int .i64 l] := (by simp [ints]); rw [e]; exact hown8⟩, hb8⟩
                case measure => simp [intOf]; omega
            · go_wp2_with fail
              refine HCF.out.mono ?_
              rintro e w2 ⟨rfl, hb2⟩
              have kl2 := (hb2.cell (p := ⟨wr.heap.size, 0, none⟩) HZ1.out).trans HKL.out
              have HO2 := Lib.hid (own_next HO.out hb2)
              have HB2 := Lib.hid (HB1.out.trans (hb2.mono (by rw [HNN.out]; exact HBZ.out)))
              clear hb2
              go_wp2_with fail
              go_roundw
              case rel => exact ⟨k + 1, m, O, by omega, by go_num, by omega, hG, ⟨a', c', rfl, HO2.out⟩, HB2.out⟩
              case measure => simp [intOf]; omega
          · go_wp2_with fail
            refine HCF.out.mono ?_
            rintro e w2 ⟨rfl, hb2⟩
            have kl2 := (hb2.cell (p := ⟨wr.heap.size, 0, none⟩) HZ1.out).trans HKL.out
            have HO2 := Lib.hid (own_next HO.out hb2)
            have HB2 := Lib.hid (HB1.out.trans (hb2.mono (by rw [HNN.out]; exact HBZ.out)))
            clear hb2
            go_wp2_with fail
            go_roundw
            case rel => exact ⟨k + 1, m, O, by omega, by go_num, by omega, hG, ⟨a', c', rfl, HO2.out⟩, HB2.out⟩
            case measure => simp [intOf]; omega
        · rw [decide_eq_false hall, Bool.not_false] at HCF
          clear hall
          go_wp2_with fail
          refine HCF.out.mono ?_
          rintro e w2 ⟨rfl, hb2⟩
          have kl2 := (hb2.cell (p := ⟨wr.heap.size, 0, none⟩) HZ1.out).trans HKL.out
          have HO2 := Lib.hid (own_next HO.out hb2)
          have HB2 := Lib.hid (HB1.out.trans (hb2.mono (by rw [HNN.out]; exact HBZ.out)))
          clear hb2
          go_wp2_with fail
          go_roundw
          case rel => exact ⟨k + 1, m, O, by omega, by go_num, by omega, hG, ⟨a', c', rfl, HO2.out⟩, HB2.out⟩
          case measure => simp [intOf]; omega
    · have HO := Lib.hid hown.out
      have HB := Lib.hid hbr.out
      have S := Lib.hid (sort_own wr N a' m c' O (good_small hG.out hn HW.out) hown.out (by rw [HNN.out]; exact hbw.size) (by have := HNA.out; omega))
      clear hown hbr hbw
      go_wp2_with fail
      refine S.out.mono ?_
      rintro e w2 ⟨rfl, O2, hp, hown2, hb2⟩
      have HP := Lib.hid hp
      have HO2 := Lib.hid hown2
      have HB2 := Lib.hid (HB.out.trans hb2)
      have hl2 : O2.length = m := by have := hown2.1; rw [ints_len] at this; omega
      have HL2 := Lib.hid hl2
      clear hp hown2 hb2 hl2
      go_wp2_with fail
      go_ret
      refine ⟨O2, a', c', by rw [HL2.out]; rfl, fun x hx => hG.out x (HP.out.mem_iff.1 hx), ?_, ?_⟩
      · rw [HL2.out]; exact Base.own_ints HO2.out
      · rw [← HNN.out]; exact HB2.out
end Widest
end Go.Proofs.Ytmfondpnphomoaa
