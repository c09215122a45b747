/-
  keep.beyond, keep.has, keep.said.
-/
import Derived.Test.YtdpmfcfelncbeaaKeptS
import Derived.Test.YtdpmfcfelncbeaaSlfI
import Derived.Test.YtdpmfcfelncbeaaSlfR
import Derived.Test.YtdpmfcfelncbeaaCont
import Derived.Test.YtdpmfcfelncbeaaSameC
namespace Go.Proofs.Ytdpmfcfelncbeaa
open Go.RowKit Base
set_option linter.unusedVariables false
set_option linter.unusedSimpArgs false
namespace Keep
open RefC (norm)

theorem eg_bey : SlfI.Enters 34 := enters_of Try.func34 (by kernel_rfl) rfl
theorem eg_has : SlfR.Enters 37 := enters_of Try.func37 (by kernel_rfl) rfl
theorem eg_lack : SlfR.Enters 43 := enters_of Try.func43 (by kernel_rfl) rfl
theorem eg_says : Enters 42 := enters_of Try.func42 (by kernel_rfl) rfl

set_option maxHeartbeats 1000000 in
theorem bey1_any (w : World) (Bx : Nat) (a : Option Addr) (n c : Nat) (l : List Int) (hc : w.cell? ⟨Bx, 0, none⟩ = some (.slice a n c)) (hs : Sl w a n c (ints l)) (x : Int) :
    Calls Try.prog 34 #[.int .i64 x, .pointer (some ⟨Bx, 0, none⟩)] w fun e w' => e = .returned (.bool (!decide (x ∈ l))) ∧ Below w.heap.size w w' := by
  have H := Lib.hid (Cont.contains_any w a n c l hs x)
  clear hs
  generalize hq : decide (x ∈ l) = q at *
  clear hq
  go_enter Try.func34, Try.ntmps34
  go_wp2_with fail
  with_reducible refine H.out.mono ?_
  rintro e w1 ⟨rfl, rfl⟩
  go_wp2_with fail
  go_ret
  exact ⟨rfl, Below.refl _ _⟩

set_option maxHeartbeats 1000000 in
theorem beyond_any (w : World) (a1 : Option Addr) (n1 c1 : Nat) (l : List Int) (h1 : Sl w a1 n1 c1 (ints l)) (a2 : Option Addr) (n2 c2 : Nat) (s : List Int) (h2 : Sl w a2 n2 c2 (ints s)) :
    Calls Try.prog 19 #[.slice a1 n1 c1, .slice a2 n2 c2] w fun e w' => e = .returned (.bool (beyond l s)) ∧ Below w.heap.size w w' := by
  obtain ⟨U, hU⟩ : ∃ U, w.alloc (.cells #[.slice a2 n2 c2] 24) = U := ⟨_, rfl⟩
  have hb : Below w.heap.size w U := by rw [← hU]; exact (Below.refl _ _).alloc (Nat.le_refl _) _
  have u0 : U.cell? ⟨w.heap.size, 0, none⟩ = some (.slice a2 n2 c2) := by rw [← hU]; simp [go_sem]
  have hz : w.heap.size < U.heap.size := by rw [← hU]; simp
  have hlm : l.length = n1 := by have := h1.len; rwa [ints_len] at this
  have CF := SlfI.containsFunc U a1 n1 c1 (ints l) 34 #[] #[.pointer (some ⟨w.heap.size, 0, none⟩)] (l.map fun x => !decide (x ∈ s)) (h1.next hb) (by rw [List.length_map, hlm]) eg_bey (by
    intro V hV j y q hy hq
    obtain ⟨hj, rfl⟩ := ints_at hy
    rw [List.getElem?_map, List.getElem?_eq_getElem hj] at hq
    simp only [Option.map_some, Option.some.injEq] at hq
    subst hq
    exact bey1_any V w.heap.size a2 n2 c2 s ((hV.cell (p := ⟨w.heap.size, 0, none⟩) hz).trans u0) ((h2.next hb).next hV) l[j])
  have hall : ((l.map fun x => !decide (x ∈ s)).any id) = beyond l s := by
    rw [List.any_map]
    rfl
  rw [hall] at CF
  have HCF := Lib.hid CF
  have HB := Lib.hid hb
  clear CF hall hb h1 h2
  generalize beyond l s = q at *
  go_enter Try.func19, Try.ntmps19
  go_wp2_with fail
  with_reducible refine HCF.out.mono ?_
  rintro e w3 ⟨rfl, hb3⟩
  have HB3 := Lib.hid (HB.out.trans (hb3.mono HB.out.size))
  clear hb3
  go_wp2_with fail
  go_ret
  exact ⟨rfl, HB3.out⟩

/-- A clause that can be made anew. -/
def RowOk (x : List Int) : Prop := Clause.Wf x ∧ x.length * 8 ≤ 140737488355328
def RowsOk (l : List (List Int)) : Prop := ∀ x ∈ l, RowOk x
def KeptOk (l : List Kp) : Prop := ∀ k ∈ l, RowsOk k.1

set_option maxHeartbeats 1000000 in
theorem has1_any (w : World) (Bx : Nat) (a : Option Addr) (n c : Nat) (x : List Int) (hc : w.cell? ⟨Bx, 0, none⟩ = some (.slice a n c)) (hs : Sl w a n c (ints x)) (hx : RowOk x) (a2 : Option Addr) (n2 c2 : Nat) (y : List Int) (hs2 : Sl w a2 n2 c2 (ints y)) (hy : RowOk y) :
    Calls Try.prog 37 #[.slice a2 n2 c2, .pointer (some ⟨Bx, 0, none⟩)] w fun e w' => e = .returned (.bool (decide (norm x = norm y))) ∧ Below w.heap.size w w' := by
  have hn : x.length = n := by have := hs.len; rwa [ints_len] at this
  have hn2 : y.length = n2 := by have := hs2.len; rwa [ints_len] at this
  have H := Lib.hid (Clause.same_any w a n c x hs hx.1 a2 n2 c2 y hs2 hy.1 (by rw [← hn]; exact hx.2) (by rw [← hn2]; exact hy.2))
  clear hs hs2 hx hy hn hn2
  generalize hq : decide (norm x = norm y) = q at *
  clear hq
  go_enter Try.func37, Try.ntmps37
  go_wp2_with fail
  with_reducible refine H.out.mono ?_
  rintro e w1 ⟨rfl, hb⟩
  go_wp2_with fail
  go_ret
  exact ⟨rfl, hb⟩

set_option maxHeartbeats 1000000 in
theorem has_any (w : World) (a1 : Option Addr) (n1 c1 : Nat) (vals : List Value) (l : List (List Int)) (h1 : Sl2 w a1 n1 c1 vals l) (hl : RowsOk l) (a2 : Option Addr) (n2 c2 : Nat) (x : List Int) (h2 : Sl w a2 n2 c2 (ints x)) (hx : RowOk x) :
    Calls Try.prog 20 #[.slice a1 n1 c1, .slice a2 n2 c2] w fun e w' => e = .returned (.bool (hasC l x)) ∧ Below w.heap.size w w' := by
  obtain ⟨U, hU⟩ : ∃ U, w.alloc (.cells #[.slice a2 n2 c2] 24) = U := ⟨_, rfl⟩
  have hb : Below w.heap.size w U := by rw [← hU]; exact (Below.refl _ _).alloc (Nat.le_refl _) _
  have u0 : U.cell? ⟨w.heap.size, 0, none⟩ = some (.slice a2 n2 c2) := by rw [← hU]; simp [go_sem]
  have hz : w.heap.size < U.heap.size := by rw [← hU]; simp
  have CF := SlfR.containsFunc U a1 n1 c1 vals 37 #[] #[.pointer (some ⟨w.heap.size, 0, none⟩)] (l.map fun y => decide (norm x = norm y)) (h1.next hb).sl (by rw [List.length_map, h1.len]) eg_has (by
    intro V hV j v b hv hq
    rw [List.getElem?_map, Option.map_eq_some_iff] at hq
    obtain ⟨y, hy, rfl⟩ := hq
    obtain ⟨a6, c6, rfl, hs6⟩ := (h1.next hb).row j v y hv hy
    exact has1_any V w.heap.size a2 n2 c2 x ((hV.cell (p := ⟨w.heap.size, 0, none⟩) hz).trans u0) ((h2.next hb).next hV) hx a6 _ c6 y (hs6.next hV) (hl y (List.mem_of_getElem? hy)))
  have hall : ((l.map fun y => decide (norm x = norm y)).any id) = hasC l x := by
    rw [List.any_map]
    rfl
  rw [hall] at CF
  have HCF := Lib.hid CF
  have HB := Lib.hid hb
  clear CF hall hb h1 h2 hl hx
  generalize hasC l x = q at *
  go_enter Try.func20, Try.ntmps20
  go_wp2_with fail
  with_reducible refine HCF.out.mono ?_
  rintro e w3 ⟨rfl, hb3⟩
  have HB3 := Lib.hid (HB.out.trans (hb3.mono HB.out.size))
  clear hb3
  go_wp2_with fail
  go_ret
  exact ⟨rfl, HB3.out⟩

set_option maxHeartbeats 1000000 in
theorem lack1_any (w : World) (Bx : Nat) (a1 : Option Addr) (n1 c1 : Nat) (vals : List Value) (l : List (List Int)) (hc : w.cell? ⟨Bx, 0, none⟩ = some (.slice a1 n1 c1)) (h1 : Sl2 w a1 n1 c1 vals l) (hl : RowsOk l) (a2 : Option Addr) (n2 c2 : Nat) (x : List Int) (h2 : Sl w a2 n2 c2 (ints x)) (hx : RowOk x) :
    Calls Try.prog 43 #[.slice a2 n2 c2, .pointer (some ⟨Bx, 0, none⟩)] w fun e w' => e = .returned (.bool (!hasC l x)) ∧ Below w.heap.size w w' := by
  have H := Lib.hid (has_any w a1 n1 c1 vals l h1 hl a2 n2 c2 x h2 hx)
  clear h1 h2 hl hx
  generalize hasC l x = q at *
  go_enter Try.func43, Try.ntmps43
  go_wp2_with fail
  with_reducible refine H.out.mono ?_
  rintro e w1 ⟨rfl, hb⟩
  go_wp2_with fail
  go_ret
  exact ⟨rfl, hb⟩

set_option maxHeartbeats 2000000 in
theorem says1_any (w : World) (Bt Bi : Nat) (at' : Option Addr) (nt ct : Nat) (tags : List Int) (ai : Option Addr) (ni ci : Nat) (vi : List Value) (inv : List (List Int)) (hct : w.cell? ⟨Bt, 0, none⟩ = some (.slice at' nt ct)) (hci : w.cell? ⟨Bi, 0, none⟩ = some (.slice ai ni ci))
    (hst : Sl w at' nt ct (ints tags)) (hsi : Sl2 w ai ni ci vi inv) (hoi : RowsOk inv) (hlt : Bt < w.heap.size) (hli : Bi < w.heap.size)
    (k : Kp) (a1 : Option Addr) (c1 : Nat) (vals : List Value) (a2 : Option Addr) (c2 : Nat) (h1 : Sl2 w a1 k.1.length c1 vals k.1) (h2 : Sl w a2 k.2.length c2 (ints k.2)) (hok : RowsOk k.1) :
    Calls Try.prog 42 #[.agg #[.slice a1 k.1.length c1, .slice a2 k.2.length c2], .pointer (some ⟨Bt, 0, none⟩), .pointer (some ⟨Bi, 0, none⟩)] w fun e w' => e = .returned (.bool (says k inv tags)) ∧ Below w.heap.size w w' := by
  obtain ⟨U, hU⟩ : ∃ U, w.alloc (.cells #[.slice a1 k.1.length c1, .slice a2 k.2.length c2] 34) = U := ⟨_, rfl⟩
  have hb : Below w.heap.size w U := by rw [← hU]; exact (Below.refl _ _).alloc (Nat.le_refl _) _
  have u0 : U.cell? ⟨w.heap.size, 0, none⟩ = some (.slice a1 k.1.length c1) := by rw [← hU]; simp [go_sem]
  have u1 : U.cell? ⟨w.heap.size, 1, none⟩ = some (.slice a2 k.2.length c2) := by rw [← hU]; simp [go_sem]
  have hz : w.heap.size < U.heap.size := by rw [← hU]; simp
  have v0 := (hb.cell (p := ⟨Bt, 0, none⟩) hlt).trans hct
  have v1 := (hb.cell (p := ⟨Bi, 0, none⟩) hli).trans hci
  have HBE := Lib.hid (beyond_any U a2 _ c2 k.2 (h2.next hb) at' nt ct tags (hst.next hb))
  have CF := fun (V : World) (hV : Below U.heap.size U V) => SlfR.containsFunc V ai ni ci vi 43 #[] #[.pointer (some ⟨w.heap.size, 0, none⟩)] (inv.map fun x => !hasC k.1 x) ((hsi.next hb).next hV).sl (by rw [List.length_map, hsi.len]) eg_lack (by
    intro X hX j v b hv hq
    rw [List.getElem?_map, Option.map_eq_some_iff] at hq
    obtain ⟨x, hx, rfl⟩ := hq
    have hVX := hV.trans (hX.mono hV.size)
    obtain ⟨a6, c6, rfl, hs6⟩ := ((hsi.next hb).next hV).row j v x hv hx
    exact lack1_any X w.heap.size a1 _ c1 vals k.1 ((hVX.cell (p := ⟨w.heap.size, 0, none⟩) hz).trans u0) ((h1.next hb).next hVX) hok a6 _ c6 x (hs6.next hX) (hoi x (List.mem_of_getElem? hx)))
  have hall : ((inv.map fun x => !hasC k.1 x).any id) = lacks k inv := by
    rw [List.any_map]
    rfl
  rw [hall] at CF
  have HCF := Lib.hid CF
  have HB := Lib.hid hb
  have hw1 : says k inv tags = (!beyond k.2 tags && !lacks k inv) := rfl
  have HS := Lib.hid hw1
  have HV1 := Lib.hid (fun (V : World) (hV : Below U.heap.size U V) => (hV.cell (p := ⟨Bi, 0, none⟩) (by have := hb.size; show Bi < U.heap.size; omega)).trans v1)
  clear CF hall hb h1 h2 hst hsi hoi hok hw1
  generalize says k inv tags = r at *
  generalize lacks k inv = p at *
  generalize beyond k.2 tags = q at *
  cases q
  · go_enter Try.func42, Try.ntmps42
    go_wp2_with fail
    with_reducible refine HBE.out.mono ?_
    rintro e w3 ⟨rfl, hb3⟩
    have HB3 := Lib.hid hb3
    have HC3 := Lib.hid (HCF.out w3 hb3)
    have v1' := HV1.out w3 hb3
    clear hb3
    go_wp2_with fail
    with_reducible refine HC3.out.mono ?_
    rintro e w4 ⟨rfl, hb4⟩
    have HB4 := Lib.hid (HB.out.trans ((HB3.out.trans (hb4.mono HB3.out.size)).mono HB.out.size))
    clear hb4
    go_wp2_with fail
    go_ret
    exact ⟨ret_bool (by rw [HS.out]; rfl), HB4.out⟩
  · go_enter Try.func42, Try.ntmps42
    go_wp2_with fail
    with_reducible refine HBE.out.mono ?_
    rintro e w3 ⟨rfl, hb3⟩
    have HB4 := Lib.hid (HB.out.trans (hb3.mono HB.out.size))
    clear hb3
    go_wp2_with fail
    go_ret
    exact ⟨ret_bool (by rw [HS.out]; rfl), HB4.out⟩

set_option maxHeartbeats 2000000 in
theorem said_any (w : World) (a : Option Addr) (n c : Nat) (vs : List (List Value)) (l : List Kp) (hsl : SlK w a n c vs l) (hok : KeptOk l) (ai : Option Addr) (ni ci : Nat) (vi : List Value) (inv : List (List Int)) (hsi : Sl2 w ai ni ci vi inv) (hoi : RowsOk inv) (at' : Option Addr) (nt ct : Nat) (tags : List Int) (hst : Sl w at' nt ct (ints tags)) :
    Calls Try.prog 23 #[.slice a n c, .slice ai ni ci, .slice at' nt ct] w fun e w' => e = .returned (.bool (said l inv tags)) ∧ Below w.heap.size w w' := by
  obtain ⟨W1, hW1⟩ : ∃ U, w.alloc (.cells #[.slice ai ni ci] 23) = U := ⟨_, rfl⟩
  obtain ⟨U, hU⟩ : ∃ U, W1.alloc (.cells #[.slice at' nt ct] 24) = U := ⟨_, rfl⟩
  have hb1 : Below w.heap.size w W1 := by rw [← hW1]; exact (Below.refl _ _).alloc (Nat.le_refl _) _
  have hb2 : Below W1.heap.size W1 U := by rw [← hU]; exact (Below.refl _ _).alloc (Nat.le_refl _) _
  have hz1 : w.heap.size < W1.heap.size := by rw [← hW1]; simp
  have hz2 : W1.heap.size < U.heap.size := by rw [← hU]; simp
  have u0 : U.cell? ⟨w.heap.size, 0, none⟩ = some (.slice ai ni ci) := (hb2.cell (p := ⟨w.heap.size, 0, none⟩) hz1).trans (by rw [← hW1]; simp)
  have u1 : U.cell? ⟨W1.heap.size, 0, none⟩ = some (.slice at' nt ct) := by rw [← hU]; simp
  have hb := hb1.trans (hb2.mono hb1.size)
  have CF := containsFunc U a n c vs l 42 #[] #[.pointer (some ⟨W1.heap.size, 0, none⟩), .pointer (some ⟨w.heap.size, 0, none⟩)] (l.map fun k => says k inv tags) (hsl.next hb) (by rw [List.length_map, hsl.len]) eg_says (by
    intro V hV j k a1 c1 vals a2 c2 b hk hq hs1 hs2
    rw [List.getElem?_map, hk] at hq
    simp only [Option.map_some, Option.some.injEq] at hq
    subst hq
    have hzU := hV.size
    exact says1_any V W1.heap.size w.heap.size at' nt ct tags ai ni ci vi inv ((hV.cell (p := ⟨W1.heap.size, 0, none⟩) hz2).trans u1) ((hV.cell (p := ⟨w.heap.size, 0, none⟩) (by show w.heap.size < U.heap.size; omega)).trans u0) ((hst.next hb).next hV) ((hsi.next hb).next hV) hoi (by omega) (by omega) k a1 c1 vals a2 c2 hs1 hs2 (hok k (List.mem_of_getElem? hk)))
  have hall : ((l.map fun k => says k inv tags).any id) = said l inv tags := by
    rw [List.any_map]
    rfl
  rw [hall] at CF
  have HCF := Lib.hid CF
  have HB := Lib.hid hb
  clear CF hall hb hb1 hb2 hz1 hz2 u0 u1 hsl hok hsi hoi hst
  generalize said l inv tags = q at *
  go_enter Try.func23, Try.ntmps23
  go_wp2_with fail
  with_reducible refine HCF.out.mono ?_
  rintro e w3 ⟨rfl, hb3⟩
  have HB3 := Lib.hid (HB.out.trans (hb3.mono HB.out.size))
  clear hb3
  go_wp2_with fail
  go_ret
  exact ⟨rfl, HB3.out⟩
end Keep
end Go.Proofs.Ytdpmfcfelncbeaa
