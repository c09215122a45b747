/-
  interlocklaw30.KeepAgain: the walk: what is kept is not put again.
-/
import Derived.Test.YtdpmfcfelncbeaaOpenK
import Derived.Deep.DeepCutAuto
namespace Go.Proofs.Ytdpmfcfelncbeaa.keepAgain
open Go.RowKit Base Keep
open Vals (srt)
set_option linter.unusedVariables false
set_option linter.unusedSimpArgs false

theorem rows_ok {inv : List (List Int)} (hw : ∀ x ∈ inv, Clause.Wf x) (hz : Open.bulkRows inv ≤ 1048576) : RowsOk inv := fun x hx => ⟨hw x hx, by have := (Open.bulkRows_len inv).2 x hx; omega⟩
theorem kept_ok {l : List Kp} (hw : ∀ k ∈ l, (∀ x ∈ k.1, Clause.Wf x) ∧ Clause.Wf k.2) (hz : Open.bulkKept l ≤ 1048576) : KeptOk l := fun k hk x hx => ⟨(hw k hk).1 x hx, by have := ((Open.bulkKept_len l).2.2 k hk).2.2 x hx; omega⟩
theorem kept_fit {l : List Kp} (hz : Open.bulkKept l ≤ 1048576) : ∀ k ∈ l, Fit1 k := fun k hk => by
  have h := (Open.bulkKept_len l).2.2 k hk
  exact ⟨by omega, by omega, fun x hx => by have := h.2.2 x hx; omega⟩

/-- What was put can be put upon. -/
theorem put_ok {l m : List Kp} {inv : List (List Int)} {tags : List Int} (h : put l inv tags = some m) (hok : KeptOk l) (hri : RowsOk inv) : KeptOk m := fun k hk => by
  rcases put_mem h hk with h | rfl
  · exact hok k h
  · exact hri
theorem put_fit {l m : List Kp} {inv : List (List Int)} {tags : List Int} (h : put l inv tags = some m) (hfit : ∀ k ∈ l, Fit1 k) (hri : RowsOk inv) (ht : tags.length ≤ 1048576) : ∀ k ∈ m, Fit1 k := fun k hk => by
  rcases put_mem h hk with h' | rfl
  · exact hfit k h'
  · have h1 := (put_inv h).1
    have h2 := srt_len tags
    exact ⟨by show inv.length * 24 ≤ _; omega, by show (srt tags).length * 8 ≤ _; omega, fun x hx => (hri x hx).2⟩

set_option maxRecDepth 8000 in
set_option maxHeartbeats 16000000 in
theorem walk {w : World} (a0 : Option Addr) (c0 : Nat) (l : List Kp) (y0 : List (List Value)) (s0 : SlK w a0 l.length c0 y0 l) (w0 : ∀ k ∈ l, (∀ x ∈ k.1, Clause.Wf x) ∧ Clause.Wf k.2) (z0 : Open.bulkKept l ≤ 1048576)
    (a1 : Option Addr) (c1 : Nat) (inv : List (List Int)) (y1 : List Value) (s1 : Sl2 w a1 inv.length c1 y1 inv) (w1 : ∀ x ∈ inv, Clause.Wf x) (z1 : Open.bulkRows inv ≤ 1048576)
    (a2 : Option Addr) (c2 : Nat) (tags : List Int) (s2 : Sl w a2 tags.length c2 (ints tags)) (w2 : Clause.Wf tags) (z2 : Open.bulkInts tags ≤ 1048576)
    (a3 : Option Addr) (c3 : Nat) (more : List Int) (s3 : Sl w a3 more.length c3 (ints more)) (w3 : Clause.Wf more) (z3 : Open.bulkInts more ≤ 1048576) (W : World) (hW : W = w) :
    Calls Try.prog 5 #[.slice a0 l.length c0, .slice a1 inv.length c1, .slice a2 tags.length c2, .slice a3 more.length c3] W fun e W' => e = .returned (.bool true) ∧ Below W.heap.size W W' := by
  subst hW
  have hok := kept_ok w0 z0
  have hfit := kept_fit z0
  have hri := rows_ok w1 z1
  have hbl := Open.bulkKept_len l
  have hbr := Open.bulkRows_len inv
  have ht : tags.length ≤ 1048576 := by have := z2; rw [Open.bulkInts_eq] at this; omega
  have hm : more.length ≤ 1048576 := by have := z3; rw [Open.bulkInts_eq] at this; omega
  have hll : l.length ≤ 1048576 := by omega
  have hil : inv.length ≤ 1048576 := by omega
  have hsz : sz l ≤ 1048576 := by omega
  have HAL := Lib.hid (alive_any W)
  have HP1 := Lib.hid (fun (U : World) (hU : Below W.heap.size W U) => put_any U a0 l.length c0 y0 l (s0.next hU) hok hfit (by omega) a1 inv.length c1 y1 inv (s1.next hU) hri a2 tags.length c2 tags (s2.next hU) (by omega) (by omega))
  have HT := Lib.hid (fun (U : World) (hU : Below W.heap.size W U) => s2.next hU)
  have HM := Lib.hid (fun (U : World) (hU : Below W.heap.size W U) => s3.next hU)
  have HI := Lib.hid (fun (U : World) (hU : Below W.heap.size W U) => s1.next hU)
  have HOK := Lib.hid hok
  have HFIT := Lib.hid hfit
  have HRI := Lib.hid hri
  have HTL := Lib.hid ht
  have HML := Lib.hid hm
  have HLL := Lib.hid hll
  have HIL := Lib.hid hil
  clear s0 w0 z0 s1 w1 z1 s2 w2 z2 s3 w3 z3 hok hfit hri hbl hbr hsz
  cases hput : put l inv tags with
  | none =>
    rw [hput] at HP1
    clear hput
    go_enter Try.func5, Try.ntmps5
    go_wp2_with fail
    with_reducible refine HAL.out.mono ?_
    rintro e w2 ⟨rfl, hb2⟩
    have HB2 := Lib.hid hb2
    have HP2 := Lib.hid (HP1.out w2 hb2)
    clear hb2
    go_wp2_with fail
    with_reducible refine HP2.out.mono ?_
    rintro e w3 ⟨hp, hb3⟩
    obtain rfl : e = .returned (.tuple #[.slice none 0 0, .bool false]) := hp
    have HB3 := Lib.hid (HB2.out.trans (hb3.mono HB2.out.size))
    clear hb3
    go_wp2_with fail
    go_ret
    exact ⟨rfl, HB3.out⟩
  | some m =>
    rw [hput] at HP1
    have hagain := put_again (more := more) hput
    have HPB := Lib.hid (fun (U : World) (hU : Below W.heap.size W U) (B : Nat) (am : Option Addr) (cm : Nat) (vm : List (List Value)) (hk : KOwn U B am m.length cm vm m) (a6 : Option Addr) (c6 : Nat) (hs : Sl U a6 (tags.length + more.length) c6 (ints (tags ++ more))) => put_any U am m.length cm vm m hk.slK (put_ok hput HOK.out HRI.out) (put_fit hput HFIT.out HRI.out HTL.out) (by have := put_len hput; omega) a1 inv.length c1 y1 inv (HI.out U hU) HRI.out a6 _ c6 (tags ++ more) hs (by omega) (by have := put_sz hput; omega))
    rw [hagain] at HPB
    clear hput hagain
    go_enter Try.func5, Try.ntmps5
    go_wp2_with fail
    with_reducible refine HAL.out.mono ?_
    rintro e w2 ⟨rfl, hb2⟩
    have HB2 := Lib.hid hb2
    have HP2 := Lib.hid (HP1.out w2 hb2)
    clear hb2
    go_wp2_with fail
    with_reducible refine HP2.out.mono ?_
    rintro e w3 ⟨⟨am, cm, vm, rfl, hkm⟩, hb3⟩
    have HB3 := Lib.hid (HB2.out.trans (hb3.mono HB2.out.size))
    have HKM := Lib.hid hkm
    clear hb3 hkm
    have HT3 := Lib.hid (HT.out w3 HB3.out)
    have HN3 := Lib.hid (World.ownsRow_nil w3 w3.heap.size 3 1)
    go_wp2_with (first
      | ((with_reducible refine wpL_app w3.heap.size (.slice none 0 0) 0 [] a2 tags.length c2 (ints tags) Vals.info_int Try.underlying24 rfl ?_ ?_ (ints_one tags) HN3.out HT3.out (Nat.le_refl _) ?_ ?_ (Below.refl _ _) ?_); rfl; rfl; (have := HTL.out; omega); (have := HTL.out; omega); (rw [Nat.zero_add, List.nil_append]; intro a5 c5 w5 hown5 hb5 hz5; have HO5 := Lib.hid hown5; have HB5 := Lib.hid hb5; have HZ5 := Lib.hid hz5; have HM5 := Lib.hid (HM.out w5 (HB3.out.trans (hb5.mono HB3.out.size)))))
      | ((with_reducible refine wpL_app w3.heap.size (.slice a5 tags.length c5) tags.length (ints tags) a3 more.length c3 (ints more) Vals.info_int Try.underlying24 rfl ?_ ?_ (ints_one more) HO5.out HM5.out HZ5.out ?_ ?_ HB5.out ?_); rfl; rfl; (have := HTL.out; have := HML.out; omega); (have := HTL.out; have := HML.out; omega); (intro a6 c6 w6 hown6 hb6 hz6)))
    have hb36 := HB3.out.trans (hb6.mono HB3.out.size)
    have he6 : ints (tags ++ more) = ints tags ++ ints more := by unfold ints; rw [List.map_append]
    rw [← he6] at hown6
    have HPC := Lib.hid (HPB.out w6 hb36 _ am cm vm (HKM.out.next hb6) a6 c6 (own_slI hown6))
    have HB6 := Lib.hid hb36
    clear hown6 hb6 hz6 hb36 he6
    with_reducible refine HPC.out.mono ?_
    rintro e w7 ⟨hp, hb7⟩
    obtain rfl : e = .returned (.tuple #[.slice none 0 0, .bool false]) := hp
    have HB7 := Lib.hid (HB6.out.trans (hb7.mono HB6.out.size))
    clear hb7
    go_wp2_with fail
    go_ret
    exact ⟨rfl, HB7.out⟩
end Go.Proofs.Ytdpmfcfelncbeaa.keepAgain
