/-
  interlocklaw30.KeepMore: the walk: with more that is active no less is known; of what was put all is known.
-/
import Derived.Test.YtdpmfcfelncbeaaKeepAgain
namespace Go.Proofs.Ytdpmfcfelncbeaa.keepMore
open Go.RowKit Base Keep keepAgain
open Vals (srt)
set_option linter.unusedVariables false
set_option linter.unusedSimpArgs false

theorem known_short {l : List Kp} (h : ∀ k ∈ l, Short k.1) (act : List Int) : Short (known l act) := fun x hx => by
  rcases known_from l hx with h0 | ⟨k, hk, hx, _⟩
  · cases h0
  · exact h k hk x hx
theorem known_rows {l : List Kp} (h : KeptOk l) (act : List Int) : RowsOk (known l act) := known_ok h (fun y hy => by cases hy)

set_option maxRecDepth 8000 in
set_option maxHeartbeats 16000000 in
theorem walk {w : World} (a0 : Option Addr) (c0 : Nat) (l : List Kp) (y0 : List (List Value)) (s0 : SlK w a0 l.length c0 y0 l) (w0 : ∀ k ∈ l, (∀ x ∈ k.1, Clause.Wf x) ∧ Clause.Wf k.2) (z0 : Open.bulkKept l ≤ 1048576)
    (a1 : Option Addr) (c1 : Nat) (inv : List (List Int)) (y1 : List Value) (s1 : Sl2 w a1 inv.length c1 y1 inv) (w1 : ∀ x ∈ inv, Clause.Wf x) (z1 : Open.bulkRows inv ≤ 1048576)
    (a2 : Option Addr) (c2 : Nat) (tags : List Int) (s2 : Sl w a2 tags.length c2 (ints tags)) (w2 : Clause.Wf tags) (z2 : Open.bulkInts tags ≤ 1048576)
    (a3 : Option Addr) (c3 : Nat) (more : List Int) (s3 : Sl w a3 more.length c3 (ints more)) (w3 : Clause.Wf more) (z3 : Open.bulkInts more ≤ 1048576) (W : World) (hW : W = w) :
    Calls Try.prog 3 #[.slice a0 l.length c0, .slice a1 inv.length c1, .slice a2 tags.length c2, .slice a3 more.length c3] W fun e W' => e = .returned (.bool true) ∧ Below W.heap.size W W' := by
  subst hW
  have hok := kept_ok w0 z0
  have hfit := kept_fit z0
  have hri := rows_ok w1 z1
  have hbl := Open.bulkKept_len l
  have hbr := Open.bulkRows_len inv
  have hshl : ∀ k ∈ l, Short k.1 := fun k hk x hx => by have := (hbl.2.2 k hk).2.2 x hx; omega
  have hshi : Short inv := fun x hx => by have := hbr.2 x hx; omega
  have ht : tags.length ≤ 1048576 := by have := z2; rw [Open.bulkInts_eq] at this; omega
  have hm : more.length ≤ 1048576 := by have := z3; rw [Open.bulkInts_eq] at this; omega
  have hll : l.length ≤ 1048576 := by omega
  have hil : inv.length ≤ 1048576 := by omega
  have hsz : sz l ≤ 1048576 := by omega
  have HAL := Lib.hid (alive_any W)
  have HP1 := Lib.hid (fun (U : World) (hU : Below W.heap.size W U) => put_any U a0 l.length c0 y0 l (s0.next hU) hok hfit (by omega) a1 inv.length c1 y1 inv (s1.next hU) hri a2 tags.length c2 tags (s2.next hU) (by omega) (by omega))
  have HKA := Lib.hid (fun (U : World) (hU : Below W.heap.size W U) => known_any U a0 l.length c0 y0 l (s0.next hU) hok (by omega) a2 tags.length c2 tags (s2.next hU))
  have HKB := Lib.hid (fun (U : World) (hU : Below W.heap.size W U) (a6 : Option Addr) (c6 : Nat) (hs : Sl U a6 (tags.length + more.length) c6 (ints (tags ++ more))) => known_any U a0 l.length c0 y0 l (s0.next hU) hok (by omega) a6 _ c6 (tags ++ more) hs)
  have HT := Lib.hid (fun (U : World) (hU : Below W.heap.size W U) => s2.next hU)
  have HM := Lib.hid (fun (U : World) (hU : Below W.heap.size W U) => s3.next hU)
  have HI := Lib.hid (fun (U : World) (hU : Below W.heap.size W U) => s1.next hU)
  have HAH : Hid (∀ x ∈ known l tags, hasC (known l (tags ++ more)) x = true) := fun x hx => known_more (fun y hy => List.mem_append_left _ hy) hx
  have HRA : Hid (RowsOk (known l tags)) := known_rows hok tags
  have HRB : Hid (RowsOk (known l (tags ++ more))) := known_rows hok _
  have HSHA : Hid (Short (known l tags)) := known_short hshl tags
  have HSHB : Hid (Short (known l (tags ++ more))) := known_short hshl _
  have HOK := Lib.hid hok
  have HFIT := Lib.hid hfit
  have HRI := Lib.hid hri
  have HSHI := Lib.hid hshi
  have HSHL := Lib.hid hshl
  have HTL := Lib.hid ht
  have HML := Lib.hid hm
  have HLL := Lib.hid hll
  have HIL := Lib.hid hil
  clear s0 w0 z0 s1 w1 z1 s2 w2 z2 s3 w3 z3 hok hfit hri hbl hbr hsz hshl hshi
  generalize hka : known l tags = A at *
  generalize hkb : known l (tags ++ more) = B at *
  clear hka hkb
  go_enter Try.func3, Try.ntmps3
  go_wp2_with fail
  with_reducible refine HAL.out.mono ?_
  rintro e w3 ⟨rfl, hb2⟩
  have HB3 := Lib.hid hb2
  clear hb2
  have HT3 := Lib.hid (HT.out w3 HB3.out)
  have HN3 := Lib.hid (World.ownsRow_nil w3 w3.heap.size 3 1)
  go_wp2_with (first
    | ((with_reducible refine wpL_app w3.heap.size (.slice none 0 0) 0 [] a2 tags.length c2 (ints tags) Vals.info_int Try.underlying24 rfl ?_ ?_ (ints_one tags) HN3.out HT3.out (Nat.le_refl _) ?_ ?_ (Below.refl _ _) ?_); rfl; rfl; (have := HTL.out; omega); (have := HTL.out; omega); (rw [Nat.zero_add, List.nil_append]; intro a5 c5 w5 hown5 hb5 hz5; have HO5 := Lib.hid hown5; have HB5 := Lib.hid hb5; have HZ5 := Lib.hid hz5; have HM5 := Lib.hid (HM.out w5 (HB3.out.trans (hb5.mono HB3.out.size)))))
    | ((with_reducible refine wpL_app w3.heap.size (.slice a5 tags.length c5) tags.length (ints tags) a3 more.length c3 (ints more) Vals.info_int Try.underlying24 rfl ?_ ?_ (ints_one more) HO5.out HM5.out HZ5.out ?_ ?_ HB5.out ?_); rfl; rfl; (have := HTL.out; have := HML.out; omega); (have := HTL.out; have := HML.out; omega); (intro a6 c6 w6 hown6 hb6 hz6)))
  have hb36 := HB3.out.trans (hb6.mono HB3.out.size)
  have he6 : ints (tags ++ more) = ints tags ++ ints more := by unfold ints; rw [List.map_append]
  rw [← he6] at hown6
  have HO6 := Lib.hid hown6
  have HKA6 := Lib.hid (HKA.out w6 hb36)
  have HB6 := Lib.hid hb36
  clear hown6 hb6 hz6 hb36 he6
  with_reducible refine HKA6.out.mono ?_
  rintro e w7 ⟨aA, cA, vA, rfl, hoA, hb7⟩
  have HB7 := Lib.hid (HB6.out.trans (hb7.mono HB6.out.size))
  have HOA := Lib.hid hoA
  have HO7 := Lib.hid (own_next HO6.out hb7)
  have HKB7 := Lib.hid (HKB.out w7 HB7.out a6 c6 (own_slI HO7.out))
  clear hoA hb7
  go_wp2_with fail
  with_reducible refine HKB7.out.mono ?_
  rintro e w8 ⟨aB, cB, vB, rfl, hoB, hb8⟩
  have HB8 := Lib.hid (HB7.out.trans (hb8.mono HB7.out.size))
  have HSA := Lib.hid (own2_sl2 (HOA.out.next hb8))
  have HSB := Lib.hid (own2_sl2 hoB)
  have HS8 := Lib.hid (own_slI (own_next HO7.out hb8))
  have hca := HSA.out.sl.cap
  have hba := HSA.out.sl.big
  clear hoB hb8
  generalize hnA : A.length = nA at *
  generalize hnB : B.length = nB at *
  have HNA := Lib.hid hnA
  clear hnA hnB
  go_wp2_with fail
  go_loopw [12] (fun s wr => ∃ k : Nat, k ≤ nA ∧ s = .int .i64 k ∧ Hid (Below w8.heap.size w8 wr)) (fun s _ => nA - (intOf s).toNat)
  case atStart => exact ⟨0, Nat.zero_le _, rfl, Below.refl _ _⟩
  case round =>
    obtain ⟨k, hk, rfl, hB⟩ := hrel
    by_cases hlt : k < nA
    · obtain ⟨b, o, ax, cx, hx2, hae, hbs, e0, hsx, _⟩ := (HSA.out.next hB.out).at hlt
      subst hae
      have HH := Lib.hid (HAH.out _ (List.getElem_mem hx2))
      have hlh := lawHas_any wr aB nB cB vB B (HSB.out.next hB.out) HRB.out HSHB.out ax _ cx A[k] hsx (HRA.out _ (List.getElem_mem hx2)).1 (HSHA.out _ (List.getElem_mem hx2))
      rw [HH.out] at hlh
      have HLH := Lib.hid hlh
      generalize A[k] = x at *
      clear hlh hsx
      go_wp2_with fail
      with_reducible refine HLH.out.mono ?_
      rintro e w9 ⟨rfl, hb9⟩
      have HB9 := Lib.hid (hB.out.trans (hb9.mono hB.out.size))
      clear hb9
      go_wp2_with fail
      go_roundw
      case rel => exact ⟨k + 1, by omega, by go_num, HB9.out⟩
      case measure => simp [intOf]; omega
    · have HBR := Lib.hid (HB8.out.trans (hB.out.mono HB8.out.size))
      have HP2 := Lib.hid (HP1.out wr HBR.out)
      have HS9 := Lib.hid (HS8.out.next hB.out)
      cases hput : put l inv tags with
      | none =>
        rw [hput] at HP2
        clear hput
        go_wp2_with fail
        with_reducible refine HP2.out.mono ?_
        rintro e w9 ⟨hp, hb9⟩
        obtain rfl : e = .returned (.tuple #[.slice none 0 0, .bool false]) := hp
        have HB9 := Lib.hid (HBR.out.trans (hb9.mono HBR.out.size))
        clear hb9
        go_wp2_with fail
        go_ret
        exact ⟨rfl, HB9.out⟩
      | some m =>
        rw [hput] at HP2
        have HMS : Hid (sz m ≤ 256) := put_sz hput
        have HMO : Hid (KeptOk m) := put_ok hput HOK.out HRI.out
        have HMH : Hid (∀ x ∈ inv, hasC (known m (tags ++ more)) x = true) := fun x hx => put_known hput hx
        have HMR : Hid (RowsOk (known m (tags ++ more))) := known_rows HMO.out _
        have HMK : Hid (Short (known m (tags ++ more))) := known_short (fun k hk => by
          rcases put_mem hput hk with h | rfl
          · exact HSHL.out k h
          · exact HSHI.out) _
        clear hput
        generalize wr = wo at *
        go_wp2_with fail
        with_reducible refine HP2.out.mono ?_
        rintro e w9 ⟨⟨am, cm, vm, rfl, hkm⟩, hb9⟩
        have HB9 := Lib.hid (HBR.out.trans (hb9.mono HBR.out.size))
        have HKM := Lib.hid hkm
        have HKN := Lib.hid (known_any w9 am m.length cm vm m hkm.slK HMO.out (by have := HMS.out; omega) a6 _ c6 (tags ++ more) (HS9.out.next hb9))
        clear hb9 hkm
        generalize known m (tags ++ more) = C at *
        go_wp2_with fail
        with_reducible refine HKN.out.mono ?_
        rintro e w10 ⟨aC, cC, vC, rfl, hoC, hb10⟩
        have HB10 := Lib.hid (HB9.out.trans (hb10.mono HB9.out.size))
        have HSC := Lib.hid (own2_sl2 hoC)
        have HKM2 := Lib.hid (HKM.out.next hb10)
        have HII := Lib.hid (HI.out w10 HB10.out)
        have hci := HII.out.sl.cap
        have hbi := HII.out.sl.big
        clear hoC hb10
        generalize hnC : C.length = nC at *
        generalize hnI : inv.length = nI at *
        clear hnC hnI
        go_wp2_with fail
        go_loopw [16] (fun s wr => ∃ k : Nat, k ≤ nI ∧ s = .int .i64 k ∧ Hid (Below w10.heap.size w10 wr)) (fun s _ => nI - (intOf s).toNat)
        case atStart => exact ⟨0, Nat.zero_le _, rfl, Below.refl _ _⟩
        case round =>
          generalize wr = wq at *
          obtain ⟨k2, hk2, rfl, hB2⟩ := hrel
          by_cases hlt2 : k2 < nI
          · obtain ⟨b2, o2, ax, cx, hx2, hae, hbs2, e0, hsx, _⟩ := (HII.out.next hB2.out).at hlt2
            subst hae
            have HH := Lib.hid (HMH.out _ (List.getElem_mem hx2))
            have hlh := lawHas_any wq aC nC cC vC C (HSC.out.next hB2.out) HMR.out HMK.out ax _ cx inv[k2] hsx (HRI.out _ (List.getElem_mem hx2)).1 (HSHI.out _ (List.getElem_mem hx2))
            rw [HH.out] at hlh
            have HLH := Lib.hid hlh
            generalize inv[k2] = x at *
            clear hlh hsx
            go_wp2_with fail
            with_reducible refine HLH.out.mono ?_
            rintro e w11 ⟨rfl, hb11⟩
            have HB11 := Lib.hid (hB2.out.trans (hb11.mono hB2.out.size))
            clear hb11
            go_wp2_with fail
            go_roundw
            case rel => exact ⟨k2 + 1, by omega, by go_num, HB11.out⟩
            case measure => simp [intOf]; omega
          · have HBZ := Lib.hid (HB10.out.trans (hB2.out.mono HB10.out.size))
            have HSZ := Lib.hid (size_any wq am m.length cm vm m (HKM2.out.next hB2.out).slK (by have := HMS.out; omega))
            have hms : decide (((sz m : Nat) : Int) ≤ 256) = true := decide_eq_true (by have := HMS.out; omega)
            generalize sz m = q at *
            go_wp2_with fail
            with_reducible refine HSZ.out.mono ?_
            rintro e w11 ⟨rfl, hb11⟩
            have HB11 := Lib.hid (HBZ.out.trans (hb11.mono HBZ.out.size))
            clear hb11
            go_wp2_with fail
            go_ret
            exact ⟨rfl, HB11.out⟩
end Go.Proofs.Ytdpmfcfelncbeaa.keepMore
