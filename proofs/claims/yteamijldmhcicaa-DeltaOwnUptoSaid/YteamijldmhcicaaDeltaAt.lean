/-
  delta.At, delta.Covered: what holds at a level; does it already say a clause?
-/
import Derived.Test.YteamijldmhcicaaOwn3
import Derived.Test.YteamijldmhcicaaCloneI
import Derived.Test.YteamijldmhcicaaDeltaP
import Derived.Test.YteamijldmhcicaaSub
import Derived.Test.YteamijldmhcicaaSlfR
namespace Go.Proofs.Yteamijldmhcicaa
open Go.RowKit Base Own3N
set_option linter.unusedVariables false
set_option linter.unusedSimpArgs false
namespace Delta

theorem infoR : (Try.prog.info? 25).map (fun i => (i.zero, i.size, i.bytes)) = some (some (.slice none 0 0), 1, 24) := by kernel_rfl

def part (F : List (List (List Int))) (lev i : Nat) : List (List Int) := ((F.take i).drop lev).flatten

theorem part_next {F : List (List (List Int))} {lev i : Nat} (hi : i < F.length) : part F lev (i + 1) = part F lev i ++ (if lev ≤ i then F[i] else []) := by
  unfold part
  rw [List.take_succ_eq_append_getElem hi, List.drop_append]
  have hl : (F.take i).length = i := by simp; omega
  rw [hl, List.flatten_append]
  by_cases h : lev ≤ i
  · rw [if_pos h, show lev - i = 0 by omega]; simp
  · have hd : List.drop (lev - i) [F[i]] = [] := List.drop_eq_nil_of_le (by simp; omega)
    rw [if_neg h, hd]; simp

theorem part_all {F : List (List (List Int))} {lev : Nat} : part F lev F.length = atL F lev := by
  unfold part atL
  rw [List.take_length]

theorem flat_len {α : Type} {a b : List (List α)} (h : a.Sublist b) : a.flatten.length ≤ b.flatten.length := by
  induction h with
  | slnil => simp
  | cons x _ ih => rw [List.flatten_cons, List.length_append]; omega
  | cons_cons x _ ih => rw [List.flatten_cons, List.flatten_cons, List.length_append, List.length_append]; omega

theorem part_len (F : List (List (List Int))) (lev i : Nat) : (part F lev i).length ≤ F.flatten.length := by
  unfold part
  have h1 : ((F.take i).drop lev).Sublist F := (List.drop_sublist _ _).trans (List.take_sublist _ _)
  exact flat_len h1

theorem part_room {F : List (List (List Int))} {lev i j : Nat} (hi : i < F.length) (hj : j < F[i].length) (hlev : lev ≤ i) : (part F lev i).length + j + 1 ≤ F.flatten.length := by
  have h := part_len F lev (i + 1)
  rw [part_next hi, if_pos hlev, List.length_append] at h
  omega

def AtOut (w : World) (L : List (List Int)) (e : Ending) (w' : World) : Prop :=
  ∃ a' c' vals, e = .returned (.slice a' L.length c') ∧ Own2 w' w.heap.size 25 3 (.slice a' L.length c') L.length vals L ∧ Below w.heap.size w w'

set_option maxRecDepth 4000 in
set_option maxHeartbeats 8000000 in
theorem at_any (w : World) (a : Option Addr) (n c : Nat) (vs : List Value) (F : List (List (List Int))) (hsl : Sl3 w a n c vs F) (htot : F.flatten.length * 24 ≤ 140737488355328) (hrow : ∀ r ∈ F, ∀ l ∈ r, l.length * 8 ≤ 140737488355328) (level : Int) :
    Calls Try.prog 9 #[.agg #[.slice a n c], .int .i64 level] w (AtOut w (atL F level.toNat)) := by
  obtain rfl : F.length = n := hsl.len
  obtain ⟨W1, hW1⟩ : ∃ W1, w.alloc (.cells #[.slice a F.length c] 24) = W1 := ⟨_, rfl⟩
  have h1 : Below w.heap.size w W1 := by rw [← hW1]; exact (Below.refl _ _).alloc (Nat.le_refl _) _
  have k0 : W1.cell? ⟨w.heap.size, 0, none⟩ = some (.slice a F.length c) := by rw [← hW1]; simp [go_sem]
  have hcap := hsl.sl.cap
  have hbig := hsl.sl.big
  obtain ⟨lev, hlev⟩ : ∃ lev : Nat, lev = level.toNat := ⟨_, rfl⟩
  have HLV := Lib.hid hlev
  rw [← hlev]
  have HS := Lib.hid hsl
  have HT := Lib.hid htot
  have HROW := Lib.hid hrow
  have H1 := Lib.hid h1
  obtain ⟨N, hN⟩ : ∃ N, N = w.heap.size := ⟨_, rfl⟩
  have HNN := Lib.hid hN
  clear hsl htot hrow h1 hlev hN
  go_enter Try.func9, Try.ntmps9
  go_wp2_with fail
  go_loopw [5, 13] (fun v s wr => ∃ i m : Nat, i ≤ F.length ∧ s = .int .i64 i ∧ ∃ a' c' vals, v = .slice a' m c' ∧ Hid (Own2 wr N 25 3 (.slice a' m c') m vals (part F lev i)) ∧ Hid (Below N w wr)) (fun _ s _ => F.length - (intOf s).toNat)
  case atStart => exact ⟨0, 0, Nat.zero_le _, rfl, none, 0, [], rfl, by show Own2 _ _ _ _ _ _ _ _; unfold part; simpa using Own2.nil _ _ _ _, by show Below _ _ _; rw [HNN.out]; exact H1.out⟩
  case round =>
    obtain ⟨i, m, hi, rfl, a', c', vals, rfl, hown, hbr⟩ := hrel
    have hbw : Below w.heap.size w wr := by rw [← HNN.out]; exact hbr.out
    by_cases hlt : i < F.length
    · obtain ⟨b5, o5, a5, c5, vs5, hx, rfl, hgs, hc, hs5, hv5⟩ := HS.out.at hlt
      have ki := (hbw.cell (p := ⟨b5, o5 + i, none⟩) hgs).trans hc
      have HS5 := Lib.hid hs5
      have hcap5 := hs5.sl.cap
      have hbig5 := hs5.sl.big
      have HRI := Lib.hid (HROW.out _ (List.getElem_mem hx))
      have HPN := Lib.hid (part_next (lev := lev) hx)
      have HRM := Lib.hid (fun j hj hl => part_room (lev := lev) (j := j) hx hj hl)
      clear hc hs5 hv5
      generalize F[i] = r at *
      by_cases hge : lev ≤ i
      · have hgeI : level ≤ (i : Int) := by have := HLV.out; omega
        have HGE := Lib.hid hge
        clear hge
        go_wp2_with fail
        generalize wr = wq at *
        go_loopw [5, 20] (fun v s wr => ∃ j m : Nat, j ≤ r.length ∧ s = .int .i64 j ∧ ∃ a' c' vals, v = .slice a' m c' ∧ Hid (Own2 wr N 25 3 (.slice a' m c') m vals (part F lev i ++ r.take j)) ∧ Hid (Below N w wr)) (fun _ s _ => r.length - (intOf s).toNat)
        case atStart => exact ⟨0, m, Nat.zero_le _, rfl, a', c', vals, rfl, by show Own2 _ _ _ _ _ _ _ _; simpa using hown.out, hbr.out⟩
        case round =>
          obtain ⟨j, m, hj, rfl, a', c', vals, rfl, hown, hbr⟩ := hrel
          have hbw2 : Below w.heap.size w wr := by rw [← HNN.out]; exact hbr.out
          by_cases hjl : j < r.length
          · obtain ⟨b6, o6, a6, c6, hxj, e6, hgs6, hc6, hs6, _⟩ := HS5.out.at hjl
            subst e6
            have kj := (hbw2.cell (p := ⟨b6, o6 + j, none⟩) hgs6).trans hc6
            have HCL := Lib.hid (CloneI.clone wr a6 _ c6 (ints r[j]) (hs6.next hbw2) (ints_one _) (HRI.out _ (List.getElem_mem hxj)))
            have HTK : Hid (r.take (j + 1) = r.take j ++ [r[j]]) := List.take_succ_eq_append_getElem hxj
            have hml : m = (part F lev i).length + j := by have := hown.out.len; rw [List.length_append, List.length_take] at this; omega
            have HMR : Hid (m + 1 ≤ F.flatten.length) := by have := HRM.out j hxj HGE.out; show _ ≤ _; omega
            have HHB : Hid (N ≤ wr.heap.size) := by rw [HNN.out]; exact hbw2.size
            clear hc6 hs6 hml
            generalize r[j] = x at *
            generalize hxl : x.length = xl at *
            have HXL := Lib.hid hxl
            clear hxl
            go_wp2_with fail
            refine HCL.out.mono ?_
            rintro e w5 ⟨a8, c8, rfl, hown8, hb8⟩
            have HO5 := Lib.hid (hown.out.next hb8)
            have HU5 := Lib.hid (own_mono hown8 HHB.out)
            have HB5 := Lib.hid (hbr.out.trans (hb8.mono HHB.out))
            have HN5 : Hid (N ≤ w5.heap.size) := Nat.le_trans HHB.out hb8.size
            have HSZ : Hid ((m + 1) * 24 ≤ 140737488355328) := by show _ ≤ _; have h1 := HMR.out; have h2 := HT.out; omega
            clear hown hbr hown8 hb8 hbw2 kj
            go_wp2_with ((with_reducible refine wpL_pushO (B := N) (W := w) _ _ _ x _ HXL.out _ m vals (part F lev i ++ r.take j) infoR Try.underlying31 ?_ ?_ ?_ ?_ HO5.out HU5.out ?_ ?_ ?_ HB5.out ?_); decide; rfl; rfl; rfl; exact HN5.out; exact HSZ.out; (have := HSZ.out; omega); (intro a9 c9 w6 hmix6 hb6 hs6))
            go_roundw
            case rel => exact ⟨j + 1, m + 1, by omega, by go_num, a9, c9, _, by go_num, by show Own2 _ _ _ _ _ _ _ _; rw [HTK.out, ← List.append_assoc]; exact hmix6, hb6⟩
            case measure => simp [intOf]; omega
          · have HO2 := Lib.hid hown.out
            have HB2 := Lib.hid hbr.out
            have hjr : j = r.length := by omega
            rw [hjr, List.take_length] at HO2
            have HPN2 : Hid (part F lev (i + 1) = part F lev i ++ r) := by show _ = _; rw [HPN.out, if_pos HGE.out]
            clear hown hbr hbw2
            go_wp2_with fail
            go_roundw
            case rel => exact ⟨i + 1, m, by omega, by go_num, a', c', vals, rfl, by show Own2 _ _ _ _ _ _ _ _; rw [HPN2.out]; exact HO2.out, HB2.out⟩
            case measure => simp [intOf]; omega
      · have hgeI : ¬ level ≤ (i : Int) := by have := HLV.out; omega
        have HGE := Lib.hid hge
        clear hge
        go_wp2_with fail
        generalize wr = wq at *
        go_loopw [5, 20] (fun v s wr => ∃ j : Nat, j ≤ r.length ∧ s = .int .i64 j ∧ v = .slice a' m c' ∧ wr = wq) (fun _ s _ => r.length - (intOf s).toNat)
        case atStart => exact ⟨0, Nat.zero_le _, rfl, rfl, rfl⟩
        case round =>
          obtain ⟨j, hj, rfl, rfl, rfl⟩ := hrel
          by_cases hjl : j < r.length
          · obtain ⟨b6, o6, a6, c6, hxj, e6, hgs6, hc6, hs6, _⟩ := HS5.out.at hjl
            subst e6
            have kj := (hbw.cell (p := ⟨b6, o6 + j, none⟩) hgs6).trans hc6
            clear hc6 hs6
            generalize r[j].length = xl at *
            go_wp2_with fail
            go_roundw
            case rel => exact ⟨j + 1, by omega, by go_num, by first | rfl | trivial | exact ⟨rfl, rfl⟩ | simp⟩
            case measure => simp [intOf]; omega
          · have HPN2 : Hid (part F lev (i + 1) = part F lev i) := by show _ = _; rw [HPN.out, if_neg HGE.out, List.append_nil]
            have HO2 := Lib.hid hown.out
            have HB2 := Lib.hid hbr.out
            clear hown hbr
            go_wp2_with fail
            go_roundw
            case rel => exact ⟨i + 1, m, by omega, by go_num, a', c', vals, rfl, by show Own2 _ _ _ _ _ _ _ _; rw [HPN2.out]; exact HO2.out, HB2.out⟩
            case measure => simp [intOf]; omega
    · have hin : i = F.length := by omega
      have HO2 := Lib.hid hown.out
      rw [hin, part_all] at HO2
      have HB2 := Lib.hid hbr.out
      have hm : (atL F lev).length = m := HO2.out.len
      have HMM := Lib.hid hm
      clear hown hbr hbw hm
      go_wp2_with fail
      go_ret
      exact ⟨a', c', vals, by rw [HMM.out]; rfl, by rw [HMM.out, ← HNN.out]; exact HO2.out, by rw [← HNN.out]; exact HB2.out⟩

theorem eg_cov : SlfR.Enters 30 := enters_of Try.func30 (by kernel_rfl) rfl

set_option maxHeartbeats 400000 in
theorem cov1_any (w : World) (a : Option Addr) (n c : Nat) (l : List Int) (hsl : Sl w a n c (ints l)) (a2 : Option Addr) (n2 c2 : Nat) (ys : List Int) (hsl2 : Sl w a2 n2 c2 (ints ys)) (B : Nat) (hc : w.cell? ⟨B, 0, none⟩ = some (.slice a n c)) :
    Calls Try.prog 30 #[.slice a2 n2 c2, .pointer (some ⟨B, 0, none⟩)] w fun e w' => e = .returned (.bool (Clause.subs ys l)) ∧ Below w.heap.size w w' := by
  have H := Lib.hid (Clause.subsumes_any w a2 n2 c2 ys hsl2 a n c l hsl)
  clear hsl hsl2
  go_enter Try.func30, Try.ntmps30
  go_wp2_with fail
  refine H.out.mono ?_
  rintro e w1 ⟨rfl, hb⟩
  go_wp2_with fail
  go_ret
  exact ⟨ret_bool rfl, hb⟩

set_option maxHeartbeats 2000000 in
theorem covered_any (w : World) (a : Option Addr) (n c : Nat) (vs : List Value) (F : List (List (List Int))) (hsl : Sl3 w a n c vs F) (htot : F.flatten.length * 24 ≤ 140737488355328) (hrow : ∀ r ∈ F, ∀ l ∈ r, l.length * 8 ≤ 140737488355328) (level : Int)
    (al : Option Addr) (nl cl : Nat) (l : List Int) (hl : Sl w al nl cl (ints l)) :
    Calls Try.prog 16 #[.agg #[.slice a n c], .int .i64 level, .slice al nl cl] w fun e w' => e = .returned (.bool (covered F level.toNat l)) ∧ Below w.heap.size w w' := by
  obtain ⟨W2, hW2⟩ : ∃ W2, (w.alloc (.cells #[.slice a n c] 24)).alloc (.cells #[.slice al nl cl] 25) = W2 := ⟨_, rfl⟩
  have h2 : Below w.heap.size w W2 := by rw [← hW2]; exact ((Below.refl _ _).alloc (Nat.le_refl _) _).alloc (by simp) _
  have k0 : W2.cell? ⟨w.heap.size, 0, none⟩ = some (.slice a n c) := by rw [← hW2]; simp [go_sem]
  have k1 : W2.cell? ⟨w.heap.size + 1, 0, none⟩ = some (.slice al nl cl) := by rw [← hW2]; simp [go_sem]
  have z2 : W2.heap.size = w.heap.size + 2 := by rw [← hW2]; simp
  have HA := Lib.hid (at_any W2 a n c vs F (hsl.next h2) htot hrow level)
  have HL := Lib.hid (hl.next h2)
  have H2 := Lib.hid h2
  have HC : Hid (covered F level.toNat l = (atL F level.toNat).any fun x => Clause.subs x l) := rfl
  generalize covered F level.toNat l = q at *
  generalize atL F level.toNat = L at *
  clear hsl htot hrow hl h2
  go_enter Try.func16, Try.ntmps16
  go_wp2_with fail
  refine HA.out.mono ?_
  rintro e w3 ⟨a3, c3, vals, rfl, ho, hb3⟩
  have kl := (hb3.cell (p := ⟨w.heap.size + 1, 0, none⟩) (by show w.heap.size + 1 < W2.heap.size; omega)).trans k1
  have hlt : w.heap.size + 1 < w3.heap.size := by have := hb3.size; omega
  have CF := SlfR.containsFunc w3 a3 _ c3 vals 30 #[] #[.pointer (some ⟨w.heap.size + 1, 0, none⟩)] (L.map fun x => Clause.subs x l) ho.sl2'.sl (by rw [List.length_map]) eg_cov (by
    intro U hU j v b hv hb
    rw [List.getElem?_map, Option.map_eq_some_iff] at hb
    obtain ⟨ys, hys, rfl⟩ := hb
    obtain ⟨a6, c6, rfl, hs6⟩ := ho.sl2'.row j v ys hv hys
    exact cov1_any U al nl cl l ((HL.out.next hb3).next hU) a6 _ c6 ys (hs6.next hU) (w.heap.size + 1) ((hU.cell (p := ⟨w.heap.size + 1, 0, none⟩) hlt).trans kl))
  have hany : ((L.map fun x => Clause.subs x l).any id) = q := by rw [HC.out, List.any_map]; rfl
  rw [hany] at CF
  have HCF := Lib.hid CF
  have HB3 := Lib.hid (H2.out.trans (hb3.mono H2.out.size))
  clear CF ho hb3 hany kl hlt
  go_wp2_with fail
  refine HCF.out.mono ?_
  rintro e w4 ⟨rfl, hb4⟩
  have HB4 := Lib.hid (HB3.out.trans (hb4.mono HB3.out.size))
  clear hb4
  go_wp2_with fail
  go_ret
  exact ⟨rfl, HB4.out⟩

end Delta
end Go.Proofs.Yteamijldmhcicaa
