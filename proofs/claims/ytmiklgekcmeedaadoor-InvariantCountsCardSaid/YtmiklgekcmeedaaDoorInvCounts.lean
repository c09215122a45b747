/-
  interlocklaw26.InvariantCounts: the walk (written by invback.py).
-/
import Derived.Test.YtmiklgekcmeedaaDoorInvX
import Derived.Test.YtmiklgekcmeedaaDoorPlainLists
import Derived.Test.YtmiklgekcmeedaaDoorHeldAll
namespace Go.Proofs.YtmiklgekcmeedaaDoor.invariantCounts
open Go.RowKit Base Dig Spl Go.Proofs.YtmiklgekcmeedaaDoor.Inv
set_option linter.unusedVariables false
set_option linter.unusedSimpArgs false

theorem print_zero {l : List (List Int)} {s : ByteArray} (h : printS l = (s, 0)) : l.length ≤ 1024 ∧ (∀ x ∈ l, fitsB x = true) ∧ s = str (textP l) := by
  unfold printS at h
  by_cases h1 : 1024 < l.length
  · rw [if_pos h1] at h; injection h with _ h; cases h
  · rw [if_neg h1] at h
    by_cases h2 : allFit l = true
    · rw [if_pos h2] at h
      injection h with h _
      refine ⟨by omega, fun x hx => ?_, h.symm⟩
      unfold allFit at h2
      rw [Bool.not_eq_true', List.any_eq_false] at h2
      have := h2 (!fitsB x) (List.mem_map.2 ⟨x, hx, rfl⟩)
      simpa using this
    · rw [if_neg h2] at h; injection h with _ h; cases h
theorem str_of (s : ByteArray) : str s.data.toList = s := by cases s; rfl

set_option maxRecDepth 8000 in
set_option maxHeartbeats 16000000 in
theorem walk {w : World} (a : Option Addr) (c : Nat) (l : List (List Int)) (vals : List Value) (hs : Sl2 w a l.length c vals l) (hw : ∀ x ∈ l, Clause.Wf x) (z : l.length * 24 ≤ 140737488351232 ∧ ∀ x ∈ l, x.length * 8 ≤ 140737488351232) (n : Int) (hn64 : -9223372036854775808 ≤ n ∧ n ≤ 9223372036854775807)
    (m : Int) (hm : w.cell? ⟨0, 0, none⟩ = some (.int .i64 m)) (W : World) (hW : W = w) :
    Calls Tryd.prog 4 #[.slice a l.length c, .int .i64 n] W fun e W' => e = .returned (.bool true) ∧ Below W.heap.size W W' := by
  subst hW
  have HAL := Lib.hid (alive_any W)
  have HMM := Lib.hid (fun (U : World) (hU : Below W.heap.size W U) => (hU.cell (p := ⟨0, 0, none⟩) (World.block_lt_of_cell? _ _ hm)).trans hm)
  have HPA := Lib.hid (fun (U : World) (hU : Below W.heap.size W U) => print_all U a c vals l (hs.next hU) hw (fun x hx => by have := z.2 x hx; omega))
  have hcap := hs.sl.cap
  have hbig := hs.sl.big
  generalize hR : printS l = R at *
  obtain ⟨rs, re⟩ := R
  have HR := Lib.hid hR
  simp only at HPA
  have HN64 : Hid (-9223372036854775808 ≤ n ∧ n ≤ 9223372036854775807) := hn64
  clear hs hw z hR hm hn64
  go_enter Tryd.func4, Tryd.ntmps4
  go_wp2_with fail
  with_reducible refine HAL.out.mono ?_
  rintro e w1 ⟨rfl, hb1⟩
  have HB1 := Lib.hid hb1
  have HP1 := Lib.hid (HPA.out w1 hb1)
  clear hb1
  go_wp2_with fail
  with_reducible refine HP1.out.mono ?_
  rintro e w2 ⟨rfl, hb2⟩
  have HB2 := Lib.hid (HB1.out.trans (hb2.mono HB1.out.size))
  clear hb2
  by_cases h0 : re = 0
  · subst h0
    by_cases hl : n = (l.length : Int)
    · have hdl : (n == (l.length : Int)) = true := by simpa using hl
      clear hl
      go_wp2_with fail
      go_ret
      exact ⟨rfl, HB2.out⟩
    · have hdl : (n == (l.length : Int)) = false := by simpa using hl
      obtain ⟨g1, g2, g3⟩ := print_zero HR.out
      have HPT := Lib.hid (other_count (n := n) g1 hl)
      have hhl : (hd l.length).length ≤ (textP l).length := by rw [text_jn]; unfold partsT; cases hq : l.map lineT ++ [[46], []] with
        | nil => simp at hq
        | cons a r => rw [jn]; simp
      have htl : (textP l).length ≤ 9223372036854775000 := by
        rw [text_want]
        have hw := want_len (L := l.length) (by omega) l (fun x hx => ⟨fun v hv => by have := (fits_bounds (g2 x hx)).2.2 v hv; omega, (fits_bounds (g2 x hx)).2.1⟩)
        rw [List.length_append]
        have : l.length * 22529 ≤ 1024 * 22529 := Nat.mul_le_mul_right _ g1
        simp
        omega
      have HRL := Lib.hid (fun U => refPrint_any U (l.length : Int) (by omega))
      have HRN := Lib.hid (fun U => refPrint_any U n HN64.out)
      have hi : (⟨#[105, 110, 118, 32]⟩ : ByteArray) = str [105, 110, 118, 32] := rfl
      have HHD : Hid ((⟨#[105, 110, 118, 32]⟩ : ByteArray) ++ str (pr (l.length : Int)) = str (hd l.length)) := by show _ = _; rw [hi, str_app]; rfl
      have hz1 : (str (pr (l.length : Int))).size ≤ 21 := by rw [str_size]; exact pr_len (by omega)
      have hz2 : (str (pr n)).size ≤ 21 := by rw [str_size]; exact pr_len HN64.out
      have hlim1 : ¬ 9223372036854775807 < 4 + (str (pr (l.length : Int))).size := by omega
      have hlim2 : ¬ 9223372036854775807 < 4 + (str (pr n)).size := by omega
      have HX : Hid ((⟨#[105, 110, 118, 32]⟩ : ByteArray) ++ str (pr n) ++ rs.extract (4 + (str (pr (l.length : Int))).size) rs.size = str (([105, 110, 118, 32] ++ pr n) ++ (textP l).drop (hd l.length).length)) := by
        show _ = _
        have e1 : 4 + (str (pr (l.length : Int))).size = (hd l.length).length := by rw [str_size]; unfold hd; simp; omega
        have e2 : rs.extract (hd l.length).length rs.size = str ((textP l).drop (hd l.length).length) := by
          rw [g3]
          apply ByteArray.ext
          rw [ByteArray.data_extract]
          apply Array.toList_inj.1
          rw [Array.toList_extract]
          show List.extract (textP l) _ _ = (textP l).drop _
          rw [List.extract_eq_take_drop, str_size, List.take_of_length_le (by rw [List.length_drop]; omega)]
        rw [e1, e2, hi, str_app, str_app]
      have hle : ((4 + (str (pr (l.length : Int))).size : Nat) : Int) ≤ (rs.size : Int) := by
        rw [g3, str_size, str_size]
        have e1 : 4 + (pr (l.length : Int)).length = (hd l.length).length := by unfold hd; simp; omega
        omega
      have hle' : (4 + (str (pr (l.length : Int))).size : Nat) ≤ rs.size := by omega
      have hrs : rs.size ≤ 9223372036854775000 := by rw [g3, str_size]; exact htl
      have hlim3 : ¬ 9223372036854775807 < 4 + (str (pr n)).size + (rs.size - (4 + (str (pr (l.length : Int))).size)) := by omega
      have hPT2 : ([105, 110, 118, 32] ++ pr n ++ (textP l).drop (hd l.length).length).length ≤ 9223372036854775807 := by
        rw [str_size] at hz2
        rw [List.length_append, List.length_append, List.length_drop]
        simp
        omega
      have HPA2 := Lib.hid (fun (U : World) (hU : Below W.heap.size W U) => parse_any U (([105, 110, 118, 32] ++ pr n) ++ (textP l).drop (hd l.length).length) m (HMM.out U hU) hPT2)
      rw [← HX.out] at HPA2
      generalize str (pr (l.length : Int)) = sl at *
      generalize str (pr n) = sn at *
      have hsl : (sl.size : Int) ≤ 21 := by omega
      have hp0 : (0 : Int) ≤ 4 + (sl.size : Int) := by omega
      have hp1 : 4 + (sl.size : Int) ≤ (rs.size : Int) := by omega
      have hp2 : (4 + (sl.size : Int)).toNat = 4 + sl.size := by omega
      clear g1 g2 g3 hhl htl hi hPT2 hl
      go_wp2_with fail
      with_reducible refine (HRL.out _).mono ?_
      rintro e w3 ⟨rfl, hb3⟩
      have HB3 := Lib.hid (HB2.out.trans (hb3.mono HB2.out.size))
      clear hb3
      have b00 : Below w3.heap.size w3 w3.drew := (Below.refl _ _).drew
      have hS0 := b00
      go_upto_region 7 with fail
      refine HeldAll.region (fun U : World => Below w3.heap.size w3 U) (by kernel_rfl) ?_
      (refine HeldAll.take (i := 0) (oi := _) (d := some 38) (v := ?_) rfl rfl (by kernel_rfl) (by kernel_rfl) (by kernel_rfl) (fun _ _ _ h => h) (Or.inl ⟨by rfl, ?_⟩) hS0 ?_; rotate_left; (focus (intro w hSw; clear hSw; go_simp; (try with_reducible rfl); done)); (try simp only [Act.put, List.setIfInBounds_toArray, List.set_cons_zero, List.set_cons_succ]))
      (refine HeldAll.take (i := 3) (oi := _) (d := some 41) (v := ?_) rfl rfl (by kernel_rfl) (by kernel_rfl) (by kernel_rfl) (fun _ _ _ h => h) (Or.inl ⟨by rfl, ?_⟩) hS0 ?_; rotate_left; (focus (intro w hSw; clear hSw; go_simp; (try with_reducible rfl); done)); (try simp only [Act.put, List.setIfInBounds_toArray, List.set_cons_zero, List.set_cons_succ]))
      (refine HeldAll.take (i := 4) (oi := _) (d := some 42) (v := ?_) rfl rfl (by kernel_rfl) (by kernel_rfl) (by kernel_rfl) (fun _ _ _ h => h) (Or.inl ⟨by rfl, ?_⟩) hS0 ?_; rotate_left; (focus (intro w hSw; clear hSw; go_simp; (try with_reducible rfl); done)); (try simp only [Act.put, List.setIfInBounds_toArray, List.set_cons_zero, List.set_cons_succ]))
      (refine HeldAll.take (i := 5) (oi := _) (d := some 43) (v := ?_) rfl rfl (by kernel_rfl) (by kernel_rfl) (by kernel_rfl) (fun _ _ _ h => h) (Or.inl ⟨by rfl, ?_⟩) hS0 ?_; rotate_left; (focus (intro w hSw; clear hSw; go_simp; (try with_reducible rfl); done)); (try simp only [Act.put, List.setIfInBounds_toArray, List.set_cons_zero, List.set_cons_succ]))
      (refine HeldAll.take (i := 6) (oi := _) (d := some 44) (v := ?_) rfl rfl (by kernel_rfl) (by kernel_rfl) (by kernel_rfl) (fun _ _ _ h => h) (Or.inl ⟨by rfl, ?_⟩) hS0 ?_; rotate_left; (focus (intro w hSw; clear hSw; go_simp; (try with_reducible rfl); done)); (try simp only [Act.put, List.setIfInBounds_toArray, List.set_cons_zero, List.set_cons_succ]))
      refine HeldAll.one (i := 1) (by kernel_rfl) ?_
      refine HeldAll.opCall (i := 1) (oi := _) (d := some 39) (R := fun v w' => v = .string sn ∧ Below w3.drew.heap.size w3.drew w') rfl rfl (by rfl) (by go_simp; done) ((HRN.out w3.drew).mono fun e w' h => ⟨_, h.1, rfl, h.2⟩) ?_
      rintro v u1 ⟨rfl, su1⟩
      have b1 : Below w3.heap.size w3 u1 := b00.trans (su1.mono b00.size)
      refine ⟨b1, ?_⟩
      (try simp only [Act.put, List.setIfInBounds_toArray, List.set_cons_zero, List.set_cons_succ])
      have hS0 := b1
      (refine HeldAll.take (i := 2) (oi := _) (d := some 40) (v := ?_) rfl rfl (by kernel_rfl) (by kernel_rfl) (by kernel_rfl) (fun _ _ _ h => h) (Or.inl ⟨by rfl, ?_⟩) hS0 ?_; rotate_left; (focus (intro w hSw; clear hSw; go_simp; (try with_reducible rfl); done)); (try simp only [Act.put, List.setIfInBounds_toArray, List.set_cons_zero, List.set_cons_succ]))
      (refine HeldAll.take (i := 7) (oi := _) (d := some 45) (v := ?_) rfl rfl (by kernel_rfl) (by kernel_rfl) (by kernel_rfl) (fun _ _ _ h => h) (Or.inl ⟨by rfl, ?_⟩) hS0 ?_; rotate_left; (focus (intro w hSw; clear hSw; go_simp; (try with_reducible rfl); done)); (try simp only [Act.put, List.setIfInBounds_toArray, List.set_cons_zero, List.set_cons_succ]))
      refine HeldAll.one (i := 8) (by kernel_rfl) ?_
      refine HeldAll.opCall (i := 8) (oi := _) (d := some 46) (R := fun v w' => (∃ cd : Int, (cd = 33 ∨ cd = 5) ∧ v = .tuple #[.slice none 0 0, .int .i64 cd]) ∧ Below u1.heap.size u1 w') rfl rfl (by rfl) (by go_simp; done) ((HPA2.out u1 (HB3.out.trans (b1.mono HB3.out.size))).mono fun e w' h => by
        obtain ⟨h1, h2⟩ := h
        rcases h1 with ⟨mm, ma, mc, mv, hpt, _⟩ | ⟨cd, hcd, _, he⟩
        · rw [HPT.out] at hpt; cases hpt
        · exact ⟨_, he, ⟨cd, hcd, rfl⟩, h2⟩) ?_
      rintro v u2 ⟨⟨cd, hcd, rfl⟩, su2⟩
      have b2 : Below w3.heap.size w3 u2 := b1.trans (su2.mono b1.size)
      refine ⟨b2, ?_⟩
      (try simp only [Act.put, List.setIfInBounds_toArray, List.set_cons_zero, List.set_cons_succ])
      have hS0 := b2
      (refine HeldAll.take (i := 9) (oi := _) (d := some 37) (v := ?_) rfl rfl (by kernel_rfl) (by kernel_rfl) (by kernel_rfl) (fun _ _ _ h => h) (Or.inl ⟨by rfl, ?_⟩) hS0 ?_; rotate_left; (focus (intro w hSw; clear hSw; go_simp; (try with_reducible rfl); done)); (try simp only [Act.put, List.setIfInBounds_toArray, List.set_cons_zero, List.set_cons_succ]))
      (refine HeldAll.take (i := 10) (oi := _) (d := some 47) (v := ?_) rfl rfl (by kernel_rfl) (by kernel_rfl) (by kernel_rfl) (fun _ _ _ h => h) (Or.inl ⟨by rfl, ?_⟩) hS0 ?_; rotate_left; (focus (intro w hSw; clear hSw; go_simp; (try with_reducible rfl); done)); (try simp only [Act.put, List.setIfInBounds_toArray, List.set_cons_zero, List.set_cons_succ]))
      (refine HeldAll.take (i := 11) (oi := _) (d := some 48) (v := ?_) rfl rfl (by kernel_rfl) (by kernel_rfl) (by kernel_rfl) (fun _ _ _ h => h) (Or.inl ⟨by rfl, ?_⟩) hS0 ?_; rotate_left; (focus (intro w hSw; clear hSw; go_simp; (try with_reducible rfl); done)); (try simp only [Act.put, List.setIfInBounds_toArray, List.set_cons_zero, List.set_cons_succ]))
      (refine HeldAll.take (i := 12) (oi := _) (d := some 8) (v := ?_) rfl rfl (by kernel_rfl) (by kernel_rfl) (by kernel_rfl) (fun _ _ _ h => h) (Or.inl ⟨by rfl, ?_⟩) hS0 ?_; rotate_left; (focus (intro w hSw; clear hSw; go_simp; (try with_reducible rfl); done)); (try simp only [Act.put, List.setIfInBounds_toArray, List.set_cons_zero, List.set_cons_succ]))
      (refine HeldAll.take (i := 13) (oi := _) (d := some 9) (v := ?_) rfl rfl (by kernel_rfl) (by kernel_rfl) (by kernel_rfl) (fun _ _ _ h => h) (Or.inl ⟨by rfl, ?_⟩) hS0 ?_; rotate_left; (focus (intro w hSw; clear hSw; go_simp; (try with_reducible rfl); done)); (try simp only [Act.put, List.setIfInBounds_toArray, List.set_cons_zero, List.set_cons_succ]))
      refine HeldAll.done (by kernel_rfl) ?_ _
      have HBE := Lib.hid (HB3.out.trans (b2.mono HB3.out.size))
      clear hS0 b00 b1 b2 su1 su2
      rcases hcd with rfl | rfl
      all_goals
        go_wp2_with fail
        go_ret
        exact ⟨rfl, HBE.out⟩
  · have hr0 : (re != 0) = true := by simpa using h0
    go_wp2_with fail
    go_ret
    exact ⟨rfl, HB2.out⟩
end Go.Proofs.YtmiklgekcmeedaaDoor.invariantCounts
