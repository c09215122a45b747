/-
  interlocklaw26.InvariantTells: the walk: any clauses' text is as the page says.
-/
import Derived.Test.YtmiklgekcmeedaaInvPrint
namespace Go.Proofs.Ytmiklgekcmeedaa.invariantTells
open Go.RowKit Base Dig Go.Proofs.Ytmiklgekcmeedaa.Inv
open Join (strs)
set_option linter.unusedVariables false
set_option linter.unusedSimpArgs false

theorem alive_text : textP [[-1, 2]] = [105, 110, 118, 32, 49, 10, 45, 49, 32, 50, 10, 46, 10] := by
  have h1 : pr (([[-1, 2]] : List (List Int)).length : Int) = [49] := by
    show pr 1 = _
    unfold pr
    rw [if_neg (by decide), dg_small (by decide)]
    decide
  have h2 : pr (-1) = [45, 49] := by
    unfold pr
    rw [if_pos (by decide), dg_small (by decide)]
    decide
  have h3 : pr 2 = [50] := by
    unfold pr
    rw [if_neg (by decide), dg_small (by decide)]
    decide
  unfold textP hd lineT
  rw [h1]
  simp only [List.map_cons, List.map_nil, h2, h3]
  decide

theorem alive_print : printS [[-1, 2]] = (⟨#[105, 110, 118, 32, 49, 10, 45, 49, 32, 50, 10, 46, 10]⟩, 0) := by
  unfold printS
  rw [if_neg (by decide), if_pos (by decide +kernel), alive_text]
  rfl

set_option maxHeartbeats 2000000 in
theorem alive_any (w : World) : Calls Try.prog 5 #[] w fun e w' => e = .returned (.bool true) ∧ Below w.heap.size w w' := by
  have hb1 : Below w.heap.size w (w.alloc (.cells #[.int .i64 (-1), .int .i64 2] 3)) := (Below.refl _ _).alloc (Nat.le_refl _) _
  have hs1 := sl_new w #[.int .i64 (-1), .int .i64 2] 3 2 rfl (by omega)
  have hz1 : (w.alloc (.cells #[.int .i64 (-1), .int .i64 2] 3)).heap.size = w.heap.size + 1 := by simp
  generalize hW1 : w.alloc (.cells #[.int .i64 (-1), .int .i64 2] 3) = W1 at *
  have hb2 : Below W1.heap.size W1 (W1.alloc (.cells #[.slice (some ⟨w.heap.size, 0, none⟩) 2 2] 29)) := (Below.refl _ _).alloc (Nat.le_refl _) _
  have hs2 := sl_new W1 #[.slice (some ⟨w.heap.size, 0, none⟩) 2 2] 29 1 rfl (by omega)
  rw [hz1] at hs2
  have HP := print_all (W1.alloc (.cells #[.slice (some ⟨w.heap.size, 0, none⟩) 2 2] 29)) (some ⟨w.heap.size + 1, 0, none⟩) 1 [.slice (some ⟨w.heap.size, 0, none⟩) 2 2] [[-1, 2]] ⟨hs2, rfl, fun k v xs hv hx => by
    have hk : k = 0 := by
      have := (List.getElem?_eq_some_iff.1 hv).1
      simpa using this
    subst hk
    simp at hv hx
    subst hv hx
    exact ⟨_, 2, rfl, hs1.next hb2⟩⟩ (by intro x hx; simp at hx; subst hx; intro y hy; simp at hy; rcases hy with rfl | rfl <;> decide) (by intro x hx; simp at hx; subst hx; decide)
  rw [alive_print] at HP
  change Calls Try.prog 4 #[.slice (some ⟨w.heap.size + 1, 0, none⟩) 1 1] _ _ at HP
  have HPH := Lib.hid HP
  have HB := Lib.hid (hb1.trans (hb2.mono hb1.size))
  subst hW1
  clear HP hb1 hb2 hs1 hs2 hz1
  go_enter Try.func5, Try.ntmps5
  go_wp2_with fail
  with_reducible refine HPH.out.mono ?_
  rintro e w1 ⟨rfl, hb⟩
  have HB1 := Lib.hid (HB.out.trans (hb.mono HB.out.size))
  clear hb
  go_wp2_with fail
  go_ret
  exact ⟨rfl, HB1.out⟩

theorem print_fit {l : List (List Int)} (h0 : ¬ 1024 < l.length) (h : ∀ x ∈ l, fitsB x = true) : printS l = (str (textP l), 0) := by
  unfold printS
  have h1 : allFit l = true := by
    unfold allFit
    rw [Bool.not_eq_true', List.any_eq_false]
    intro b hb
    obtain ⟨x, hx, rfl⟩ := List.mem_map.1 hb
    simp [h x hx]
  rw [if_neg h0, if_pos h1]
theorem print_odd {l : List (List Int)} (h0 : ¬ 1024 < l.length) {x : List Int} (hx : x ∈ l) (h : fitsB x = false) : printS l = (⟨#[]⟩, 9) := by
  unfold printS
  have h1 : allFit l = false := by
    unfold allFit
    rw [Bool.not_eq_false', List.any_eq_true]
    exact ⟨!fitsB x, List.mem_map.2 ⟨x, hx, rfl⟩, by simp [h]⟩
  rw [if_neg h0, h1]
  rfl

set_option maxRecDepth 8000 in
set_option maxHeartbeats 16000000 in
theorem walk {w : World} (a : Option Addr) (c : Nat) (l : List (List Int)) (vals : List Value) (s : Sl2 w a l.length c vals l) (hw : ∀ x ∈ l, Clause.Wf x) (z : l.length * 24 ≤ 140737488351232 ∧ ∀ x ∈ l, x.length * 8 ≤ 140737488351232) (W : World) (hW : W = w) :
    Calls Try.prog 3 #[.slice a l.length c] W fun e W' => e = .returned (.bool true) ∧ Below W.heap.size W W' := by
  subst hW
  have hcap := s.sl.cap
  have hbig := s.sl.big
  have HP := print_all W a c vals l s hw (fun x hx => by have := z.2 x hx; omega)
  have HS := Lib.hid s
  have HWL := Lib.hid hw
  have HZ := Lib.hid z
  by_cases hbg : 1024 < l.length
  · have hd1 : decide ((1024 : Int) < (l.length : Int)) = true := decide_eq_true (by omega)
    have hv : printS l = (⟨#[]⟩, 3) := by unfold printS; rw [if_pos hbg]
    rw [hv] at HP
    have HPH := Lib.hid HP
    clear HP s hw z hbg hv
    go_enter Try.func3, Try.ntmps3
    go_wp2_with fail
    with_reducible refine HPH.out.mono ?_
    rintro e w1 ⟨rfl, hb1⟩
    have HAL := Lib.hid (alive_any w1)
    have HB1 := Lib.hid hb1
    clear hb1
    go_wp2_with fail
    with_reducible refine HAL.out.mono ?_
    rintro e w2 ⟨rfl, hb2⟩
    have HB2 := Lib.hid (HB1.out.trans (hb2.mono HB1.out.size))
    clear hb2
    go_wp2_with fail
    go_ret
    exact ⟨rfl, HB2.out⟩
  · have hd1 : decide ((1024 : Int) < (l.length : Int)) = false := decide_eq_false (by omega)
    have HFI := Lib.hid (fun h => print_fit (l := l) hbg h)
    have HOD := Lib.hid (fun x (hx : x ∈ l) h => print_odd (l := l) hbg hx h)
    have H1024 : Hid (l.length ≤ 1024) := by show _ ≤ _; omega
    have HPR := Lib.hid (fun U => refPrint_any U (l.length : Int) (by omega))
    have HSP : Hid ((⟨#[105, 110, 118, 32]⟩ : ByteArray) ++ str (pr (l.length : Int)) ++ ⟨#[10]⟩ = str (want l.length (l.take 0))) := by show str [105, 110, 118, 32] ++ _ ++ str [10] = _; rw [str_app, str_app]; simp [want, hd]
    have hsz : (str (pr (l.length : Int))).size ≤ 21 := by rw [str_size]; exact pr_len (by omega)
    have hz1 : ¬ 9223372036854775807 < 4 + (str (pr (l.length : Int))).size := by omega
    have hz2 : ¬ 9223372036854775807 < 4 + (str (pr (l.length : Int))).size + 1 := by omega
    generalize hR : printS l = R at *
    obtain ⟨rs, re⟩ := R
    have HPH := Lib.hid HP
    generalize str (pr (l.length : Int)) = sn at *
    generalize hn : l.length = n at *
    have HN := Lib.hid hn
    clear HP s hw z hbg hn hR hsz
    go_enter Try.func3, Try.ntmps3
    go_wp2_with fail
    with_reducible refine HPH.out.mono ?_
    rintro e w1 ⟨rfl, hb1⟩
    have HB1 := Lib.hid hb1
    clear hb1
    go_wp2_with fail
    with_reducible refine (HPR.out _).mono ?_
    rintro e w2 ⟨rfl, hb2⟩
    have HB2 := Lib.hid (HB1.out.trans (hb2.mono HB1.out.size))
    clear hb2
    go_wp2_with fail
    go_loopw [5, 6] (fun s i wr => ∃ (k : Nat) (b : ByteArray), k ≤ n ∧ i = .int .i64 k ∧ s = .string b ∧ Hid (b = str (want n (l.take k))) ∧ Hid (∀ x ∈ l.take k, fitsB x = true) ∧ Hid (Below W.heap.size W wr)) (fun _ i _ => n - (intOf i).toNat)
    case atStart => exact ⟨0, _, Nat.zero_le _, rfl, rfl, HSP.out, by intro x hx; simp at hx, HB2.out⟩
    case round =>
      obtain ⟨k, b, hk, rfl, rfl, hI, hF, hB⟩ := hrel
      by_cases hlt : k < n
      · obtain ⟨bl, ol, ax, cx, hx, hae, hbs, hc, hsx, _⟩ := (HS.out.next hB.out).at hlt
        subst hae
        have hm := List.getElem_mem hx
        have HFT := Lib.hid (fits_any wr ax _ cx l[k] hsx (HWL.out _ hm) (by have := HZ.out.2 _ hm; omega))
        have HWS := Lib.hid (want_snoc n hx)
        have HOX := Lib.hid (HOD.out _ hm)
        have HWX := Lib.hid (HWL.out _ hm)
        have HTF : Hid (fitsB l[k] = true → ∀ x ∈ l.take (k + 1), fitsB x = true) := by
          intro hfx x hx'
          rw [List.take_succ_eq_append_getElem hx] at hx'
          rcases List.mem_append.1 hx' with h | h
          · exact hF.out x h
          · rw [List.mem_singleton] at h
            rw [h]
            exact hfx
        have HSX := Lib.hid hsx
        have hcx := hsx.cap
        have hbx := hsx.big
        have HWB := Lib.hid (fun (h : ∀ x ∈ l.take k, fitsB x = true) => want_len (L := n) (by have := H1024.out; omega) (l.take k) (fun x hx => ⟨HWL.out x (List.mem_of_mem_take hx), fits_len (h x hx)⟩))
        clear hsx hm
        generalize l[k] = x at *
        generalize hfb : fitsB x = fb at *
        have HFB := Lib.hid hfb
        clear hfb
        have HCL := Lib.hid (fun (U : World) (hU : Below wr.heap.size wr U) => (hU.cell (p := ⟨bl, ol + k, none⟩) hbs).trans hc)
        go_wp2_with fail
        with_reducible refine HFT.out.mono ?_
        rintro e w3 ⟨rfl, hb3⟩
        have HB3 := Lib.hid (hB.out.trans (hb3.mono hB.out.size))
        have HB3' := Lib.hid hb3
        have HAL := Lib.hid (alive_any w3)
        clear hb3
        cases fb
        case false =>
          have hr := HOX.out rfl
          simp only [Prod.mk.injEq] at hr
          obtain ⟨h1, h2⟩ := hr
          subst h1 h2
          go_wp2_with fail
          with_reducible refine HAL.out.mono ?_
          rintro e w4 ⟨rfl, hb4⟩
          have HB4 := Lib.hid (HB3.out.trans (hb4.mono HB3.out.size))
          clear hb4
          go_wp2_with fail
          go_ret
          exact ⟨rfl, HB4.out⟩
        case true =>
          have H1K := Lib.hid (fits_len HFB.out)
          generalize hnx : x.length = nx at *
          have HNX := Lib.hid hnx
          have hc3 := HCL.out w3 HB3'.out
          clear hc hnx
          go_wp2_with fail
          generalize w3 = w5 at *
          go_loopw [7, 8] (fun s i wq => ∃ (m : Nat) (a7 : Option Addr) (c7 : Nat), m ≤ nx ∧ i = .int .i64 m ∧ s = .slice a7 m c7 ∧ Hid (wq.ownsRow w5.heap.size 9 1 (.slice a7 m c7) m (strs (texts (x.take m)))) ∧ Hid (Below w5.heap.size w5 wq)) (fun _ i _ => nx - (intOf i).toNat)
          case atStart => exact ⟨0, none, 0, Nat.zero_le _, rfl, rfl, World.ownsRow_nil _ _ _ _, Below.refl _ _⟩
          case round =>
            generalize wr = wp at *
            obtain ⟨m, a7, c7, hm, rfl, rfl, hO, hB5⟩ := hrel
            have hbo := HB3'.out.trans (hB5.out.mono HB3'.out.size)
            have c5 := HCL.out wp hbo
            by_cases hml : m < nx
            · obtain ⟨b3, o3, hx3, hae3, hbs3, e3⟩ := (HSX.out.next hbo).int (by have := HNX.out; omega : m < _)
              subst hae3
              have HT : Hid (strs (texts (x.take (m + 1))) = strs (texts (x.take m)) ++ [.string (str (pr x[m]))]) := by
                show _ = _
                unfold strs texts
                rw [List.take_succ_eq_append_getElem hx3, List.map_append, List.map_append]
                rfl
              have HRP := Lib.hid (refPrint_any wp x[m] (HWX.out _ (List.getElem_mem hx3)))
              generalize x[m] = y at *
              generalize str (pr y) = sy at *
              clear hbo
              go_wp2_with fail
              with_reducible refine HRP.out.mono ?_
              rintro e w6 ⟨rfl, hb6⟩
              have HO6 := Lib.hid (own_next hO.out hb6)
              have HB6 := Lib.hid (hB5.out.trans (hb6.mono hB5.out.size))
              clear hb6 e3 c5
              go_wp2_with ((with_reducible refine wpL_push w5.heap.size w6 (.string sy) (.slice a7 m c7) m (strs (texts (x.take m))) info_str Try.underlying30 rfl ?_ ?_ ?_ rfl HO6.out HB6.out.size (by have := H1K.out; omega) ?_ HB6.out ?_); rfl; rfl; rfl; (have := H1K.out; omega); (intro a8 c8 w8 hown8 hb8 hz8))
              have HO8 := Lib.hid hown8
              have HB8 := Lib.hid hb8
              clear hown8 hb8 hz8
              go_wp2_with fail
              go_roundw
              case rel => exact ⟨m + 1, a8, c8, by omega, by go_num, rfl, by rw [HT.out]; exact HO8.out, HB8.out⟩
              case measure => simp [intOf]; omega
            · have hme : m = nx := by omega
              subst hme
              have HE : Hid (x.take m = x) := List.take_of_length_le (by have := HNX.out; omega)
              rw [HE.out] at hO
              have hJ := fun (cc : Nat) (hcc : cc = m) => refJoin_any wp a7 c7 x (by rw [HNX.out]; exact own_slI' hO.out) HWX.out (by rw [HNX.out]; have := H1K.out; omega)
              rw [HNX.out] at hJ
              have HJ := Lib.hid (hJ m rfl)
              have hzl : (str (lineT x)).size ≤ 22528 := by
                have := line_len HWX.out
                rw [HNX.out] at this
                have := H1K.out
                rw [str_size]
                omega
              have hbz : b.size ≤ 24000000 := by
                have h := HWB.out hF.out
                rw [List.length_take] at h
                have := H1024.out
                rw [hI.out, str_size]
                omega
              have hz5 : ¬ 9223372036854775807 < b.size + (str (lineT x)).size := by omega
              have hz6 : ¬ 9223372036854775807 < b.size + (str (lineT x)).size + 1 := by omega
              have HNB : Hid (b ++ str (lineT x) ++ ⟨#[10]⟩ = str (want n (l.take (k + 1)))) := by
                show b ++ str (lineT x) ++ str [10] = _
                rw [hI.out, HWS.out, str_app, str_app]
              generalize str (lineT x) = sj at *
              have hm9 : m ≤ 9223372036854775807 := by have := H1K.out; omega
              clear hJ hbo hzl hbz
              go_wp2_with fail
              with_reducible refine HJ.out.mono ?_
              rintro e w6 ⟨rfl, hb6⟩
              have HB6 := Lib.hid (HB3.out.trans ((hB5.out.trans (hb6.mono hB5.out.size)).mono HB3.out.size))
              clear hb6 c5
              go_wp2_with fail
              go_roundw
              case rel => exact ⟨k + 1, _, by omega, by go_num, rfl, HNB.out, HTF.out trivial, HB6.out⟩
              case measure => simp [intOf]; omega
      · have hke : k = n := by omega
        subst hke
        have HE : Hid (l.take k = l) := List.take_of_length_le (by have := HN.out; omega)
        rw [HE.out] at hI hF
        have hr := HFI.out hF.out
        simp only [Prod.mk.injEq] at hr
        obtain ⟨h1, h2⟩ := hr
        subst h2
        have hrs : rs = b ++ ⟨#[46, 10]⟩ := by
          rw [h1, text_want, HN.out, hI.out]
          show _ = str _ ++ str [46, 10]
          rw [str_app]
        have hzb : ¬ 9223372036854775807 < b.size + 2 := by
          have := want_len (L := k) (by have := H1024.out; omega) l (fun x hx => ⟨HWL.out x hx, fits_len (hF.out x hx)⟩)
          rw [hI.out, str_size]
          have := H1024.out
          have := HN.out
          omega
        have HAL := Lib.hid (alive_any wr)
        clear h1
        subst hrs
        go_wp2_with fail
        with_reducible refine HAL.out.mono ?_
        rintro e w4 ⟨rfl, hb4⟩
        have HB4 := Lib.hid (hB.out.trans (hb4.mono hB.out.size))
        clear hb4
        go_wp2_with fail
        go_ret
        exact ⟨rfl, HB4.out⟩
end Go.Proofs.Ytmiklgekcmeedaa.invariantTells
