/-
  invariant.Print: the text of clauses; the law's alive.
-/
import Derived.Test.YtmiklgekcmeedaaDoorInvPD
import Derived.Test.YtmiklgekcmeedaaDoorTextP
import Derived.Test.YtmiklgekcmeedaaDoorOdd
import Derived.Test.YtmiklgekcmeedaaDoorSlfR
namespace Go.Proofs.YtmiklgekcmeedaaDoor
open Go.RowKit Base
set_option linter.unusedVariables false
set_option linter.unusedSimpArgs false
namespace Inv
open Dig
open Join (strs)


theorem fits_len {x : List Int} (h : fitsB x = true) : x.length ≤ 1024 := by
  unfold fitsB at h
  simp only [Bool.and_eq_true, decide_eq_true_eq] at h
  have h1 := h.2.2.2
  unfold Clause.check at h1
  split at h1
  · cases h1
  · omega

theorem eg_odd : SlfR.Enters 11 := enters_of Tryd.func11 (by kernel_rfl) rfl

/-- The texts of the lines. -/
def parts (L : Nat) (l : List (List Int)) : List ByteArray := str (hd L) :: l.map fun x => str (lineT x)
theorem parts_len (L : Nat) (l : List (List Int)) : (parts L l).length = l.length + 1 := by simp [parts]

set_option maxRecDepth 8000 in
set_option maxHeartbeats 8000000 in
theorem print_all (w : World) (a : Option Addr) (c : Nat) (vals : List Value) (l : List (List Int)) (hs : Sl2 w a l.length c vals l) (hw : ∀ x ∈ l, Clause.Wf x) (hn : ∀ x ∈ l, x.length ≤ 17592186044000) :
    Calls Tryd.prog 6 #[.slice a l.length c] w fun e w' => e = .returned (.tuple #[.string (printS l).1, .int .i64 (printS l).2]) ∧ Below w.heap.size w w' := by
  have hcap := hs.sl.cap
  have hbig := hs.sl.big
  have HF : Hid (printS l = if 1024 < l.length then (⟨#[]⟩, 3) else if allFit l = true then (str (textP l), 0) else (⟨#[]⟩, 9)) := rfl
  have HCF := Lib.hid (SlfR.containsFunc w a l.length c vals 11 #[] #[] (l.map fun x => !fitsB x) hs.sl (by rw [List.length_map]) eg_odd (by
    intro V hV k v q hv hq
    rw [List.getElem?_map, Option.map_eq_some_iff] at hq
    obtain ⟨x, hx, rfl⟩ := hq
    obtain ⟨a', c', rfl, hx'⟩ := hs.row k v x hv hx
    have hm : x ∈ l := List.mem_of_getElem? hx
    exact odd_any V a' _ c' x (hx'.next hV) (hw x hm) (hn x hm)))
  have HS := Lib.hid hs
  by_cases hbg : 1024 < l.length
  · have hd1 : decide ((1024 : Int) < (l.length : Int)) = true := decide_eq_true (by omega)
    have HV : Hid (printS l = (⟨#[]⟩, 3)) := by show _ = _; rw [HF.out, if_pos hbg]
    clear hs hw hn hbg HF
    generalize printS l = R at *
    go_enter Tryd.func6, Tryd.ntmps6
    go_wp2_with fail
    refine bodyPost_ret (v := .tuple #[.string ⟨#[]⟩, .int .i64 3]) (by simp [results, Tryd.results6, go_sem]) rfl ?_
    exact ⟨by rw [HV.out], Below.refl _ _⟩
  · have hd1 : decide ((1024 : Int) < (l.length : Int)) = false := decide_eq_false (by omega)
    have HBG := Lib.hid hbg
    have HF2 : Hid (printS l = if allFit l = true then (str (textP l), 0) else (⟨#[]⟩, 9)) := by show _ = _; rw [HF.out, if_neg hbg]
    unfold allFit at HF2
    generalize hq : (l.map fun x => !fitsB x).any id = q at *
    have HQ := Lib.hid hq
    have HWL := Lib.hid hw
    clear hs hw hn hbg HF hq
    cases q
    case true =>
      have HV : Hid (printS l = (⟨#[]⟩, 9)) := by show _ = _; rw [HF2.out]; rfl
      generalize printS l = R at *
      go_enter Tryd.func6, Tryd.ntmps6
      go_wp2_with fail
      with_reducible refine HCF.out.mono ?_
      rintro e w1 ⟨rfl, hb1⟩
      have HB1 := Lib.hid hb1
      clear hb1
      go_wp2_with fail
      refine bodyPost_ret (v := .tuple #[.string ⟨#[]⟩, .int .i64 9]) (by simp [results, Tryd.results6, go_sem]) rfl ?_
      exact ⟨by rw [HV.out], HB1.out⟩
    case false =>
      have HV : Hid (printS l = (str (textP l), 0)) := by show _ = _; rw [HF2.out]; rfl
      have HFIT : Hid (∀ x ∈ l, fitsB x = true) := by
        intro x hx
        have h := HQ.out
        rw [List.any_eq_false] at h
        have := h (!fitsB x) (List.mem_map.2 ⟨x, hx, rfl⟩)
        simpa using this
      have HPR := Lib.hid (fun U => Dig.print_any U (l.length : Int) (by have := HBG.out; omega))
      have HWANT := Lib.hid (want_len (L := l.length) (by have := HBG.out; omega) l (fun x hx => ⟨HWL.out x hx, fits_len (HFIT.out x hx)⟩))
      have HTW := Lib.hid (text_want l)
      have HSP : Hid ((⟨#[105, 110, 118, 32]⟩ : ByteArray) ++ str (pr (l.length : Int)) = str (hd l.length)) := by show str [105, 110, 118, 32] ++ _ = _; rw [str_app]; rfl
      have hzp : ¬ 9223372036854775807 < 4 + (str (pr (l.length : Int))).size := by
        have := pr_len (x := (l.length : Int)) (by have := HBG.out; omega)
        rw [str_size]
        omega
      generalize printS l = R at *
      generalize str (pr (l.length : Int)) = sn at *
      generalize hn : l.length = n at *
      have HN := Lib.hid hn
      clear hn HF2
      go_enter Tryd.func6, Tryd.ntmps6
      go_wp2_with fail
      with_reducible refine HCF.out.mono ?_
      rintro e w1 ⟨rfl, hb1⟩
      have HB1 := Lib.hid hb1
      clear hb1
      go_wp2_with fail
      with_reducible refine (HPR.out _).mono ?_
      rintro e w2 ⟨rfl, hb2⟩
      have HB2 := Lib.hid (HB1.out.trans (hb2.mono HB1.out.size))
      have HO3 : Hid ((w2.alloc (.cells #[.string ((⟨#[105, 110, 118, 32]⟩ : ByteArray) ++ sn)] 9)).ownsRow w2.heap.size 9 1 (.slice (some ⟨w2.heap.size, 0, none⟩) 1 1) 1 (strs (parts n (l.take 0)))) := by
        have h := World.ownsRow_lit (base := w2.heap.size) (e := 9) (size := 1) w2 #[.string ((⟨#[105, 110, 118, 32]⟩ : ByteArray) ++ sn)] 1 (by simp) (by unfold maxLen; omega) (by simp)
        rw [HSP.out] at h
        show World.ownsRow _ _ _ _ _ _ _
        rw [HSP.out]
        exact h
      have HB3 : Hid (Below w2.heap.size w2 (w2.alloc (.cells #[.string ((⟨#[105, 110, 118, 32]⟩ : ByteArray) ++ sn)] 9))) := (Below.refl _ _).alloc (Nat.le_refl _) _
      clear hb2
      go_wp2_with fail
      generalize w2.alloc (.cells #[.string ((⟨#[105, 110, 118, 32]⟩ : ByteArray) ++ sn)] 9) = W3 at *
      go_loopw [4, 21] (fun s i wr => ∃ (k : Nat) (a' : Option Addr) (c' : Nat), k ≤ n ∧ i = .int .i64 k ∧ s = .slice a' (k + 1) c' ∧ Hid (wr.ownsRow w2.heap.size 9 1 (.slice a' (k + 1) c') (k + 1) (strs (parts n (l.take k)))) ∧ Hid (Below w2.heap.size w2 wr)) (fun _ i _ => n - (intOf i).toNat)
      case atStart => exact ⟨0, _, _, Nat.zero_le _, rfl, rfl, HO3.out, HB3.out⟩
      case round =>
        obtain ⟨k, a', c', hk, rfl, rfl, hO, hB⟩ := hrel
        have HBW := Lib.hid (HB2.out.trans (hB.out.mono HB2.out.size))
        by_cases hlt : k < n
        · obtain ⟨b, o, ax, cx, hx, hae, hbs, hc, hsx, _⟩ := (HS.out.next HBW.out).at hlt
          subst hae
          have HT : Hid (strs (parts n (l.take (k + 1))) = strs (parts n (l.take k)) ++ [.string (str (lineT l[k]))]) := by
            show _ = _
            unfold strs parts
            rw [List.take_succ_eq_append_getElem hx, List.map_append]
            simp
          have hm := List.getElem_mem hx
          have HLN := Lib.hid (line_any wr ax cx l[k] hsx (HWL.out _ hm) (by have := fits_len (HFIT.out _ hm); omega))
          have hcx := hsx.cap
          have H1024 : Hid (n ≤ 1024) := by show _ ≤ _; have := HBG.out; omega
          clear hsx hm
          generalize l[k] = x at *
          generalize str (lineT x) = sx at *
          generalize x.length = nx at *
          go_wp2_with fail
          with_reducible refine HLN.out.mono ?_
          rintro e w4 ⟨rfl, hb4⟩
          have HO4 := Lib.hid (own_next hO.out hb4)
          have HB4 := Lib.hid (hB.out.trans (hb4.mono hB.out.size))
          clear hb4 hc
          go_wp2_with ((with_reducible refine wpL_push w2.heap.size w4 (.string sx) (.slice a' (k + 1) c') (k + 1) (strs (parts n (l.take k))) info_str Tryd.underlying36 rfl ?_ ?_ ?_ rfl HO4.out HB4.out.size (by have := H1024.out; omega) ?_ HB4.out ?_); rfl; rfl; rfl; (have := H1024.out; omega); (intro a8 c8 w8 hown8 hb8 hz8))
          have HO8 := Lib.hid hown8
          have HB8 := Lib.hid hb8
          clear hown8 hb8 hz8
          go_wp2_with fail
          go_roundw
          case rel => exact ⟨k + 1, a8, c8, by omega, by go_num, rfl, by rw [HT.out]; exact HO8.out, HB8.out⟩
          case measure => simp [intOf]; omega
        · have hke : k = n := by omega
          subst hke
          have HE : Hid (l.take k = l) := List.take_of_length_le (by have := HN.out; omega)
          rw [HE.out] at hO
          have H1024 : Hid (k ≤ 1024) := by show _ ≤ _; have := HBG.out; omega
          have hdt : (parts k l ++ [str [46]]).map (·.data.toList) = hd k :: (l.map lineT ++ [[46]]) := by
            unfold parts
            rw [List.map_append, List.map_cons, List.map_map]
            simp [str_data]
          have htx : textP l = Lib.join (hd k :: (l.map lineT ++ [[46]])) [10] ++ [10] := by unfold textP; rw [HN.out]
          have hjl : (Lib.join (hd k :: (l.map lineT ++ [[46]])) [10]).length ≤ 24000000 := by
            have h1 := congrArg List.length (htx.symm.trans HTW.out)
            rw [List.length_append, List.length_append] at h1
            have h2 := HWANT.out
            have h3 := H1024.out
            simp at h1
            omega
          have HJ := Lib.hid (fun (U : World) (a8 : Option Addr) (c8 : Nat) (h8 : Sl U a8 (k + 2) c8 (strs (parts k l ++ [str [46]]))) => Join.join_any U a8 (k + 2) c8 (parts k l ++ [str [46]]) h8 ⟨#[10]⟩ (by rw [List.length_append, parts_len, HN.out]; have := H1024.out; simp; omega) (by rw [hdt]; show (Lib.join _ [10]).length ≤ _; omega))
          rw [hdt] at HJ
          have HTX : Hid (str (Lib.join (hd k :: (l.map lineT ++ [[46]])) [10]) ++ (⟨#[10]⟩ : ByteArray) = str (textP l)) := by show _ ++ str [10] = _; rw [str_app, htx]
          have hzj : ¬ 9223372036854775807 < (str (Lib.join (hd k :: (l.map lineT ++ [[46]])) [10])).size + 1 := by rw [str_size]; omega
          have HJ2 : Hid (∀ (U : World) (a8 : Option Addr) (c8 : Nat), Sl U a8 (k + 2) c8 (strs (parts k l ++ [str [46]])) → Calls Tryd.prog 14 #[.slice a8 (k + 2) c8, .string ⟨#[10]⟩] U fun e w' => e = .returned (.string (str (Lib.join (hd k :: (l.map lineT ++ [[46]])) [10]))) ∧ Below U.heap.size U w') := HJ.out
          clear HJ hdt htx hjl
          generalize str (Lib.join (hd k :: (l.map lineT ++ [[46]])) [10]) = sj at *
          go_wp2_with ((with_reducible refine wpL_push w2.heap.size wr (.string ⟨#[46]⟩) (.slice a' (k + 1) c') (k + 1) (strs (parts k l)) info_str Tryd.underlying36 rfl ?_ ?_ ?_ rfl hO.out hB.out.size (by have := H1024.out; omega) ?_ hB.out ?_); rfl; rfl; rfl; (have := H1024.out; omega); (intro a8 c8 w8 hown8 hb8 hz8))
          have HJ8 := Lib.hid (HJ2.out w8 a8 c8 (by
            have h := own_slI' hown8
            have e : strs (parts k l ++ [str [46]]) = strs (parts k l) ++ [.string ⟨#[46]⟩] := by unfold strs; rw [List.map_append]; rfl
            rw [e]
            exact h))
          have HB8 := Lib.hid hb8
          clear hown8 hb8 hz8
          go_wp2_with fail
          with_reducible refine HJ8.out.mono ?_
          rintro e w9 ⟨rfl, hb9⟩
          have HB9 := Lib.hid (HB2.out.trans ((HB8.out.trans (hb9.mono HB8.out.size)).mono HB2.out.size))
          clear hb9
          go_wp2_with fail
          refine bodyPost_ret (v := .tuple #[.string (sj ++ ⟨#[10]⟩), .int .i64 0]) (by simp [results, Tryd.results6, go_sem]) rfl ?_
          exact ⟨by rw [HV.out, ← HTX.out], HB9.out⟩
end Inv
end Go.Proofs.YtmiklgekcmeedaaDoor
