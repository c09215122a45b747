/-
  The reference's Join of a clause's texts.
-/
import Derived.Test.YtmiklgekcmeedaaLine
namespace Go.Proofs.Ytmiklgekcmeedaa
open Go.RowKit Base
set_option linter.unusedVariables false
set_option linter.unusedSimpArgs false
namespace Dig
open Join (strs)

theorem join_snoc (xs : List (List UInt8)) (x sep : List UInt8) (h : xs ≠ []) : Lib.join (xs ++ [x]) sep = Lib.join xs sep ++ sep ++ x := by
  cases xs with
  | nil => exact absurd rfl h
  | cons y r =>
    rw [List.cons_append, Lib.join_cons, Lib.join_cons]
    simp [Lib.joinTail]

theorem line_snoc {l : List Int} {k : Nat} (hk : k < l.length) : lineT (l.take (k + 1)) = if k = 0 then pr l[k] else lineT (l.take k) ++ [32] ++ pr l[k] := by
  unfold lineT
  rw [List.take_succ_eq_append_getElem hk, List.map_append, List.map_cons, List.map_nil]
  by_cases h0 : k = 0
  · subst h0
    rw [if_pos rfl, List.take_zero, List.map_nil, List.nil_append, Lib.join_one]
  · rw [if_neg h0, join_snoc]
    intro e
    have h9 := congrArg List.length e
    rw [List.length_map, List.length_take, List.length_nil] at h9
    omega

set_option maxHeartbeats 2000000 in
theorem refJoin_any (w : World) (a : Option Addr) (c : Nat) (l : List Int) (hs : Sl w a l.length c (strs (texts l))) (hw : Clause.Wf l) (h64 : l.length ≤ 1048576) :
    Calls Try.prog 8 #[.slice a l.length c, .string ⟨#[32]⟩] w fun e w' => e = .returned (.string (str (lineT l))) ∧ Below w.heap.size w w' := by
  have HW := Lib.hid hw
  have HS := Lib.hid hs
  have H64 := Lib.hid h64
  have hcap := hs.cap
  have hbig := hs.big
  clear hs hw
  generalize hn : l.length = n at *
  have HN := Lib.hid hn
  clear hn
  go_enter Try.func8, Try.ntmps8
  go_wp2_with fail
  go_loopw [5, 6] (fun s i wr => ∃ (k : Nat) (b : ByteArray), k ≤ n ∧ i = .int .i64 k ∧ s = .string b ∧ Hid (b = str (lineT (l.take k))) ∧ Hid (Below w.heap.size w wr)) (fun _ i _ => n - (intOf i).toNat)
  case atStart => exact ⟨0, _, Nat.zero_le _, rfl, rfl, rfl, Below.refl _ _⟩
  case round =>
    obtain ⟨k, b, hk, rfl, rfl, hI, hB⟩ := hrel
    by_cases hlt : k < n
    · have hx : k < l.length := by have := HN.out; omega
      obtain ⟨bk, o, ha, hbs, hc⟩ := ((HS.out).next hB.out).cell k (.string (str (pr l[k]))) (by unfold strs texts; rw [List.map_map, List.getElem?_map, List.getElem?_eq_getElem hx]; rfl)
      subst ha
      have HT := Lib.hid (line_snoc hx)
      have hz1 : (str (lineT (l.take k))).size ≤ k * 22 := by
        have := line_len (l := l.take k) (fun x hx => HW.out x (List.mem_of_mem_take hx))
        rw [List.length_take] at this
        rw [str_size]
        omega
      have hz2 : (str (pr l[k])).size ≤ 21 := by
        rw [str_size]
        exact pr_len (HW.out _ (List.getElem_mem hx))
      rw [← hI.out] at hz1
      generalize hsx : str (pr l[k]) = sx at *
      have HX := Lib.hid hsx
      clear hsx
      by_cases h0 : k = 0
      · subst h0
        have hb0 : b = ⟨#[]⟩ := hI.out
        rw [Nat.add_zero] at hc
        subst hb0
        have hz : ¬ 9223372036854775807 < 0 + sx.size := by omega
        have hz0 : ¬ 9223372036854775807 < sx.size := by omega
        have hz00 : ¬ 9223372036854775807 < (⟨#[]⟩ : ByteArray).size + sx.size := by have e : (⟨#[]⟩ : ByteArray).size = 0 := rfl; rw [e]; omega
        go_wp2_with fail
        go_roundw
        case rel =>
          refine ⟨1, _, by omega, rfl, rfl, ?_, hB⟩
          show _ = _
          rw [HT.out, if_pos rfl, HX.out]
          first | done | rfl | simp
        case measure => simp [intOf]; omega
      · have hgt : decide ((0 : Int) < (k : Int)) = true := decide_eq_true (by omega)
        have hza : ¬ 9223372036854775807 < b.size + 1 := by omega
        have hzb : ¬ 9223372036854775807 < b.size + 1 + sx.size := by omega
        have hzc : ¬ 9223372036854775807 < (b ++ (⟨#[32]⟩ : ByteArray)).size + sx.size := by
          rw [ByteArray.size_append]
          exact hzb
        go_wp2_with fail
        go_roundw
        case rel =>
          refine ⟨k + 1, _, by omega, by go_num, rfl, ?_, hB⟩
          show _ = _
          rw [HT.out, if_neg h0, ← str_app, ← str_app, HX.out, hI.out]
          first | done | rfl
        case measure => simp [intOf]; omega
    · have hke : k = n := by omega
      subst hke
      have HE : Hid (l.take k = l) := List.take_of_length_le (by have := HN.out; omega)
      have HI : Hid (b = str (lineT l)) := by show _ = _; rw [hI.out, HE.out]
      go_wp2_with fail
      go_ret
      exact ⟨by rw [← HI.out]; rfl, hB.out⟩
end Dig
end Go.Proofs.Ytmiklgekcmeedaa
