/-
  invariant.line, the reference's Join: the text of a clause.
-/
import Derived.Test.YtmiklgekcmeedaaDoorPrint
import Derived.Test.YtmiklgekcmeedaaDoorJoin
import Derived.Test.YtmiklgekcmeedaaDoorAbsP
import Derived.Test.YtmiklgekcmeedaaDoorTextP
namespace Go.Proofs.YtmiklgekcmeedaaDoor
open Go.RowKit Base
set_option linter.unusedVariables false
set_option linter.unusedSimpArgs false
namespace Dig
open Join (strs)

theorem info_str : (Tryd.prog.info? 9).map (fun i => (i.zero, i.size, i.bytes)) = some (some (.string ⟨#[]⟩), 1, 16) := by kernel_rfl

/-- make of none, with room. -/
theorem wpL_make0 {P : Program} {w : World} {ops : Array Oper} {rest : List Oper} {dst : Option Tmp} {ty : TypeId} {pos : String} {af : Array Edge} {a : Act} {Q : Exit → Act → World → Prop}
    {l c : Operand} {t e : TypeId} {z : Value} {bytes : Nat} (n : Nat) {C : Int}
    (hinfo : (P.info? e).map (fun i => (i.zero, i.size, i.bytes)) = some (some z, 1, bytes)) (ht : P.underlying t = some (.slice e))
    (hl : a.eval l = .int .i64 0) (hc : a.eval c = .int .i64 C) (hC : C = (n : Int)) (hn : bytes * n ≤ 281474976710656) (hn' : n ≤ 9223372036854775807)
    (hK : ∀ w1, w1.ownsRow w.heap.size e 1 (.slice (some ⟨w.heap.size, 0, none⟩) 0 n) 0 [] → Below w.heap.size w w1 → wpList P ops Q rest (a.put dst (.slice (some ⟨w.heap.size, 0, none⟩) 0 n)) w1) :
    wpList P ops Q (⟨dst, .makeSlice t l c, ty, pos, af, none⟩ :: rest) a w := by
  obtain ⟨i, hi, hz0, hz1, hz2⟩ := info_parts hinfo
  refine wpList_make_own w rfl l c t rfl w.heap.size e i z 1 ht hi hz0 hz1 .i64 .i64 C n hl hc hC (by rw [hz2]; exact hn) (by unfold maxLen; omega) (Nat.le_refl _) ?_
  intro w1 hown hg
  exact hK w1 hown ((Below.refl _ _).grown hg (Nat.le_refl _) (fun k hk => by cases hk))

/-- What a clause's line is. -/
def texts (l : List Int) : List ByteArray := l.map fun x => str (pr x)

theorem texts_len (l : List Int) : (texts l).length = l.length := by simp [texts]
theorem texts_data (l : List Int) : (texts l).map (·.data.toList) = l.map pr := by
  unfold texts
  rw [List.map_map]
  refine List.map_congr_left fun x _ => ?_
  exact str_data _

theorem tail_len (sep : List UInt8) (m : Nat) (r : List (List UInt8)) (h : ∀ x ∈ r, x.length ≤ m) : (Lib.joinTail sep r).length ≤ r.length * (sep.length + m) := by
  induction r with
  | nil => simp [Lib.joinTail]
  | cons x r ih =>
    have h1 := ih fun y hy => h y (List.mem_cons_of_mem _ hy)
    have h2 := h x List.mem_cons_self
    have e : Lib.joinTail sep (x :: r) = (sep ++ x) ++ Lib.joinTail sep r := by simp [Lib.joinTail]
    rw [e, List.length_append, List.length_append, List.length_cons, Nat.succ_mul]
    omega
theorem join_len (sep : List UInt8) (m : Nat) (l : List (List UInt8)) (h : ∀ x ∈ l, x.length ≤ m) : (Lib.join l sep).length ≤ l.length * (sep.length + m) := by
  cases l with
  | nil => simp [Lib.join_nil]
  | cons x r =>
    rw [Lib.join_cons, List.length_append, List.length_cons, Nat.succ_mul]
    have h1 := tail_len sep m r fun y hy => h y (List.mem_cons_of_mem _ hy)
    have h2 := h x List.mem_cons_self
    omega
theorem line_len {l : List Int} (hw : Clause.Wf l) : (lineT l).length ≤ l.length * 22 := by
  have h := join_len [32] 21 (l.map pr) (fun x hx => by
    obtain ⟨y, hy, rfl⟩ := List.mem_map.1 hx
    exact pr_len (hw y hy))
  rw [List.length_map] at h
  exact h

theorem dJoin_any (w : World) (a : Option Addr) (n c : Nat) (xs : List ByteArray) (h : Sl w a n c (strs xs)) (hbig : xs.length ≤ 140737488355328) (hlen : (Lib.join (xs.map (·.data.toList)) [32]).length ≤ 140737488355328) :
    Calls Tryd.prog 24 #[.slice a n c] w fun e w' => e = .returned (.string (str (Lib.join (xs.map (·.data.toList)) [32]))) ∧ Below w.heap.size w w' := by
  have HJ := Lib.hid (Join.join_any w a n c xs h ⟨#[32]⟩ hbig hlen)
  have hcap := h.cap
  clear h hbig hlen
  generalize Lib.join (xs.map (·.data.toList)) [32] = J at *
  go_enter Tryd.func24, Tryd.ntmps24
  go_wp2_with fail
  with_reducible refine HJ.out.mono ?_
  rintro e w1 ⟨rfl, hb1⟩
  go_wp2_with fail
  go_ret
  exact ⟨rfl, hb1⟩

set_option maxHeartbeats 2000000 in
theorem line_any (w : World) (a : Option Addr) (c : Nat) (l : List Int) (hs : Sl w a l.length c (ints l)) (hw : Clause.Wf l) (h64 : l.length ≤ 1048576) :
    Calls Tryd.prog 13 #[.slice a l.length c] w fun e w' => e = .returned (.string (str (lineT l))) ∧ Below w.heap.size w w' := by
  have HL := Lib.hid (line_len hw)
  have HW := Lib.hid hw
  have HS := Lib.hid hs
  have H64 := Lib.hid h64
  have hcap := hs.cap
  have hbig := hs.big
  clear hs hw
  generalize hn : l.length = n at *
  have HN := Lib.hid hn
  clear hn
  go_enter Tryd.func13, Tryd.ntmps13
  go_wp2_with (at_make; (with_reducible refine wpL_make0 n (C := (n : Int)) info_str Tryd.underlying36 ?_ ?_ ?_ ?_ ?_ ?_); rfl; rfl; omega; omega; omega; (intro w1 hown1 hb1))
  have HO1 := Lib.hid hown1
  have HB1 := Lib.hid hb1
  clear hown1 hb1
  go_wp2_with fail
  go_loopw [3, 11] (fun s i wr => ∃ (k : Nat) (a' : Option Addr) (c' : Nat), k ≤ n ∧ i = .int .i64 k ∧ s = .slice a' k c' ∧ Hid (wr.ownsRow w.heap.size 9 1 (.slice a' k c') k (strs (texts (l.take k)))) ∧ Hid (Below w.heap.size w wr)) (fun _ i _ => n - (intOf i).toNat)
  case atStart => exact ⟨0, _, _, Nat.zero_le _, rfl, rfl, HO1.out, HB1.out⟩
  case round =>
    obtain ⟨k, a', c', hk, rfl, rfl, hO, hB⟩ := hrel
    by_cases hlt : k < n
    · obtain ⟨b, o, hx, hae, hbs, hc⟩ := ((HS.out).next hB.out).int hlt
      subst hae
      have HT : Hid (strs (texts (l.take (k + 1))) = strs (texts (l.take k)) ++ [.string (str (pr l[k]))]) := by
        show _ = _
        unfold strs texts
        rw [List.take_succ_eq_append_getElem hx, List.map_append, List.map_append]
        rfl
      have HP := Lib.hid (fun (U : World) => print_any U l[k] (HW.out _ (List.getElem_mem hx)))
      generalize l[k] = x at *
      generalize str (pr x) = sx at *
      go_wp2_with fail
      with_reducible refine (HP.out _).mono ?_
      rintro e w2 ⟨rfl, hb2⟩
      have HO2 := Lib.hid (own_next hO.out hb2)
      have HB2 := Lib.hid (hB.out.trans (hb2.mono hB.out.size))
      clear hb2 hc
      go_wp2_with ((with_reducible refine wpL_push w.heap.size w2 (.string sx) (.slice a' k c') k (strs (texts (l.take k))) info_str Tryd.underlying36 rfl ?_ ?_ ?_ rfl HO2.out HB2.out.size (by have := H64.out; omega) ?_ HB2.out ?_); rfl; rfl; rfl; (have := H64.out; omega); (intro a8 c8 w8 hown8 hb8 hz8))
      have HO8 := Lib.hid hown8
      have HB8 := Lib.hid hb8
      clear hown8 hb8 hz8
      go_wp2_with fail
      go_roundw
      case rel => exact ⟨k + 1, a8, c8, by omega, by go_num, rfl, by rw [HT.out]; exact HO8.out, HB8.out⟩
      case measure => simp [intOf]; omega
    · have hke : k = n := by omega
      subst hke
      have HE : Hid (l.take k = l) := List.take_of_length_le (by have := HN.out; omega)
      rw [HE.out] at hO
      have HJ := dJoin_any wr a' k c' (texts l) (own_slI' hO.out) (by rw [texts_len]; have := H64.out; have := HN.out; omega) (by
        rw [texts_data]
        show (lineT l).length ≤ _
        have := HL.out
        have := H64.out
        omega)
      rw [texts_data] at HJ
      have HJ2 := Lib.hid HJ
      clear HJ
      go_wp2_with fail
      with_reducible refine HJ2.out.mono ?_
      rintro e w2 ⟨rfl, hb2⟩
      have HB2 := Lib.hid (hB.out.trans (hb2.mono hB.out.size))
      clear hb2
      go_wp2_with fail
      go_ret
      exact ⟨rfl, HB2.out⟩
end Dig
end Go.Proofs.YtmiklgekcmeedaaDoor
