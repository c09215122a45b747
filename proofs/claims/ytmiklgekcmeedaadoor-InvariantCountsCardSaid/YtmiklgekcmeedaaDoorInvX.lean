/-
  invariant.Parse (written by invparse.py).
-/
import Derived.Test.YtmiklgekcmeedaaDoorInvW
import Derived.Test.YtmiklgekcmeedaaDoorLex
namespace Go.Proofs.YtmiklgekcmeedaaDoor
open Go.RowKit Base
set_option linter.unusedVariables false
set_option linter.unusedSimpArgs false
namespace Inv
open Dig Spl

def ParOut (t : List UInt8) (w : World) (e : Ending) (w' : World) : Prop :=
  ((∃ m a c vals, parseT t = some m ∧ e = .returned (.tuple #[.slice a m.length c, .int .i64 0]) ∧ Sl2 w' a m.length c vals m) ∨
    (∃ cd : Int, (cd = 33 ∨ cd = 5) ∧ parseT t = none ∧ e = .returned (.tuple #[.slice none 0 0, .int .i64 cd]))) ∧ Below w.heap.size w w'
theorem fits_wf {x : List Int} (h : ∀ v ∈ x, -1099511627776 ≤ v ∧ v ≤ 1099511627776) : Clause.Wf x := fun v hv => by have := h v hv; omega
theorem call_keep {P : Program} {f : FuncId} {args : Array Value} {v : Value} {S : World → Prop} (hc : ∀ U, S U → Calls P f args U fun e U' => e = .returned v ∧ Below U.heap.size U U') (hs : ∀ U U', S U → Below U.heap.size U U' → S U') :
    ∀ U, S U → Calls P f args U fun e U' => e = .returned v ∧ S U' := fun U hU => (hc U hU).mono fun e U' h => ⟨h.1, hs U U' hU h.2⟩
theorem info_rN : (Tryd.prog.info? 33).map (fun i => (i.zero, i.size, i.bytes)) = some (some (.slice none 0 0), 1, 24) := by kernel_rfl
abbrev SP (g n1 n2 : Nat) (s0 s1 s2 : ByteArray) (W U : World) : Prop := Below W.heap.size W U ∧ U.cell? ⟨g, 0, none⟩ = some (.string s0) ∧ U.cell? ⟨g, n1, none⟩ = some (.string s1) ∧ U.cell? ⟨g, n2, none⟩ = some (.string s2)

set_option maxRecDepth 8000 in
set_option maxHeartbeats 16000000 in
theorem parse_any (w : World) (t : List UInt8) (m : Int) (hm : w.cell? ⟨0, 0, none⟩ = some (.int .i64 m)) (hbt : t.length ≤ 9223372036854775807) :
    Calls Tryd.prog 7 #[.string (str t)] w fun e w' => ParOut t w e w' := by
  have hsz : ((str t).size : Int) = (t.length : Int) := by rw [str_size]
  by_cases hbig : 65536 < t.length
  · have HN : Hid (parseT t = none) := by show _ = _; unfold parseT; rw [if_pos hbig]
    have hdB : decide ((65536 : Int) < (t.length : Int)) = true := decide_eq_true (by omega)
    generalize str t = st at *
    go_enter Tryd.func7, Tryd.ntmps7
    go_wp2_with fail
    refine bodyPost_ret (v := .tuple #[.slice none 0 0, .int .i64 5]) (by simp [results, Tryd.results7, go_sem]) rfl ?_
    exact ⟨Or.inr ⟨5, Or.inr rfl, HN.out, rfl⟩, Below.refl _ _⟩
  · have hdB : decide ((65536 : Int) < (t.length : Int)) = false := decide_eq_false (by omega)
    have HSP := Lib.hid (split_any w t 10 (by omega) m hm)
    have HMG := Lib.hid hm
    have HLE := Lib.hid (spl_len_le 10 t)
    have HPL := Lib.hid (spl_part_len 10 t)
    have HT : Hid (t.length ≤ 65536) := by show _ ≤ _; omega
    have HPT : Hid (parseT t = if headOk (spl 10 t) then linesP (((spl 10 t).drop 1).take ((spl 10 t).length - 3)) else none) := by show _ = _; unfold parseT; rw [if_neg hbig]
    generalize spl 10 t = T at *
    generalize str t = st at *
    have HL : Hid (T.length ≤ 65537) := by show _ ≤ _; have := HLE.out; have := HT.out; omega
    clear hm hbig
    go_enter Tryd.func7, Tryd.ntmps7
    go_wp2_with fail
    with_reducible refine HSP.out.mono ?_
    rintro e w1 ⟨rfl, hs1, hb1⟩
    have HS1 := Lib.hid hs1
    have hcap := hs1.cap
    have hbg := hs1.big
    have HB1 := Lib.hid hb1
    have HSZ1 : Hid (w.heap.size ≤ w1.heap.size) := hb1.size
    clear hs1 hb1
    generalize hgg : w.heap.size = g at *
    have HGG := Lib.hid hgg
    clear hgg
    by_cases h3 : T.length < 3
    · skip
      have HN : Hid (parseT t = none) := by show _ = _; rw [HPT.out, if_neg (fun h => by have := h.1; omega)]
      generalize hTL : T.length = L at *
      have hw3 : IntKind.i64.wrap ((L : Int) - 3) = (L : Int) - 3 := IntWalk.i64_in _ (by omega)
      have hneg : decide ((L : Int) - 3 < 0) = true := decide_eq_true (by omega)
      have hd3 : decide ((L : Int) < 3) = true := decide_eq_true (by omega)
      have hl3 : (L : Int) < 3 := by omega
      have HF : (fun U => Below w1.heap.size w1 U) w1.drew := (Below.refl _ _).drew
      go_upto_region 5 with fail
      refine Lex.region (fun w' => (fun U => Below w1.heap.size w1 U) w') (by kernel_rfl) (by kernel_rfl) HF ?_
      (refine Lex.step_val (v := ?_) ?_ (fun w' hSw => ?_) ?_; rotate_left; (focus rfl); (focus (clear hSw; go_simp; (try with_reducible rfl); done)); (try simp only [Act.put, List.setIfInBounds_toArray, List.set_cons_zero, List.set_cons_succ]))
      (refine Lex.step_val (v := ?_) ?_ (fun w' hSw => ?_) ?_; rotate_left; (focus rfl); (focus (clear hSw; go_simp; (try with_reducible rfl); done)); (try simp only [Act.put, List.setIfInBounds_toArray, List.set_cons_zero, List.set_cons_succ]))
      (refine Lex.step_val (v := ?_) ?_ (fun w' hSw => ?_) ?_; rotate_left; (focus rfl); (focus (clear hSw; go_simp; (try with_reducible rfl); done)); (try simp only [Act.put, List.setIfInBounds_toArray, List.set_cons_zero, List.set_cons_succ]))
      (refine Lex.step_off ?_ ?_; (focus (first | (go_simp; done) | (simp [Region.wanted, yielded, undef]; done) | rfl)); (try simp only [Act.put, List.setIfInBounds_toArray, List.set_cons_zero, List.set_cons_succ]))
      (refine Lex.step_off ?_ ?_; (focus (first | (go_simp; done) | (simp [Region.wanted, yielded, undef]; done) | rfl)); (try simp only [Act.put, List.setIfInBounds_toArray, List.set_cons_zero, List.set_cons_succ]))
      (refine Lex.step_val (v := ?_) ?_ (fun w' hSw => ?_) ?_; rotate_left; (focus rfl); (focus (clear hSw; go_simp; (try with_reducible rfl); done)); (try simp only [Act.put, List.setIfInBounds_toArray, List.set_cons_zero, List.set_cons_succ]))
      (refine Lex.step_val (v := ?_) ?_ (fun w' hSw => ?_) ?_; rotate_left; (focus rfl); (focus (clear hSw; go_simp; (try with_reducible rfl); done)); (try simp only [Act.put, List.setIfInBounds_toArray, List.set_cons_zero, List.set_cons_succ]))
      (refine Lex.step_off ?_ ?_; (focus (first | (go_simp; done) | (simp [Region.wanted, yielded, undef]; done) | rfl)); (try simp only [Act.put, List.setIfInBounds_toArray, List.set_cons_zero, List.set_cons_succ]))
      (refine Lex.step_off ?_ ?_; (focus (first | (go_simp; done) | (simp [Region.wanted, yielded, undef]; done) | rfl)); (try simp only [Act.put, List.setIfInBounds_toArray, List.set_cons_zero, List.set_cons_succ]))
      (refine Lex.step_off ?_ ?_; (focus (first | (go_simp; done) | (simp [Region.wanted, yielded, undef]; done) | rfl)); (try simp only [Act.put, List.setIfInBounds_toArray, List.set_cons_zero, List.set_cons_succ]))
      (refine Lex.step_off ?_ ?_; (focus (first | (go_simp; done) | (simp [Region.wanted, yielded, undef]; done) | rfl)); (try simp only [Act.put, List.setIfInBounds_toArray, List.set_cons_zero, List.set_cons_succ]))
      (refine Lex.step_off ?_ ?_; (focus (first | (go_simp; done) | (simp [Region.wanted, yielded, undef]; done) | rfl)); (try simp only [Act.put, List.setIfInBounds_toArray, List.set_cons_zero, List.set_cons_succ]))
      (refine Lex.step_off ?_ ?_; (focus (first | (go_simp; done) | (simp [Region.wanted, yielded, undef]; done) | rfl)); (try simp only [Act.put, List.setIfInBounds_toArray, List.set_cons_zero, List.set_cons_succ]))
      (refine Lex.step_off ?_ ?_; (focus (first | (go_simp; done) | (simp [Region.wanted, yielded, undef]; done) | rfl)); (try simp only [Act.put, List.setIfInBounds_toArray, List.set_cons_zero, List.set_cons_succ]))
      (refine Lex.step_val (v := ?_) ?_ (fun w' hSw => ?_) ?_; rotate_left; (focus rfl); (focus (clear hSw; go_simp; (try with_reducible rfl); done)); (try simp only [Act.put, List.setIfInBounds_toArray, List.set_cons_zero, List.set_cons_succ]))
      (refine Lex.step_val (v := ?_) ?_ (fun w' hSw => ?_) ?_; rotate_left; (focus rfl); (focus (clear hSw; go_simp; (try with_reducible rfl); done)); (try simp only [Act.put, List.setIfInBounds_toArray, List.set_cons_zero, List.set_cons_succ]))
      (refine Lex.step_off ?_ ?_; (focus (first | (go_simp; done) | (simp [Region.wanted, yielded, undef]; done) | rfl)); (try simp only [Act.put, List.setIfInBounds_toArray, List.set_cons_zero, List.set_cons_succ]))
      (refine Lex.step_off ?_ ?_; (focus (first | (go_simp; done) | (simp [Region.wanted, yielded, undef]; done) | rfl)); (try simp only [Act.put, List.setIfInBounds_toArray, List.set_cons_zero, List.set_cons_succ]))
      (refine Lex.step_off ?_ ?_; (focus (first | (go_simp; done) | (simp [Region.wanted, yielded, undef]; done) | rfl)); (try simp only [Act.put, List.setIfInBounds_toArray, List.set_cons_zero, List.set_cons_succ]))
      (refine Lex.step_off ?_ ?_; (focus (first | (go_simp; done) | (simp [Region.wanted, yielded, undef]; done) | rfl)); (try simp only [Act.put, List.setIfInBounds_toArray, List.set_cons_zero, List.set_cons_succ]))
      (refine Lex.step_off ?_ ?_; (focus (first | (go_simp; done) | (simp [Region.wanted, yielded, undef]; done) | rfl)); (try simp only [Act.put, List.setIfInBounds_toArray, List.set_cons_zero, List.set_cons_succ]))
      (refine Lex.step_off ?_ ?_; (focus (first | (go_simp; done) | (simp [Region.wanted, yielded, undef]; done) | rfl)); (try simp only [Act.put, List.setIfInBounds_toArray, List.set_cons_zero, List.set_cons_succ]))
      (refine Lex.step_val (v := ?_) ?_ (fun w' hSw => ?_) ?_; rotate_left; (focus rfl); (focus (clear hSw; go_simp; (try with_reducible rfl); done)); (try simp only [Act.put, List.setIfInBounds_toArray, List.set_cons_zero, List.set_cons_succ]))
      (refine Lex.step_val (v := ?_) ?_ (fun w' hSw => ?_) ?_; rotate_left; (focus rfl); (focus (clear hSw; go_simp; (try with_reducible rfl); done)); (try simp only [Act.put, List.setIfInBounds_toArray, List.set_cons_zero, List.set_cons_succ]))
      (refine Lex.step_off ?_ ?_; (focus (first | (go_simp; done) | (simp [Region.wanted, yielded, undef]; done) | rfl)); (try simp only [Act.put, List.setIfInBounds_toArray, List.set_cons_zero, List.set_cons_succ]))
      (refine Lex.step_off ?_ ?_; (focus (first | (go_simp; done) | (simp [Region.wanted, yielded, undef]; done) | rfl)); (try simp only [Act.put, List.setIfInBounds_toArray, List.set_cons_zero, List.set_cons_succ]))
      (refine Lex.step_off ?_ ?_; (focus (first | (go_simp; done) | (simp [Region.wanted, yielded, undef]; done) | rfl)); (try simp only [Act.put, List.setIfInBounds_toArray, List.set_cons_zero, List.set_cons_succ]))
      (refine Lex.step_off ?_ ?_; (focus (first | (go_simp; done) | (simp [Region.wanted, yielded, undef]; done) | rfl)); (try simp only [Act.put, List.setIfInBounds_toArray, List.set_cons_zero, List.set_cons_succ]))
      (refine Lex.step_off ?_ ?_; (focus (first | (go_simp; done) | (simp [Region.wanted, yielded, undef]; done) | rfl)); (try simp only [Act.put, List.setIfInBounds_toArray, List.set_cons_zero, List.set_cons_succ]))
      (refine Lex.step_off ?_ ?_; (focus (first | (go_simp; done) | (simp [Region.wanted, yielded, undef]; done) | rfl)); (try simp only [Act.put, List.setIfInBounds_toArray, List.set_cons_zero, List.set_cons_succ]))
      (refine Lex.step_val (v := ?_) ?_ (fun w' hSw => ?_) ?_; rotate_left; (focus rfl); (focus (clear hSw; go_simp; (try with_reducible rfl); done)); (try simp only [Act.put, List.setIfInBounds_toArray, List.set_cons_zero, List.set_cons_succ]))
      refine Lex.step_nil ?_
      intro wz hz
      have HZ := Lib.hid hz
      clear hz HF
      go_wp2_with fail
      refine bodyPost_ret (v := .tuple #[.slice none 0 0, .int .i64 33]) (by simp [results, Tryd.results7, go_sem]) rfl ?_
      exact ⟨Or.inr ⟨33, Or.inl rfl, HN.out, rfl⟩, by have h9 := HB1.out.trans (HZ.out.mono HSZ1.out); rw [← HGG.out] at h9; exact h9⟩
    · skip
      obtain ⟨n, hn⟩ : ∃ n, T.length = n + 3 := ⟨T.length - 3, by omega⟩
      have HLN := Lib.hid hn
      obtain ⟨n1, hn1⟩ : ∃ k, n + 1 = k := ⟨_, rfl⟩
      obtain ⟨n2, hn2⟩ : ∃ k, n + 2 = k := ⟨_, rfl⟩
      have HN1 := Lib.hid hn1
      have HN2 := Lib.hid hn2
      obtain ⟨hg0, e0⟩ := text_cell HS1.out (k := 0) (by omega)
      obtain ⟨_, e1⟩ := text_cell HS1.out (k := n1) (by omega)
      obtain ⟨_, e2⟩ := text_cell HS1.out (k := n2) (by omega)
      have HT0 : Hid (T[0]? = some (T[0]'(by omega))) := List.getElem?_eq_getElem _
      have HT1 : Hid (T[n1]? = some (T[n1]'(by omega))) := List.getElem?_eq_getElem _
      have HT2 : Hid (T[n2]? = some (T[n2]'(by omega))) := List.getElem?_eq_getElem _
      generalize T[0]'(by omega) = p0 at *
      generalize T[n1]'(by omega) = p1 at *
      generalize T[n2]'(by omega) = p2 at *
      have HTL := Lib.hid hn
      generalize hTL : T.length = L at *
      have HTLL := Lib.hid hTL
      have hw3 : IntKind.i64.wrap ((L : Int) - 3) = (n : Int) := by
        have : (L : Int) - 3 = (n : Int) := by omega
        rw [this]; exact IntWalk.i64_in _ (by have := HL.out; omega)
      have hw1 : IntKind.i64.wrap ((n : Int) + 1) = (n1 : Int) := by
        have : (n : Int) + 1 = (n1 : Int) := by omega
        rw [this]; exact IntWalk.i64_in _ (by have := HL.out; omega)
      have hw2 : IntKind.i64.wrap ((n : Int) + 2) = (n2 : Int) := by
        have : (n : Int) + 2 = (n2 : Int) := by omega
        rw [this]; exact IntWalk.i64_in _ (by have := HL.out; omega)
      have hi0 : (0 : Int) < (L : Int) := by omega
      have hi0' : 0 < L := by omega
      have hi1 : (n1 : Int) < (L : Int) := by omega
      have hi2 : (n2 : Int) < (L : Int) := by omega
      have hnn : decide ((n : Int) < 0) = false := decide_eq_false (by omega)
      have hpn := fun (U : World) => print_any U (n : Int) (by omega)
      have HQ0 : Hid (((str p0).toList == (⟨#[105, 110, 118, 32]⟩ ++ str (pr (n : Int))).toList) = decide (p0 = hd n)) := by
        have e : (⟨#[105, 110, 118, 32]⟩ : ByteArray) ++ str (pr (n : Int)) = str (hd n) := by show str [105, 110, 118, 32] ++ str (pr (n : Int)) = _; rw [str_app]; rfl
        show _ = _
        rw [e, Lib.toList_data, Lib.toList_data, str_data, str_data, Bool.eq_iff_iff]
        simp
      have HQ1 : Hid (((str p1).toList == [46]) = decide (p1 = [46])) := by
        show _ = _
        rw [Lib.toList_data, str_data, Bool.eq_iff_iff]; simp
      have HQ2 : Hid (((str p2).toList == []) = decide (p2 = [])) := by
        show _ = _
        rw [Lib.toList_data, str_data, Bool.eq_iff_iff]; simp
      have HHD : Hid (headOk T → n ≤ 1024 ∧ p0 = hd n ∧ p1 = [46] ∧ p2 = []) := fun h => by
        obtain ⟨h1, h2, h4, h5, h6⟩ := h
        have e : T.length - 3 = n := by have := HTLL.out; have := HLN.out; omega
        rw [e] at h2 h4 h5 h6
        have g1 : n + 1 = n1 := HN1.out
        have g2 : n + 2 = n2 := HN2.out
        rw [g1, HT1.out] at h5
        rw [g2, HT2.out] at h6
        rw [HT0.out] at h4
        injection h4 with h4; injection h5 with h5; injection h6 with h6
        exact ⟨h2, h4, h5, h6⟩
      have HHO : Hid (n ≤ 1024 → p0 = hd n → p1 = [46] → p2 = [] → headOk T) := fun h2 h4 h5 h6 => by
        have e : T.length - 3 = n := by have := HTLL.out; have := HLN.out; omega
        have g1 : n + 1 = n1 := HN1.out
        have g2 : n + 2 = n2 := HN2.out
        unfold headOk
        rw [e, g1, g2, HT0.out, HT1.out, HT2.out, h4, h5, h6]
        exact ⟨by have := HTLL.out; have := HLN.out; omega, h2, rfl, rfl, rfl⟩
      generalize str p0 = s0 at *
      generalize str p1 = s1 at *
      generalize str p2 = s2 at *
      have HF : SP g n1 n2 s0 s1 s2 w1 w1.drew := ⟨(Below.refl _ _).drew, e0, e1, e2⟩
      have CPR := Lib.hid (call_keep (S := fun U => SP g n1 n2 s0 s1 s2 w1 U) (fun U hU => hpn U) (fun U U' h hb => ⟨h.1.trans (hb.mono h.1.size), (hb.cell (p := ⟨g, 0, none⟩) (Nat.lt_of_lt_of_le hg0 h.1.size)).trans h.2.1, (hb.cell (p := ⟨g, n1, none⟩) (Nat.lt_of_lt_of_le hg0 h.1.size)).trans h.2.2.1, (hb.cell (p := ⟨g, n2, none⟩) (Nat.lt_of_lt_of_le hg0 h.1.size)).trans h.2.2.2⟩))
      clear hn hn1 hn2 hTL e0 e1 e2 h3
      by_cases hbn : 1024 < n
      · skip
        have hbI : decide ((1024 : Int) < (n : Int)) = true := decide_eq_true (by omega)
        have HN : Hid (parseT t = none) := by show _ = _; rw [HPT.out, if_neg (fun h => by have := h.2.1; have := HTLL.out; have := HLN.out; omega)]
        go_upto_region 5 with fail
        refine Lex.region (fun w' => SP g n1 n2 s0 s1 s2 w1 w') (by kernel_rfl) (by kernel_rfl) HF ?_
        (refine Lex.step_val (v := ?_) ?_ (fun w' hSw => ?_) ?_; rotate_left; (focus rfl); (focus (clear hSw; go_simp; (try with_reducible rfl); done)); (try simp only [Act.put, List.setIfInBounds_toArray, List.set_cons_zero, List.set_cons_succ]))
        (refine Lex.step_val (v := ?_) ?_ (fun w' hSw => ?_) ?_; rotate_left; (focus rfl); (focus (clear hSw; go_simp; (try with_reducible rfl); done)); (try simp only [Act.put, List.setIfInBounds_toArray, List.set_cons_zero, List.set_cons_succ]))
        (refine Lex.step_val (v := ?_) ?_ (fun w' hSw => ?_) ?_; rotate_left; (focus rfl); (focus (clear hSw; go_simp; (try with_reducible rfl); done)); (try simp only [Act.put, List.setIfInBounds_toArray, List.set_cons_zero, List.set_cons_succ]))
        (refine Lex.step_val (v := ?_) ?_ (fun w' hSw => ?_) ?_; rotate_left; (focus (go_simp; done)); (focus (clear hSw; go_simp; (try with_reducible rfl); done)); (try simp only [Act.put, List.setIfInBounds_toArray, List.set_cons_zero, List.set_cons_succ]))
        (refine Lex.step_val (v := ?_) ?_ (fun w' hSw => ?_) ?_; rotate_left; (focus (go_simp; done)); (focus (clear hSw; go_simp; (try with_reducible rfl); done)); (try simp only [Act.put, List.setIfInBounds_toArray, List.set_cons_zero, List.set_cons_succ]))
        (refine Lex.step_val (v := ?_) ?_ (fun w' hSw => ?_) ?_; rotate_left; (focus rfl); (focus (clear hSw; go_simp; (try with_reducible rfl); done)); (try simp only [Act.put, List.setIfInBounds_toArray, List.set_cons_zero, List.set_cons_succ]))
        (refine Lex.step_val (v := ?_) ?_ (fun w' hSw => ?_) ?_; rotate_left; (focus rfl); (focus (clear hSw; go_simp; (try with_reducible rfl); done)); (try simp only [Act.put, List.setIfInBounds_toArray, List.set_cons_zero, List.set_cons_succ]))
        (refine Lex.step_off ?_ ?_; (focus (first | (go_simp; done) | (simp [Region.wanted, yielded, undef]; done) | rfl)); (try simp only [Act.put, List.setIfInBounds_toArray, List.set_cons_zero, List.set_cons_succ]))
        (refine Lex.step_off ?_ ?_; (focus (first | (go_simp; done) | (simp [Region.wanted, yielded, undef]; done) | rfl)); (try simp only [Act.put, List.setIfInBounds_toArray, List.set_cons_zero, List.set_cons_succ]))
        (refine Lex.step_off ?_ ?_; (focus (first | (go_simp; done) | (simp [Region.wanted, yielded, undef]; done) | rfl)); (try simp only [Act.put, List.setIfInBounds_toArray, List.set_cons_zero, List.set_cons_succ]))
        (refine Lex.step_off ?_ ?_; (focus (first | (go_simp; done) | (simp [Region.wanted, yielded, undef]; done) | rfl)); (try simp only [Act.put, List.setIfInBounds_toArray, List.set_cons_zero, List.set_cons_succ]))
        (refine Lex.step_off ?_ ?_; (focus (first | (go_simp; done) | (simp [Region.wanted, yielded, undef]; done) | rfl)); (try simp only [Act.put, List.setIfInBounds_toArray, List.set_cons_zero, List.set_cons_succ]))
        (refine Lex.step_off ?_ ?_; (focus (first | (go_simp; done) | (simp [Region.wanted, yielded, undef]; done) | rfl)); (try simp only [Act.put, List.setIfInBounds_toArray, List.set_cons_zero, List.set_cons_succ]))
        (refine Lex.step_off ?_ ?_; (focus (first | (go_simp; done) | (simp [Region.wanted, yielded, undef]; done) | rfl)); (try simp only [Act.put, List.setIfInBounds_toArray, List.set_cons_zero, List.set_cons_succ]))
        (refine Lex.step_val (v := ?_) ?_ (fun w' hSw => ?_) ?_; rotate_left; (focus rfl); (focus (clear hSw; go_simp; (try with_reducible rfl); done)); (try simp only [Act.put, List.setIfInBounds_toArray, List.set_cons_zero, List.set_cons_succ]))
        (refine Lex.step_val (v := ?_) ?_ (fun w' hSw => ?_) ?_; rotate_left; (focus rfl); (focus (clear hSw; go_simp; (try with_reducible rfl); done)); (try simp only [Act.put, List.setIfInBounds_toArray, List.set_cons_zero, List.set_cons_succ]))
        (refine Lex.step_off ?_ ?_; (focus (first | (go_simp; done) | (simp [Region.wanted, yielded, undef]; done) | rfl)); (try simp only [Act.put, List.setIfInBounds_toArray, List.set_cons_zero, List.set_cons_succ]))
        (refine Lex.step_off ?_ ?_; (focus (first | (go_simp; done) | (simp [Region.wanted, yielded, undef]; done) | rfl)); (try simp only [Act.put, List.setIfInBounds_toArray, List.set_cons_zero, List.set_cons_succ]))
        (refine Lex.step_off ?_ ?_; (focus (first | (go_simp; done) | (simp [Region.wanted, yielded, undef]; done) | rfl)); (try simp only [Act.put, List.setIfInBounds_toArray, List.set_cons_zero, List.set_cons_succ]))
        (refine Lex.step_off ?_ ?_; (focus (first | (go_simp; done) | (simp [Region.wanted, yielded, undef]; done) | rfl)); (try simp only [Act.put, List.setIfInBounds_toArray, List.set_cons_zero, List.set_cons_succ]))
        (refine Lex.step_off ?_ ?_; (focus (first | (go_simp; done) | (simp [Region.wanted, yielded, undef]; done) | rfl)); (try simp only [Act.put, List.setIfInBounds_toArray, List.set_cons_zero, List.set_cons_succ]))
        (refine Lex.step_off ?_ ?_; (focus (first | (go_simp; done) | (simp [Region.wanted, yielded, undef]; done) | rfl)); (try simp only [Act.put, List.setIfInBounds_toArray, List.set_cons_zero, List.set_cons_succ]))
        (refine Lex.step_val (v := ?_) ?_ (fun w' hSw => ?_) ?_; rotate_left; (focus rfl); (focus (clear hSw; go_simp; (try with_reducible rfl); done)); (try simp only [Act.put, List.setIfInBounds_toArray, List.set_cons_zero, List.set_cons_succ]))
        (refine Lex.step_val (v := ?_) ?_ (fun w' hSw => ?_) ?_; rotate_left; (focus rfl); (focus (clear hSw; go_simp; (try with_reducible rfl); done)); (try simp only [Act.put, List.setIfInBounds_toArray, List.set_cons_zero, List.set_cons_succ]))
        (refine Lex.step_off ?_ ?_; (focus (first | (go_simp; done) | (simp [Region.wanted, yielded, undef]; done) | rfl)); (try simp only [Act.put, List.setIfInBounds_toArray, List.set_cons_zero, List.set_cons_succ]))
        (refine Lex.step_off ?_ ?_; (focus (first | (go_simp; done) | (simp [Region.wanted, yielded, undef]; done) | rfl)); (try simp only [Act.put, List.setIfInBounds_toArray, List.set_cons_zero, List.set_cons_succ]))
        (refine Lex.step_off ?_ ?_; (focus (first | (go_simp; done) | (simp [Region.wanted, yielded, undef]; done) | rfl)); (try simp only [Act.put, List.setIfInBounds_toArray, List.set_cons_zero, List.set_cons_succ]))
        (refine Lex.step_off ?_ ?_; (focus (first | (go_simp; done) | (simp [Region.wanted, yielded, undef]; done) | rfl)); (try simp only [Act.put, List.setIfInBounds_toArray, List.set_cons_zero, List.set_cons_succ]))
        (refine Lex.step_off ?_ ?_; (focus (first | (go_simp; done) | (simp [Region.wanted, yielded, undef]; done) | rfl)); (try simp only [Act.put, List.setIfInBounds_toArray, List.set_cons_zero, List.set_cons_succ]))
        (refine Lex.step_off ?_ ?_; (focus (first | (go_simp; done) | (simp [Region.wanted, yielded, undef]; done) | rfl)); (try simp only [Act.put, List.setIfInBounds_toArray, List.set_cons_zero, List.set_cons_succ]))
        (refine Lex.step_val (v := ?_) ?_ (fun w' hSw => ?_) ?_; rotate_left; (focus rfl); (focus (clear hSw; go_simp; (try with_reducible rfl); done)); (try simp only [Act.put, List.setIfInBounds_toArray, List.set_cons_zero, List.set_cons_succ]))
        refine Lex.step_nil ?_
        intro wz hz
        have HZ := Lib.hid hz
        clear hz HF
        go_wp2_with fail
        refine bodyPost_ret (v := .tuple #[.slice none 0 0, .int .i64 33]) (by simp [results, Tryd.results7, go_sem]) rfl ?_
        exact ⟨Or.inr ⟨33, Or.inl rfl, HN.out, rfl⟩, by have h9 := HB1.out.trans (HZ.out.1.mono HSZ1.out); rw [← HGG.out] at h9; exact h9⟩
      · skip
        have hbI : decide ((1024 : Int) < (n : Int)) = false := decide_eq_false (by omega)
        have hlz : (str (pr (n : Int))).size ≤ 21 := by rw [str_size]; exact pr_len (by have := HL.out; have := HTLL.out; have := HLN.out; omega)
        have hlim : ¬ 9223372036854775807 < 4 + (str (pr (n : Int))).size := by omega
        clear hlz
        by_cases c0 : p0 = hd n
        · skip
          have q0 := HQ0.out
          rw [decide_eq_true c0] at q0
          by_cases c1 : p1 = [46]
          · skip
            have q1 := HQ1.out
            rw [decide_eq_true c1] at q1
            by_cases c2 : p2 = []
            · skip
              have q2 := HQ2.out
              rw [decide_eq_true c2] at q2
              have HOK := Lib.hid (HHO.out (by omega) c0 c1 c2)
              clear c0 c1 c2
              go_upto_region 5 with fail
              refine Lex.region (fun w' => SP g n1 n2 s0 s1 s2 w1 w') (by kernel_rfl) (by kernel_rfl) HF ?_
              (refine Lex.step_val (v := ?_) ?_ (fun w' hSw => ?_) ?_; rotate_left; (focus rfl); (focus (clear hSw; go_simp; (try with_reducible rfl); done)); (try simp only [Act.put, List.setIfInBounds_toArray, List.set_cons_zero, List.set_cons_succ]))
              (refine Lex.step_val (v := ?_) ?_ (fun w' hSw => ?_) ?_; rotate_left; (focus rfl); (focus (clear hSw; go_simp; (try with_reducible rfl); done)); (try simp only [Act.put, List.setIfInBounds_toArray, List.set_cons_zero, List.set_cons_succ]))
              (refine Lex.step_val (v := ?_) ?_ (fun w' hSw => ?_) ?_; rotate_left; (focus rfl); (focus (clear hSw; go_simp; (try with_reducible rfl); done)); (try simp only [Act.put, List.setIfInBounds_toArray, List.set_cons_zero, List.set_cons_succ]))
              (refine Lex.step_val (v := ?_) ?_ (fun w' hSw => ?_) ?_; rotate_left; (focus (go_simp; done)); (focus (clear hSw; go_simp; (try with_reducible rfl); done)); (try simp only [Act.put, List.setIfInBounds_toArray, List.set_cons_zero, List.set_cons_succ]))
              (refine Lex.step_val (v := ?_) ?_ (fun w' hSw => ?_) ?_; rotate_left; (focus (go_simp; done)); (focus (clear hSw; go_simp; (try with_reducible rfl); done)); (try simp only [Act.put, List.setIfInBounds_toArray, List.set_cons_zero, List.set_cons_succ]))
              (refine Lex.step_val (v := ?_) ?_ (fun w' hSw => ?_) ?_; rotate_left; (focus rfl); (focus (clear hSw; go_simp; (try with_reducible rfl); done)); (try simp only [Act.put, List.setIfInBounds_toArray, List.set_cons_zero, List.set_cons_succ]))
              (refine Lex.step_val (v := ?_) ?_ (fun w' hSw => ?_) ?_; rotate_left; (focus rfl); (focus (clear hSw; go_simp; (try with_reducible rfl); done)); (try simp only [Act.put, List.setIfInBounds_toArray, List.set_cons_zero, List.set_cons_succ]))
              (refine Lex.step_val (v := ?_) ?_ (fun w' hSw => ?_) ?_; rotate_left; (focus (go_simp; done)); (focus (clear hSw; go_simp; (try with_reducible rfl); done)); (try simp only [Act.put, List.setIfInBounds_toArray, List.set_cons_zero, List.set_cons_succ]))
              (refine Lex.step_val (v := ?_) ?_ (fun w' hSw => ?_) ?_; rotate_left; (focus (go_simp; done)); (focus (clear hSw; go_simp; (try with_reducible rfl); done)); (try simp only [Act.put, List.setIfInBounds_toArray, List.set_cons_zero, List.set_cons_succ]))
              (refine Lex.step_val (v := ?_) ?_ (fun w' hSw => ?_) ?_; rotate_left; (focus (go_simp; done)); (focus ((try dsimp only at hSw); go_simp; (try with_reducible rfl); done)); (try simp only [Act.put, List.setIfInBounds_toArray, List.set_cons_zero, List.set_cons_succ]))
              (refine Lex.step_val (v := ?_) ?_ (fun w' hSw => ?_) ?_; rotate_left; (focus (go_simp; done)); (focus (clear hSw; go_simp; (try with_reducible rfl); done)); (try simp only [Act.put, List.setIfInBounds_toArray, List.set_cons_zero, List.set_cons_succ]))
              (refine Lex.step_call (v := ?_) (f := ?_) (args := ?_) ?_ (fun w' hSw => ?_) ?_ ?_; rotate_left 3; (focus (go_simp; done)); (focus (clear hSw; go_simp; (refine And.intro ?_ ?_ <;> with_reducible rfl); done)); (focus (first | with_reducible exact CPR.out)); (try simp only [Act.put, List.setIfInBounds_toArray, List.set_cons_zero, List.set_cons_succ]))
              (refine Lex.step_val (v := ?_) ?_ (fun w' hSw => ?_) ?_; rotate_left; (focus (go_simp; done)); (focus (clear hSw; go_simp; (try with_reducible rfl); done)); (try simp only [Act.put, List.setIfInBounds_toArray, List.set_cons_zero, List.set_cons_succ]))
              (refine Lex.step_val (v := ?_) ?_ (fun w' hSw => ?_) ?_; rotate_left; (focus (go_simp; done)); (focus (clear hSw; go_simp; (try with_reducible rfl); done)); (try simp only [Act.put, List.setIfInBounds_toArray, List.set_cons_zero, List.set_cons_succ]))
              (refine Lex.step_val (v := ?_) ?_ (fun w' hSw => ?_) ?_; rotate_left; (focus rfl); (focus (clear hSw; go_simp; (try with_reducible rfl); done)); (try simp only [Act.put, List.setIfInBounds_toArray, List.set_cons_zero, List.set_cons_succ]))
              (refine Lex.step_val (v := ?_) ?_ (fun w' hSw => ?_) ?_; rotate_left; (focus rfl); (focus (clear hSw; go_simp; (try with_reducible rfl); done)); (try simp only [Act.put, List.setIfInBounds_toArray, List.set_cons_zero, List.set_cons_succ]))
              (refine Lex.step_val (v := ?_) ?_ (fun w' hSw => ?_) ?_; rotate_left; (focus (go_simp; done)); (focus (clear hSw; go_simp; (try with_reducible rfl); done)); (try simp only [Act.put, List.setIfInBounds_toArray, List.set_cons_zero, List.set_cons_succ]))
              (refine Lex.step_val (v := ?_) ?_ (fun w' hSw => ?_) ?_; rotate_left; (focus (go_simp; done)); (focus (clear hSw; go_simp; (try with_reducible rfl); done)); (try simp only [Act.put, List.setIfInBounds_toArray, List.set_cons_zero, List.set_cons_succ]))
              (refine Lex.step_val (v := ?_) ?_ (fun w' hSw => ?_) ?_; rotate_left; (focus (go_simp; done)); (focus (clear hSw; go_simp; (try with_reducible rfl); done)); (try simp only [Act.put, List.setIfInBounds_toArray, List.set_cons_zero, List.set_cons_succ]))
              (refine Lex.step_val (v := ?_) ?_ (fun w' hSw => ?_) ?_; rotate_left; (focus (go_simp; done)); (focus (clear hSw; go_simp; (try with_reducible rfl); done)); (try simp only [Act.put, List.setIfInBounds_toArray, List.set_cons_zero, List.set_cons_succ]))
              (refine Lex.step_val (v := ?_) ?_ (fun w' hSw => ?_) ?_; rotate_left; (focus (go_simp; done)); (focus ((try dsimp only at hSw); go_simp; (try with_reducible rfl); done)); (try simp only [Act.put, List.setIfInBounds_toArray, List.set_cons_zero, List.set_cons_succ]))
              (refine Lex.step_val (v := ?_) ?_ (fun w' hSw => ?_) ?_; rotate_left; (focus (go_simp; done)); (focus (clear hSw; go_simp; (try with_reducible rfl); done)); (try simp only [Act.put, List.setIfInBounds_toArray, List.set_cons_zero, List.set_cons_succ]))
              (refine Lex.step_val (v := ?_) ?_ (fun w' hSw => ?_) ?_; rotate_left; (focus rfl); (focus (clear hSw; go_simp; (try with_reducible rfl); done)); (try simp only [Act.put, List.setIfInBounds_toArray, List.set_cons_zero, List.set_cons_succ]))
              (refine Lex.step_val (v := ?_) ?_ (fun w' hSw => ?_) ?_; rotate_left; (focus rfl); (focus (clear hSw; go_simp; (try with_reducible rfl); done)); (try simp only [Act.put, List.setIfInBounds_toArray, List.set_cons_zero, List.set_cons_succ]))
              (refine Lex.step_val (v := ?_) ?_ (fun w' hSw => ?_) ?_; rotate_left; (focus (go_simp; done)); (focus (clear hSw; go_simp; (try with_reducible rfl); done)); (try simp only [Act.put, List.setIfInBounds_toArray, List.set_cons_zero, List.set_cons_succ]))
              (refine Lex.step_val (v := ?_) ?_ (fun w' hSw => ?_) ?_; rotate_left; (focus (go_simp; done)); (focus (clear hSw; go_simp; (try with_reducible rfl); done)); (try simp only [Act.put, List.setIfInBounds_toArray, List.set_cons_zero, List.set_cons_succ]))
              (refine Lex.step_val (v := ?_) ?_ (fun w' hSw => ?_) ?_; rotate_left; (focus (go_simp; done)); (focus (clear hSw; go_simp; (try with_reducible rfl); done)); (try simp only [Act.put, List.setIfInBounds_toArray, List.set_cons_zero, List.set_cons_succ]))
              (refine Lex.step_val (v := ?_) ?_ (fun w' hSw => ?_) ?_; rotate_left; (focus (go_simp; done)); (focus (clear hSw; go_simp; (try with_reducible rfl); done)); (try simp only [Act.put, List.setIfInBounds_toArray, List.set_cons_zero, List.set_cons_succ]))
              (refine Lex.step_val (v := ?_) ?_ (fun w' hSw => ?_) ?_; rotate_left; (focus (go_simp; done)); (focus ((try dsimp only at hSw); go_simp; (try with_reducible rfl); done)); (try simp only [Act.put, List.setIfInBounds_toArray, List.set_cons_zero, List.set_cons_succ]))
              (refine Lex.step_val (v := ?_) ?_ (fun w' hSw => ?_) ?_; rotate_left; (focus (go_simp; done)); (focus (clear hSw; go_simp; (try with_reducible rfl); done)); (try simp only [Act.put, List.setIfInBounds_toArray, List.set_cons_zero, List.set_cons_succ]))
              (refine Lex.step_val (v := ?_) ?_ (fun w' hSw => ?_) ?_; rotate_left; (focus rfl); (focus (clear hSw; go_simp; (try with_reducible rfl); done)); (try simp only [Act.put, List.setIfInBounds_toArray, List.set_cons_zero, List.set_cons_succ]))
              refine Lex.step_nil ?_
              intro wz hz
              have HZ := Lib.hid hz.1
              clear hz HF q0 q1 q2 hlim
              have hj1 : (1 : Int) ≤ (n1 : Int) := by have := HN1.out; omega
              have hj2 : (n1 : Int) ≤ (L : Int) := by omega
              have hsub : n1 - 1 = n := by have := HN1.out; omega
              have HM1 := Lib.hid (fun (U : World) (hU : Below g w U) => (hU.cell (p := ⟨0, 0, none⟩) (by have := World.block_lt_of_cell? _ _ HMG.out; rw [HGG.out] at this; exact this)).trans HMG.out)
              have HBZ := Lib.hid (HB1.out.trans (HZ.out.mono HSZ1.out))
              have HZG : Hid (g ≤ wz.heap.size) := Nat.le_trans HSZ1.out HZ.out.size
              have HTT : Hid (∀ (k : Nat) (h : k < n), ((T.drop 1).take n)[k]? = T[k + 1]? ∧ k + 1 < L) := fun k h => by
                refine ⟨?_, by have := HLN.out; omega⟩
                rw [List.getElem?_take, if_pos h, List.getElem?_drop, Nat.add_comm]
              have HTN : Hid (((T.drop 1).take n).length = n) := by show _ = _; rw [List.length_take, List.length_drop]; have := HTLL.out; have := HLN.out; omega
              have HPZ : Hid (parseT t = linesP ((T.drop 1).take n)) := by
                show _ = _
                rw [HPT.out, if_pos HOK.out]
                have e : L - 3 = n := by have := HLN.out; omega
                rw [e]
              have HPLL : Hid (∀ (k : Nat) p, ((T.drop 1).take n)[k]? = some p → p.length ≤ 65536) := fun k p hp => by
                have h1 := List.mem_of_getElem? hp
                have h2 := List.mem_of_mem_drop (List.mem_of_mem_take h1)
                have := HPL.out p h2
                have := HT.out
                omega
              have HTC : Hid (∀ (k : Nat) (h : k < n) p, ((T.drop 1).take n)[k]? = some p → g < w1.heap.size ∧ w1.cell? ⟨g, 1 + k, none⟩ = some (.string (str p))) := fun k h p hp => by
                obtain ⟨h1, h2⟩ := HTT.out k h
                have h3 : k + 1 < T.length := by have := HTLL.out; omega
                rw [h1, List.getElem?_eq_getElem h3] at hp
                injection hp with hp
                have h4 := HS1.out
                rw [← HTLL.out] at h4
                obtain ⟨g1, g2⟩ := text_cell h4 h3
                rw [hp] at g2
                rw [Nat.add_comm]
                exact ⟨g1, g2⟩
              generalize (T.drop 1).take n = TT at *
              have hnL : n ≤ L - 1 := by have := HLN.out; omega
              have hL63 : L - 1 ≤ 9223372036854775807 := by have := HL.out; omega
              have HNK : Hid (n ≤ 65537) := by show _ ≤ _; have := HL.out; omega
              clear hi0 hi0' hi1 hi2 hnn hbn hbI
              have hL1 : ¬ L = 1 := by have := HLN.out; omega
              go_wp2_with fail
              go_loopw [6, 55] (fun o i wr => ∃ (k : Nat) (x : List (List Int)) (a : Option Addr) (c : Nat) (vals : List Value), k ≤ n ∧ i = .int .i64 k ∧ o = .slice a x.length c ∧ Hid (linesP (TT.take k) = some x) ∧ Hid (Own2 wr wz.heap.size 33 3 (.slice a x.length c) x.length vals x) ∧ Hid (x.length ≤ k) ∧ Hid (Below wz.heap.size wz wr)) (fun _ i _ => n - (intOf i).toNat)
              case atStart => exact ⟨0, [], none, 0, [], Nat.zero_le _, rfl, rfl, rfl, Own2.nil _ _ _ _, Nat.le_refl _, Below.refl _ _⟩
              case round =>
                obtain ⟨k, x, a, c, vals, hk, rfl, rfl, hP, hO, hX, hB⟩ := hrel
                have HBW := Lib.hid (HBZ.out.trans (hB.out.mono HZG.out))
                by_cases hlt : k < n
                · have hkt : k < TT.length := by rw [HTN.out]; exact hlt
                  obtain ⟨p, hp⟩ : ∃ p, TT[k]? = some p := ⟨_, List.getElem?_eq_getElem hkt⟩
                  obtain ⟨hg1, e0⟩ := HTC.out k hlt p hp
                  have d0 := ((HZ.out.trans (hB.out.mono HZ.out.size)).cell (p := ⟨g, 1 + k, none⟩) hg1).trans e0
                  have HMO : Hid (linesP (TT.take (k + 1)) = match parseLine p with | none => none | some y => some (x ++ [y])) := by
                    show _ = _
                    rw [lines_take TT k hkt x hP.out, (List.getElem?_eq_some_iff.1 hp).2]
                    cases parseLine p <;> rfl
                  have HST : Hid (parseLine p = none → parseT t = none) := fun h => by
                    rw [HPZ.out]
                    exact lines_stop TT k hkt (by rw [(List.getElem?_eq_some_iff.1 hp).2]; exact h)
                  have HNU := Lib.hid (numbers_any wr p (HPLL.out k p hp) m (HM1.out wr HBW.out))
                  have hlk : 1 + k < L := by have := HLN.out; omega
                  have HPLN := Lib.hid (HPLL.out k p hp)
                  clear e0 hp hkt
                  have HPN : Hid (parseLine p = match allP (spl 32 p) with | none => none | some x => if fitsB x = true then some x else none) := rfl
                  go_wp2_with fail
                  with_reducible refine HNU.out.mono ?_
                  rintro e w2 ⟨hcase, hb2⟩
                  have HB2 := Lib.hid (hB.out.trans (hb2.mono hB.out.size))
                  have HO2 := Lib.hid (hO.out.next hb2)
                  have HS2 : Hid (wz.heap.size ≤ wr.heap.size) := hB.out.size
                  clear hb2 d0
                  rcases hcase with ⟨y, ya, yc, hy, rfl, hyo⟩ | ⟨hy, rfl⟩
                  · have HYO := Lib.hid (own_mono hyo HS2.out)
                    have HYL : Hid (y.length ≤ 65537) := by
                      show _ ≤ _
                      have h1 := congrArg List.length (allP_inv _ _ hy)
                      rw [List.length_map] at h1
                      have h2 := spl_len_le 32 p
                      have h3 : p.length ≤ 65536 := HPLN.out
                      omega
                    have HOD := Lib.hid (odd_any w2 ya y.length yc y (own_slI' hyo) (fits_wf (allP_some hy)) (by have := HYL.out; omega))
                    rw [hy] at HPN
                    have HPN2 : Hid (parseLine p = if fitsB y = true then some y else none) := HPN.out
                    clear HPN hyo hy
                    generalize fitsB y = f at *
                    go_wp2_with fail
                    with_reducible refine HOD.out.mono ?_
                    rintro e w3 ⟨rfl, hb3⟩
                    have HB3 := Lib.hid (HB2.out.trans (hb3.mono HB2.out.size))
                    have HO3 := Lib.hid (HO2.out.next hb3)
                    have HY3 := Lib.hid (own_next HYO.out hb3)
                    clear hb3
                    cases f
                    · have HN := Lib.hid (HST.out HPN2.out)
                      go_wp2_with fail
                      refine bodyPost_ret (v := .tuple #[.slice none 0 0, .int .i64 33]) (by simp [results, Tryd.results7, go_sem]) rfl ?_
                      exact ⟨Or.inr ⟨33, Or.inl rfl, HN.out, rfl⟩, by have h9 := HBZ.out.trans (HB3.out.mono HZG.out); rw [← HGG.out] at h9; exact h9⟩
                    · have HM2 : Hid (linesP (TT.take (k + 1)) = some (x ++ [y])) := by show _ = _; rw [HMO.out, HPN2.out]; rfl
                      have hxl : x.length ≤ 65537 := by have := hX.out; have := HNK.out; omega
                      have hown := HO3.out
                      have hyw := HY3.out
                      have hbb := HB3.out
                      have hsz := HB3.out.size
                      go_wp2_with ((with_reducible refine wpL_pushO (B := wz.heap.size) _ ya yc y _ rfl _ x.length vals x info_rN Tryd.underlying22 ?_ ?_ ?_ ?_ hown hyw ?_ ?_ ?_ hbb ?_); decide; rfl; rfl; rfl; exact hsz; omega; omega; (intro a6 c6 w5 hmix5 hb5 hs5))
                      have e5 : (x ++ [y]).length = x.length + 1 := List.length_append
                      have HO5 : Hid (Own2 w5 wz.heap.size 33 3 (.slice a6 (x ++ [y]).length c6) (x ++ [y]).length (vals ++ [.slice ya y.length yc]) (x ++ [y])) := by show Own2 _ _ _ _ _ _ _ _; rw [e5]; exact hmix5
                      have HB5 := Lib.hid hb5
                      clear hown hyw hbb hsz hmix5 hb5 hs5
                      go_roundw
                      case rel => exact ⟨k + 1, x ++ [y], a6, c6, vals ++ [Value.slice ya y.length yc], by omega, by go_num, by rw [e5], HM2.out, HO5.out, by show (x ++ [y]).length ≤ _; rw [e5]; have := hX.out; omega, HB5.out⟩
                      case measure => simp [intOf]; omega
                  · rw [hy] at HPN
                    have HN := Lib.hid (HST.out HPN.out)
                    clear HPN hy
                    go_wp2_with fail
                    refine bodyPost_ret (v := .tuple #[.slice none 0 0, .int .i64 33]) (by simp [results, Tryd.results7, go_sem]) rfl ?_
                    exact ⟨Or.inr ⟨33, Or.inl rfl, HN.out, rfl⟩, by have h9 := HBZ.out.trans (HB2.out.mono HZG.out); rw [← HGG.out] at h9; exact h9⟩
                · have HE : Hid (parseT t = some x) := by
                    show _ = _
                    have h := hP.out
                    rw [List.take_of_length_le (by rw [HTN.out]; omega)] at h
                    rw [HPZ.out]; exact h
                  go_wp2_with fail
                  refine bodyPost_ret (v := .tuple #[.slice a x.length c, .int .i64 0]) (by simp [results, Tryd.results7, go_sem]) rfl ?_
                  exact ⟨Or.inl ⟨x, a, c, vals, HE.out, rfl, hO.out.sl2'⟩, by have h9 := HBW.out; rw [← HGG.out] at h9; exact h9⟩
            · skip
              have q2 := HQ2.out
              rw [decide_eq_false c2] at q2
              have HN : Hid (parseT t = none) := by show _ = _; rw [HPT.out, if_neg (fun h => c2 (HHD.out h).2.2.2)]
              go_upto_region 5 with fail
              refine Lex.region (fun w' => SP g n1 n2 s0 s1 s2 w1 w') (by kernel_rfl) (by kernel_rfl) HF ?_
              (refine Lex.step_val (v := ?_) ?_ (fun w' hSw => ?_) ?_; rotate_left; (focus rfl); (focus (clear hSw; go_simp; (try with_reducible rfl); done)); (try simp only [Act.put, List.setIfInBounds_toArray, List.set_cons_zero, List.set_cons_succ]))
              (refine Lex.step_val (v := ?_) ?_ (fun w' hSw => ?_) ?_; rotate_left; (focus rfl); (focus (clear hSw; go_simp; (try with_reducible rfl); done)); (try simp only [Act.put, List.setIfInBounds_toArray, List.set_cons_zero, List.set_cons_succ]))
              (refine Lex.step_val (v := ?_) ?_ (fun w' hSw => ?_) ?_; rotate_left; (focus rfl); (focus (clear hSw; go_simp; (try with_reducible rfl); done)); (try simp only [Act.put, List.setIfInBounds_toArray, List.set_cons_zero, List.set_cons_succ]))
              (refine Lex.step_val (v := ?_) ?_ (fun w' hSw => ?_) ?_; rotate_left; (focus (go_simp; done)); (focus (clear hSw; go_simp; (try with_reducible rfl); done)); (try simp only [Act.put, List.setIfInBounds_toArray, List.set_cons_zero, List.set_cons_succ]))
              (refine Lex.step_val (v := ?_) ?_ (fun w' hSw => ?_) ?_; rotate_left; (focus (go_simp; done)); (focus (clear hSw; go_simp; (try with_reducible rfl); done)); (try simp only [Act.put, List.setIfInBounds_toArray, List.set_cons_zero, List.set_cons_succ]))
              (refine Lex.step_val (v := ?_) ?_ (fun w' hSw => ?_) ?_; rotate_left; (focus rfl); (focus (clear hSw; go_simp; (try with_reducible rfl); done)); (try simp only [Act.put, List.setIfInBounds_toArray, List.set_cons_zero, List.set_cons_succ]))
              (refine Lex.step_val (v := ?_) ?_ (fun w' hSw => ?_) ?_; rotate_left; (focus rfl); (focus (clear hSw; go_simp; (try with_reducible rfl); done)); (try simp only [Act.put, List.setIfInBounds_toArray, List.set_cons_zero, List.set_cons_succ]))
              (refine Lex.step_val (v := ?_) ?_ (fun w' hSw => ?_) ?_; rotate_left; (focus (go_simp; done)); (focus (clear hSw; go_simp; (try with_reducible rfl); done)); (try simp only [Act.put, List.setIfInBounds_toArray, List.set_cons_zero, List.set_cons_succ]))
              (refine Lex.step_val (v := ?_) ?_ (fun w' hSw => ?_) ?_; rotate_left; (focus (go_simp; done)); (focus (clear hSw; go_simp; (try with_reducible rfl); done)); (try simp only [Act.put, List.setIfInBounds_toArray, List.set_cons_zero, List.set_cons_succ]))
              (refine Lex.step_val (v := ?_) ?_ (fun w' hSw => ?_) ?_; rotate_left; (focus (go_simp; done)); (focus ((try dsimp only at hSw); go_simp; (try with_reducible rfl); done)); (try simp only [Act.put, List.setIfInBounds_toArray, List.set_cons_zero, List.set_cons_succ]))
              (refine Lex.step_val (v := ?_) ?_ (fun w' hSw => ?_) ?_; rotate_left; (focus (go_simp; done)); (focus (clear hSw; go_simp; (try with_reducible rfl); done)); (try simp only [Act.put, List.setIfInBounds_toArray, List.set_cons_zero, List.set_cons_succ]))
              (refine Lex.step_call (v := ?_) (f := ?_) (args := ?_) ?_ (fun w' hSw => ?_) ?_ ?_; rotate_left 3; (focus (go_simp; done)); (focus (clear hSw; go_simp; (refine And.intro ?_ ?_ <;> with_reducible rfl); done)); (focus (first | with_reducible exact CPR.out)); (try simp only [Act.put, List.setIfInBounds_toArray, List.set_cons_zero, List.set_cons_succ]))
              (refine Lex.step_val (v := ?_) ?_ (fun w' hSw => ?_) ?_; rotate_left; (focus (go_simp; done)); (focus (clear hSw; go_simp; (try with_reducible rfl); done)); (try simp only [Act.put, List.setIfInBounds_toArray, List.set_cons_zero, List.set_cons_succ]))
              (refine Lex.step_val (v := ?_) ?_ (fun w' hSw => ?_) ?_; rotate_left; (focus (go_simp; done)); (focus (clear hSw; go_simp; (try with_reducible rfl); done)); (try simp only [Act.put, List.setIfInBounds_toArray, List.set_cons_zero, List.set_cons_succ]))
              (refine Lex.step_val (v := ?_) ?_ (fun w' hSw => ?_) ?_; rotate_left; (focus rfl); (focus (clear hSw; go_simp; (try with_reducible rfl); done)); (try simp only [Act.put, List.setIfInBounds_toArray, List.set_cons_zero, List.set_cons_succ]))
              (refine Lex.step_val (v := ?_) ?_ (fun w' hSw => ?_) ?_; rotate_left; (focus rfl); (focus (clear hSw; go_simp; (try with_reducible rfl); done)); (try simp only [Act.put, List.setIfInBounds_toArray, List.set_cons_zero, List.set_cons_succ]))
              (refine Lex.step_val (v := ?_) ?_ (fun w' hSw => ?_) ?_; rotate_left; (focus (go_simp; done)); (focus (clear hSw; go_simp; (try with_reducible rfl); done)); (try simp only [Act.put, List.setIfInBounds_toArray, List.set_cons_zero, List.set_cons_succ]))
              (refine Lex.step_val (v := ?_) ?_ (fun w' hSw => ?_) ?_; rotate_left; (focus (go_simp; done)); (focus (clear hSw; go_simp; (try with_reducible rfl); done)); (try simp only [Act.put, List.setIfInBounds_toArray, List.set_cons_zero, List.set_cons_succ]))
              (refine Lex.step_val (v := ?_) ?_ (fun w' hSw => ?_) ?_; rotate_left; (focus (go_simp; done)); (focus (clear hSw; go_simp; (try with_reducible rfl); done)); (try simp only [Act.put, List.setIfInBounds_toArray, List.set_cons_zero, List.set_cons_succ]))
              (refine Lex.step_val (v := ?_) ?_ (fun w' hSw => ?_) ?_; rotate_left; (focus (go_simp; done)); (focus (clear hSw; go_simp; (try with_reducible rfl); done)); (try simp only [Act.put, List.setIfInBounds_toArray, List.set_cons_zero, List.set_cons_succ]))
              (refine Lex.step_val (v := ?_) ?_ (fun w' hSw => ?_) ?_; rotate_left; (focus (go_simp; done)); (focus ((try dsimp only at hSw); go_simp; (try with_reducible rfl); done)); (try simp only [Act.put, List.setIfInBounds_toArray, List.set_cons_zero, List.set_cons_succ]))
              (refine Lex.step_val (v := ?_) ?_ (fun w' hSw => ?_) ?_; rotate_left; (focus (go_simp; done)); (focus (clear hSw; go_simp; (try with_reducible rfl); done)); (try simp only [Act.put, List.setIfInBounds_toArray, List.set_cons_zero, List.set_cons_succ]))
              (refine Lex.step_val (v := ?_) ?_ (fun w' hSw => ?_) ?_; rotate_left; (focus rfl); (focus (clear hSw; go_simp; (try with_reducible rfl); done)); (try simp only [Act.put, List.setIfInBounds_toArray, List.set_cons_zero, List.set_cons_succ]))
              (refine Lex.step_val (v := ?_) ?_ (fun w' hSw => ?_) ?_; rotate_left; (focus rfl); (focus (clear hSw; go_simp; (try with_reducible rfl); done)); (try simp only [Act.put, List.setIfInBounds_toArray, List.set_cons_zero, List.set_cons_succ]))
              (refine Lex.step_val (v := ?_) ?_ (fun w' hSw => ?_) ?_; rotate_left; (focus (go_simp; done)); (focus (clear hSw; go_simp; (try with_reducible rfl); done)); (try simp only [Act.put, List.setIfInBounds_toArray, List.set_cons_zero, List.set_cons_succ]))
              (refine Lex.step_val (v := ?_) ?_ (fun w' hSw => ?_) ?_; rotate_left; (focus (go_simp; done)); (focus (clear hSw; go_simp; (try with_reducible rfl); done)); (try simp only [Act.put, List.setIfInBounds_toArray, List.set_cons_zero, List.set_cons_succ]))
              (refine Lex.step_val (v := ?_) ?_ (fun w' hSw => ?_) ?_; rotate_left; (focus (go_simp; done)); (focus (clear hSw; go_simp; (try with_reducible rfl); done)); (try simp only [Act.put, List.setIfInBounds_toArray, List.set_cons_zero, List.set_cons_succ]))
              (refine Lex.step_val (v := ?_) ?_ (fun w' hSw => ?_) ?_; rotate_left; (focus (go_simp; done)); (focus (clear hSw; go_simp; (try with_reducible rfl); done)); (try simp only [Act.put, List.setIfInBounds_toArray, List.set_cons_zero, List.set_cons_succ]))
              (refine Lex.step_val (v := ?_) ?_ (fun w' hSw => ?_) ?_; rotate_left; (focus (go_simp; done)); (focus ((try dsimp only at hSw); go_simp; (try with_reducible rfl); done)); (try simp only [Act.put, List.setIfInBounds_toArray, List.set_cons_zero, List.set_cons_succ]))
              (refine Lex.step_val (v := ?_) ?_ (fun w' hSw => ?_) ?_; rotate_left; (focus (go_simp; done)); (focus (clear hSw; go_simp; (try with_reducible rfl); done)); (try simp only [Act.put, List.setIfInBounds_toArray, List.set_cons_zero, List.set_cons_succ]))
              (refine Lex.step_val (v := ?_) ?_ (fun w' hSw => ?_) ?_; rotate_left; (focus rfl); (focus (clear hSw; go_simp; (try with_reducible rfl); done)); (try simp only [Act.put, List.setIfInBounds_toArray, List.set_cons_zero, List.set_cons_succ]))
              refine Lex.step_nil ?_
              intro wz hz
              have HZ := Lib.hid hz
              clear hz HF
              go_wp2_with fail
              refine bodyPost_ret (v := .tuple #[.slice none 0 0, .int .i64 33]) (by simp [results, Tryd.results7, go_sem]) rfl ?_
              exact ⟨Or.inr ⟨33, Or.inl rfl, HN.out, rfl⟩, by have h9 := HB1.out.trans (HZ.out.1.mono HSZ1.out); rw [← HGG.out] at h9; exact h9⟩
          · skip
            have q1 := HQ1.out
            rw [decide_eq_false c1] at q1
            have HN : Hid (parseT t = none) := by show _ = _; rw [HPT.out, if_neg (fun h => c1 (HHD.out h).2.2.1)]
            go_upto_region 5 with fail
            refine Lex.region (fun w' => SP g n1 n2 s0 s1 s2 w1 w') (by kernel_rfl) (by kernel_rfl) HF ?_
            (refine Lex.step_val (v := ?_) ?_ (fun w' hSw => ?_) ?_; rotate_left; (focus rfl); (focus (clear hSw; go_simp; (try with_reducible rfl); done)); (try simp only [Act.put, List.setIfInBounds_toArray, List.set_cons_zero, List.set_cons_succ]))
            (refine Lex.step_val (v := ?_) ?_ (fun w' hSw => ?_) ?_; rotate_left; (focus rfl); (focus (clear hSw; go_simp; (try with_reducible rfl); done)); (try simp only [Act.put, List.setIfInBounds_toArray, List.set_cons_zero, List.set_cons_succ]))
            (refine Lex.step_val (v := ?_) ?_ (fun w' hSw => ?_) ?_; rotate_left; (focus rfl); (focus (clear hSw; go_simp; (try with_reducible rfl); done)); (try simp only [Act.put, List.setIfInBounds_toArray, List.set_cons_zero, List.set_cons_succ]))
            (refine Lex.step_val (v := ?_) ?_ (fun w' hSw => ?_) ?_; rotate_left; (focus (go_simp; done)); (focus (clear hSw; go_simp; (try with_reducible rfl); done)); (try simp only [Act.put, List.setIfInBounds_toArray, List.set_cons_zero, List.set_cons_succ]))
            (refine Lex.step_val (v := ?_) ?_ (fun w' hSw => ?_) ?_; rotate_left; (focus (go_simp; done)); (focus (clear hSw; go_simp; (try with_reducible rfl); done)); (try simp only [Act.put, List.setIfInBounds_toArray, List.set_cons_zero, List.set_cons_succ]))
            (refine Lex.step_val (v := ?_) ?_ (fun w' hSw => ?_) ?_; rotate_left; (focus rfl); (focus (clear hSw; go_simp; (try with_reducible rfl); done)); (try simp only [Act.put, List.setIfInBounds_toArray, List.set_cons_zero, List.set_cons_succ]))
            (refine Lex.step_val (v := ?_) ?_ (fun w' hSw => ?_) ?_; rotate_left; (focus rfl); (focus (clear hSw; go_simp; (try with_reducible rfl); done)); (try simp only [Act.put, List.setIfInBounds_toArray, List.set_cons_zero, List.set_cons_succ]))
            (refine Lex.step_val (v := ?_) ?_ (fun w' hSw => ?_) ?_; rotate_left; (focus (go_simp; done)); (focus (clear hSw; go_simp; (try with_reducible rfl); done)); (try simp only [Act.put, List.setIfInBounds_toArray, List.set_cons_zero, List.set_cons_succ]))
            (refine Lex.step_val (v := ?_) ?_ (fun w' hSw => ?_) ?_; rotate_left; (focus (go_simp; done)); (focus (clear hSw; go_simp; (try with_reducible rfl); done)); (try simp only [Act.put, List.setIfInBounds_toArray, List.set_cons_zero, List.set_cons_succ]))
            (refine Lex.step_val (v := ?_) ?_ (fun w' hSw => ?_) ?_; rotate_left; (focus (go_simp; done)); (focus ((try dsimp only at hSw); go_simp; (try with_reducible rfl); done)); (try simp only [Act.put, List.setIfInBounds_toArray, List.set_cons_zero, List.set_cons_succ]))
            (refine Lex.step_val (v := ?_) ?_ (fun w' hSw => ?_) ?_; rotate_left; (focus (go_simp; done)); (focus (clear hSw; go_simp; (try with_reducible rfl); done)); (try simp only [Act.put, List.setIfInBounds_toArray, List.set_cons_zero, List.set_cons_succ]))
            (refine Lex.step_call (v := ?_) (f := ?_) (args := ?_) ?_ (fun w' hSw => ?_) ?_ ?_; rotate_left 3; (focus (go_simp; done)); (focus (clear hSw; go_simp; (refine And.intro ?_ ?_ <;> with_reducible rfl); done)); (focus (first | with_reducible exact CPR.out)); (try simp only [Act.put, List.setIfInBounds_toArray, List.set_cons_zero, List.set_cons_succ]))
            (refine Lex.step_val (v := ?_) ?_ (fun w' hSw => ?_) ?_; rotate_left; (focus (go_simp; done)); (focus (clear hSw; go_simp; (try with_reducible rfl); done)); (try simp only [Act.put, List.setIfInBounds_toArray, List.set_cons_zero, List.set_cons_succ]))
            (refine Lex.step_val (v := ?_) ?_ (fun w' hSw => ?_) ?_; rotate_left; (focus (go_simp; done)); (focus (clear hSw; go_simp; (try with_reducible rfl); done)); (try simp only [Act.put, List.setIfInBounds_toArray, List.set_cons_zero, List.set_cons_succ]))
            (refine Lex.step_val (v := ?_) ?_ (fun w' hSw => ?_) ?_; rotate_left; (focus rfl); (focus (clear hSw; go_simp; (try with_reducible rfl); done)); (try simp only [Act.put, List.setIfInBounds_toArray, List.set_cons_zero, List.set_cons_succ]))
            (refine Lex.step_val (v := ?_) ?_ (fun w' hSw => ?_) ?_; rotate_left; (focus rfl); (focus (clear hSw; go_simp; (try with_reducible rfl); done)); (try simp only [Act.put, List.setIfInBounds_toArray, List.set_cons_zero, List.set_cons_succ]))
            (refine Lex.step_val (v := ?_) ?_ (fun w' hSw => ?_) ?_; rotate_left; (focus (go_simp; done)); (focus (clear hSw; go_simp; (try with_reducible rfl); done)); (try simp only [Act.put, List.setIfInBounds_toArray, List.set_cons_zero, List.set_cons_succ]))
            (refine Lex.step_val (v := ?_) ?_ (fun w' hSw => ?_) ?_; rotate_left; (focus (go_simp; done)); (focus (clear hSw; go_simp; (try with_reducible rfl); done)); (try simp only [Act.put, List.setIfInBounds_toArray, List.set_cons_zero, List.set_cons_succ]))
            (refine Lex.step_val (v := ?_) ?_ (fun w' hSw => ?_) ?_; rotate_left; (focus (go_simp; done)); (focus (clear hSw; go_simp; (try with_reducible rfl); done)); (try simp only [Act.put, List.setIfInBounds_toArray, List.set_cons_zero, List.set_cons_succ]))
            (refine Lex.step_val (v := ?_) ?_ (fun w' hSw => ?_) ?_; rotate_left; (focus (go_simp; done)); (focus (clear hSw; go_simp; (try with_reducible rfl); done)); (try simp only [Act.put, List.setIfInBounds_toArray, List.set_cons_zero, List.set_cons_succ]))
            (refine Lex.step_val (v := ?_) ?_ (fun w' hSw => ?_) ?_; rotate_left; (focus (go_simp; done)); (focus ((try dsimp only at hSw); go_simp; (try with_reducible rfl); done)); (try simp only [Act.put, List.setIfInBounds_toArray, List.set_cons_zero, List.set_cons_succ]))
            (refine Lex.step_val (v := ?_) ?_ (fun w' hSw => ?_) ?_; rotate_left; (focus (go_simp; done)); (focus (clear hSw; go_simp; (try with_reducible rfl); done)); (try simp only [Act.put, List.setIfInBounds_toArray, List.set_cons_zero, List.set_cons_succ]))
            (refine Lex.step_val (v := ?_) ?_ (fun w' hSw => ?_) ?_; rotate_left; (focus rfl); (focus (clear hSw; go_simp; (try with_reducible rfl); done)); (try simp only [Act.put, List.setIfInBounds_toArray, List.set_cons_zero, List.set_cons_succ]))
            (refine Lex.step_val (v := ?_) ?_ (fun w' hSw => ?_) ?_; rotate_left; (focus rfl); (focus (clear hSw; go_simp; (try with_reducible rfl); done)); (try simp only [Act.put, List.setIfInBounds_toArray, List.set_cons_zero, List.set_cons_succ]))
            (refine Lex.step_off ?_ ?_; (focus (first | (go_simp; done) | (simp [Region.wanted, yielded, undef]; done) | rfl)); (try simp only [Act.put, List.setIfInBounds_toArray, List.set_cons_zero, List.set_cons_succ]))
            (refine Lex.step_off ?_ ?_; (focus (first | (go_simp; done) | (simp [Region.wanted, yielded, undef]; done) | rfl)); (try simp only [Act.put, List.setIfInBounds_toArray, List.set_cons_zero, List.set_cons_succ]))
            (refine Lex.step_off ?_ ?_; (focus (first | (go_simp; done) | (simp [Region.wanted, yielded, undef]; done) | rfl)); (try simp only [Act.put, List.setIfInBounds_toArray, List.set_cons_zero, List.set_cons_succ]))
            (refine Lex.step_off ?_ ?_; (focus (first | (go_simp; done) | (simp [Region.wanted, yielded, undef]; done) | rfl)); (try simp only [Act.put, List.setIfInBounds_toArray, List.set_cons_zero, List.set_cons_succ]))
            (refine Lex.step_off ?_ ?_; (focus (first | (go_simp; done) | (simp [Region.wanted, yielded, undef]; done) | rfl)); (try simp only [Act.put, List.setIfInBounds_toArray, List.set_cons_zero, List.set_cons_succ]))
            (refine Lex.step_off ?_ ?_; (focus (first | (go_simp; done) | (simp [Region.wanted, yielded, undef]; done) | rfl)); (try simp only [Act.put, List.setIfInBounds_toArray, List.set_cons_zero, List.set_cons_succ]))
            (refine Lex.step_val (v := ?_) ?_ (fun w' hSw => ?_) ?_; rotate_left; (focus rfl); (focus (clear hSw; go_simp; (try with_reducible rfl); done)); (try simp only [Act.put, List.setIfInBounds_toArray, List.set_cons_zero, List.set_cons_succ]))
            refine Lex.step_nil ?_
            intro wz hz
            have HZ := Lib.hid hz
            clear hz HF
            go_wp2_with fail
            refine bodyPost_ret (v := .tuple #[.slice none 0 0, .int .i64 33]) (by simp [results, Tryd.results7, go_sem]) rfl ?_
            exact ⟨Or.inr ⟨33, Or.inl rfl, HN.out, rfl⟩, by have h9 := HB1.out.trans (HZ.out.1.mono HSZ1.out); rw [← HGG.out] at h9; exact h9⟩
        · skip
          have q0 := HQ0.out
          rw [decide_eq_false c0] at q0
          have HN : Hid (parseT t = none) := by show _ = _; rw [HPT.out, if_neg (fun h => c0 (HHD.out h).2.1)]
          go_upto_region 5 with fail
          refine Lex.region (fun w' => SP g n1 n2 s0 s1 s2 w1 w') (by kernel_rfl) (by kernel_rfl) HF ?_
          (refine Lex.step_val (v := ?_) ?_ (fun w' hSw => ?_) ?_; rotate_left; (focus rfl); (focus (clear hSw; go_simp; (try with_reducible rfl); done)); (try simp only [Act.put, List.setIfInBounds_toArray, List.set_cons_zero, List.set_cons_succ]))
          (refine Lex.step_val (v := ?_) ?_ (fun w' hSw => ?_) ?_; rotate_left; (focus rfl); (focus (clear hSw; go_simp; (try with_reducible rfl); done)); (try simp only [Act.put, List.setIfInBounds_toArray, List.set_cons_zero, List.set_cons_succ]))
          (refine Lex.step_val (v := ?_) ?_ (fun w' hSw => ?_) ?_; rotate_left; (focus rfl); (focus (clear hSw; go_simp; (try with_reducible rfl); done)); (try simp only [Act.put, List.setIfInBounds_toArray, List.set_cons_zero, List.set_cons_succ]))
          (refine Lex.step_val (v := ?_) ?_ (fun w' hSw => ?_) ?_; rotate_left; (focus (go_simp; done)); (focus (clear hSw; go_simp; (try with_reducible rfl); done)); (try simp only [Act.put, List.setIfInBounds_toArray, List.set_cons_zero, List.set_cons_succ]))
          (refine Lex.step_val (v := ?_) ?_ (fun w' hSw => ?_) ?_; rotate_left; (focus (go_simp; done)); (focus (clear hSw; go_simp; (try with_reducible rfl); done)); (try simp only [Act.put, List.setIfInBounds_toArray, List.set_cons_zero, List.set_cons_succ]))
          (refine Lex.step_val (v := ?_) ?_ (fun w' hSw => ?_) ?_; rotate_left; (focus rfl); (focus (clear hSw; go_simp; (try with_reducible rfl); done)); (try simp only [Act.put, List.setIfInBounds_toArray, List.set_cons_zero, List.set_cons_succ]))
          (refine Lex.step_val (v := ?_) ?_ (fun w' hSw => ?_) ?_; rotate_left; (focus rfl); (focus (clear hSw; go_simp; (try with_reducible rfl); done)); (try simp only [Act.put, List.setIfInBounds_toArray, List.set_cons_zero, List.set_cons_succ]))
          (refine Lex.step_val (v := ?_) ?_ (fun w' hSw => ?_) ?_; rotate_left; (focus (go_simp; done)); (focus (clear hSw; go_simp; (try with_reducible rfl); done)); (try simp only [Act.put, List.setIfInBounds_toArray, List.set_cons_zero, List.set_cons_succ]))
          (refine Lex.step_val (v := ?_) ?_ (fun w' hSw => ?_) ?_; rotate_left; (focus (go_simp; done)); (focus (clear hSw; go_simp; (try with_reducible rfl); done)); (try simp only [Act.put, List.setIfInBounds_toArray, List.set_cons_zero, List.set_cons_succ]))
          (refine Lex.step_val (v := ?_) ?_ (fun w' hSw => ?_) ?_; rotate_left; (focus (go_simp; done)); (focus ((try dsimp only at hSw); go_simp; (try with_reducible rfl); done)); (try simp only [Act.put, List.setIfInBounds_toArray, List.set_cons_zero, List.set_cons_succ]))
          (refine Lex.step_val (v := ?_) ?_ (fun w' hSw => ?_) ?_; rotate_left; (focus (go_simp; done)); (focus (clear hSw; go_simp; (try with_reducible rfl); done)); (try simp only [Act.put, List.setIfInBounds_toArray, List.set_cons_zero, List.set_cons_succ]))
          (refine Lex.step_call (v := ?_) (f := ?_) (args := ?_) ?_ (fun w' hSw => ?_) ?_ ?_; rotate_left 3; (focus (go_simp; done)); (focus (clear hSw; go_simp; (refine And.intro ?_ ?_ <;> with_reducible rfl); done)); (focus (first | with_reducible exact CPR.out)); (try simp only [Act.put, List.setIfInBounds_toArray, List.set_cons_zero, List.set_cons_succ]))
          (refine Lex.step_val (v := ?_) ?_ (fun w' hSw => ?_) ?_; rotate_left; (focus (go_simp; done)); (focus (clear hSw; go_simp; (try with_reducible rfl); done)); (try simp only [Act.put, List.setIfInBounds_toArray, List.set_cons_zero, List.set_cons_succ]))
          (refine Lex.step_val (v := ?_) ?_ (fun w' hSw => ?_) ?_; rotate_left; (focus (go_simp; done)); (focus (clear hSw; go_simp; (try with_reducible rfl); done)); (try simp only [Act.put, List.setIfInBounds_toArray, List.set_cons_zero, List.set_cons_succ]))
          (refine Lex.step_val (v := ?_) ?_ (fun w' hSw => ?_) ?_; rotate_left; (focus rfl); (focus (clear hSw; go_simp; (try with_reducible rfl); done)); (try simp only [Act.put, List.setIfInBounds_toArray, List.set_cons_zero, List.set_cons_succ]))
          (refine Lex.step_val (v := ?_) ?_ (fun w' hSw => ?_) ?_; rotate_left; (focus rfl); (focus (clear hSw; go_simp; (try with_reducible rfl); done)); (try simp only [Act.put, List.setIfInBounds_toArray, List.set_cons_zero, List.set_cons_succ]))
          (refine Lex.step_off ?_ ?_; (focus (first | (go_simp; done) | (simp [Region.wanted, yielded, undef]; done) | rfl)); (try simp only [Act.put, List.setIfInBounds_toArray, List.set_cons_zero, List.set_cons_succ]))
          (refine Lex.step_off ?_ ?_; (focus (first | (go_simp; done) | (simp [Region.wanted, yielded, undef]; done) | rfl)); (try simp only [Act.put, List.setIfInBounds_toArray, List.set_cons_zero, List.set_cons_succ]))
          (refine Lex.step_off ?_ ?_; (focus (first | (go_simp; done) | (simp [Region.wanted, yielded, undef]; done) | rfl)); (try simp only [Act.put, List.setIfInBounds_toArray, List.set_cons_zero, List.set_cons_succ]))
          (refine Lex.step_off ?_ ?_; (focus (first | (go_simp; done) | (simp [Region.wanted, yielded, undef]; done) | rfl)); (try simp only [Act.put, List.setIfInBounds_toArray, List.set_cons_zero, List.set_cons_succ]))
          (refine Lex.step_off ?_ ?_; (focus (first | (go_simp; done) | (simp [Region.wanted, yielded, undef]; done) | rfl)); (try simp only [Act.put, List.setIfInBounds_toArray, List.set_cons_zero, List.set_cons_succ]))
          (refine Lex.step_off ?_ ?_; (focus (first | (go_simp; done) | (simp [Region.wanted, yielded, undef]; done) | rfl)); (try simp only [Act.put, List.setIfInBounds_toArray, List.set_cons_zero, List.set_cons_succ]))
          (refine Lex.step_val (v := ?_) ?_ (fun w' hSw => ?_) ?_; rotate_left; (focus rfl); (focus (clear hSw; go_simp; (try with_reducible rfl); done)); (try simp only [Act.put, List.setIfInBounds_toArray, List.set_cons_zero, List.set_cons_succ]))
          (refine Lex.step_val (v := ?_) ?_ (fun w' hSw => ?_) ?_; rotate_left; (focus rfl); (focus (clear hSw; go_simp; (try with_reducible rfl); done)); (try simp only [Act.put, List.setIfInBounds_toArray, List.set_cons_zero, List.set_cons_succ]))
          (refine Lex.step_off ?_ ?_; (focus (first | (go_simp; done) | (simp [Region.wanted, yielded, undef]; done) | rfl)); (try simp only [Act.put, List.setIfInBounds_toArray, List.set_cons_zero, List.set_cons_succ]))
          (refine Lex.step_off ?_ ?_; (focus (first | (go_simp; done) | (simp [Region.wanted, yielded, undef]; done) | rfl)); (try simp only [Act.put, List.setIfInBounds_toArray, List.set_cons_zero, List.set_cons_succ]))
          (refine Lex.step_off ?_ ?_; (focus (first | (go_simp; done) | (simp [Region.wanted, yielded, undef]; done) | rfl)); (try simp only [Act.put, List.setIfInBounds_toArray, List.set_cons_zero, List.set_cons_succ]))
          (refine Lex.step_off ?_ ?_; (focus (first | (go_simp; done) | (simp [Region.wanted, yielded, undef]; done) | rfl)); (try simp only [Act.put, List.setIfInBounds_toArray, List.set_cons_zero, List.set_cons_succ]))
          (refine Lex.step_off ?_ ?_; (focus (first | (go_simp; done) | (simp [Region.wanted, yielded, undef]; done) | rfl)); (try simp only [Act.put, List.setIfInBounds_toArray, List.set_cons_zero, List.set_cons_succ]))
          (refine Lex.step_off ?_ ?_; (focus (first | (go_simp; done) | (simp [Region.wanted, yielded, undef]; done) | rfl)); (try simp only [Act.put, List.setIfInBounds_toArray, List.set_cons_zero, List.set_cons_succ]))
          (refine Lex.step_val (v := ?_) ?_ (fun w' hSw => ?_) ?_; rotate_left; (focus rfl); (focus (clear hSw; go_simp; (try with_reducible rfl); done)); (try simp only [Act.put, List.setIfInBounds_toArray, List.set_cons_zero, List.set_cons_succ]))
          refine Lex.step_nil ?_
          intro wz hz
          have HZ := Lib.hid hz
          clear hz HF
          go_wp2_with fail
          refine bodyPost_ret (v := .tuple #[.slice none 0 0, .int .i64 33]) (by simp [results, Tryd.results7, go_sem]) rfl ?_
          exact ⟨Or.inr ⟨33, Or.inl rfl, HN.out, rfl⟩, by have h9 := HB1.out.trans (HZ.out.1.mono HSZ1.out); rw [← HGG.out] at h9; exact h9⟩
end Inv
end Go.Proofs.YtmiklgekcmeedaaDoor
