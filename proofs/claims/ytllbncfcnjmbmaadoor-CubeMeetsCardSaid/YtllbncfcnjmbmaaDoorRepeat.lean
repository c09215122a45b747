/-
  slices.Repeat of one byte.
-/
import Derived.Test.YtllbncfcnjmbmaaDoorLayB
import Derived.Laws.CopyOwn
import Derived.Deep.RegionLaw
import Derived.Deep.DeepCutAuto
namespace Go.Proofs.YtllbncfcnjmbmaaDoor
open Go.RowKit Base
set_option linter.unusedVariables false
set_option linter.unusedSimpArgs false
namespace Repeat

theorem info_u8 : (Tryd.prog.info? 5).map (fun i => (i.zero, i.size, i.bytes)) = some (some (.int .u8 0), 1, 1) := by kernel_rfl
theorem size_u8 : (Tryd.prog.info? 5).map (·.size) = some 1 := by kernel_rfl

theorem mul1 (n : Nat) (hn : n < 18446744073709551616) (w : World) :
    Calls Tryd.prog 38 #[.int .u64 1, .int .u64 n] w fun e w' => e = .returned (.tuple #[.int .u64 0, .int .u64 n]) ∧ w' = w := by
  have h := LayB.mul_any 1 n (by decide) hn w
  rw [Nat.one_mul, Nat.div_eq_of_lt hn, Nat.mod_eq_of_lt hn] at h
  exact h

/-- copy within the walk: the operation written out. -/
theorem wpL_copy {P : Program} {w : World} {ops : Array Oper} {rest : List Oper} {dst : Option Tmp} {ty : TypeId} {pos : String} {af : Array Edge} {a : Act} {Q : Exit → Act → World → Prop}
    {d s : Operand} {dT sT elem : TypeId} (hu : P.underlying dT = some (.slice elem)) (hsz : (P.info? elem).map (·.size) = some 1)
    (dp sp : Option Addr) (dLen dCap sLen sCap : Nat) (hd : a.eval d = .slice dp dLen dCap) (hs : a.eval s = .slice sp sLen sCap)
    (g off : Nat) (cur : List Value) (t : TypeId) (hg : w.heap[g]? = some (.cells cur.toArray t (0, 0))) (cs : List Value) (hn : cs.length = Nat.min sLen dLen)
    (hpos : 0 < cs.length → dp = some ⟨g, off, none⟩ ∧ ∃ ad, sp = some ad ∧ ∀ j v, cs[j]? = some v → w.cell? (ad.add j) = some v)
    (hfit : off + cs.length ≤ cur.length) (h1 : ∀ v ∈ cs, v.oneCell' = true) (B : Nat) (w0 : World) (hb : Below B w0 w) (hBg : B ≤ g)
    (h : ∀ w', Hid (w'.heap[g]? = some (.cells (splice cur off cs).toArray t (0, 0))) → Below B w0 w' → wpList P ops Q rest (a.put dst (goInt cs.length)) w') :
    wpList P ops Q (⟨dst, .call { callee := .builtin .copy, args := #[d, s], argTypes := #[dT, sT] }, ty, pos, af, none⟩ :: rest) a w :=
  wpList_copy_splice rfl d s dT sT rfl elem hu hsz dp sp dLen dCap sLen sCap hd hs g off cur t hg cs hn hpos hfit h1 B w0 hb hBg h

def rowR (n k : Nat) : List Value := List.replicate k (.int .u8 48) ++ List.replicate (n - k) (.int .u8 0)
theorem rowR_len {n k : Nat} (h : k ≤ n) : (rowR n k).length = n := by unfold rowR; simp; omega
theorem rowR_full (n : Nat) : rowR n n = List.replicate n (.int .u8 48) := by unfold rowR; simp
theorem rowR_none (n : Nat) : rowR n 0 = List.replicate n (.int .u8 0) := by unfold rowR; simp
theorem splice_rep {n k m : Nat} (h : k + m ≤ n) : splice (rowR n k) k (List.replicate m (.int .u8 48)) = rowR n (k + m) := by
  unfold splice rowR
  rw [List.take_append_of_le_length (by simp), List.take_of_length_le (by simp), List.length_replicate, List.drop_append, List.drop_of_length_le (by simp), List.nil_append, List.length_replicate, List.drop_replicate]
  rw [← List.append_assoc, List.replicate_append_replicate]
  congr 2
  omega

theorem own_of {w : World} {B g n : Nat} (hB : B ≤ g) (hn : n ≤ 9223372036854775807) {e : TypeId} (hh : w.heap[g]? = some (.cells (rowR n n).toArray e (0, 0))) : w.ownsRow B e 1 (.slice (some ⟨g, 0, none⟩) n n) n (List.replicate n (.int .u8 48)) := by
  rw [rowR_full] at hh
  refine ⟨by simp, .inr ⟨g, n, _, rfl, hB, hh, Nat.le_refl _, by unfold maxLen; omega, by simp, by simp⟩⟩

theorem row_of {w : World} {B g n : Nat} {e : TypeId} (h : w.ownsRow B e 1 (.slice (some ⟨g, 0, none⟩) n n) n (List.replicate n (.int .u8 0))) : w.heap[g]? = some (.cells (rowR n 0).toArray e (0, 0)) := by
  obtain ⟨_, h2⟩ := h
  rcases h2 with ⟨h3, _⟩ | ⟨g', cap, cur, hv, _, hh, _, _, hcur, ht⟩
  · cases h3
  · simp only [Value.slice.injEq, Option.some.injEq, Addr.mk.injEq] at hv
    obtain ⟨⟨rfl, _⟩, _, rfl⟩ := hv
    rw [hh, rowR_none, ← ht, List.take_of_length_le (by rw [Array.length_toList, hcur]; omega)]

theorem cells_rep {w : World} {g n k : Nat} {e : TypeId} (h : w.heap[g]? = some (.cells (rowR n k).toArray e (0, 0))) (m : Nat) (hm : m ≤ k) (j : Nat) (v : Value) (hj : (List.replicate m (Value.int .u8 48))[j]? = some v) : w.cell? ((⟨g, 0, none⟩ : Addr).add j) = some v := by
  obtain ⟨hlt, hv⟩ := List.getElem?_eq_some_iff.1 hj
  rw [List.length_replicate] at hlt
  rw [List.getElem_replicate] at hv
  rw [Addr.add_lit, cell_of_row _ g (0 + j) _ e _ h, ← hv]
  unfold rowR
  rw [List.getElem?_toArray, List.getElem?_append_left (by simp; omega), List.getElem?_replicate, if_pos (by omega)]

/-- The bytes are copied onto themselves. -/
theorem copy_run {P : Program} {dT elem : TypeId} (hu : P.underlying dT = some (.slice elem)) (hsz : (P.info? elem).map (·.size) = some 1) (w : World) (g n k q : Nat) {e : TypeId}
    (hR : w.heap[g]? = some (.cells (rowR n k).toArray e (0, 0))) (hQ : Nat.min k (n - k) = q) (h1 : q ≤ k) (h2 : k + q ≤ n) {B : Nat} {w0 : World} (hb : Below B w0 w) (hB : B ≤ g) :
    ∃ w4, (Builtin.copy_ #[dT, dT] 3 #[.slice (some ⟨g, k, none⟩) (n - k) (n - k), .slice (some ⟨g, 0, none⟩) k n]).run P w.drew = .ok (.int .i64 q) w4 ∧ w4.heap[g]? = some (.cells (rowR n (k + q)).toArray e (0, 0)) ∧ Below B w0 w4 := by
  have hlen : (List.replicate q (Value.int .u8 48)).length = q := List.length_replicate
  have hfit : k + (List.replicate q (Value.int .u8 48)).length ≤ (rowR n k).toArray.size := by
    rw [List.size_toArray, rowR_len (by omega), hlen]; exact h2
  have hr := run_copy_row (P := P) w.drew dT dT 3 elem g k (n - k) (n - k) ⟨g, 0, none⟩ k n (rowR n k).toArray e (List.replicate q (.int .u8 48)) hu hsz hR (hlen.trans hQ.symm)
    (fun j v hj => cells_rep (w := w.drew) hR q h1 j v hj) hfit (fun v hv => by rw [List.eq_of_mem_replicate hv]; rfl)
  refine ⟨_, by rw [hr, hlen]; rfl, ?_, below_setRow hb.drew hB _⟩
  rw [setRow_heap w.drew g _ _ e _ hR]
  have := splice_rep h2
  unfold splice at this
  rw [← this]
  simp

set_option maxRecDepth 8000 in
set_option maxHeartbeats 2000000 in
theorem repeat_any (w : World) (g0 o0 c0 : Nat) (hs : Sl w (some ⟨g0, o0, none⟩) 1 c0 [.int .u8 48]) (n : Nat) (hn : n ≤ 1000000) :
    Calls Tryd.prog 22 #[.slice (some ⟨g0, o0, none⟩) 1 c0, .int .i64 n] w fun e w' => ∃ g, e = .returned (.slice (some ⟨g, 0, none⟩) n n) ∧ w'.ownsRow w.heap.size 5 1 (.slice (some ⟨g, 0, none⟩) n n) n (List.replicate n (.int .u8 48)) ∧ Below w.heap.size w w' := by
  have HS := Lib.hid hs
  have HM := Lib.hid (mul1 n (by omega) w)
  have hd1 : decide ((9223372036854775807 : Int) < (n : Int)) = false := decide_eq_false (by omega)
  have hd2 : ¬ (n : Int) < 0 := by omega
  have hd3 : ¬ (9223372036854775807 : Int) < (n : Int) := by omega
  clear hs
  go_enter Tryd.func22, Tryd.ntmps22
  go_wp2_with fail
  refine HM.out.mono ?_
  rintro e w1 ⟨rfl, rfl⟩
  go_upto_region 6 with fail
  clear hd1 hd2 hd3
  go_upto_region 7 with (at_make; (with_reducible refine wpL_make n (L := (n : Int)) (C := (n : Int)) info_u8 Tryd.underlying53 ?_ ?_ ?_ ?_ ?_ ?_ ?_ ?_); rfl; rfl; rfl; omega; omega; omega; omega; (intro g w2 hown hb hge hlt))
  have hrow := row_of hown
  have hsrc := HS.out.next hb
  have HROW := Lib.hid hrow
  have HSRC := Lib.hid hsrc
  have HB := Lib.hid hb
  clear hrow hsrc hown hb
  obtain ⟨m, hm0, hm3, hm1, hm2⟩ : ∃ m, Nat.min 1 n = m ∧ m ≤ 1 ∧ m ≤ n ∧ (1 ≤ n → 1 ≤ m) := ⟨_, rfl, Nat.min_le_left 1 n, Nat.min_le_right 1 n, fun h => Nat.le_min.2 ⟨Nat.le_refl _, h⟩⟩
  have HM0 := Lib.hid hm0
  clear hm0
  have hcs : ∀ j v, (List.replicate m (Value.int .u8 48))[j]? = some v → w2.cell? ((⟨g0, o0, none⟩ : Addr).add j) = some v := by
    intro j v hj
    obtain ⟨hlt, hv⟩ := List.getElem?_eq_some_iff.1 hj
    rw [List.length_replicate] at hlt
    have hj0 : j = 0 := by omega
    subst hj0
    rw [List.getElem_replicate] at hv
    obtain ⟨b', o', ha, _, hc⟩ := HSRC.out.cell 0 _ rfl
    simp only [Option.some.injEq, Addr.mk.injEq] at ha
    obtain ⟨rfl, rfl, _⟩ := ha
    rw [← hv, Addr.add_lit]
    exact hc
  have hfit : 0 + (List.replicate m (Value.int .u8 48)).length ≤ (rowR n 0).length := by
    rw [rowR_len (Nat.zero_le _), List.length_replicate]; omega
  have hone : ∀ v ∈ List.replicate m (Value.int .u8 48), v.oneCell' = true := by
    intro v hv
    rw [List.eq_of_mem_replicate hv]; rfl
  have HCS := Lib.hid hcs
  have HFIT := Lib.hid hfit
  have HONE := Lib.hid hone
  clear hcs hfit hone
  go_wp2_with ((with_reducible refine wpL_copy Tryd.underlying53 size_u8 (some ⟨g, 0, none⟩) (some ⟨g0, o0, none⟩) n n 1 c0 ?_ ?_ g 0 (rowR n 0) 5 HROW.out (List.replicate m (.int .u8 48)) ?_ (fun _ => ⟨rfl, ⟨g0, o0, none⟩, rfl, HCS.out⟩) HFIT.out HONE.out w1.heap.size w1 HB.out hge ?_); rfl; rfl; (exact List.length_replicate.trans HM0.out.symm); skip)
  intro w3 hw3 hb3
  have hw3' : Hid (w3.heap[g]? = some (.cells (rowR n m).toArray 5 (0, 0))) := by
    have h := hw3.out
    have e := splice_rep (n := n) (k := 0) (m := m) (by omega)
    rw [e, Nat.zero_add] at h
    exact h
  rw [List.length_replicate]
  clear hw3 HROW HSRC HS HM HB HCS HFIT HONE
  have HB3 := Lib.hid hb3
  have HM2 := Lib.hid hm2
  clear hb3 hm2
  go_wp2_with fail
  go_loopw [8] (fun i wr => ∃ k : Nat, k ≤ n ∧ (1 ≤ n → 1 ≤ k) ∧ i = .int .i64 k ∧ Hid (wr.heap[g]? = some (.cells (rowR n k).toArray 5 (0, 0))) ∧ Hid (Below w1.heap.size w1 wr)) (fun i _ => n - (intOf i).toNat)
  case atStart => exact ⟨m, hm1, HM2.out, rfl, hw3', HB3⟩
  case round =>
    obtain ⟨k, hk, hk1, rfl, hR, hB⟩ := hrel
    by_cases hlt : k < n
    · have hk1' := hk1 (by omega)
      clear hk1
      obtain ⟨q, hq0, hq1, hq2, hq3⟩ : ∃ q, Nat.min k (n - k) = q ∧ q ≤ k ∧ k + q ≤ n ∧ 1 ≤ q := ⟨_, rfl, Nat.min_le_left _ _, (by have : Nat.min k (n - k) ≤ n - k := Nat.min_le_right _ _; omega), Nat.le_min.2 ⟨hk1', by omega⟩⟩
      have HQ := Lib.hid hq0
      clear hq0
      have hne : ¬ (n = k) := by omega
      obtain ⟨w4, hrun, hg4, hb4⟩ := copy_run (P := Tryd.prog) Tryd.underlying53 size_u8 wr g n k q (e := 5) hR.out HQ.out hq1 hq2 (B := w1.heap.size) (w0 := w1) hB.out hge
      have HG4 := Lib.hid hg4
      have HB4 := Lib.hid hb4
      clear hg4 hb4
      go_wp2_with fail
      go_region
      all_goals
        go_wp2_with fail
        go_roundw
        case rel => exact ⟨k + q, hq2, fun _ => by omega, by go_num, HG4, HB4⟩
        case measure => simp [intOf]; omega
    · have hkn : k = n := by omega
      have hR' : Hid (wr.heap[g]? = some (.cells (rowR n n).toArray 5 (0, 0))) := by have h := hR.out; rw [hkn] at h; exact h
      clear hkn hk1
      go_wp2_with fail
      go_ret
      exact ⟨g, rfl, own_of hge (by omega) hR'.out, hB.out⟩
end Repeat
end Go.Proofs.YtllbncfcnjmbmaaDoor
