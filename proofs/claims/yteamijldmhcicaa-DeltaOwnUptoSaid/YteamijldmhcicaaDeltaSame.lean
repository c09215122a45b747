/-
  interlocklaw22.same: are frames alike?
-/
import Derived.Test.YteamijldmhcicaaOwn3
import Derived.Test.YteamijldmhcicaaPlainLists
namespace Go.Proofs.Yteamijldmhcicaa
open Go.RowKit Base Own3N
set_option linter.unusedVariables false
set_option linter.unusedSimpArgs false
namespace Delta

set_option maxRecDepth 4000 in
set_option maxHeartbeats 8000000 in
theorem same_any (w : World) (a1 a2 : Option Addr) (n1 n2 c1 c2 : Nat) (v1 v2 : List Value) (F G : List (List (List Int))) (h1 : Sl3 w a1 n1 c1 v1 F) (h2 : Sl3 w a2 n2 c2 v2 G) :
    Calls Try.prog 12 #[.agg #[.slice a1 n1 c1], .agg #[.slice a2 n2 c2]] w fun e w' => e = .returned (.bool (decide (F = G))) ∧ Below w.heap.size w w' := by
  obtain ⟨W2, hW2⟩ : ∃ W2, (w.alloc (.cells #[.slice a1 n1 c1] 24)).alloc (.cells #[.slice a2 n2 c2] 24) = W2 := ⟨_, rfl⟩
  have hb2 : Below w.heap.size w W2 := by rw [← hW2]; exact ((Below.refl _ _).alloc (Nat.le_refl _) _).alloc (by simp) _
  have k0 : W2.cell? ⟨w.heap.size, 0, none⟩ = some (.slice a1 n1 c1) := by rw [← hW2]; simp [go_sem]
  have k1 : W2.cell? ⟨w.heap.size + 1, 0, none⟩ = some (.slice a2 n2 c2) := by rw [← hW2]; simp [go_sem]
  have z2 : W2.heap.size = w.heap.size + 2 := by rw [← hW2]; simp
  have hcap := h1.sl.cap
  have hbig := h1.sl.big
  have H1 := Lib.hid (h1.next hb2)
  have H2 := Lib.hid (h2.next hb2)
  have L1 := Lib.hid h1.len
  have L2 := Lib.hid h2.len
  have HB := Lib.hid hb2
  clear h1 h2 hb2
  by_cases hn : n1 = n2
  · subst hn
    go_enter Try.func12, Try.ntmps12
    go_wp2
    clear hW2
    go_loopw [5] (fun i wr => ∃ k : Nat, k ≤ n1 ∧ i = .int .i64 k ∧ Hid (F.take k = G.take k) ∧ Hid (∃ m, wr = W2.drewN m)) (fun i _ => n1 - (intOf i).toNat)
    case atStart => exact ⟨0, Nat.zero_le _, rfl, rfl, 0, rfl⟩
    case round =>
      obtain ⟨k, hk, rfl, hI, hdr⟩ := hrel
      have hbr : Below W2.heap.size W2 wr := by obtain ⟨q, rfl⟩ := hdr.out; exact below_drewN (Below.refl _ _) q
      have d0 := (hbr.cell (p := ⟨w.heap.size, 0, none⟩) (by show w.heap.size < W2.heap.size; omega)).trans k0
      have d1 := (hbr.cell (p := ⟨w.heap.size + 1, 0, none⟩) (by show w.heap.size + 1 < W2.heap.size; omega)).trans k1
      by_cases hlt : k < n1
      · obtain ⟨b, o, a3, c3, v3, hx, rfl, hbs, hc, hr1, _⟩ := (H1.out.next hbr).at hlt
        obtain ⟨b', o', a4, c4, v4, hy, rfl, hbs', hc', hr2, _⟩ := (H2.out.next hbr).at hlt
        have HQ := Lib.hid (fun (m : Nat) => Plain.lists_any (wr.drewN m) a3 a4 F[k].length G[k].length c3 c4 v3 v4 F[k] G[k] (hr1.next (below_drewN (Below.refl _ _) m)) (hr2.next (below_drewN (Below.refl _ _) m)))
        have HM : Hid (F[k] = G[k] → F.take (k + 1) = G.take (k + 1)) := fun e => Plain.take_more2 hx hy hI.out e
        have HD : Hid (F[k] ≠ G[k] → F ≠ G) := fun e he => e (by subst he; rfl)
        clear hr1 hr2
        generalize F[k] = p at *
        generalize G[k] = q at *
        generalize p.length = lp at *
        generalize q.length = lq at *
        by_cases hpq : p = q
        · rw [decide_eq_true hpq] at HQ
          have HE := Lib.hid hpq
          clear hpq
          go_wp2_with fail
          go_quiet ((go_at_call 25; exact Calls.quiet_of (HQ.out _)))
          go_wp2_with fail
          go_roundw
          case rel => exact ⟨k + 1, by omega, by go_num, HM.out HE.out, Plain.drew_more hdr.out _⟩
          case measure => simp [intOf]; omega
        · rw [decide_eq_false hpq] at HQ
          have HE := Lib.hid hpq
          clear hpq
          go_wp2_with fail
          go_quiet ((go_at_call 25; exact Calls.quiet_of (HQ.out _)))
          go_wp2_with fail
          go_ret
          refine ⟨ret_bool (decide_eq_false (HD.out HE.out)).symm, ?_⟩
          obtain ⟨q, hq⟩ := Plain.drew_more hdr.out _
          rw [hq]
          exact below_drewN HB.out q
      · have HE : Hid (F = G) := by
          show _ = _
          have h := hI.out
          rwa [List.take_of_length_le (by have := L1.out; omega), List.take_of_length_le (by have := L2.out; omega)] at h
        go_wp2_with fail
        go_ret
        exact ⟨ret_bool (decide_eq_true HE.out).symm, HB.out.trans (hbr.mono HB.out.size)⟩
  · have hne : ((n1 : Int) != (n2 : Int)) = true := by simp; omega
    have hne' : ((n1 : Int) == (n2 : Int)) = false := by simp; omega
    have HD : Hid (decide (F = G) = false) := decide_eq_false (fun h => hn (by rw [← L1.out, ← L2.out, h]))
    go_enter Try.func12, Try.ntmps12
    go_wp2
    go_ret
    exact ⟨ret_bool HD.out.symm, HB.out⟩

end Delta
end Go.Proofs.Yteamijldmhcicaa
