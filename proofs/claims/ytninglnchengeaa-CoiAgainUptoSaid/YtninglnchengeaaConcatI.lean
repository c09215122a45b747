/-
  slices.Concat at one instance (elements of one cell), and slices.Grow of nil.
-/
import Derived.Test.YtninglnchengeaaLaws
import Derived.Lib.AppendZerosOnto
import Derived.Lib.AppendZeros
namespace Go.Proofs.Ytninglnchengeaa
open Go.RowKit Base
set_option linter.unusedVariables false
namespace ConcatI

theorem info : (Try.prog.info? 3).map (fun i => (i.zero, i.size, i.bytes)) = some (some (.int .i64 0), 1, 8) := by kernel_rfl

set_option maxRecDepth 10000 in
set_option maxHeartbeats 1000000 in
/-- Grow of nil: nothing is owned yet; the capacity is the run's. -/
theorem grow (w : World) (n : Nat) (hn : n * 8 ≤ 140737488355328) (hn' : n ≤ 4611686018427387904) :
    Calls Try.prog 48 #[.slice none 0 0, .int .i64 n] w fun e w' => ∃ a' c', e = .returned (.slice a' 0 c') ∧ w'.ownsRow w.heap.size 3 1 (.slice a' 0 c') 0 [] ∧ Below w.heap.size w w' := by
  by_cases h0 : n = 0
  · subst h0
    go_enter Try.func48, Try.ntmps48
    go_wp2_with fail
    go_ret
    exact ⟨none, 0, rfl, World.ownsRow_nil _ _ _ _, Below.refl _ _⟩
  · obtain ⟨i, hi, hz0, hz1, hz2⟩ := info_parts info
    have hrun : ∀ ty, (Builtin.append_ #[22, 3] ty #[.slice none 0 0, .int .i64 n]).run Try.prog w =
        .ok (.slice (some ⟨w.heap.size, 0, none⟩) n (grownCap w n 0 3)) (w.drew.alloc (.cells (Builtin.zeroCells #[.int .i64 0] n ++ Builtin.zeroCells #[.int .i64 0] (grownCap w n 0 3 - n)) 3)) := fun ty => by
      have h := Lib.run_append_grow_zeros (P := Try.prog) w 22 3 ty 3 i (.int .i64 0) .i64 .i64 Try.underlying22 Try.underlying3 hi hz0 none 0 0 [] (run_firstCells_none w.drew i.size 0 0 0) n (by omega) (by omega) (by omega) (by omega) (by rw [hz2]; omega)
        (growslice_fits (by omega) (by rw [hz2, Nat.zero_add]; exact hn))
      rw [Nat.zero_add] at h
      have e : (.int .i64 0 : Value).cells = #[.int .i64 0] := rfl
      rw [e] at h
      simpa using h
    have hge : n ≤ grownCap w n 0 3 := grownCap_ge w n 0 _
    have hle : grownCap w n 0 3 ≤ 9223372036854775807 := grownCap_big w n _ (by omega)
    generalize grownCap w n 0 3 = G at *
    have hsz : (Builtin.zeroCells #[.int .i64 0] n ++ Builtin.zeroCells #[.int .i64 0] (G - n)).size = G * 1 := by
      rw [Array.size_append, size_zeroCells, size_zeroCells]; simp; omega
    have hown : (w.drew.alloc (.cells (Builtin.zeroCells #[.int .i64 0] n ++ Builtin.zeroCells #[.int .i64 0] (G - n)) 3)).ownsRow w.heap.size 3 1 (.slice (some ⟨w.heap.size, 0, none⟩) 0 G) 0 [] :=
      World.ownsRow_made w.drew _ G (Nat.le_refl _) (by unfold maxLen; omega) hsz
    have hb : Below w.heap.size w (w.drew.alloc (.cells (Builtin.zeroCells #[.int .i64 0] n ++ Builtin.zeroCells #[.int .i64 0] (G - n)) 3)) := (Below.refl _ _).drew.alloc (Nat.le_refl _) _
    generalize w.drew.alloc (.cells (Builtin.zeroCells #[.int .i64 0] n ++ Builtin.zeroCells #[.int .i64 0] (G - n)) 3) = w1 at *
    have HR := Lib.hid hrun
    have hcap : (0 : Nat) ≤ G := Nat.zero_le _
    clear hrun
    go_enter Try.func48, Try.ntmps48
    go_wp2_with (at_builtin; refine Lib.wpList_append_run _ rfl _ _ _ _ rfl _ _ rfl rfl _ _ (HR.out _) ?_)
    go_ret
    exact ⟨_, G, rfl, hown, hb⟩

/-- A list of slices, each with its elements. -/
def Parts (w : World) (vs : List Value) (us : List (List Value)) : Prop :=
  vs.length = us.length ∧ ∀ (k : Nat) (v : Value) (u : List Value), vs[k]? = some v → us[k]? = some u → ∃ a c, v = .slice a u.length c ∧ Sl w a u.length c u

theorem Parts.next {w w' : World} {vs : List Value} {us : List (List Value)} (h : Parts w vs us) (hb : Below w.heap.size w w') : Parts w' vs us :=
  ⟨h.1, fun k v u hv hu => by
    obtain ⟨a, c, rfl, hs⟩ := h.2 k v u hv hu
    exact ⟨a, c, rfl, hs.next hb⟩⟩

def tot (us : List (List Value)) : Nat := us.flatten.length

theorem tot_take (us : List (List Value)) (k : Nat) (hk : k < us.length) : tot (us.take (k + 1)) = tot (us.take k) + us[k].length := by
  unfold tot
  rw [List.take_succ_eq_append_getElem hk, List.flatten_append]
  simp

theorem tot_le (us : List (List Value)) (k : Nat) : tot (us.take k) ≤ tot us := by
  unfold tot
  conv => rhs; rw [← List.take_append_drop k us]
  rw [List.flatten_append, List.length_append]; omega

theorem flat_take (us : List (List Value)) (k : Nat) (hk : k < us.length) : (us.take (k + 1)).flatten = (us.take k).flatten ++ us[k] := by
  rw [List.take_succ_eq_append_getElem hk, List.flatten_append]
  simp

set_option maxHeartbeats 2000000 in
theorem concat (w : World) (a : Option Addr) (n c : Nat) (vs : List Value) (us : List (List Value)) (hsl : Sl w a n c vs) (hp : Parts w vs us) (h1 : ∀ u ∈ us, ∀ v ∈ u, v.oneCell' = true) (hn : tot us * 8 ≤ 140737488355328) (hn' : tot us ≤ 4611686018427387904) :
    Calls Try.prog 29 #[.slice a n c] w fun e w' => ∃ a' c', e = .returned (.slice a' (tot us) c') ∧ w'.ownsRow w.heap.size 3 1 (.slice a' (tot us) c') (tot us) us.flatten ∧ Below w.heap.size w w' := by
  have hlen : us.length = n := by rw [← hp.1, hsl.len]
  have HLEN := Lib.hid hlen
  have hcap := hsl.cap
  have hbig := hsl.big
  have HP := Lib.hid hp
  have H1 := Lib.hid h1
  have HN := Lib.hid hn
  have HN' := Lib.hid hn'
  clear hp h1 hn hn' hlen
  go_enter Try.func29, Try.ntmps29
  go_wp2_with fail
  go_loop [3, 11] (fun z i => ∃ k : Nat, k ≤ n ∧ i = .int .i64 k ∧ z = .int .i64 (tot (us.take k))) (fun _ i => n - (intOf i).toNat)
  case atStart => exact ⟨0, Nat.zero_le _, rfl, rfl⟩
  case round =>
    obtain ⟨k, hk, rfl, rfl⟩ := hrel
    by_cases hlt : k < n
    · obtain ⟨b, o, v, rfl, hbs, hv, hc⟩ := hsl.at hlt
      have hku : k < us.length := by rw [HLEN.out]; exact hlt
      obtain ⟨a', c', rfl, hs⟩ := HP.out.2 k v us[k] hv (List.getElem?_eq_getElem hku)
      have HT := Lib.hid (tot_take us k hku)
      have t1 : tot (us.take k) + us[k].length ≤ 4611686018427387904 := by
        have h1 := HT.out; have h2 := tot_le us (k + 1); have h3 := HN'.out; omega
      have HV := Lib.hid hv
      clear hv hs
      generalize us[k].length = m at *
      generalize tot (us.take k) = t at *
      go_wp2_with fail
      go_round
      case rel => exact ⟨k + 1, by omega, by go_num, by rw [HT.out]; go_num⟩
      case measure => simp [intOf]; omega
    · have e : us.take k = us := List.take_of_length_le (by rw [HLEN.out]; omega)
      rw [e]
      clear e
      have HG := Lib.hid (grow w (tot us) HN.out HN'.out)
      generalize hT : tot us = T at *
      have HTT := Lib.hid hT
      clear hT
      go_wp2_with fail
      refine HG.out.mono ?_
      rintro e w1 ⟨a1, c1, rfl, hown1, hb1⟩
      have hsl1 := hsl.next hb1
      have HP1 := Lib.hid (HP.out.next hb1)
      go_wp2_with fail
      go_loopw [6, 27] (fun s i wr => ∃ (k : Nat) (t : Nat), k ≤ n ∧ i = .int .i64 k ∧ Hid (t = tot (us.take k)) ∧ (∃ a' c', s = .slice a' t c' ∧ wr.ownsRow w.heap.size 3 1 (.slice a' t c') t (us.take k).flatten) ∧ Below w.heap.size w wr) (fun _ i _ => n - (intOf i).toNat)
      case atStart => exact ⟨0, 0, Nat.zero_le _, rfl, rfl, ⟨a1, c1, rfl, hown1⟩, hb1⟩
      case round =>
        obtain ⟨k, t, hk, rfl, ht, ⟨a2, c2, rfl, hown2⟩, hbr⟩ := hrel
        by_cases hlt : k < n
        · obtain ⟨b, o, v, rfl, hbs, hv, hc⟩ := hsl.at hlt
          have hku : k < us.length := by rw [HLEN.out]; exact hlt
          obtain ⟨a', c', rfl, hs⟩ := HP.out.2 k v us[k] hv (List.getElem?_eq_getElem hku)
          have hsr := hs.next hbr
          have hcr : wr.cell? ⟨b, o + k, none⟩ = some (.slice a' us[k].length c') := (hbr.cell (p := ⟨b, o + k, none⟩) hbs).trans hc
          have HT := Lib.hid (tot_take us k hku)
          have HF := Lib.hid (flat_take us k hku)
          have t1 : t + us[k].length ≤ T := by
            have h1 := HT.out; have h2 := tot_le us (k + 1); have h3 := HTT.out; have h4 := ht.out; omega
          have t2 : (t + us[k].length) * 8 ≤ 140737488355328 := by have := HN.out; omega
          have t3 : T ≤ 4611686018427387904 := HN'.out
          have HU := Lib.hid (H1.out _ (List.getElem_mem hku))
          have hbase := hbr.size
          clear hv hc hs
          generalize us[k] = u at *
          generalize hm : u.length = m at *
          have HM := Lib.hid hm
          clear hm
          go_wp2_with ((with_reducible refine wpL_app (B := w.heap.size) (W := w) _ t (us.take k).flatten _ m c' u info Try.underlying22 ?_ ?_ ?_ HU.out hown2 hsr ?_ ?_ ?_ hbr ?_); rfl; rfl; rfl; exact hbase; omega; omega; (intro a3 c3 w3 hown3 hb3 _))
          go_roundw
          case rel => exact ⟨k + 1, t + m, by omega, by go_num, by show _ = _; rw [HT.out, ht.out], ⟨a3, c3, by go_num, by rw [HF.out]; exact hown3⟩, hb3⟩
          case measure => simp [intOf]; omega
        · have e : us.take k = us := List.take_of_length_le (by rw [HLEN.out]; omega)
          have hT2 : t = T := by have h1 := ht.out; rw [e] at h1; rw [h1, HTT.out]
          rw [e] at hown2
          subst hT2
          go_wp2_with fail
          go_ret
          rw [HTT.out]
          exact ⟨a2, c2, rfl, hown2, hbr⟩
end ConcatI
end Go.Proofs.Ytninglnchengeaa
