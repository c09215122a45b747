/-
  interlockref07.All: all strings of bits of a length.
-/
import Derived.Test.YtllbncfcnjmbmaaDoorStep
namespace Go.Proofs.YtllbncfcnjmbmaaDoor
open Go.RowKit Base
set_option linter.unusedVariables false
set_option linter.unusedSimpArgs false
namespace AllS
def b0 : ByteArray := ⟨#[48]⟩
def b1 : ByteArray := ⟨#[49]⟩

def two (s : ByteArray) : List ByteArray := [s ++ b0, s ++ b1]

def allS : Nat → List ByteArray
  | 0 => [⟨#[]⟩]
  | n + 1 => (allS n).flatMap two

theorem two_len (l : List ByteArray) : (l.flatMap two).length = 2 * l.length := by
  induction l with
  | nil => rfl
  | cons x r ih => simp only [List.flatMap_cons, List.length_append, List.length_cons, ih]; simp [two]; omega

theorem allS_len (n : Nat) : (allS n).length = 2 ^ n := by
  induction n with
  | zero => rfl
  | succ n ih => rw [allS, two_len, ih, Nat.pow_succ]; omega

def strs (ss : List ByteArray) : List Value := ss.map Value.string

theorem strs_len (ss : List ByteArray) : (strs ss).length = ss.length := by simp [strs]

theorem strs_app (a b : List ByteArray) : strs (a ++ b) = strs a ++ strs b := by simp [strs]

theorem strs_one (xs : List ByteArray) : ∀ u ∈ strs xs, u.oneCell' = true := by
  intro u hu
  obtain ⟨_, _, rfl⟩ := List.mem_map.1 hu
  rfl

/-- An element of a slice of strings. -/
theorem str_at {w : World} {a : Option Addr} {n c : Nat} {xs : List ByteArray} (h : Sl w a n c (strs xs)) {k : Nat} (hk : k < n) :
    ∃ b o, ∃ hx : k < xs.length, a = some ⟨b, o, none⟩ ∧ b < w.heap.size ∧ w.cell? ⟨b, o + k, none⟩ = some (.string xs[k]) := by
  obtain ⟨b, o, x, ha, hs, hx, hc⟩ := h.at hk
  unfold strs at hx
  rw [List.getElem?_map, Option.map_eq_some_iff] at hx
  obtain ⟨y, hy, rfl⟩ := hx
  obtain ⟨hk', rfl⟩ := List.getElem?_eq_some_iff.1 hy
  exact ⟨b, o, hk', ha, hs, hc⟩

theorem take_two (l : List ByteArray) (k : Nat) (hk : k < l.length) : (l.take (k + 1)).flatMap two = (l.take k).flatMap two ++ two l[k] := by
  rw [List.take_succ_eq_append_getElem hk, List.flatMap_append]
  simp

theorem allS_size : ∀ (n : Nat), ∀ s ∈ allS n, s.size = n
  | 0 => by intro s hs; simp [allS] at hs; subst hs; rfl
  | n + 1 => by
    intro s hs
    simp only [allS, List.mem_flatMap, two] at hs
    obtain ⟨t, ht, h⟩ := hs
    have := allS_size n t ht
    simp at h
    rcases h with rfl | rfl
    · rw [ByteArray.size_append, this]; rfl
    · rw [ByteArray.size_append, this]; rfl

theorem info_str : (Tryd.prog.info? 9).map (fun i => (i.zero, i.size, i.bytes)) = some (some (.string ⟨#[]⟩), 1, 16) := by kernel_rfl

set_option maxRecDepth 4000 in
set_option maxHeartbeats 8000000 in
theorem all_any (w : World) (V : Nat) (hV : V ≤ 16) :
    Calls Tryd.prog 9 #[.int .i64 V] w fun e w' => ∃ a c, e = .returned (.slice a (allS V).length c) ∧ w'.ownsRow w.heap.size 9 1 (.slice a (allS V).length c) (allS V).length (strs (allS V)) ∧ Below w.heap.size w w' := by
  have hown0 : Hid ((w.alloc (.cells #[.string ⟨#[]⟩] 9)).ownsRow w.heap.size 9 1 (.slice (some ⟨w.heap.size, 0, none⟩) 1 1) 1 (strs (allS 0))) := by
    have h := World.ownsRow_lit (base := w.heap.size) (e := 9) (size := 1) w #[.string ⟨#[]⟩] 1 (by simp) (by unfold maxLen; omega) (by simp)
    exact h
  have HBW : Hid (Below w.heap.size w (w.alloc (.cells #[.string ⟨#[]⟩] 9))) := (Below.refl _ _).alloc (Nat.le_refl _) _
  go_enter Tryd.func9, Tryd.ntmps9
  go_wp2_with fail
  generalize w.alloc (.cells #[.string ⟨#[]⟩] 9) = W2 at *
  go_loopw [3, 4] (fun s i wr => ∃ (k m : Nat), k ≤ V ∧ i = .int .i64 k ∧ Hid ((allS k).length = m) ∧ m ≤ 65536 ∧ (∃ a' c', s = .slice a' m c' ∧ wr.ownsRow w.heap.size 9 1 (.slice a' m c') m (strs (allS k))) ∧ Below w.heap.size w wr) (fun _ i _ => V - (intOf i).toNat)
  case atStart => exact ⟨0, 1, Nat.zero_le _, rfl, rfl, by omega, ⟨_, 1, rfl, hown0.out⟩, HBW.out⟩
  case round =>
    obtain ⟨k, m, hk, rfl, hM, hm, ⟨a', c', rfl, hown⟩, hbr⟩ := hrel
    obtain ⟨a9, c9, e9, hs9⟩ := own_sl hown
    simp only [Value.slice.injEq] at e9
    obtain ⟨rfl, _, rfl⟩ := e9
    have hcap' := hs9.cap
    have hbig' := hs9.big
    have HS := Lib.hid hs9
    have HO := Lib.hid hown
    clear hs9 hown
    have hbase : w.heap.size ≤ wr.heap.size := hbr.size
    by_cases hlt : k < V
    · have hm2 : m ≤ 32768 := by
        have h := hM.out
        rw [allS_len] at h
        have h2 : 2 ^ k ≤ 2 ^ 15 := Nat.pow_le_pow_right (by decide) (by omega)
        omega
      go_wp2_with fail
      generalize wr = wo at *
      go_loopw [5, 6] (fun s i wq => ∃ (j : Nat), j ≤ m ∧ i = .int .i64 j ∧ (∃ a2 c2, s = .slice a2 (2 * j) c2 ∧ wq.ownsRow wo.heap.size 9 1 (.slice a2 (2 * j) c2) (2 * j) (strs (((allS k).take j).flatMap two))) ∧ Below wo.heap.size wo wq) (fun _ i _ => m - (intOf i).toNat)
      case atStart => exact ⟨0, Nat.zero_le _, rfl, ⟨none, 0, rfl, World.ownsRow_nil _ _ _ _⟩, Below.refl _ _⟩
      case round =>
        obtain ⟨j, hj, rfl, ⟨a2, c2, rfl, hown2⟩, hbq⟩ := hrel
        have HO2 := Lib.hid hown2
        clear hown2
        have hbase2 : wo.heap.size ≤ wr.heap.size := hbq.size
        by_cases hjm : j < m
        · obtain ⟨g, q, hy, rfl, hgs, hcy⟩ := str_at (HS.out.next hbq) hjm
          have HT := Lib.hid (take_two (allS k) j hy)
          have hys : (allS k)[j].size ≤ 16 := by rw [allS_size k _ (List.getElem_mem hy)]; omega
          generalize (allS k)[j] = y at *
          have hys2 : ¬ 9223372036854775807 < y.size + 1 := by omega
          go_wp2_with fail
          go_region_law (first | (refine step_lit (by rfl) (by rfl) wo.heap.size _ #[.string (y ++ b0), .string (y ++ b1)] 2 (.slice a2 (2 * j) c2) (2 * j) (strs (((allS k).take j).flatMap two)) info_str Tryd.underlying35 (by rfl) (by rfl) (by omega) (by rfl) (by rfl) (by rfl) (by intro u hu; simp at hu; rcases hu with rfl | rfl <;> rfl) HO2.out.drew (by exact hbase2) (by omega) (by omega) hbq.drew ?_; intro a3 c3 w3 hown3 hb3 hz3) | fail)
          all_goals
            go_wp2_with fail
            go_roundw
            case rel =>
              refine ⟨j + 1, by omega, by go_num, ⟨a3, c3, by congr 1, ?_⟩, hb3⟩
              rw [HT.out, strs_app]
              exact hown3
            case measure => simp [intOf]; omega
        · have hjm' : j = m := by omega
          have HF : Hid (((allS k).take j).flatMap two = allS (k + 1)) := by
            show _ = _
            rw [hjm', ← hM.out, List.take_length]; rfl
          have HM2 : Hid ((allS (k + 1)).length = 2 * j) := by
            show _ = _
            rw [allS, two_len, hM.out, hjm']
          clear hjm'
          go_wp2_with fail
          go_roundw
          case rel =>
            refine ⟨k + 1, 2 * j, by omega, by go_num, HM2, by omega, ⟨a2, c2, rfl, ?_⟩, hbr.trans (hbq.mono hbase)⟩
            rw [← HF.out]
            exact own_mono HO2.out hbase
          case measure => simp [intOf]; omega
    · have hkV : k = V := by omega
      have HMV : Hid ((allS V).length = m) := by rw [← hkV]; exact hM
      have HOV : Hid (wr.ownsRow w.heap.size 9 1 (.slice a' m c') m (strs (allS V))) := by rw [← hkV]; exact HO
      have hkn : ¬ ((k : Int) < V) := by omega
      clear hkV hlt hk
      go_wp2_with fail
      go_ret
      exact ⟨a', c', by rw [HMV.out]; rfl, by rw [HMV.out]; exact HOV.out, hbr⟩
end AllS
end Go.Proofs.YtllbncfcnjmbmaaDoor
