/-
  keep.Size; slices.Clone of []Kept; what is left of a copy behind its first ones.
-/
import Derived.Test.YtdpmfcfelncbeaaKeepCopy
namespace Go.Proofs.Ytdpmfcfelncbeaa
open Go.RowKit Base
set_option linter.unusedVariables false
set_option linter.unusedSimpArgs false
namespace Keep

/-- A slice of Kept, somewhere, whose elements are one's own. -/
structure KMid (w : World) (B : Nat) (a : Option Addr) (n c : Nat) (vs : List (List Value)) (l : List Kp) : Prop where
  sl : SlT w 2 a n c vs
  len : l.length = n
  row : ∀ (i : Nat) (v : List Value) (k : Kp), vs[i]? = some v → l[i]? = some k → RowOwn w B v k

theorem KOwn.mid {w : World} {B : Nat} {a : Option Addr} {n c : Nat} {vs : List (List Value)} {l : List Kp} (h : KOwn w B a n c vs l) : KMid w B a n c vs l := ⟨h.slK.sl, h.len, h.row⟩
theorem KMid.slK {w : World} {B : Nat} {a : Option Addr} {n c : Nat} {vs : List (List Value)} {l : List Kp} (h : KMid w B a n c vs l) : SlK w a n c vs l := ⟨h.sl, h.len, fun i v k hv hk => (h.row i v k hv hk).inn⟩
theorem KMid.next {w w' : World} {B : Nat} {a : Option Addr} {n c : Nat} {vs : List (List Value)} {l : List Kp} (h : KMid w B a n c vs l) (hb : Below w.heap.size w w') : KMid w' B a n c vs l := ⟨h.sl.next hb, h.len, fun i v k hv hk => (h.row i v k hv hk).next hb⟩

/-- Without the first one. -/
theorem KMid.tail {w : World} {B b o n c : Nat} {v : List Value} {vs : List (List Value)} {k : Kp} {l : List Kp} (h : KMid w B (some ⟨b, o, none⟩) (n + 1) c (v :: vs) (k :: l)) : KMid w B (some ⟨b, o + 2, none⟩) n (c - 1) vs l := by
  refine ⟨⟨?_, ?_, ?_, (fun h => by cases h), fun i r hr => ?_⟩, ?_, fun i u y hu hy => h.row (i + 1) u y (by simpa using hu) (by simpa using hy)⟩
  · have := h.sl.len; simp at this; exact this
  · have := h.sl.cap; omega
  · have := h.sl.big; omega
  · obtain ⟨h1, b', o', ha, hb, hc⟩ := h.sl.cell (i + 1) r (by simpa using hr)
    simp only [Option.some.injEq, Addr.mk.injEq, and_true] at ha
    obtain ⟨rfl, rfl⟩ := ha
    refine ⟨h1, b, o + 2, rfl, hb, fun j x hx => ?_⟩
    have := hc j x hx
    have e : o + (i + 1) * 2 + j = o + 2 + i * 2 + j := by omega
    rw [e] at this
    exact this
  · have := h.len; simp at this; exact this

theorem sz_take {l : List Kp} {k : Nat} (hk : k < l.length) : sz (l.take (k + 1)) = sz (l.take k) + l[k].1.length := by
  unfold sz
  rw [List.take_succ_eq_append_getElem hk, List.map_append, List.sum_append]
  simp
theorem sz_le {l : List Kp} (k : Nat) : sz (l.take k) ≤ sz l := by
  unfold sz
  conv => rhs; rw [← List.take_append_drop k l, List.map_append, List.sum_append]
  omega

set_option maxHeartbeats 2000000 in
theorem size_any (w : World) (a : Option Addr) (n c : Nat) (vs : List (List Value)) (l : List Kp) (hsl : SlK w a n c vs l) (hz : sz l ≤ 9223372036854775807) :
    Calls Try.prog 11 #[.slice a n c] w fun e w' => e = .returned (.int .i64 (sz l : Nat)) ∧ Below w.heap.size w w' := by
  have hcap := hsl.sl.cap
  have hbig := hsl.sl.big
  have HS := Lib.hid hsl
  have HZ := Lib.hid hz
  clear hsl hz
  go_enter Try.func11, Try.ntmps11
  go_wp2_with fail
  go_loopw [3, 8] (fun s i wr => ∃ k : Nat, k ≤ n ∧ i = .int .i64 k ∧ (∃ q : Nat, s = .int .i64 q ∧ Hid (q = sz (l.take k))) ∧ Hid (Below w.heap.size w wr)) (fun _ i _ => n - (intOf i).toNat)
  case atStart => exact ⟨0, Nat.zero_le _, rfl, ⟨0, rfl, rfl⟩, Below.refl _ _⟩
  case round =>
    obtain ⟨k, hk, rfl, ⟨q, rfl, hq⟩, hB⟩ := hrel
    by_cases hlt : k < n
    · obtain ⟨b, o, a1, c1, vals, a2, c2, hx, rfl, hbs, d0, d1, hs1, hs2, _⟩ := (HS.out.next hB.out).at hlt
      have HT := Lib.hid (sz_take hx)
      have HL := Lib.hid (sz_le (l := l) (k + 1))
      have hcy := hs1.sl.cap
      have hby := hs1.sl.big
      have hqb : q + l[k].1.length ≤ 9223372036854775807 := by have h1 := HT.out; have h2 := HL.out; have h3 := HZ.out; have h4 := hq.out; omega
      generalize l[k] = y at *
      obtain ⟨W5, hW5⟩ : ∃ U, wr.alloc (.cells #[.slice a1 y.1.length c1, .slice a2 y.2.length c2] 34) = U := ⟨_, rfl⟩
      have hb5 : Below wr.heap.size wr W5 := by rw [← hW5]; exact (Below.refl _ _).alloc (Nat.le_refl _) _
      have x5 := BoxN.new wr #[.slice a1 y.1.length c1, .slice a2 y.2.length c2] 34
      rw [hW5] at x5
      have q0 := x5.at' 0 _ rfl
      have HB5 := Lib.hid (hB.out.trans (hb5.mono hB.out.size))
      clear x5 hb5 hs1 hs2
      go_wp2_with fail
      go_roundw
      case rel => exact ⟨k + 1, by omega, by go_num, ⟨q + y.1.length, by go_num, by show _ = _; rw [HT.out, hq.out]⟩, HB5.out⟩
      case measure => simp [intOf]; omega
    · have hke : k = n := by omega
      subst hke
      have HL : Hid (q = sz l) := by
        have h := hq.out
        rw [List.take_of_length_le (Nat.le_of_eq HS.out.len)] at h
        exact h
      go_wp2_with fail
      go_ret
      exact ⟨ret_int (by rw [HL.out]), hB.out⟩

set_option maxHeartbeats 1000000 in
theorem clone_any (w : World) (B : Nat) (a : Option Addr) (n c : Nat) (vs : List (List Value)) (l : List Kp) (hsl : KMid w B a n c vs l) (hn : n * 48 ≤ 140737488355328) (hB : B ≤ w.heap.size) :
    Calls Try.prog 26 #[.slice a n c] w fun e w' => ∃ a' c', e = .returned (.slice a' n c') ∧ KOwn w' B a' n c' vs l ∧ Below w.heap.size w w' := by
  have heq := fun (W : World) (x : Option Addr) => Lib.run_eql_slice_nil (P := Try.prog) W 22 34 x n c 0 0 Try.underlying22
  have hr : ∀ r ∈ vs, r.length = 2 := fun r hr => by
    obtain ⟨i, hi⟩ := List.getElem?_of_mem hr
    exact (hsl.sl.cell i r hi).1
  have h1 : ∀ u ∈ vs.flatten, u.oneCell' = true := by
    intro u hu
    obtain ⟨r, hr', hu⟩ := List.mem_flatten.1 hu
    obtain ⟨i, hi⟩ := List.getElem?_of_mem hr'
    have hil : i < l.length := by have := (List.getElem?_eq_some_iff.1 hi).1; rw [hsl.len, ← hsl.sl.len]; exact this
    obtain ⟨_, _, _, _, _, rfl, _⟩ := hsl.row i r _ hi (List.getElem?_eq_getElem hil)
    simp only [List.mem_cons, List.not_mem_nil, or_false] at hu
    rcases hu with rfl | rfl <;> rfl
  cases a with
  | none =>
    obtain ⟨rfl, rfl⟩ := hsl.sl.bare rfl
    have hv : vs = [] := List.eq_nil_of_length_eq_zero hsl.sl.len
    have hl : l = [] := List.eq_nil_of_length_eq_zero hsl.len
    subst hv; subst hl
    go_enter Try.func26, Try.ntmps26
    go_wp2_with fail
    go_ret
    exact ⟨none, 0, rfl, KOwn.nil _ _, Below.refl _ _⟩
  | some ad =>
    have hal : Below w.heap.size w (w.alloc (.cells #[] 34)) := (Below.refl _ _).alloc (Nat.le_refl _) _
    have hsl' := hsl.sl.next hal
    have hown : (w.alloc (.cells #[] 34)).ownsRow w.heap.size 34 2 (.slice (some ⟨w.heap.size, 0, none⟩) 0 0) 0 ([] : List (List Value)).flatten := World.ownsRow_lit w #[] 0 (Nat.le_refl _) (by unfold maxLen; omega) rfl
    have H1 := Lib.hid h1
    have HR := Lib.hid hr
    have HM := Lib.hid hsl
    have HB := Lib.hid hB
    clear h1 hsl hr hB
    go_enter Try.func26, Try.ntmps26
    go_wp2_with ((with_reducible refine wpL_appK (k := 2) (by decide) (B := w.heap.size) (W := w) _ 0 [] _ n c vs info_kept Try.underlying22 ?_ ?_ ?_ H1.out HR.out hown hsl' ?_ ?_ ?_ hal ?_); rfl; rfl; rfl; exact hal.size; omega; omega; (rw [Nat.zero_add, List.nil_append]; intro a2 c2 w2 hown2 hb2 _))
    go_ret
    exact ⟨a2, c2, rfl, ⟨own_mono hown2 HB.out, HR.out, HM.out.sl.len, HM.out.len, fun i v k hv hk => (HM.out.row i v k hv hk).next hb2⟩, hb2⟩

theorem trim_eq {l : List Kp} (h : sz l ≤ 256) : trim l = l := by
  cases l with
  | nil => rfl
  | cons k r => unfold trim; rw [if_neg (by omega)]
theorem trim_tail {k : Kp} {r : List Kp} (h : 256 < sz (k :: r)) : trim (k :: r) = trim r := by
  conv => lhs; unfold trim
  rw [if_pos h]
end Keep
end Go.Proofs.Ytdpmfcfelncbeaa
