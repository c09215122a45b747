/-
  digits.unsigned, digits.Print: the decimal text.
-/
import Derived.Test.YtmiklgekcmeedaaDoorDigP
import Derived.Test.YtmiklgekcmeedaaDoorOwnP
import Derived.Shelf.SlicesE.Reverse
import Derived.Shelf.SlGeneric
import Derived.Ground.SlgnProg
namespace Go.Proofs.YtmiklgekcmeedaaDoor
open Go.RowKit Base
set_option linter.unusedVariables false
set_option linter.unusedSimpArgs false
namespace Dig
open Go.Shelf Go.Sort Go.Lib

def revLaid_ren : Go.Shelf.Ren := ⟨fun | 35 => 39 | n => n, fun | 22 => 50 | 23 => 5 | 3 => 3 | 4 => 4 | 0 => 0 | n => n, fun | n => n⟩
theorem revLaid : Go.Proofs.SlLaysE.n35 Tryd.prog revLaid_ren := {
  mixed := by kernel_rfl
  f35 := ⟨Tryd.f39.name, by decide, Tryd.func39.trans (congrArg some (by kernel_rfl))⟩
  t0 := Tryd.underlying0
  a0 := Tryd.isAgg0
  z0 := Tryd.sizeOf0
  v0 := Tryd.zeroValue0
  t3 := Tryd.underlying3
  a3 := Tryd.isAgg3
  z3 := Tryd.sizeOf3
  v3 := Tryd.zeroValue3
  t4 := Tryd.underlying4
  a4 := Tryd.isAgg4
  z4 := Tryd.sizeOf4
  v4 := Tryd.zeroValue4
  t22 := Tryd.underlying50
  a22 := Tryd.isAgg50
  z22 := Tryd.sizeOf50
  v22 := Tryd.zeroValue50
  a23 := Tryd.isAgg5
  z23 := Tryd.sizeOf5 }

def enc (b : UInt8) : Value := .int .u8 (b.toNat : Int)
def bytes (l : List UInt8) : List Value := l.map enc
theorem bytes_len (l : List UInt8) : (bytes l).length = l.length := by simp [bytes]
theorem info_byte : (Tryd.prog.info? 5).map (fun i => (i.zero, i.size, i.bytes)) = some (some (.int .u8 0), 1, 1) := by kernel_rfl

set_option maxHeartbeats 1000000 in
theorem rev_own (w : World) (B : Nat) (a : Option Addr) (n c : Nat) (xs : List UInt8) (hown : w.ownsRow B 5 1 (.slice a n c) n (bytes xs)) (hB : B ≤ w.heap.size) :
    Calls Tryd.prog 39 #[.slice a n c] w fun e w' => e = .returned (.tuple #[]) ∧ w'.ownsRow B 5 1 (.slice a n c) n (bytes xs.reverse) ∧ Below B w w' := by
  have hl := hown.1
  rw [bytes_len, Nat.mul_one] at hl
  rcases hown.2 with ⟨hv, hnil⟩ | ⟨gb, cap, cur, hv, hgb, hh, h1, h2, h3, h4⟩
  · simp only [Value.slice.injEq] at hv
    obtain ⟨rfl, rfl, rfl⟩ := hv
    have hx : xs = [] := List.eq_nil_of_length_eq_zero hl
    subst hx
    have hcon := AnyE.slices_Reverse_empty revLaid none 0 w
    change Calls Tryd.prog 39 _ _ _ at hcon
    refine hcon.mono fun e w' h => ?_
    obtain ⟨he, hw⟩ := h
    subst hw
    exact ⟨he, World.ownsRow_nil _ _ _ _, Below.refl _ _⟩
  · simp only [Value.slice.injEq] at hv
    obtain ⟨rfl, _, rfl⟩ := hv
    have ht : cur.toList.take xs.length = xs.map enc := by rw [hl, ← Nat.mul_one n, h4]; rfl
    have hcon := AnyE.slices_Reverse revLaid enc (fun _ => rfl) gb 0 c xs w (OwnP.holds hh ht) (by rw [hl]; unfold maxLen at h2; omega)
    change Calls Tryd.prog 39 _ _ _ at hcon
    rw [hl] at hcon
    refine hcon.mono ?_
    rintro e w' ⟨rfl, q, rfl⟩
    refine ⟨rfl, ?_, ?_⟩
    · have ho := OwnP.own_put (enc := enc) (n := q) (os := #[]) (ys := xs.reverse) (zs := []) hgb hh (by rw [List.append_nil, List.length_reverse]; omega) h2 h3
      rw [OwnP.grow_nil, List.append_nil, List.length_reverse, hl] at ho
      exact ho
    · have hb := OwnP.below_put (enc := enc) (w := w) (n := q) (os := #[]) xs.reverse.toArray hgb hB
      rw [OwnP.grow_nil] at hb
      exact hb

theorem own_slI' {w : World} {B : Nat} {e : TypeId} {a : Option Addr} {n c : Nat} {vs : List Value} (h : w.ownsRow B e 1 (.slice a n c) n vs) : Sl w a n c vs := by
  obtain ⟨a', c', hv, hs⟩ := own_sl h
  simp only [Value.slice.injEq, true_and] at hv
  obtain ⟨rfl, rfl⟩ := hv
  exact hs

set_option maxRecDepth 8000 in
set_option maxHeartbeats 4000000 in
theorem unsigned_any (w : World) (N : Nat) (hN : N ≤ 18446744073709551615) :
    Calls Tryd.prog 23 #[.int .u64 (N : Int)] w fun e w' => e = .returned (.string (str (dg N))) ∧ Below w.heap.size w w' := by
  have HN := Lib.hid hN
  clear hN
  go_enter Tryd.func23, Tryd.ntmps23
  go_wp2_with fail
  go_loopw [0, 3] (fun x s wr => ∃ (n m : Nat) (out : List UInt8) (a : Option Addr) (c : Nat), x = .int .u64 (n : Int) ∧ s = .slice a m c ∧ Hid (dg N = dg n ++ out.reverse ∧ n ≤ 18446744073709551615) ∧ Hid (out.length = m) ∧ Hid (wr.ownsRow w.heap.size 5 1 (.slice a m c) m (bytes out)) ∧ Hid (Below w.heap.size w wr)) (fun x _ _ => (intOf x).toNat)
  case atStart => exact ⟨N, 0, [], none, 0, rfl, rfl, ⟨by simp, HN.out⟩, rfl, World.ownsRow_nil _ _ _ _, Below.refl _ _⟩
  case round =>
    obtain ⟨n, m, out, a, c, rfl, rfl, hI, hm, hO, hB⟩ := hrel
    have HM : Hid ((m + 1) * 1 ≤ 140737488355328 ∧ m + 1 ≤ 9223372036854775807) := by
      show _ ∧ _
      have h1 := dg_len 19 N (by have := HN.out; omega)
      rw [hI.out.1, List.length_append, List.length_reverse, hm.out] at h1
      omega
    by_cases hlt : n < 10
    · have hge : decide ((10 : Int) ≤ (n : Int)) = false := decide_eq_false (by omega)
      have HE : Hid (bytes out ++ [.int .u8 (48 + (n : Int))] = bytes (out ++ [one n]) ∧ (out ++ [one n]).reverse = dg N) := by
        refine ⟨?_, ?_⟩
        · unfold bytes enc
          rw [List.map_append, List.map_cons, List.map_nil, one_nat hlt]
          simp
        · rw [hI.out.1, dg_small hlt]
          simp
      go_wp2_with ((with_reducible refine wpL_push w.heap.size wr (.int .u8 (48 + (n : Int))) (.slice a m c) m (bytes out) info_byte Tryd.underlying50 rfl ?_ ?_ ?_ rfl hO.out hB.out.size HM.out.1 HM.out.2 hB.out ?_); rfl; rfl; rfl; (intro a8 c8 w8 hown8 hb8 hz8))
      rw [HE.out.1] at hown8
      have HO8 := Lib.hid hown8
      have HB8 := Lib.hid hb8
      have HR8 := Lib.hid (rev_own w8 w.heap.size a8 (m + 1) c8 (out ++ [one n]) hown8 hb8.size)
      rw [HE.out.2] at HR8
      clear hown8 hb8 hz8
      go_wp2_with fail
      with_reducible refine HR8.out.mono ?_
      rintro e w9 ⟨rfl, ho9, hb9⟩
      have hl9 : (dg N).length = m + 1 := by rw [← HE.out.2, List.length_reverse, List.length_append, hm.out]; rfl
      obtain ⟨b, hb⟩ : ∃ b, a8 = some ⟨b, 0, none⟩ := by
        obtain ⟨b, hb, _⟩ := own_addr ho9 (by omega)
        exact ⟨b, hb⟩
      subst hb
      have HCV : ∀ (l cp : Nat), l = m + 1 → cp = c8 → (convert 50 9 (.slice (some ⟨b, 0, none⟩) l cp)).run Tryd.prog w9 = .ok (.string (str (dg N))) w9 := by
        rintro l cp rfl rfl
        have h := run_convert_bytes_back (P := Tryd.prog) w9 50 9 5 ⟨b, 0, none⟩ cp (dg N) Tryd.underlying50 Tryd.underlying5 Tryd.underlying9 (fun j hj => by
          obtain ⟨b', o', e, _, hc⟩ := (own_slI' ho9).cell j (enc (dg N)[j]) (by unfold bytes; rw [List.getElem?_map, List.getElem?_eq_getElem hj]; rfl)
          simp only [Option.some.injEq, Addr.mk.injEq, and_true] at e
          obtain ⟨rfl, rfl⟩ := e
          rw [Addr.add_lit]
          exact hc)
        rw [hl9] at h
        exact h
      have HCV := HCV (m + 1) c8 rfl rfl
      have HB9 := Lib.hid (HB8.out.trans hb9)
      clear ho9 hb9 hl9
      go_wp2_with fail
      go_ret
      exact ⟨rfl, HB9.out⟩
    · have hge : decide ((10 : Int) ≤ (n : Int)) = true := decide_eq_true (by omega)
      have HE : Hid (bytes out ++ [.int .u8 (48 + (n : Int) % 10)] = bytes (out ++ [one (n % 10)]) ∧ dg N = dg (n / 10) ++ (out ++ [one (n % 10)]).reverse) := by
        refine ⟨?_, ?_⟩
        · unfold bytes enc
          rw [List.map_append, List.map_cons, List.map_nil, one_nat (Nat.mod_lt _ (by decide))]
          simp
        · rw [hI.out.1, dg_big hlt]
          simp
      go_wp2_with ((with_reducible refine wpL_push w.heap.size wr (.int .u8 (48 + (n : Int) % 10)) (.slice a m c) m (bytes out) info_byte Tryd.underlying50 rfl ?_ ?_ ?_ rfl hO.out hB.out.size HM.out.1 HM.out.2 hB.out ?_); rfl; rfl; rfl; (intro a8 c8 w8 hown8 hb8 hz8))
      rw [HE.out.1] at hown8
      have HO8 := Lib.hid hown8
      have HB8 := Lib.hid hb8
      clear hown8 hb8 hz8
      have hq : IntKind.u64.wrap ((n : Int) / 10) = ((n / 10 : Nat) : Int) := by
        have h1 : (0 : Int) ≤ ((n / 10 : Nat) : Int) ∧ ((n / 10 : Nat) : Int) < 18446744073709551616 := by have := hI.out.2; omega
        have h2 : (n : Int) / 10 = ((n / 10 : Nat) : Int) := by simp
        rw [h2]
        rw [IntKind.wrap_u64]
        omega
      go_wp2_with fail
      go_roundw
      case rel =>
        refine ⟨n / 10, m + 1, out ++ [one (n % 10)], a8, c8, by rw [hq], rfl, ⟨HE.out.2, by have := hI.out.2; omega⟩, ?_, HO8.out, HB8.out⟩
        show _ = _
        rw [List.length_append, hm.out]
        rfl
      case measure =>
        simp [intOf]
        rw [hq]
        omega
end Dig
end Go.Proofs.YtmiklgekcmeedaaDoor
