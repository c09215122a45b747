/-
  interlocklaw21.CubeParts: the walk: what all cubes have has each state that is in one of them.
-/
import Derived.Test.YtmfondpnphomoaaCubeIn
import Derived.Test.YtmfondpnphomoaaWidest
namespace Go.Proofs.Ytmfondpnphomoaa.cubeParts
open Go.RowKit Base
set_option linter.unusedVariables false
set_option linter.unusedSimpArgs false

theorem inC_sub {s : List UInt8} {O l : List Int} (h : ∀ x ∈ O, x ∈ l) (hl : CubeP.inC l s = true) : CubeP.inC O s = true := by
  unfold CubeP.inC at *
  simp only [Bool.not_eq_true', List.any_eq_false] at *
  intro x hx
  exact hl x (h x hx)

set_option maxRecDepth 4000 in
set_option maxHeartbeats 4000000 in
theorem walk (a0 : Option Addr) (c0 : Nat) (x0 : List Int) {w : World} (s0 : Sl w a0 x0.length c0 (ints x0)) (w0 : Clause.Wf x0) (z0 : x0.length * 8 ≤ 140737488351232)
    (a1 : Option Addr) (c1 : Nat) (x1 : List Int) (s1 : Sl w a1 x1.length c1 (ints x1)) (w1 : Clause.Wf x1) (z1 : x1.length * 8 ≤ 140737488351232)
    (s : ByteArray) (hs : s.size ≤ 140737488351232) (W : World) (hW : W = w) :
    Calls Try.prog 4 #[.slice a0 x0.length c0, .slice a1 x1.length c1, .string s] W fun e w' => e = .returned (.bool true) ∧ Below W.heap.size W w' := by
  subst hW
  have HA := Lib.hid (cubeIn.alive W)
  have HI0 := Lib.hid (fun V (hV : Below W.heap.size W V) => Cube.in_any V a0 _ c0 x0 (s0.next hV) w0 s (by omega))
  have HI1 := Lib.hid (fun V (hV : Below W.heap.size W V) => Cube.in_any V a1 _ c1 x1 (s1.next hV) w1 s (by omega))
  have HS0 := Lib.hid s0
  have HS1 := Lib.hid s1
  have HW0 := Lib.hid w0
  have HZ := Lib.hid (And.intro z0 (And.intro z1 hs))
  clear s0 s1 w0 w1 z0 z1
  generalize hn0 : x0.length = n0 at *
  generalize hn1 : x1.length = n1 at *
  clear hn0 hn1
  go_enter Try.func4, Try.ntmps4
  go_wp2_with fail
  refine HA.out.mono ?_; rintro e w1 ⟨rfl, hb1⟩
  obtain ⟨W1, hW1⟩ : ∃ W1, w1.alloc (.cells #[.slice a0 n0 c0, .slice a1 n1 c1] 24) = W1 := ⟨_, rfl⟩
  have hn : Below w1.heap.size w1 W1 := by rw [← hW1]; exact (Below.refl _ _).alloc (Nat.le_refl _) _
  have hsl : Sl W1 (some ⟨w1.heap.size, 0, none⟩) 2 2 [.slice a0 n0 c0, .slice a1 n1 c1] := by rw [← hW1]; exact sl_new w1 _ 24 2 rfl (by decide)
  have hb : Below W.heap.size W W1 := hb1.trans (hn.mono hb1.size)
  have WD := Widest.widest_any s.size (by have := HZ.out.2.2; omega) W1 a0 n0 c0 x0 (HS0.out.next hb) HW0.out a1 n1 c1 x1 (HS1.out.next hb) (by have := HZ.out.1; omega) _ hsl
  have HWD := Lib.hid WD
  have HB := Lib.hid hb
  clear WD hb1 hn hsl hb
  go_wp2_with fail
  refine HWD.out.mono ?_
  rintro e w2 ⟨O, a2, c2, rfl, hg, hsO, hb2⟩
  have HB2 := Lib.hid (HB.out.trans (hb2.mono HB.out.size))
  have HIO := Lib.hid (fun V (hV : Below w2.heap.size w2 V) => Cube.in_any V a2 _ c2 O (hsO.next hV) (fun x hx => HW0.out x (hg x hx).1) s (by have := HZ.out.2.2; omega))
  have HO0 := Lib.hid (fun h => inC_sub (s := s.data.toList) (O := O) (l := x0) (fun x hx => (hg x hx).1) h)
  have HO1 := Lib.hid (fun h => inC_sub (s := s.data.toList) (O := O) (l := x1) (fun x hx => (hg x hx).2.1) h)
  clear hb2 hg hsO hW1
  generalize O.length = m at *
  generalize CubeP.inC O s.data.toList = q at *
  generalize CubeP.inC x0 s.data.toList = p0 at *
  generalize CubeP.inC x1 s.data.toList = p1 at *
  go_wp2_with fail
  refine (HI0.out w2 HB2.out).mono ?_
  rintro e w3 ⟨rfl, hb3⟩
  have HB3 := Lib.hid (HB2.out.trans (hb3.mono HB2.out.size))
  have HB23 := Lib.hid hb3
  clear hb3
  cases p0
  · go_wp2_with fail
    refine (HI1.out w3 HB3.out).mono ?_
    rintro e w4 ⟨rfl, hb4⟩
    have HB4 := Lib.hid (HB3.out.trans (hb4.mono HB3.out.size))
    have HB24 := Lib.hid (HB23.out.trans (hb4.mono HB23.out.size))
    clear hb4
    cases p1
    · go_wp2_with fail
      go_ret
      exact ⟨rfl, HB4.out⟩
    · have hq : q = true := by first | exact HO1.out rfl | exact HO1.out trivial
      subst hq
      go_wp2_with fail
      refine (HIO.out w4 HB24.out).mono ?_
      rintro e w5 ⟨rfl, hb5⟩
      have HB5 := Lib.hid (HB4.out.trans (hb5.mono HB4.out.size))
      clear hb5
      go_wp2_with fail
      go_ret
      exact ⟨rfl, HB5.out⟩
  · have hq : q = true := by first | exact HO0.out rfl | exact HO0.out trivial
    subst hq
    go_wp2_with fail
    refine (HIO.out w3 HB23.out).mono ?_
    rintro e w5 ⟨rfl, hb5⟩
    have HB5 := Lib.hid (HB3.out.trans (hb5.mono HB3.out.size))
    clear hb5
    go_wp2_with fail
    go_ret
    exact ⟨rfl, HB5.out⟩
end Go.Proofs.Ytmfondpnphomoaa.cubeParts
