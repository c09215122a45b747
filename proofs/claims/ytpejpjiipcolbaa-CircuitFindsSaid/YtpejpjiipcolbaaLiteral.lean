/-
  circuit.literal, circuit.Find; interlockref03.of, Find: a name's literal.
-/
import Derived.Test.YtpejpjiipcolbaaRefSmall
import Derived.Test.YtpejpjiipcolbaaNamed
import Derived.Test.YtpejpjiipcolbaaLex
namespace Go.Proofs.Ytpejpjiipcolbaa
open Go.RowKit Base
set_option linter.unusedVariables false
set_option linter.unusedSimpArgs false
namespace Circuit

/-- The literal that a name of a kind and a place stands for. -/
def litOf (x : Circ) (k : ByteArray) (n : Nat) : Int :=
  if (k.toList == [105]) = true then x.ins.getD n 0 else if (k.toList == [108]) = true then (x.lats.getD n (0, 0, 0)).1 else if (k.toList == [111]) = true then x.outs.getD n 0 else if (k.toList == [98]) = true then x.bads.getD n 0 else x.invs.getD n 0

set_option maxRecDepth 8000 in
set_option maxHeartbeats 8000000 in
theorem literal_any (w : World) (x : Circ) (p : At) (hin : InCirc w x p) (k : ByteArray) (n : Nat) (s : ByteArray) (hlt : n < countOf x k) :
    Calls Try.prog 39 #[.agg (cells x p), .agg #[.string k, .int .i64 n, .string s]] w fun e w' => e = .returned (.int .i64 (litOf x k n)) ∧ Below w.heap.size w w' := by
  have HCO : Hid (countOf x k = if (k.toList == [105]) = true then x.ins.length else if (k.toList == [108]) = true then x.lats.length else if (k.toList == [111]) = true then x.outs.length else if (k.toList == [98]) = true then x.bads.length else x.invs.length) := rfl
  have HLI : Hid (litOf x k n = if (k.toList == [105]) = true then x.ins.getD n 0 else if (k.toList == [108]) = true then (x.lats.getD n (0, 0, 0)).1 else if (k.toList == [111]) = true then x.outs.getD n 0 else if (k.toList == [98]) = true then x.bads.getD n 0 else x.invs.getD n 0) := rfl
  obtain ⟨W1, hW1⟩ : ∃ W1, w.alloc (.cells (cells x p) 27) = W1 := ⟨_, rfl⟩
  obtain ⟨hb1, hcb⟩ := cbox_new w x p W1 hW1
  obtain ⟨W2, hW2⟩ : ∃ W2, W1.alloc (.cells (nameC (k, (n : Int), s)) 39) = W2 := ⟨_, rfl⟩
  obtain ⟨hb2, hnb⟩ := nbox_new W1 (k, (n : Int), s) W2 hW2
  have HB2 := Lib.hid (hb1.trans (hb2.mono hb1.size))
  have HIN := Lib.hid (hin.next HB2.out)
  have CB := Lib.hid (hcb.next hb2 (Nat.le_refl _))
  have n0 := hnb.n0
  have n1 := hnb.n1
  obtain ⟨a1, c1, a2, c2, a3, c3, a4, c4, a5, c5, a6, c6, a7, c7⟩ := p
  simp only [cells] at hW1 ⊢
  simp only [nameC] at hW2
  simp only at n0 n1
  clear hin hb1 hb2 hcb hnb
  cases h1 : (k.toList == [105])
  · skip
    cases h2 : (k.toList == [108])
    · skip
      cases h3 : (k.toList == [111])
      · skip
        cases h4 : (k.toList == [98])
        · skip
          have hlen : n < x.invs.length := by have h := hlt; rw [HCO.out] at h; simpa [*] using h
          have hsl := HIN.out.invs
          have hcap := hsl.cap
          have hbig := hsl.big
          obtain ⟨b, o, hx, hae, hbs, d0⟩ := hsl.int hlen
          simp only at hae hcap hbig
          have HR : Hid (litOf x k n = x.invs[n]) := by show _ = _; rw [HLI.out]; simp [*, List.getD, List.getElem?_eq_getElem hx]
          generalize x.invs[n] = y at *
          subst hae
          have k5 : W2.cell? ⟨w.heap.size, 5, none⟩ = some (.slice (some ⟨b, o, none⟩) x.invs.length c5) := CB.out.k5
          clear hsl hlt
          go_enter Try.func39, Try.ntmps39
          go_wp2_with fail
          go_ret
          exact ⟨ret_int HR.out.symm, HB2.out⟩
        · skip
          have hlen : n < x.bads.length := by have h := hlt; rw [HCO.out] at h; simpa [*] using h
          have hsl := HIN.out.bads
          have hcap := hsl.cap
          have hbig := hsl.big
          obtain ⟨b, o, hx, hae, hbs, d0⟩ := hsl.int hlen
          simp only at hae hcap hbig
          have HR : Hid (litOf x k n = x.bads[n]) := by show _ = _; rw [HLI.out]; simp [*, List.getD, List.getElem?_eq_getElem hx]
          generalize x.bads[n] = y at *
          subst hae
          have k4 : W2.cell? ⟨w.heap.size, 4, none⟩ = some (.slice (some ⟨b, o, none⟩) x.bads.length c4) := CB.out.k4
          clear hsl hlt
          go_enter Try.func39, Try.ntmps39
          go_wp2_with fail
          go_ret
          exact ⟨ret_int HR.out.symm, HB2.out⟩
      · skip
        have hlen : n < x.outs.length := by have h := hlt; rw [HCO.out] at h; simpa [*] using h
        have hsl := HIN.out.outs
        have hcap := hsl.cap
        have hbig := hsl.big
        obtain ⟨b, o, hx, hae, hbs, d0⟩ := hsl.int hlen
        simp only at hae hcap hbig
        have HR : Hid (litOf x k n = x.outs[n]) := by show _ = _; rw [HLI.out]; simp [*, List.getD, List.getElem?_eq_getElem hx]
        generalize x.outs[n] = y at *
        subst hae
        have k3 : W2.cell? ⟨w.heap.size, 3, none⟩ = some (.slice (some ⟨b, o, none⟩) x.outs.length c3) := CB.out.k3
        clear hsl hlt
        go_enter Try.func39, Try.ntmps39
        go_wp2_with fail
        go_ret
        exact ⟨ret_int HR.out.symm, HB2.out⟩
    · skip
      have hlen : n < x.lats.length := by have h := hlt; rw [HCO.out] at h; simpa [*] using h
      have hsl := HIN.out.lats
      have hcap := hsl.cap
      have hbig := hsl.big
      obtain ⟨b, o, hx, hae, hbs, d0, d1, d2⟩ := hsl.tri hlen
      simp only at hae hcap hbig
      have HR : Hid (litOf x k n = x.lats[n].1) := by show _ = _; rw [HLI.out]; simp [*, List.getD, List.getElem?_eq_getElem hx]
      generalize x.lats[n] = y at *
      subst hae
      have k2 : W2.cell? ⟨w.heap.size, 2, none⟩ = some (.slice (some ⟨b, o, none⟩) x.lats.length c2) := CB.out.k2
      clear hsl hlt
      go_enter Try.func39, Try.ntmps39
      go_wp2_with fail
      go_ret
      exact ⟨ret_int HR.out.symm, HB2.out⟩
  · skip
    have hlen : n < x.ins.length := by have h := hlt; rw [HCO.out] at h; simpa [*] using h
    have hsl := HIN.out.ins
    have hcap := hsl.cap
    have hbig := hsl.big
    obtain ⟨b, o, hx, hae, hbs, d0⟩ := hsl.int hlen
    simp only at hae hcap hbig
    have HR : Hid (litOf x k n = x.ins[n]) := by show _ = _; rw [HLI.out]; simp [*, List.getD, List.getElem?_eq_getElem hx]
    generalize x.ins[n] = y at *
    subst hae
    have k1 : W2.cell? ⟨w.heap.size, 1, none⟩ = some (.slice (some ⟨b, o, none⟩) x.ins.length c1) := CB.out.k1
    clear hsl hlt
    go_enter Try.func39, Try.ntmps39
    go_wp2_with fail
    go_ret
    exact ⟨ret_int HR.out.symm, HB2.out⟩

end Circuit
end Go.Proofs.Ytpejpjiipcolbaa
