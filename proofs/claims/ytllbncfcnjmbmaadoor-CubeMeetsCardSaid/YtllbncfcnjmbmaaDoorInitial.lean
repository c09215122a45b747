/-
  interlockref07.Initial: is a state a first one?
-/
import Derived.Test.YtllbncfcnjmbmaaDoorCBox
import Derived.Test.YtllbncfcnjmbmaaDoorRefBits
namespace Go.Proofs.YtllbncfcnjmbmaaDoor
open Go.RowKit Base
set_option linter.unusedVariables false
set_option linter.unusedSimpArgs false
namespace Initial
open Circuit (cbox_new)

/-- May a latch begin so? -/
def okLat (t : Tri) (b : UInt8) : Bool := !((t.2.2 != t.1) && ((t.2.2 == 1) != ((b.toNat : Int) == 49)))
def initialB (lats : List Tri) (s : ByteArray) : Bool := RefBits.bits s.data.toList lats.length && (List.zipWith okLat lats s.data.toList).all id

theorem all_to {lats : List Tri} {l : List UInt8} (h : ∀ j (h1 : j < lats.length) (h2 : j < l.length), okLat lats[j] l[j] = true) : (List.zipWith okLat lats l).all id = true := by
  rw [List.all_eq_true]
  intro b hb
  obtain ⟨j, hj, rfl⟩ := List.mem_iff_getElem.1 hb
  rw [List.length_zipWith] at hj
  rw [List.getElem_zipWith]
  exact h j (by omega) (by omega)
theorem all_not {lats : List Tri} {l : List UInt8} {j : Nat} (h1 : j < lats.length) (h2 : j < l.length) (h : okLat lats[j] l[j] = false) : (List.zipWith okLat lats l).all id = false := by
  rw [Bool.eq_false_iff]
  intro ha
  rw [List.all_eq_true] at ha
  have := ha (okLat lats[j] l[j]) (List.mem_iff_getElem.2 ⟨j, by rw [List.length_zipWith]; omega, by rw [List.getElem_zipWith]⟩)
  rw [h] at this
  cases this

set_option maxRecDepth 8000 in
set_option maxHeartbeats 4000000 in
theorem initial_any (w : World) (x : Circ) (p : At) (hin : InCirc w x p) (s : ByteArray) (hs : s.size ≤ 9223372036854775807) :
    Calls Tryd.prog 10 #[.agg (cells x p), .string s] w fun e w' => e = .returned (.bool (initialB x.lats s)) ∧ Below w.heap.size w w' := by
  obtain ⟨W1, hW1⟩ : ∃ U, w.alloc (.cells (cells x p) 27) = U := ⟨_, rfl⟩
  obtain ⟨hb1, hx1⟩ := cbox_new w x p W1 hW1
  have HB1 := Lib.hid hb1
  have HX1 := Lib.hid hx1
  have HL := Lib.hid (hin.next hb1).lats
  have hcap := hin.lats.cap
  have hbig := hin.lats.big
  have HBI := Lib.hid (RefBits.bits_any W1 s hs (x.lats.length : Int))
  have HV : Hid (initialB x.lats s = (RefBits.bits s.data.toList (x.lats.length : Int) && (List.zipWith okLat x.lats s.data.toList).all id)) := rfl
  have hlen : RefBits.bits s.data.toList (x.lats.length : Int) = true → s.size = x.lats.length := by
    intro h
    unfold RefBits.bits at h
    rw [Bool.and_eq_true, decide_eq_true_eq] at h
    have e : s.data.toList.length = s.size := by rw [Array.length_toList]; rfl
    have := h.2
    omega
  have k2 := hx1.k2
  generalize hin2 : initialB x.lats s = V at *
  generalize hbt : RefBits.bits s.data.toList (x.lats.length : Int) = B at *
  clear hin hb1 hx1 hin2 hbt hs
  unfold cells at *
  go_enter Tryd.func10, Tryd.ntmps10
  go_wp2_with fail
  with_reducible refine HBI.out.mono ?_
  rintro e w2 ⟨rfl, rfl⟩
  cases B
  · have HVF : Hid (V = false) := by show _ = _; rw [HV.out]; rfl
    go_wp2_with fail
    go_ret
    exact ⟨by rw [HVF.out]; rfl, HB1.out⟩
  · have hsz := hlen rfl
    have HVT : Hid (V = (List.zipWith okLat x.lats s.data.toList).all id) := by show _ = _; rw [HV.out]; rfl
    generalize hn : x.lats.length = n at *
    have HN := Lib.hid hn
    have HSZ := Lib.hid hsz
    clear hlen hn
    have hsn : (s.size : Int) = (n : Int) := by rw [hsz]
    go_wp2_with fail
    go_loopw [5] (fun i wr => ∃ k : Nat, k ≤ n ∧ i = .int .i64 k ∧ Hid (∀ j (h1 : j < x.lats.length) (h2 : j < s.data.toList.length), j < k → okLat x.lats[j] s.data.toList[j] = true) ∧ Hid (Below W1.heap.size W1 wr)) (fun i _ => n - (intOf i).toNat)
    case atStart => exact ⟨0, Nat.zero_le _, rfl, (by intro j h1 h2 h3; omega), Below.refl _ _⟩
    case round =>
      obtain ⟨k, hk, rfl, hI, hB⟩ := hrel
      have q2 := (HX1.out.next hB.out (Nat.le_refl _)).k2
      rw [HN.out] at q2
      by_cases hlt : k < n
      · obtain ⟨bl, ol, hx, hae, hbs, d0, d1, d2⟩ := (HL.out.next hB.out).tri hlt
        rw [hae] at q2
        have hks : k < s.size := by omega
        have hkl : k < s.data.toList.length := by rw [Array.length_toList]; exact hks
        have HAL := Lib.hid (fun (h : okLat x.lats[k] s.data.toList[k] = false) => all_not hx hkl h)
        have HMO : Hid (okLat x.lats[k] s.data.toList[k] = true → ∀ j (h1 : j < x.lats.length) (h2 : j < s.data.toList.length), j < k + 1 → okLat x.lats[j] s.data.toList[j] = true) := by
          intro h j h1 h2 h3
          by_cases he : j = k
          · subst he; exact h
          · exact hI.out j h1 h2 (by omega)
        have HOK : Hid (okLat x.lats[k] s.data.toList[k] = !((x.lats[k].2.2 != x.lats[k].1) && ((x.lats[k].2.2 == 1) != (((s[k]).toNat : Int) == 49)))) := rfl
        generalize okLat x.lats[k] s.data.toList[k] = ok at *
        generalize x.lats[k] = t at *
        generalize hb1 : (t.2.2 != t.1) = b1 at *
        generalize hb2 : (t.2.2 == 1) = b2 at *
        generalize hb3 : (((s[k]).toNat : Int) == 49) = b3 at *
        clear hae
        cases b1 <;> cases b2 <;> cases b3
        all_goals go_wp2_with fail
        all_goals first
          | (go_roundw
             case rel => exact ⟨k + 1, by omega, by go_num, HMO.out (by rw [HOK.out]; rfl), hB⟩
             case measure => simp [intOf]; omega)
          | (go_ret
             have HVV : V = false := by rw [HVT.out]; exact HAL.out (by rw [HOK.out]; rfl)
             exact ⟨by rw [HVV]; rfl, HB1.out.trans (hB.out.mono HB1.out.size)⟩)
      · have HVV : Hid (V = true) := by
          show _ = _
          rw [HVT.out]
          exact all_to fun j h1 h2 => hI.out j h1 h2 (by have := HN.out; omega)
        have hks : ¬ k < s.size := by omega
        go_wp2_with fail
        go_ret
        exact ⟨by rw [HVV.out]; rfl, HB1.out.trans (hB.out.mono HB1.out.size)⟩
end Initial
end Go.Proofs.YtllbncfcnjmbmaaDoor
