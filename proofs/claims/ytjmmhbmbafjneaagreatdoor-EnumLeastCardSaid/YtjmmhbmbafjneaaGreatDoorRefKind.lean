/-
  interlockref03.Kind: what a variable is.
-/
import Derived.Test.YtjmmhbmbafjneaaGreatDoorCBox
import Derived.Test.YtjmmhbmbafjneaaGreatDoorKindP
namespace Go.Proofs.YtjmmhbmbafjneaaGreatDoor
open Go.RowKit Base
set_option linter.unusedVariables false
set_option linter.unusedSimpArgs false
namespace Circuit

theorem any_none {α : Type} {p : α → Bool} {l : List α} (h : ∀ j (hj : j < l.length), j < l.length → p l[j] = false) : (l.map p).any id = false := by
  rw [Bool.eq_false_iff]
  intro ha
  rw [List.any_eq_true] at ha
  obtain ⟨b, hb, hb2⟩ := ha
  obtain ⟨a, ha, rfl⟩ := List.mem_map.1 hb
  obtain ⟨j, hj, rfl⟩ := List.mem_iff_getElem.1 ha
  have := h j hj hj
  simp only [id] at hb2
  rw [this] at hb2
  cases hb2

theorem any_some {α : Type} {p : α → Bool} {l : List α} {k : Nat} (hk : k < l.length) (h : p l[k] = true) : (l.map p).any id = true := by
  rw [List.any_eq_true]
  exact ⟨true, List.mem_map.2 ⟨l[k], List.getElem_mem hk, h⟩, rfl⟩

theorem gate_any_ofV (ands : List Tri) (v : Int) : (gate ands v).isSome = (ands.map fun t => ofV v t.1).any id := by
  unfold gate
  rw [Bool.eq_iff_iff, List.find?_isSome, List.any_eq_true]
  constructor
  · rintro ⟨t, ht, h⟩
    exact ⟨true, List.mem_map.2 ⟨t, ht, h⟩, rfl⟩
  · rintro ⟨b, hb, hb2⟩
    obtain ⟨t, ht, rfl⟩ := List.mem_map.1 hb
    exact ⟨t, ht, hb2⟩

def NoneTo {α : Type} (p : α → Bool) (l : List α) (k : Nat) : Prop := ∀ j (hj : j < l.length), j < k → p l[j] = false
theorem noneTo_more {α : Type} {p : α → Bool} {l : List α} {k : Nat} (h : NoneTo p l k) (hk : k < l.length) (hp : p l[k] = false) : NoneTo p l (k + 1) := fun j hj hjk => by
  by_cases he : j = k
  · subst he; exact hp
  · exact h j hj (by omega)

theorem ofV_quo {v l : Int} (h : 0 ≤ l) : ofV v l = (l.tdiv 2 == v) := by
  unfold ofV var
  rw [decide_eq_true h, Bool.true_and, Bool.eq_iff_iff, decide_eq_true_iff, beq_iff_eq]
  rw [Int.tdiv_eq_ediv_of_nonneg h]
  constructor
  · intro h2; omega
  · intro h2; omega
theorem ofV_neg {v l : Int} (h : ¬ 0 ≤ l) : ofV v l = false := by
  unfold ofV
  rw [decide_eq_false h, Bool.false_and]

set_option maxRecDepth 8000 in
set_option maxHeartbeats 16000000 in
theorem refKind_any (w : World) (x : Circ) (p : At) (hin : InCirc w x p) (hwi : ∀ l ∈ x.ins, I64 l) (hwl : WfT x.lats) (hwa : WfT x.ands) (v : Int) :
    Calls Tryz.prog 56 #[.agg (cells x p), .int .i64 v] w fun e w' => e = .returned (.string (kindOf x v)) ∧ Below w.heap.size w w' := by
  have hkind : kindOf x v = if v = 0 then ⟨#[48]⟩ else if (x.ins.map (ofV v)).any id = true then ⟨#[105]⟩ else if (x.lats.map fun t => ofV v t.1).any id = true then ⟨#[108]⟩ else if (x.ands.map fun t => ofV v t.1).any id = true then ⟨#[97]⟩ else ⟨#[]⟩ := by rw [← gate_any_ofV x.ands v]; rfl
  have HKD := Lib.hid hkind
  obtain ⟨W1, hW1⟩ : ∃ W1, w.alloc (.cells (cells x p) 27) = W1 := ⟨_, rfl⟩
  obtain ⟨hb1, hcb⟩ := cbox_new w x p W1 hW1
  have KB := Lib.hid (fun (U : World) (hU : Below W1.heap.size W1 U) => hcb.next hU (Nat.le_refl _))
  have HB1 := Lib.hid hb1
  have HSI := Lib.hid (hin.ins.next hb1)
  have HSL := Lib.hid (hin.lats.next hb1)
  have HSA := Lib.hid (hin.ands.next hb1)
  have hci := hin.ins.cap
  have hcl := hin.lats.cap
  have hca := hin.ands.cap
  have hgi := hin.ins.big
  have hgl := hin.lats.big
  have hga := hin.ands.big
  have HWI := Lib.hid hwi
  have HWL := Lib.hid hwl
  have HWA := Lib.hid hwa
  clear hin hwi hwl hwa hb1 hcb hkind
  obtain ⟨a1, c1, a2, c2, a3, c3, a4, c4, a5, c5, a6, c6, a7, c7⟩ := p
  simp only at hci hcl hca hgi hgl hga
  generalize kindOf x v = R at *
  simp only [cells] at hW1 ⊢
  by_cases hv0 : v = 0
  · have hR := HKD.out
    rw [if_pos hv0] at hR
    subst hv0
    subst hR
    clear HKD
    go_enter Tryz.func56, Tryz.ntmps56
    go_wp2_with fail
    go_ret
    exact ⟨rfl, HB1.out⟩
  · have hv0' : (v == 0) = false := by simp [hv0]
    rw [if_neg hv0] at HKD
    clear hv0
    go_enter Tryz.func56, Tryz.ntmps56
    go_wp2_with fail
    clear hW1
    go_loopw [5] (fun s wr => ∃ k : Nat, k ≤ x.ins.length ∧ s = .int .i64 k ∧ Hid (NoneTo (ofV v) x.ins k) ∧ Hid (Below W1.heap.size W1 wr)) (fun s _ => x.ins.length - (intOf s).toNat)
    case atStart => exact ⟨0, Nat.zero_le _, rfl, (fun j _ h => by omega), Below.refl _ _⟩
    case round =>
      obtain ⟨k, hk, rfl, hI, hB⟩ := hrel
      have jj : wr.cell? ⟨w.heap.size, 1, none⟩ = some (.slice a1 x.ins.length c1) := (KB.out wr hB.out).k1
      by_cases hlt : k < x.ins.length
      · obtain ⟨b, o, hx, rfl, hbs, hc0⟩ := HSI.out.int hlt
        have d0 := (hB.out.cell (p := ⟨b, o + k, none⟩) hbs).trans hc0
        have HM := Lib.hid (noneTo_more hI.out hlt)
        have HH := Lib.hid (fun h => any_some (p := (ofV v)) hlt h)
        have hl64 := HWI.out _ (List.getElem_mem hx)
        clear hc0
        generalize x.ins[k] = l at *
        have hB1 := hB.out
        have HBK := Lib.hid (HB1.out.trans (hB1.mono HB1.out.size))
        have HB2 := Lib.hid hB1
        obtain ⟨hl0, hl1⟩ := hl64
        by_cases h0 : 0 ≤ l
        · have hd0 : decide (0 ≤ l) = true := decide_eq_true h0
          have htd : l.tdiv 2 = l / 2 := Int.tdiv_eq_ediv_of_nonneg h0
          have HOV : Hid (ofV v l = (l / 2 == v)) := by show _ = _; rw [ofV_quo h0, htd]
          cases hq : (l / 2 == v)
          · have HR := Lib.hid (HM.out (by rw [show _ = ofV v l from rfl, HOV.out, hq]))
            have HX := Lib.hid hq
            clear HM HH hB1 hB hI
            go_wp2_with fail
            go_roundw
            case rel => exact ⟨k + 1, by omega, by go_num, HR.out, HB2.out⟩
            case measure => simp [intOf]; omega
          · have hR := HKD.out
            rw [HH.out (by rw [show _ = ofV v l from rfl, HOV.out, hq])] at hR
            simp only [if_true] at hR
            subst hR
            clear HM HH HKD hB1 hB hI
            go_wp2_with fail
            go_ret
            exact ⟨rfl, HBK.out⟩
        · have hd0 : decide (0 ≤ l) = false := decide_eq_false h0
          have h0' : l < 0 := by omega
          have HR := Lib.hid (HM.out (by rw [show _ = ofV v l from rfl, ofV_neg h0]))
          clear HM HH hB1 hB hI h0
          go_wp2_with fail
          go_roundw
          case rel => exact ⟨k + 1, by omega, by go_num, HR.out, HB2.out⟩
          case measure => simp [intOf]; omega
      · have hke : k = x.ins.length := by omega
        have HN : Hid ((x.ins.map (ofV v)).any id = false) := any_none (by have h := hI.out; rw [hke] at h; exact h)
        have HBX := Lib.hid hB.out
        rw [HN.out] at HKD
        simp only [Bool.false_eq_true, if_false] at HKD
        clear hke hI hB HSI
        go_wp2_with fail
        try clear jj
        go_loopw [6] (fun s wr => ∃ k : Nat, k ≤ x.lats.length ∧ s = .int .i64 k ∧ Hid (NoneTo (fun t : Tri => ofV v t.1) x.lats k) ∧ Hid (Below W1.heap.size W1 wr)) (fun s _ => x.lats.length - (intOf s).toNat)
        case atStart => exact ⟨0, Nat.zero_le _, rfl, (fun j _ h => by omega), HBX.out⟩
        case round =>
          obtain ⟨k, hk, rfl, hI, hB⟩ := hrel
          have jj : wr.cell? ⟨w.heap.size, 2, none⟩ = some (.slice a2 x.lats.length c2) := (KB.out wr hB.out).k2
          by_cases hlt : k < x.lats.length
          · obtain ⟨b, o, hx, rfl, hbs, hc0, hc1, hc2⟩ := HSL.out.tri hlt
            have d0 := (hB.out.cell (p := ⟨b, o + k * 3, none⟩) hbs).trans hc0
            have HM := Lib.hid (noneTo_more hI.out hlt)
            have HH := Lib.hid (fun h => any_some (p := (fun t : Tri => ofV v t.1)) hlt h)
            have hl64 := (HWL.out _ (List.getElem_mem hx)).1
            clear hc0 hc1 hc2
            generalize x.lats[k].1 = l at *
            have hB1 := hB.out
            have HBK := Lib.hid (HB1.out.trans (hB1.mono HB1.out.size))
            have HB2 := Lib.hid hB1
            obtain ⟨hl0, hl1⟩ := hl64
            by_cases h0 : 0 ≤ l
            · have hd0 : decide (0 ≤ l) = true := decide_eq_true h0
              have htd : l.tdiv 2 = l / 2 := Int.tdiv_eq_ediv_of_nonneg h0
              have HOV : Hid (ofV v l = (l / 2 == v)) := by show _ = _; rw [ofV_quo h0, htd]
              cases hq : (l / 2 == v)
              · have HR := Lib.hid (HM.out (by rw [show _ = ofV v l from rfl, HOV.out, hq]))
                have HX := Lib.hid hq
                clear HM HH hB1 hB hI
                go_wp2_with fail
                go_roundw
                case rel => exact ⟨k + 1, by omega, by go_num, HR.out, HB2.out⟩
                case measure => simp [intOf]; omega
              · have hR := HKD.out
                rw [HH.out (by rw [show _ = ofV v l from rfl, HOV.out, hq])] at hR
                simp only [if_true] at hR
                subst hR
                clear HM HH HKD hB1 hB hI
                go_wp2_with fail
                go_ret
                exact ⟨rfl, HBK.out⟩
            · have hd0 : decide (0 ≤ l) = false := decide_eq_false h0
              have h0' : l < 0 := by omega
              have HR := Lib.hid (HM.out (by rw [show _ = ofV v l from rfl, ofV_neg h0]))
              clear HM HH hB1 hB hI h0
              go_wp2_with fail
              go_roundw
              case rel => exact ⟨k + 1, by omega, by go_num, HR.out, HB2.out⟩
              case measure => simp [intOf]; omega
          · have hke : k = x.lats.length := by omega
            have HN : Hid ((x.lats.map (fun t : Tri => ofV v t.1)).any id = false) := any_none (by have h := hI.out; rw [hke] at h; exact h)
            have HBX := Lib.hid hB.out
            rw [HN.out] at HKD
            simp only [Bool.false_eq_true, if_false] at HKD
            clear hke hI hB HSL
            go_wp2_with fail
            try clear jj
            go_loopw [7] (fun s wr => ∃ k : Nat, k ≤ x.ands.length ∧ s = .int .i64 k ∧ Hid (NoneTo (fun t : Tri => ofV v t.1) x.ands k) ∧ Hid (Below W1.heap.size W1 wr)) (fun s _ => x.ands.length - (intOf s).toNat)
            case atStart => exact ⟨0, Nat.zero_le _, rfl, (fun j _ h => by omega), HBX.out⟩
            case round =>
              obtain ⟨k, hk, rfl, hI, hB⟩ := hrel
              have jj : wr.cell? ⟨w.heap.size, 6, none⟩ = some (.slice a6 x.ands.length c6) := (KB.out wr hB.out).k6
              by_cases hlt : k < x.ands.length
              · obtain ⟨b, o, hx, rfl, hbs, hc0, hc1, hc2⟩ := HSA.out.tri hlt
                have d0 := (hB.out.cell (p := ⟨b, o + k * 3, none⟩) hbs).trans hc0
                have HM := Lib.hid (noneTo_more hI.out hlt)
                have HH := Lib.hid (fun h => any_some (p := (fun t : Tri => ofV v t.1)) hlt h)
                have hl64 := (HWA.out _ (List.getElem_mem hx)).1
                clear hc0 hc1 hc2
                generalize x.ands[k].1 = l at *
                have hB1 := hB.out
                have HBK := Lib.hid (HB1.out.trans (hB1.mono HB1.out.size))
                have HB2 := Lib.hid hB1
                obtain ⟨hl0, hl1⟩ := hl64
                by_cases h0 : 0 ≤ l
                · have hd0 : decide (0 ≤ l) = true := decide_eq_true h0
                  have htd : l.tdiv 2 = l / 2 := Int.tdiv_eq_ediv_of_nonneg h0
                  have HOV : Hid (ofV v l = (l / 2 == v)) := by show _ = _; rw [ofV_quo h0, htd]
                  cases hq : (l / 2 == v)
                  · have HR := Lib.hid (HM.out (by rw [show _ = ofV v l from rfl, HOV.out, hq]))
                    have HX := Lib.hid hq
                    clear HM HH hB1 hB hI
                    go_wp2_with fail
                    go_roundw
                    case rel => exact ⟨k + 1, by omega, by go_num, HR.out, HB2.out⟩
                    case measure => simp [intOf]; omega
                  · have hR := HKD.out
                    rw [HH.out (by rw [show _ = ofV v l from rfl, HOV.out, hq])] at hR
                    simp only [if_true] at hR
                    subst hR
                    clear HM HH HKD hB1 hB hI
                    go_wp2_with fail
                    go_ret
                    exact ⟨rfl, HBK.out⟩
                · have hd0 : decide (0 ≤ l) = false := decide_eq_false h0
                  have h0' : l < 0 := by omega
                  have HR := Lib.hid (HM.out (by rw [show _ = ofV v l from rfl, ofV_neg h0]))
                  clear HM HH hB1 hB hI h0
                  go_wp2_with fail
                  go_roundw
                  case rel => exact ⟨k + 1, by omega, by go_num, HR.out, HB2.out⟩
                  case measure => simp [intOf]; omega
              · have hke : k = x.ands.length := by omega
                have HN : Hid ((x.ands.map (fun t : Tri => ofV v t.1)).any id = false) := any_none (by have h := hI.out; rw [hke] at h; exact h)
                have HBX := Lib.hid hB.out
                rw [HN.out] at HKD
                simp only [Bool.false_eq_true, if_false] at HKD
                clear hke hI hB HSA
                go_wp2_with fail
                try clear jj
                have hR := HKD.out
                subst hR
                go_ret
                exact ⟨rfl, HB1.out.trans (HBX.out.mono HB1.out.size)⟩

end Circuit
end Go.Proofs.YtjmmhbmbafjneaaGreatDoor
