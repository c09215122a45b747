/-
  slices.DeleteFunc of [][]int, on a slice of the call's own; the predicate may lay blocks.
-/
import Derived.Test.YteamijldmhcicaaMix
import Derived.Test.YteamijldmhcicaaSlfR
import Derived.Lib.SliceRun
namespace Go.Proofs.Yteamijldmhcicaa
open Go.RowKit Base
set_option linter.unusedVariables false
set_option linter.unusedSimpArgs false
namespace DelR

/-- A block that is a row of cells. -/
def RowAt (w : World) (G : Nat) (e : TypeId) (c : Nat) (arr : List Value) : Prop := ∃ cur : Array Value, w.heap[G]? = some (.cells cur e (0, 0)) ∧ cur.toList = arr ∧ arr.length = c

theorem RowAt.cell {w : World} {G : Nat} {e : TypeId} {c : Nat} {arr : List Value} (h : RowAt w G e c arr) {i : Nat} {v : Value} (hv : arr[i]? = some v) : w.cell? ⟨G, i, none⟩ = some v := by
  obtain ⟨cur, hh, rfl, _⟩ := h
  rw [cell_of_row _ G i cur e _ hh, ← Array.getElem?_toList, hv]

theorem RowAt.frozen {w : World} {G : Nat} {e : TypeId} {c : Nat} {arr : List Value} (h : RowAt w G e c arr) (i : Nat) : w.frozen? ⟨G, i, none⟩ = false := by
  obtain ⟨cur, hh, rfl, _⟩ := h
  simp [World.frozen?, hh]

theorem RowAt.lt {w : World} {G : Nat} {e : TypeId} {c : Nat} {arr : List Value} (h : RowAt w G e c arr) : G < w.heap.size := by
  obtain ⟨cur, hh, _⟩ := h
  exact (Array.getElem?_eq_some_iff.1 hh).1

theorem RowAt.next {w w' : World} {G : Nat} {e : TypeId} {c : Nat} {arr : List Value} (h : RowAt w G e c arr) (hb : Below w.heap.size w w') : RowAt w' G e c arr := by
  have hl := h.lt
  obtain ⟨cur, hh, h2⟩ := h
  exact ⟨cur, by rw [hb.block G hl]; exact hh, h2⟩

theorem RowAt.set {w : World} {G : Nat} {e : TypeId} {c : Nat} {arr : List Value} (h : RowAt w G e c arr) (i : Nat) (u : Value) : RowAt (w.setCell ⟨G, i, none⟩ u) G e c (arr.set i u) := by
  obtain ⟨cur, hh, rfl, hc⟩ := h
  refine ⟨cur.setIfInBounds i u, ?_, by simp, by simpa using hc⟩
  simp [World.setCell, Array.getElem?_modify, hh]

theorem RowAt.sets {G : Nat} {e : TypeId} {c : Nat} : ∀ (vs : List Value) (w : World) (arr : List Value) (o : Nat), RowAt w G e c arr → ∃ arr', RowAt (w.setCells G o vs) G e c arr' ∧ arr'.take o = arr.take o := by
  intro vs
  induction vs with
  | nil => intro w arr o h; exact ⟨arr, h, rfl⟩
  | cons v r ih =>
    intro w arr o h
    obtain ⟨arr', h1, h2⟩ := ih (w.setCell ⟨G, o, none⟩ v) (arr.set o v) (o + 1) (h.set o v)
    refine ⟨arr', h1, ?_⟩
    have h3 := congrArg (List.take o) h2
    rw [List.take_take, List.take_take, show min o (o + 1) = o by omega] at h3
    rw [h3, List.take_set_of_le (Nat.le_refl _)]

theorem grown_below {w w1 w2 : World} {ob : Option Nat} (h : w.grownBy w1 ob) (hb : Below w1.heap.size w1 w2) : w.grownBy w2 ob :=
  ⟨hb.os.trans h.os, hb.tape.trans h.tape, hb.output.trans h.output, Nat.le_trans h.size hb.size, fun k hk hne => (hb.block k (Nat.lt_of_lt_of_le hk h.size)).trans (h.block k hk hne)⟩

theorem grown_of_below {w w1 : World} {ob : Option Nat} (hb : Below w.heap.size w w1) : w.grownBy w1 ob :=
  ⟨hb.os, hb.tape, hb.output, hb.size, fun k hk _ => hb.block k hk⟩

theorem grown_set {w w1 : World} {G : Nat} (h : w.grownBy w1 (some G)) (i : Nat) (u : Value) : w.grownBy (w1.setCell ⟨G, i, none⟩ u) (some G) := by
  refine ⟨h.os, h.tape, h.output, by simpa [World.setCell] using h.size, fun k hk hne => ?_⟩
  have hk' : G ≠ k := fun e => hne (by rw [e])
  rw [← h.block k hk hne]
  simp [World.setCell, Array.getElem?_modify, hk']

theorem grown_sets {w : World} {G : Nat} : ∀ (vs : List Value) (w1 : World) (o : Nat), w.grownBy w1 (some G) → w.grownBy (w1.setCells G o vs) (some G) := by
  intro vs
  induction vs with
  | nil => intro w1 o h; exact h
  | cons v r ih => intro w1 o h; exact ih _ _ (grown_set h o v)

/-- What is kept of the first j. -/
def kp (p : List Int → Bool) (ps : List (Value × List Int)) (j : Nat) : List (Value × List Int) := (ps.take j).filter fun q => !p q.2

theorem kp_more {p : List Int → Bool} {ps : List (Value × List Int)} {j : Nat} (hj : j < ps.length) : kp p ps (j + 1) = kp p ps j ++ (if p ps[j].2 = true then [] else [ps[j]]) := by
  unfold kp
  rw [List.take_succ_eq_append_getElem hj, List.filter_append]
  cases h : p ps[j].2 <;> simp [h]

theorem kp_len (p : List Int → Bool) (ps : List (Value × List Int)) (j : Nat) : (kp p ps j).length ≤ j := by
  have := List.length_filter_le (fun q : Value × List Int => !p q.2) (ps.take j)
  rw [List.length_take] at this
  unfold kp
  omega

theorem kp_snd {p : List Int → Bool} {vals : List Value} {xss : List (List Int)} (h : vals.length = xss.length) : (kp p (vals.zip xss) xss.length).map Prod.snd = xss.filter fun x => !p x := by
  unfold kp
  rw [List.take_of_length_le (by rw [List.length_zip]; omega)]
  induction vals generalizing xss with
  | nil => cases xss with
    | nil => rfl
    | cons y r => simp at h
  | cons x r ih =>
    cases xss with
    | nil => simp at h
    | cons y q =>
      have := ih (xss := q) (by simpa using h)
      cases hp : p y <;> simp [List.filter_cons, hp, this]

theorem idx_cases (ps : List Bool) : ∀ k, (idx id ps k = -1 ∧ ∀ b ∈ ps, b = false) ∨ ∃ i, ∃ h : i < ps.length, idx id ps k = ((k + i : Nat) : Int) ∧ ps[i] = true ∧ ∀ b ∈ ps.take i, b = false := by
  induction ps with
  | nil => intro k; exact .inl ⟨rfl, by simp⟩
  | cons b r ih =>
    intro k
    cases hb : b
    · rcases ih (k + 1) with ⟨h1, h2⟩ | ⟨i, hi, h1, h2, h3⟩
      · exact .inl ⟨by unfold idx; simpa using h1, by intro c hc; rcases List.mem_cons.1 hc with rfl | hc; rfl; exact h2 c hc⟩
      · refine .inr ⟨i + 1, by simpa using hi, ?_, by simpa using h2, ?_⟩
        · unfold idx
          simp only [id_eq, Bool.false_eq_true, if_false]
          rw [h1]; congr 1; omega
        · intro c hc
          rw [List.take_succ_cons] at hc
          rcases List.mem_cons.1 hc with rfl | hc
          · rfl
          · exact h3 c hc
    · exact .inr ⟨0, by simp, by unfold idx; simp, rfl, by simp⟩

def Out (w : World) (B : Nat) (a : Option Addr) (n c : Nat) (L : List (List Int)) (e : Ending) (w' : World) : Prop :=
  ∃ n' vs', e = .returned (.slice a n' c) ∧ Own2 w' B 25 3 (.slice a n' c) n' vs' L ∧ w.grownBy w' (Value.slice a n c).ownBlock

theorem rows_kept {w1 w : World} {B : Nat} {e1 e0 : TypeId} {a : Option Addr} {n c : Nat} {vals : List Value} {xss : List (List Int)} (h : Own2 w B e1 e0 (.slice a n c) n vals xss) (he : e0 ≠ e1) (hg : w.grownBy w1 (Value.slice a n c).ownBlock) :
    ∀ (i : Nat) (x : Value) (xs : List Int), vals[i]? = some x → xss[i]? = some xs → ∃ a c, x = .slice a xs.length c ∧ w1.ownsRow B e0 1 (.slice a xs.length c) xs.length (ints xs) := by
  intro i x xs hx hxs
  obtain ⟨a', c', rfl, ho⟩ := h.row i x xs hx hxs
  exact ⟨a', c', rfl, ho.kept hg (own_apart ho h.outer he)⟩

set_option maxRecDepth 4000 in
set_option maxHeartbeats 8000000 in
theorem delR_own (w : World) (B : Nat) (a : Option Addr) (n c : Nat) (vals : List Value) (xss : List (List Int)) (hown : Own2 w B 25 3 (.slice a n c) n vals xss) (hB : B ≤ w.heap.size)
    (g : FuncId) (lb : Array Value) (p : List Int → Bool) (eg : SlfR.Enters g)
    (hg : ∀ W, w.grownBy W (Value.slice a n c).ownBlock → ∀ (k : Nat) (v : Value) (xs : List Int), vals[k]? = some v → xss[k]? = some xs → Calls Try.prog g (#[v] ++ lb) W fun e w' => e = .returned (.bool (p xs)) ∧ Below W.heap.size W w') :
    Calls Try.prog 20 #[.slice a n c, .func (.func g) #[] lb] w (Out w B a n c (xss.filter fun x => !p x)) := by
  have hvl := hown.vlen
  have hxl := hown.len
  have hzl : (vals.zip xss).length = n := by rw [List.length_zip, hvl, hxl, Nat.min_self]
  have hsl := hown.sl2'
  have IF := SlfR.indexFunc w a n c vals g #[] lb (xss.map p) hsl.sl (by rw [List.length_map]; exact hxl) eg (by
    intro W hW k v b hv hb
    rw [List.getElem?_map, Option.map_eq_some_iff] at hb
    obtain ⟨xs, hxs, rfl⟩ := hb
    exact hg W (grown_of_below hW) k v xs hv hxs)
  have hcap := hsl.sl.cap
  have hbig := hsl.sl.big
  have HOW := Lib.hid hown
  have HG := Lib.hid hg
  have HL := Lib.hid (And.intro hvl (And.intro hxl hzl))
  have hmf : ∀ args W, (callFunc g args).run Try.prog W = .ok (.enter g args) W := eg
  rcases idx_cases (xss.map p) 0 with ⟨h1, hall⟩ | ⟨k0, hk0, h1, ht, hall⟩
  · rw [h1] at IF
    have HF := Lib.hid IF
    have HE : Hid (xss.filter (fun x => !p x) = xss) := by
      show _ = _
      rw [List.filter_eq_self]
      intro x hx
      rw [hall (p x) (List.mem_map.2 ⟨x, hx, rfl⟩)]; rfl
    clear hown hg hvl hxl hzl hsl IF h1 hall
    go_enter Try.func20, Try.ntmps20
    go_wp2_with fail
    refine HF.out.mono ?_
    rintro e w1 ⟨rfl, hb1⟩
    have HB := Lib.hid hb1
    clear hb1
    go_wp2_with fail
    go_ret
    exact ⟨n, vals, rfl, by rw [HE.out]; exact HOW.out.next HB.out, grown_of_below HB.out⟩
  · rw [h1, Nat.zero_add] at IF
    have HF := Lib.hid IF
    have hk0n : k0 < n := by rw [List.length_map] at hk0; omega
    rcases hown.outer.2 with ⟨hv, hnil⟩ | ⟨G, cap, cur, hv, hGB, hh, q1, q2, q3, q4⟩
    · simp only [Value.slice.injEq] at hv
      omega
    · simp only [Value.slice.injEq] at hv
      obtain ⟨rfl, _, rfl⟩ := hv
      have hR : RowAt w G 25 c cur.toList := ⟨cur, hh, rfl, by rw [Array.length_toList]; omega⟩
      have HR := Lib.hid hR
      have HQ := Lib.hid (And.intro hGB (And.intro q1 q2))
      have hcv : ∀ k, k < n → cur.toList[k]? = vals[k]? := by
        intro k hk
        have := congrArg (fun l : List Value => l[k]?) q4
        simp only [Nat.mul_one] at this
        rwa [List.getElem?_take_of_lt hk] at this
      have HCV := Lib.hid hcv
      have HK0 : Hid (kp p (vals.zip xss) (k0 + 1) = (vals.zip xss).take k0) := by
        show _ = _
        have hkz : k0 < (vals.zip xss).length := by omega
        rw [kp_more hkz]
        have hp0 : p (vals.zip xss)[k0].2 = true := by
          rw [List.getElem_zip]
          simpa using ht
        rw [if_pos hp0, List.append_nil]
        unfold kp
        rw [List.filter_eq_self]
        intro q hq
        obtain ⟨i, hi, rfl⟩ := List.getElem_of_mem hq
        rw [List.length_take] at hi
        rw [List.getElem_take, List.getElem_zip]
        have hm : p (xss[i]'(by omega)) ∈ (xss.map p).take k0 := by
          refine List.mem_iff_getElem.2 ⟨i, by rw [List.length_take, List.length_map]; omega, ?_⟩
          rw [List.getElem_take, List.getElem_map]
        rw [hall _ hm]; rfl
      have HZL : Hid (∀ j (hj : j < n), ∃ v xs, vals[j]? = some v ∧ xss[j]? = some xs ∧ ∃ h : j < (vals.zip xss).length, (vals.zip xss)[j] = (v, xs)) := fun j hj =>
        ⟨vals[j], xss[j], List.getElem?_eq_getElem _, List.getElem?_eq_getElem _, by omega, List.getElem_zip⟩
      have hob : (Value.slice (some ⟨G, 0, none⟩) n c).ownBlock = some G := rfl
      rw [hob] at HG
      clear hown hg hvl hxl hzl hsl IF h1 hall ht hh hR hGB q1 q2 q3 q4 hcv hob
      go_enter Try.func20, Try.ntmps20
      go_wp2_with fail
      refine HF.out.mono ?_
      rintro e w1 ⟨rfl, hb1⟩
      have HB := Lib.hid hb1
      clear hb1
      have hkm : ((k0 : Int) == -1) = false := beq_eq_false_iff_ne.2 (by omega)
      go_wp2_with fail
      go_loopw [5, 6, 7] (fun s5 s6 s7 wr => ∃ (i j : Nat) (arr : List Value), s5 = .int .i64 i ∧ s6 = .int .i64 j ∧ j ≤ n ∧ i < j ∧ Hid ((kp p (vals.zip xss) j).length = i) ∧ Hid (RowAt wr G 25 c arr) ∧ Hid (arr.take i = (kp p (vals.zip xss) j).map Prod.fst) ∧
        Hid (∀ k, j ≤ k → k < n → arr[k]? = vals[k]?) ∧ Hid (w.grownBy wr (some G))) (fun _ s6 _ _ => n - (intOf s6).toNat)
      case atStart =>
        refine ⟨k0, k0 + 1, cur.toList, rfl, by go_num, by omega, by omega, ?_, HR.out.next HB.out, ?_, fun k h1 h2 => HCV.out k h2, grown_of_below HB.out⟩
        · show _ = _
          rw [HK0.out, List.length_take, HL.out.2.2]; omega
        · show _ = _
          rw [HK0.out]
          apply List.ext_getElem?
          intro k
          by_cases hk : k < k0
          · obtain ⟨v, xs, hv, hx, hz, e⟩ := HZL.out k (by omega)
            rw [List.getElem?_take_of_lt hk, HCV.out k (by omega), hv, List.getElem?_map, List.getElem?_take_of_lt hk, List.getElem?_eq_getElem hz, e]
            rfl
          · rw [List.getElem?_take_eq_none (by omega), List.getElem?_eq_none (by rw [List.length_map, List.length_take]; omega)]
      case round =>
        obtain ⟨i, j, arr, rfl, rfl, hjn, hij, hlen, hrow, htk, hrest, hgr⟩ := hrel
        by_cases hlt : j < n
        · obtain ⟨v, xs, hv, hx, hz, hze⟩ := HZL.out j hlt
          obtain ⟨va, vc, rfl, _⟩ := HOW.out.row j v xs hv hx
          have kj := hrow.out.cell ((hrest.out j (Nat.le_refl _) hlt).trans hv)
          have harrl : arr.length = c := by obtain ⟨_, _, _, h⟩ := hrow.out; exact h
          have hKM := kp_more (p := p) hz
          rw [hze] at hKM
          have CALL := Lib.hid (HG.out wr hgr.out j _ xs hv hx)
          have HKM := Lib.hid hKM
          have HV := Lib.hid hv
          have HAL := Lib.hid harrl
          clear hKM hv hx hz hze harrl
          have hjlt : (j : Int) < (n : Int) := by omega
          cases hp : p xs
          · rw [hp] at CALL HKM
            have HP := Lib.hid hp
            clear hp
            go_wp2_with fail
            refine CALL.out.mono ?_
            rintro e w2 ⟨rfl, hb2⟩
            have hr2 := hrow.out.next hb2
            obtain ⟨u, hu⟩ : ∃ u, arr[i]? = some u := ⟨_, List.getElem?_eq_getElem (by rw [HAL.out]; omega)⟩
            have ki := hr2.cell hu
            have fi := hr2.frozen i
            have HR2 := Lib.hid (hr2.set i (.slice va xs.length vc))
            have HG2 := Lib.hid (grown_set (grown_below hgr.out hb2) i (.slice va xs.length vc))
            have hic : i < c := by omega
            clear hb2 hr2 hu kj
            go_wp2_with fail
            go_roundw
            case rel =>
              refine ⟨i + 1, j + 1, arr.set i (.slice va xs.length vc), by go_num, by go_num, by omega, by omega, ?_, HR2.out, ?_, ?_, HG2.out⟩
              · show _ = _
                rw [HKM.out]; simp [hlen.out]
              · show _ = _
                rw [HKM.out]
                simp only [Bool.false_eq_true, if_false, List.map_append, List.map_cons, List.map_nil]
                rw [← htk.out, List.take_succ_eq_append_getElem (by rw [List.length_set, HAL.out]; exact hic), List.getElem_set_self, List.take_set_of_le (Nat.le_refl _)]
              · intro k h1 h2
                rw [List.getElem?_set_ne (by omega)]
                exact hrest.out k (by omega) h2
            case measure => simp [intOf]; omega
          · rw [hp] at CALL HKM
            clear hp
            go_wp2_with fail
            refine CALL.out.mono ?_
            rintro e w2 ⟨rfl, hb2⟩
            have HR2 := Lib.hid (hrow.out.next hb2)
            have HG2 := Lib.hid (grown_below hgr.out hb2)
            clear hb2 kj
            go_wp2_with fail
            go_roundw
            case rel =>
              refine ⟨i, j + 1, arr, rfl, by go_num, by omega, by omega, ?_, HR2.out, ?_, fun k h1 h2 => hrest.out k (by omega) h2, HG2.out⟩
              · show _ = _
                rw [HKM.out]; simp [hlen.out]
              · show _ = _
                rw [HKM.out]; simp [htk.out]
            case measure => simp [intOf]; omega
        · obtain rfl : j = n := by omega
          have harrl : arr.length = c := by obtain ⟨_, _, _, h⟩ := hrow.out; exact h
          have hjc := HQ.out.2.1
          have hci : ¬ c = i := by omega
          have hin : i ≤ j := by omega
          have hcl : ∀ ty, (Builtin.clear_ #[31] ty #[.slice (some ⟨G, i, none⟩) (j - i) (c - i)]).run Try.prog wr = .ok (.tuple #[]) (wr.setCells G i (List.replicate (j - i) (.slice none 0 0))) :=
            fun ty => Lib.run_clear_slice wr _ _ ty _ Try.underlying31 Try.zeroValue25 rfl rfl G i _ _ (by omega) (fun t ht => by rw [hrow.out.cell (List.getElem?_eq_getElem (by omega))]; rfl) (fun t ht => hrow.out.frozen _)
          obtain ⟨arr', hR', hT'⟩ := RowAt.sets (List.replicate (j - i) (.slice none 0 0)) wr arr i hrow.out
          have HRR := Lib.hid hR'
          have HTT := Lib.hid (hT'.trans htk.out)
          have HGG := Lib.hid (grown_sets (List.replicate (j - i) (.slice none 0 0)) wr i hgr.out)
          have HLI := hlen
          clear hR' hT' hrow htk hrest hgr hlen harrl
          have hji : ¬ (j : Int) < (j : Int) := by omega
          go_wp2_with fail
          go_ret
          have hfin : kp p (vals.zip xss) j = kp p (vals.zip xss) xss.length := by rw [HL.out.2.1]
          obtain ⟨cur', hh', hcur', hcl'⟩ := HRR.out
          refine ⟨i, (kp p (vals.zip xss) j).map Prod.fst, rfl, ⟨⟨by rw [List.length_map, HLI.out, Nat.mul_one], .inr ⟨G, c, cur', rfl, HQ.out.1, hh', by omega, HQ.out.2.2, by rw [← hcur', Array.length_toList] at hcl'; omega, by rw [Nat.mul_one, hcur']; exact HTT.out⟩⟩, ?_, ?_⟩, HGG.out⟩
          · rw [← kp_snd (by rw [HL.out.1, HL.out.2.1]), List.length_map, ← hfin, HLI.out]
          · intro k x xs hx hxs
            rw [← kp_snd (by rw [HL.out.1, HL.out.2.1]), ← hfin] at hxs
            rw [List.getElem?_map, Option.map_eq_some_iff] at hx hxs
            obtain ⟨q, hq, rfl⟩ := hx
            obtain ⟨q', hq', rfl⟩ := hxs
            rw [hq] at hq'
            simp only [Option.some.injEq] at hq'
            subst hq'
            have hm : q ∈ vals.zip xss := List.mem_of_mem_take (List.mem_filter.1 (List.mem_of_getElem? hq)).1
            obtain ⟨k', hk', hqe⟩ := List.getElem_of_mem hm
            rw [List.getElem_zip] at hqe
            have e1 : q.1 = vals[k']'(by rw [List.length_zip] at hk'; omega) := by rw [← hqe]
            have e2 : q.2 = xss[k']'(by rw [List.length_zip] at hk'; omega) := by rw [← hqe]
            exact rows_kept HOW.out (by decide) HGG.out k' q.1 q.2 (by rw [e1]; exact List.getElem?_eq_getElem _) (by rw [e2]; exact List.getElem?_eq_getElem _)

end DelR
end Go.Proofs.Yteamijldmhcicaa
