/-
  slices.DeleteFunc of []api.Fact, on a slice of the call's own; the predicate may lay blocks.
-/
import Derived.Test.YtgbpoeidpldmkaaFactS
import Derived.Test.YtgbpoeidpldmkaaRowsK
namespace Go.Proofs.Ytgbpoeidpldmkaa
open Go.RowKit Base RowsK
set_option linter.unusedVariables false
set_option linter.unusedSimpArgs false
namespace Fact

def DelOut (w : World) (B : Nat) (a : Option Addr) (n c : Nat) (L : List Fc) (e : Ending) (w' : World) : Prop :=
  ∃ n' vs', e = .returned (.slice a n' c) ∧ FOwn w' B a n' c vs' L ∧ w.grownBy w' (Value.slice a n c).ownBlock

set_option maxRecDepth 4000 in
set_option maxHeartbeats 8000000 in
theorem delF_own (w : World) (B : Nat) (a : Option Addr) (n c : Nat) (vs : List (List Value)) (l : List Fc) (hown : FOwn w B a n c vs l) (hB : B ≤ w.heap.size)
    (g : FuncId) (lb : Array Value) (p : Fc → Bool) (eg : Enters g)
    (hg : ∀ W, w.grownBy W (Value.slice a n c).ownBlock → ∀ (i : Nat) (k : Fc) (a1 : Option Addr) (c1 : Nat) (a2 : Option Addr) (c2 : Nat), l[i]? = some k → Sl W a1 k.lits.length c1 (ints k.lits) → Sl W a2 k.tags.length c2 (ints k.tags) → Calls Try.prog g (#[fagg k a1 c1 a2 c2] ++ lb) W fun e w' => e = .returned (.bool (p k)) ∧ Below W.heap.size W w') :
    Calls Try.prog 27 #[.slice a n c, .func (.func g) #[] lb] w (DelOut w B a n c (l.filter fun x => !p x)) := by
  have hvl := hown.vlen
  have hxl := hown.len
  have hzl : (vs.zip l).length = n := by rw [List.length_zip, hvl, hxl, Nat.min_self]
  have IF := indexFunc w a n c vs l g #[] lb (l.map p) hown.slF (by rw [List.length_map]; exact hxl) eg (by
    intro W hW i k a1 c1 a2 c2 b hk hb h1 h2
    rw [List.getElem?_map, hk] at hb
    simp only [Option.map_some, Option.some.injEq] at hb
    subst hb
    exact hg W (grown_of_below hW) i k a1 c1 a2 c2 hk h1 h2)
  have hcap := hown.slF.sl.cap
  have hbig := hown.slF.sl.big
  have HOW := Lib.hid hown
  have HG := Lib.hid hg
  have HL := Lib.hid (And.intro hvl (And.intro hxl hzl))
  have hmf : ∀ args W, (callFunc g args).run Try.prog W = .ok (.enter g args) W := eg
  rcases idx_cases (l.map p) 0 with ⟨h1, hall⟩ | ⟨k0, hk0, h1, ht, hall⟩
  · rw [h1] at IF
    have HF := Lib.hid IF
    have HE : Hid (l.filter (fun x => !p x) = l) := kp_all hall
    clear hown hg hvl hxl hzl IF h1 hall
    go_enter Try.func27, Try.ntmps27
    go_wp2_with fail
    refine HF.out.mono ?_
    rintro e w1 ⟨rfl, hb1⟩
    have HB := Lib.hid hb1
    clear hb1
    go_wp2_with fail
    go_ret
    exact ⟨n, vs, rfl, by rw [HE.out]; exact HOW.out.next HB.out, grown_of_below HB.out⟩
  · rw [h1, Nat.zero_add] at IF
    have HF := Lib.hid IF
    have hk0n : k0 < n := by rw [List.length_map] at hk0; omega
    rcases of_own hown.outer hown.five hown.vlen with ⟨_, hv, _⟩ | ⟨G, arr0, rfl, hGB, q1, q2, hR, htk0⟩
    · omega
    · have HR := Lib.hid hR
      have HQ := Lib.hid (And.intro hGB (And.intro q1 q2))
      have hcv : ∀ k, k < n → arr0[k]? = vs[k]? := by
        intro k hk
        have := congrArg (fun l : List (List Value) => l[k]?) htk0
        rwa [List.getElem?_take_of_lt hk] at this
      have HCV := Lib.hid hcv
      have HK0 : Hid (kp p (vs.zip l) (k0 + 1) = (vs.zip l).take k0) := by
        rw [List.length_map] at hk0
        exact kp_first (by omega) hk0 (by simpa using ht) hall
      have HZL : Hid (∀ j (hj : j < n), ∃ v x, vs[j]? = some v ∧ l[j]? = some x ∧ ∃ h : j < (vs.zip l).length, (vs.zip l)[j] = (v, x)) := fun j hj =>
        ⟨vs[j], l[j], List.getElem?_eq_getElem _, List.getElem?_eq_getElem _, by omega, List.getElem_zip⟩
      have hob : (Value.slice (some ⟨G, 0, none⟩) n c).ownBlock = some G := rfl
      rw [hob] at HG
      clear hown hg hvl hxl hzl IF h1 hall ht hR hGB q1 q2 hcv hob htk0
      go_enter Try.func27, Try.ntmps27
      go_wp2_with fail
      refine HF.out.mono ?_
      rintro e w1 ⟨rfl, hb1⟩
      have HB := Lib.hid hb1
      clear hb1
      have hkm : ((k0 : Int) == -1) = false := beq_eq_false_iff_ne.2 (by omega)
      go_wp2_with fail
      go_loopw [5, 6] (fun s5 s6 wr => ∃ (i j : Nat) (arr : List (List Value)), s5 = .int .i64 i ∧ s6 = .int .i64 j ∧ j ≤ n ∧ i < j ∧ Hid ((kp p (vs.zip l) j).length = i) ∧ Hid (RowsAt wr G 31 5 c arr) ∧ Hid (arr.take i = (kp p (vs.zip l) j).map Prod.fst) ∧
        Hid (∀ k, j ≤ k → k < n → arr[k]? = vs[k]?) ∧ Hid (w.grownBy wr (some G))) (fun _ s6 _ => n - (intOf s6).toNat)
      case atStart =>
        refine ⟨k0, k0 + 1, arr0, rfl, by go_num, by omega, by omega, ?_, HR.out.next HB.out, ?_, fun k h1 h2 => HCV.out k h2, grown_of_below HB.out⟩
        · show _ = _
          rw [HK0.out, List.length_take, HL.out.2.2]; omega
        · show _ = _
          rw [HK0.out]
          apply List.ext_getElem?
          intro k
          by_cases hk : k < k0
          · obtain ⟨v, xs, hv, hx, hz, e⟩ := HZL.out k (by omega)
            rw [List.getElem?_take_of_lt hk, HCV.out k (by omega), hv, List.getElem?_map, List.getElem?_take_of_lt hk, List.getElem?_eq_getElem hz, e]
            rfl
          · rw [List.getElem?_take_eq_none (by omega), List.getElem?_eq_none (by rw [List.length_map, List.length_take]; omega)]
      case round =>
        obtain ⟨i, j, arr, rfl, rfl, hjn, hij, hlen, hrow, htk, hrest, hgr⟩ := hrel
        by_cases hlt : j < n
        · obtain ⟨v, x, hv, hx, hz, hze⟩ := HZL.out j hlt
          have hro := (HOW.out.row j v x hv hx).kept HOW.out.outer hgr.out
          have hin := hro.inn
          obtain ⟨a1, c1, a2, c2, rfl, hs1, hs2⟩ := hin
          have hvj := (hrest.out j (Nat.le_refl _) hlt).trans hv
          have d0 := hrow.out.cell hvj (j := 0) rfl
          have d1 := hrow.out.cell hvj (j := 1) rfl
          have d2 := hrow.out.cell hvj (j := 2) rfl
          have d3 := hrow.out.cell hvj (j := 3) rfl
          have d4 := hrow.out.cell hvj (j := 4) rfl
          rw [Nat.add_zero] at d0
          have hKM := kp_more (p := p) hz
          rw [hze] at hKM
          obtain ⟨W5, hW5⟩ : ∃ U, wr.alloc (.cells #[.int .i64 x.id, .int .i64 x.kind, .int .i64 x.depth, .slice a1 x.lits.length c1, .slice a2 x.tags.length c2] 31) = U := ⟨_, rfl⟩
          have hb5 : Below wr.heap.size wr W5 := by rw [← hW5]; exact (Below.refl _ _).alloc (Nat.le_refl _) _
          have x5 := BoxN.new wr #[.int .i64 x.id, .int .i64 x.kind, .int .i64 x.depth, .slice a1 x.lits.length c1, .slice a2 x.tags.length c2] 31
          rw [hW5] at x5
          have q0 := x5.at' 0 _ rfl
          have q1 := x5.at' 1 _ rfl
          have q2 := x5.at' 2 _ rfl
          have q3 := x5.at' 3 _ rfl
          have q4 := x5.at' 4 _ rfl
          have hg5 := grown_below hgr.out hb5
          have CALL0 := HG.out W5 hg5 j x a1 c1 a2 c2 hx (hs1.next hb5) (hs2.next hb5)
          unfold fagg at CALL0
          have CALL := Lib.hid CALL0
          clear CALL0
          have hal := hrow.out.len
          have HKM := Lib.hid hKM
          have HV := Lib.hid hv
          have HAL := Lib.hid hal
          have HX5 := Lib.hid x5
          have HR5 := Lib.hid (hrow.out.next hb5)
          have HG5 := Lib.hid hg5
          clear hKM hv hx hz hze hal hro hs1 hs2 hvj x5 hb5 hg5
          have hjlt : (j : Int) < (n : Int) := by omega
          cases hp : p x
          · rw [hp] at CALL HKM
            have HP := Lib.hid hp
            clear hp
            go_wp2_with fail
            refine CALL.out.mono ?_
            rintro e w2 ⟨rfl, hb2⟩
            have hr2 := HR5.out.next hb2
            have x2 := HX5.out.next hb2 HX5.out.lt
            have m0 := x2.at' 0 _ rfl
            have m1 := x2.at' 1 _ rfl
            have m2 := x2.at' 2 _ rfl
            have m3 := x2.at' 3 _ rfl
            have m4 := x2.at' 4 _ rfl
            have hic : i < c := by omega
            have hi2 : i * 5 + 4 < c * 5 := by omega
            obtain ⟨y0, hy0⟩ := Option.isSome_iff_exists.1 (hr2.isSome (t := i * 5) (by omega))
            have f0 := hr2.frozen (i * 5)
            obtain ⟨y1, hy1⟩ := Option.isSome_iff_exists.1 (hr2.isSome (t := i * 5 + 1) (by omega))
            have f1 := hr2.frozen (i * 5 + 1)
            obtain ⟨y2, hy2⟩ := Option.isSome_iff_exists.1 (hr2.isSome (t := i * 5 + 2) (by omega))
            have f2 := hr2.frozen (i * 5 + 2)
            obtain ⟨y3, hy3⟩ := Option.isSome_iff_exists.1 (hr2.isSome (t := i * 5 + 3) (by omega))
            have f3 := hr2.frozen (i * 5 + 3)
            obtain ⟨y4, hy4⟩ := Option.isSome_iff_exists.1 (hr2.isSome (t := i * 5 + 4) (by omega))
            have f4 := hr2.frozen (i * 5 + 4)
            have HR2 := Lib.hid (hr2.set hic (u := [.int .i64 x.id, .int .i64 x.kind, .int .i64 x.depth, .slice a1 x.lits.length c1, .slice a2 x.tags.length c2]) rfl)
            have HG2 := Lib.hid (grown_sets [.int .i64 x.id, .int .i64 x.kind, .int .i64 x.depth, .slice a1 x.lits.length c1, .slice a2 x.tags.length c2] w2 (i * 5) (grown_below HG5.out hb2))
            clear hb2 hr2 x2 d0 d1 d2 d3 d4 q0 q1 q2 q3 q4 hi2 hW5
            go_wp2_with fail
            go_roundw
            case rel =>
              refine ⟨i + 1, j + 1, arr.set i [.int .i64 x.id, .int .i64 x.kind, .int .i64 x.depth, .slice a1 x.lits.length c1, .slice a2 x.tags.length c2], by go_num, by go_num, by omega, by omega, ?_, HR2.out, ?_, ?_, HG2.out⟩
              · show _ = _
                rw [HKM.out]; simp [hlen.out]
              · show _ = _
                rw [HKM.out]
                simp only [Bool.false_eq_true, if_false, List.map_append, List.map_cons, List.map_nil]
                rw [← htk.out, List.take_succ_eq_append_getElem (by rw [List.length_set, HAL.out]; exact hic), List.getElem_set_self, List.take_set_of_le (Nat.le_refl _)]
                rfl
              · intro k h1 h2
                rw [List.getElem?_set_ne (by omega)]
                exact hrest.out k (by omega) h2
            case measure => simp [intOf]; omega
          · rw [hp] at CALL HKM
            clear hp
            go_wp2_with fail
            refine CALL.out.mono ?_
            rintro e w2 ⟨rfl, hb2⟩
            have HR2 := Lib.hid (HR5.out.next hb2)
            have HG2 := Lib.hid (grown_below HG5.out hb2)
            clear hb2 d0 d1 d2 d3 d4 q0 q1 q2 q3 q4 hW5
            go_wp2_with fail
            go_roundw
            case rel =>
              refine ⟨i, j + 1, arr, rfl, by go_num, by omega, by omega, ?_, HR2.out, ?_, fun k h1 h2 => hrest.out k (by omega) h2, HG2.out⟩
              · show _ = _
                rw [HKM.out]; simp [hlen.out]
              · show _ = _
                rw [HKM.out]; simp [htk.out]
            case measure => simp [intOf]; omega
        · obtain rfl : j = n := by omega
          have hal := hrow.out.len
          have hjc := HQ.out.2.1
          have hci : ¬ c = i := by omega
          have hin : i ≤ j := by omega
          have hcl : ∀ ty, (Builtin.clear_ #[22] ty #[.slice (some ⟨G, i * 5, none⟩) (j - i) (c - i)]).run Try.prog wr = .ok (.tuple #[]) (wr.setCells G (i * 5) (Builtin.zeroCells (Value.agg #[.int .i64 0, .int .i64 0, .int .i64 0, .slice none 0 0, .slice none 0 0]).cells (j - i)).toList) :=
            fun ty => RowsK.run_clear wr _ _ ty _ Try.underlying22 Try.zeroValue31 5 rfl (by intro v hv; simp [Value.cells] at hv; rcases hv with rfl | rfl <;> rfl) (by decide) G (i * 5) _ _ (by omega) (fun t ht => hrow.out.isSome (by omega)) (fun t ht => hrow.out.frozen _)
          obtain ⟨arr', hR', hT'⟩ := hrow.out.wipe (i := i) (by omega) (Builtin.zeroCells (Value.agg #[.int .i64 0, .int .i64 0, .int .i64 0, .slice none 0 0, .slice none 0 0]).cells (j - i)).toList
          have HRR := Lib.hid hR'
          have HTT := Lib.hid (hT'.trans htk.out)
          have HGG := Lib.hid (grown_sets (Builtin.zeroCells (Value.agg #[.int .i64 0, .int .i64 0, .int .i64 0, .slice none 0 0, .slice none 0 0]).cells (j - i)).toList wr (i * 5) hgr.out)
          have HLI := hlen
          clear hR' hT' hrow htk hrest hgr hlen hal
          have hji : ¬ (j : Int) < (j : Int) := by omega
          go_wp2_with fail
          go_ret
          have hfin : kp p (vs.zip l) j = kp p (vs.zip l) l.length := by rw [HL.out.2.1]
          have hfs : (kp p (vs.zip l) j).map Prod.snd = l.filter fun x => !p x := by rw [hfin]; exact kp_snd (by rw [HL.out.1, HL.out.2.1])
          refine ⟨i, (kp p (vs.zip l) j).map Prod.fst, rfl, ⟨by rw [← HTT.out]; exact HRR.out.own HQ.out.1 (by omega) HQ.out.2.2, ?_, by rw [List.length_map, HLI.out], ?_, ?_⟩, HGG.out⟩
          · rw [← HTT.out]
            exact fun r hr => HRR.out.row r (List.mem_of_mem_take hr)
          · rw [← hfs, List.length_map, HLI.out]
          · intro k v x hv hx
            rw [← hfs] at hx
            obtain ⟨q, h1, h2⟩ := kp_mem hv hx
            exact (HOW.out.row q v x h1 h2).kept HOW.out.outer HGG.out

end Fact
end Go.Proofs.Ytgbpoeidpldmkaa
