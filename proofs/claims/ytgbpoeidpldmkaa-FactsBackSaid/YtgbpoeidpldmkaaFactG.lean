/-
  facts.without: a table without some facts, and what rests on them.
-/
import Derived.Test.YtgbpoeidpldmkaaFactF
import Derived.Test.YtgbpoeidpldmkaaDelF
import Derived.Test.YtgbpoeidpldmkaaSlfI
import Derived.Test.YtgbpoeidpldmkaaCont
namespace Go.Proofs.Ytgbpoeidpldmkaa
open Go.RowKit Base
set_option linter.unusedVariables false
set_option linter.unusedSimpArgs false
namespace Fact

theorem info_int : (Try.prog.info? 3).map (fun i => (i.zero, i.size, i.bytes)) = some (some (.int .i64 0), 1, 8) := by kernel_rfl
theorem eg_w1 : SlfI.Enters 25 := enters_of Try.func25 (by kernel_rfl) rfl
theorem eg_w2 : Enters 28 := enters_of Try.func28 (by kernel_rfl) rfl

set_option maxHeartbeats 1000000 in
theorem w1_any (w : World) (Bx : Nat) (a : Option Addr) (n c : Nat) (l : List Int) (hc : w.cell? ⟨Bx, 0, none⟩ = some (.slice a n c)) (hs : Sl w a n c (ints l)) (x : Int) :
    Calls Try.prog 25 #[.int .i64 x, .pointer (some ⟨Bx, 0, none⟩)] w fun e w' => e = .returned (.bool (decide (x ∈ l))) ∧ Below w.heap.size w w' := by
  have H := Lib.hid (Cont.contains_any w a n c l hs x)
  clear hs
  generalize hq : decide (x ∈ l) = q at *
  clear hq
  go_enter Try.func25, Try.ntmps25
  go_wp2_with fail
  with_reducible refine H.out.mono ?_
  rintro e w1 ⟨rfl, rfl⟩
  go_wp2_with fail
  go_ret
  exact ⟨rfl, Below.refl _ _⟩

set_option maxHeartbeats 1000000 in
theorem w2_any (w : World) (Bx : Nat) (a : Option Addr) (n c : Nat) (l : List Int) (hlt : Bx < w.heap.size) (hc : w.cell? ⟨Bx, 0, none⟩ = some (.slice a n c)) (hs : Sl w a n c (ints l)) (f : Fc) (a1 : Option Addr) (c1 : Nat) (a2 : Option Addr) (c2 : Nat) :
    Calls Try.prog 28 #[fagg f a1 c1 a2 c2, .pointer (some ⟨Bx, 0, none⟩)] w fun e w' => e = .returned (.bool (decide (f.id ∈ l))) ∧ Below w.heap.size w w' := by
  unfold fagg
  obtain ⟨U, hU⟩ : ∃ U, w.alloc (.cells #[.int .i64 f.id, .int .i64 f.kind, .int .i64 f.depth, .slice a1 f.lits.length c1, .slice a2 f.tags.length c2] 31) = U := ⟨_, rfl⟩
  have hb : Below w.heap.size w U := by rw [← hU]; exact (Below.refl _ _).alloc (Nat.le_refl _) _
  have u0 : U.cell? ⟨w.heap.size, 0, none⟩ = some (.int .i64 f.id) := by rw [← hU]; simp [go_sem]
  have hc1 := (hb.cell (p := ⟨Bx, 0, none⟩) hlt).trans hc
  have H := Lib.hid (Cont.contains_any U a n c l (hs.next hb) f.id)
  have HB := Lib.hid hb
  clear hs hc hb hlt
  generalize hq : decide (f.id ∈ l) = q at *
  clear hq
  go_enter Try.func28, Try.ntmps28
  go_wp2_with fail
  with_reducible refine H.out.mono ?_
  rintro e w1 ⟨rfl, rfl⟩
  go_wp2_with fail
  go_ret
  exact ⟨rfl, HB.out⟩

/-- A box of another type is written. -/
theorem own_setT {w : World} {B : Nat} {e : TypeId} {size : Nat} {v : Value} {n : Nat} {vs : List Value} (h : w.ownsRow B e size v n vs) {b o : Nat} {u : Value} {cs : Array Value} {t : TypeId} {fr : Nat × Nat} (hb : w.heap[b]? = some (.cells cs t fr)) (he : e ≠ t) : (w.setCell ⟨b, o, none⟩ u).ownsRow B e size v n vs := by
  refine ⟨h.1, ?_⟩
  rcases h.2 with hn | ⟨g, cap, cur, rfl, hg, hh, r⟩
  · exact .inl hn
  · have hgb : b ≠ g := fun e' => by
      subst e'
      rw [hh] at hb
      simp only [Option.some.injEq, Obj.cells.injEq] at hb
      exact he hb.2.1
    exact .inr ⟨g, cap, cur, rfl, hg, by simp [World.setCell, Array.getElem?_modify, hgb, hh], r⟩
theorem FOwn.setT {w : World} {B : Nat} {a : Option Addr} {n c : Nat} {vs : List (List Value)} {l : List Fc} (h : FOwn w B a n c vs l) {b o : Nat} {u : Value} {cs : Array Value} {fr : Nat × Nat} (hb : w.heap[b]? = some (.cells cs 24 fr)) : FOwn (w.setCell ⟨b, o, none⟩ u) B a n c vs l :=
  ⟨own_setT h.outer hb (by decide), h.five, h.vlen, h.len, fun i v f hv hf => by
    obtain ⟨a1, c1, a2, c2, rfl, h1, h2⟩ := h.row i v f hv hf
    exact ⟨a1, c1, a2, c2, rfl, own_setT h1 hb (by decide), own_setT h2 hb (by decide)⟩⟩
theorem box_grown {N : Nat} {cs : List Value} {w w' : World} (h : BoxN N cs w) {ob : Option Nat} (hg : w.grownBy w' ob) (hne : ∀ q, ob = some q → q ≠ N) : BoxN N cs w' := by
  have hblk := hg.block N h.lt (fun e => hne N e.symm rfl)
  refine ⟨Nat.lt_of_lt_of_le h.lt hg.size, fun j u hu => ?_, fun j => ?_⟩
  · exact (World.cell?_of_block (w := w) (a := ⟨N, j, none⟩) hblk).trans (h.at' j u hu)
  · exact (World.frozen?_of_block (w := w) (a := ⟨N, j, none⟩) hblk).trans (h.fz j)

theorem gids_len (gone : Fc → Bool) (l : List Fc) : (gids gone l).length ≤ l.length := by
  suffices ∀ (l : List Fc) (o : List Int), (l.foldl (step gone) o).length ≤ o.length + l.length by simpa [gids] using this l []
  intro l
  induction l with
  | nil => intro o; simp
  | cons x r ih =>
    intro o
    have h1 := ih (step gone o x)
    have h2 : (step gone o x).length ≤ o.length + 1 := by
      unfold step
      split
      · simp
      · omega
    rw [List.foldl_cons, List.length_cons]
    omega
theorem gids_take {gone : Fc → Bool} {l : List Fc} {k : Nat} (hk : k < l.length) : gids gone (l.take (k + 1)) = step gone (gids gone (l.take k)) l[k] := by
  rw [List.take_succ_eq_append_getElem hk, gids_snoc]

set_option maxRecDepth 8000 in
set_option maxHeartbeats 16000000 in
theorem without_any (w : World) (t : Tb) (a : Option Addr) (c : Nat) (vs : List (List Value)) (hs : SlF w a t.facts.length c vs t.facts) (hn : (t.facts.length + 1) * 72 ≤ 140737488355328) (hfit : Fit t.facts)
    (g : FuncId) (fs lb : Array Value) (p : Fc → Bool) (eg : Enters g) (hg : ∀ V, Below w.heap.size w V → ∀ (f : Fc) (a1 : Option Addr) (c1 : Nat) (a2 : Option Addr) (c2 : Nat), Calls Try.prog g (fs.push (fagg f a1 c1 a2 c2) ++ lb) V fun e w' => e = .returned (.bool (p f)) ∧ Below V.heap.size V w') :
    Calls Try.prog 17 #[tagg t a c, .func (.func g) fs lb] w fun e w' => ∃ a' c' vs' ai ci, e = .returned (.tuple #[tagg ⟨t.next, t.depth, rest t.facts (gids p t.facts)⟩ a' c', .slice ai (gids p t.facts).length ci]) ∧ FOwn w' w.heap.size a' (rest t.facts (gids p t.facts)).length c' vs' (rest t.facts (gids p t.facts)) ∧ w'.ownsRow w.heap.size 3 1 (.slice ai (gids p t.facts).length ci) (gids p t.facts).length (ints (gids p t.facts)) ∧ Below w.heap.size w w' := by
  have HCO := Lib.hid (fun (U : World) (hU : Below w.heap.size w U) => copied_any U t a c vs (hs.next hU) (by omega) hfit)
  unfold tagg at *
  obtain ⟨W1, hW1⟩ : ∃ U, w.alloc (.cells #[.int .i64 t.next, .int .i64 t.depth, .slice a t.facts.length c] 24) = U := ⟨_, rfl⟩
  obtain ⟨W2, hW2⟩ : ∃ U, W1.alloc (.cells #[.int .i64 0, .int .i64 0, .slice none 0 0] 24) = U := ⟨_, rfl⟩
  obtain ⟨W3, hW3⟩ : ∃ U, W2.alloc (.cells #[.slice none 0 0] 26) = U := ⟨_, rfl⟩
  have hb1 : Below w.heap.size w W1 := by rw [← hW1]; exact (Below.refl _ _).alloc (Nat.le_refl _) _
  have hb2 : Below W1.heap.size W1 W2 := by rw [← hW2]; exact (Below.refl _ _).alloc (Nat.le_refl _) _
  have hb3 : Below W2.heap.size W2 W3 := by rw [← hW3]; exact (Below.refl _ _).alloc (Nat.le_refl _) _
  have x1 : BoxN w.heap.size [.int .i64 t.next, .int .i64 t.depth, .slice a t.facts.length c] W1 := by
    have h := BoxN.new w #[.int .i64 t.next, .int .i64 t.depth, .slice a t.facts.length c] 24
    rw [hW1] at h
    exact h
  have x2 : BoxN W1.heap.size [.int .i64 0, .int .i64 0, .slice none 0 0] W2 := by
    have h := BoxN.new W1 #[.int .i64 0, .int .i64 0, .slice none 0 0] 24
    rw [hW2] at h
    exact h
  have x3 : BoxN W2.heap.size [.slice none 0 0] W3 := by
    have h := BoxN.new W2 #[.slice none 0 0] 26
    rw [hW3] at h
    exact h
  have x12 := x1.next hb2 x1.lt
  have x13 := x12.next hb3 x12.lt
  have r2 := x13.at' 2 _ rfl
  have hb12 := hb1.trans (hb2.mono hb1.size)
  have hb13 := hb12.trans (hb3.mono hb12.size)
  have HS := Lib.hid (hs.next hb12)
  have hcap := hs.sl.cap
  have hbig := hs.sl.big
  have HN := Lib.hid hn
  have HG := Lib.hid hg
  have HB := Lib.hid hb12
  have HB3 := Lib.hid hb3
  have HX3 := Lib.hid x3
  have HX2 := Lib.hid x2
  have HX12 := Lib.hid x12
  have HL1 := Lib.hid hb1.size
  have HL2 := Lib.hid x2.lt
  unfold Enters at eg
  clear hs hn hfit hg hb1 hb2 hb3 hb12 hb13 x1 x2 x3 x12 x13
  generalize hnn : t.facts.length = n at *
  have HNN := Lib.hid hnn
  clear hnn
  go_enter Try.func17, Try.ntmps17
  go_wp2_with fail
  go_loopw [14] (fun s wr => ∃ (k m : Nat) (ai : Option Addr) (ci : Nat), k ≤ n ∧ s = .int .i64 k ∧ Hid (Below W2.heap.size W2 wr) ∧ Hid (W3.heap.size ≤ wr.heap.size) ∧ Hid (BoxN W2.heap.size [.slice ai m ci] wr) ∧ Hid ((gids p (t.facts.take k)).length = m) ∧ Hid (wr.ownsRow W3.heap.size 3 1 (.slice ai m ci) m (ints (gids p (t.facts.take k))))) (fun s _ => n - (intOf s).toNat)
  case atStart => exact ⟨0, 0, none, 0, Nat.zero_le _, rfl, HB3.out, Nat.le_refl _, HX3.out, rfl, World.ownsRow_nil _ _ _ _⟩
  case round =>
    obtain ⟨k, m, ai, ci, hk, rfl, hbq, hzq, hxq, hm, hoq⟩ := hrel
    by_cases hlt : k < n
    · obtain ⟨b, o, a1, c1, a2, c2, hx, hae, hbs, ⟨d0, d1, d2, d3, d4⟩, hs1, hs2, _⟩ := (HS.out.next hbq.out).at hlt
      subst hae
      have HT := Lib.hid (gids_take (gone := p) hx)
      generalize t.facts[k] = y at *
      have hmk : m ≤ k := by
        have h := gids_len p (t.facts.take k)
        rw [List.length_take] at h
        have := hm.out
        omega
      have HM8 : Hid ((m + 1) * 8 ≤ 140737488355328) := by show _ ≤ _; have := HN.out; omega
      generalize hI : gids p (t.facts.take k) = I at *
      clear hI
      obtain ⟨W5, hW5⟩ : ∃ U, wr.alloc (.cells #[.int .i64 y.id, .int .i64 y.kind, .int .i64 y.depth, .slice a1 y.lits.length c1, .slice a2 y.tags.length c2] 31) = U := ⟨_, rfl⟩
      have hb5 : Below wr.heap.size wr W5 := by rw [← hW5]; exact (Below.refl _ _).alloc (Nat.le_refl _) _
      have x5 := BoxN.new wr #[.int .i64 y.id, .int .i64 y.kind, .int .i64 y.depth, .slice a1 y.lits.length c1, .slice a2 y.tags.length c2] 31
      rw [hW5] at x5
      have hx35 := hxq.out.next hb5 hxq.out.lt
      have ho5 := own_next hoq.out hb5
      have CF := SlfI.containsFunc W5 a2 y.tags.length c2 (ints y.tags) 25 #[] #[.pointer (some ⟨W2.heap.size, 0, none⟩)] (y.tags.map fun i => decide (i ∈ I)) (hs2.next hb5) (by rw [List.length_map]) eg_w1 (by
        intro X hX j z q hy hq
        obtain ⟨hj, rfl⟩ := Base.ints_at hy
        rw [List.getElem?_map, List.getElem?_eq_getElem hj] at hq
        simp only [Option.map_some, Option.some.injEq] at hq
        subst hq
        exact w1_any X W2.heap.size ai m ci I ((hx35.next hX hx35.lt).at' 0 _ rfl) (own_slI (own_next ho5 hX)) y.tags[j])
      have hall : ((y.tags.map fun i => decide (i ∈ I)).any _root_.id) = y.tags.any fun i => decide (i ∈ I) := by
        rw [List.any_map]
        rfl
      rw [hall] at CF
      have HCF := Lib.hid CF
      have z4 := x5.at' 4 _ rfl
      have HST : Hid (step p I y = if ((y.tags.any fun i => decide (i ∈ I)) || p y) = true then I ++ [y.id] else I) := rfl
      have HGY := Lib.hid (fun (V : World) (hV : Below W5.heap.size W5 V) => HG.out V (HB.out.trans ((hbq.out.trans (hb5.mono hbq.out.size)).trans (hV.mono (Nat.le_trans hbq.out.size hb5.size)) |>.mono HB.out.size)) y a1 c1 a2 c2)
      have HX5 := Lib.hid x5
      have HX35 := Lib.hid hx35
      have HO5 := Lib.hid ho5
      have HBQ := Lib.hid (hbq.out.trans (hb5.mono hbq.out.size))
      have HZQ := Lib.hid (Nat.le_trans hzq.out hb5.size)
      clear CF hall x5 hx35 ho5 hb5 hs1 hs2 hbq hzq hxq hoq
      unfold fagg at HGY
      generalize (y.tags.any fun i => decide (i ∈ I)) = q1 at *
      generalize p y = q2 at *
      cases q1
      · cases q2
        · have HR : Hid (step p I y = I) := by show _ = _; rw [HST.out]; rfl
          go_wp2_with fail
          with_reducible refine HCF.out.mono ?_
          rintro e w6 ⟨rfl, hb6⟩
          have HB6 := Lib.hid hb6
          have x6 := HX5.out.next hb6 HX5.out.lt
          have HG6 := Lib.hid (HGY.out w6 hb6)
          have y0 := x6.at' 0 _ rfl
          have y1 := x6.at' 1 _ rfl
          have y2 := x6.at' 2 _ rfl
          have y3 := x6.at' 3 _ rfl
          have y4 := x6.at' 4 _ rfl
          clear hb6 x6 d0 d1 d2 d3 d4 z4 hW5
          go_wp2_with fail
          with_reducible refine HG6.out.mono ?_
          rintro e w7 ⟨rfl, hb7⟩
          have HB7 := Lib.hid (HB6.out.trans (hb7.mono HB6.out.size))
          clear hb7 y0 y1 y2 y3 y4
          go_wp2_with fail
          go_roundw
          case rel => exact ⟨k + 1, m, ai, ci, by omega, by go_num, HBQ.out.trans (HB7.out.mono HBQ.out.size), Nat.le_trans HZQ.out HB7.out.size, HX35.out.next HB7.out HX35.out.lt, by rw [HT.out, HR.out]; exact hm, by rw [HT.out, HR.out]; exact own_next HO5.out HB7.out⟩
          case measure => simp [intOf]; omega
        · have HR : Hid (step p I y = I ++ [y.id]) := by show _ = _; rw [HST.out]; rfl
          go_wp2_with fail
          with_reducible refine HCF.out.mono ?_
          rintro e w6 ⟨rfl, hb6⟩
          have HB6 := Lib.hid hb6
          have x6 := HX5.out.next hb6 HX5.out.lt
          have HG6 := Lib.hid (HGY.out w6 hb6)
          have y0 := x6.at' 0 _ rfl
          have y1 := x6.at' 1 _ rfl
          have y2 := x6.at' 2 _ rfl
          have y3 := x6.at' 3 _ rfl
          have y4 := x6.at' 4 _ rfl
          clear hb6 x6 d0 d1 d2 d3 d4 z4 hW5
          go_wp2_with fail
          with_reducible refine HG6.out.mono ?_
          rintro e w7 ⟨rfl, hb7⟩
          have HB7 := Lib.hid (HB6.out.trans (hb7.mono HB6.out.size))
          clear hb7 y0 y1 y2 y3 y4
          have HW7 := Lib.hid (HBQ.out.trans (HB7.out.mono HBQ.out.size))
          have hxc := HX35.out.next HB7.out HX35.out.lt
          have hxy := HX5.out.next HB7.out HX5.out.lt
          have v0 := hxc.at' 0 _ rfl
          have v1 := hxy.at' 0 _ rfl
          have HXC := Lib.hid hxc
          have HOC := Lib.hid (own_next HO5.out HB7.out)
          have HZC := Lib.hid (Nat.le_trans HZQ.out HB7.out.size)
          clear hxc hxy
          go_wp2_with ((with_reducible refine wpL_push W3.heap.size w7 (.int .i64 y.id) (.slice ai m ci) m (ints I) info_int Try.underlying26 rfl ?_ ?_ ?_ rfl HOC.out HZC.out HM8.out ?_ (Below.refl _ _) ?_); rfl; rfl; rfl; (have := HM8.out; omega); (intro a8 c8 w8 hown8 hb8 hz8; have x8 := HXC.out.next hb8 HX3.out.lt; have n8 := x8.at' 0 _ rfl; have f8 := x8.fz 0; have HX8 := Lib.hid x8; have HO8 := Lib.hid hown8; have HB8 := Lib.hid hb8; have HZ8 := Lib.hid hz8; clear hown8 hb8 x8 hz8))
          have HX9 := Lib.hid (HX8.out.set 0 (.slice a8 (m + 1) c8))
          have HO9 := Lib.hid (ownsRow_setCell_below (a := ⟨W2.heap.size, 0, none⟩) HO8.out HX3.out.lt (.slice a8 (m + 1) c8))
          have HB9 : Hid (Below W2.heap.size W2 (w8.setCell ⟨W2.heap.size, 0, none⟩ (.slice a8 (m + 1) c8))) := (HW7.out.trans (HB8.out.mono HB3.out.size)).setCell (p := ⟨W2.heap.size, 0, none⟩) (Nat.le_refl _) _
          have HZ9 : Hid (W3.heap.size ≤ (w8.setCell ⟨W2.heap.size, 0, none⟩ (.slice a8 (m + 1) c8)).heap.size) := by
            show _ ≤ _
            simp only [World.setCell, Array.size_modify]
            exact Nat.le_trans HZC.out HB8.out.size
          clear n8 f8 v0 v1
          go_wp2_with fail
          go_roundw
          case rel =>
            refine ⟨k + 1, m + 1, a8, c8, by omega, by go_num, HB9.out, HZ9.out, HX9.out, ?_, ?_⟩
            · show _ = _
              rw [HT.out, HR.out, List.length_append, hm.out]
              rfl
            · show World.ownsRow _ _ _ _ _ _ _
              rw [HT.out, HR.out]
              have e : ints (I ++ [y.id]) = ints I ++ [.int .i64 y.id] := by simp [ints]
              rw [e]
              exact HO9.out
          case measure => simp [intOf]; omega
      · have HR : Hid (step p I y = I ++ [y.id]) := by show _ = _; rw [HST.out]; rfl
        go_wp2_with fail
        with_reducible refine HCF.out.mono ?_
        rintro e w6 ⟨rfl, hb6⟩
        have HB6 := Lib.hid hb6
        clear hb6 d0 d1 d2 d3 d4 z4 hW5
        have HW7 := Lib.hid (HBQ.out.trans (HB6.out.mono HBQ.out.size))
        have hxc := HX35.out.next HB6.out HX35.out.lt
        have hxy := HX5.out.next HB6.out HX5.out.lt
        have v0 := hxc.at' 0 _ rfl
        have v1 := hxy.at' 0 _ rfl
        have HXC := Lib.hid hxc
        have HOC := Lib.hid (own_next HO5.out HB6.out)
        have HZC := Lib.hid (Nat.le_trans HZQ.out HB6.out.size)
        clear hxc hxy
        go_wp2_with ((with_reducible refine wpL_push W3.heap.size w6 (.int .i64 y.id) (.slice ai m ci) m (ints I) info_int Try.underlying26 rfl ?_ ?_ ?_ rfl HOC.out HZC.out HM8.out ?_ (Below.refl _ _) ?_); rfl; rfl; rfl; (have := HM8.out; omega); (intro a8 c8 w8 hown8 hb8 hz8; have x8 := HXC.out.next hb8 HX3.out.lt; have n8 := x8.at' 0 _ rfl; have f8 := x8.fz 0; have HX8 := Lib.hid x8; have HO8 := Lib.hid hown8; have HB8 := Lib.hid hb8; have HZ8 := Lib.hid hz8; clear hown8 hb8 x8 hz8))
        have HX9 := Lib.hid (HX8.out.set 0 (.slice a8 (m + 1) c8))
        have HO9 := Lib.hid (ownsRow_setCell_below (a := ⟨W2.heap.size, 0, none⟩) HO8.out HX3.out.lt (.slice a8 (m + 1) c8))
        have HB9 : Hid (Below W2.heap.size W2 (w8.setCell ⟨W2.heap.size, 0, none⟩ (.slice a8 (m + 1) c8))) := (HW7.out.trans (HB8.out.mono HB3.out.size)).setCell (p := ⟨W2.heap.size, 0, none⟩) (Nat.le_refl _) _
        have HZ9 : Hid (W3.heap.size ≤ (w8.setCell ⟨W2.heap.size, 0, none⟩ (.slice a8 (m + 1) c8)).heap.size) := by
          show _ ≤ _
          simp only [World.setCell, Array.size_modify]
          exact Nat.le_trans HZC.out HB8.out.size
        clear n8 f8 v0 v1
        go_wp2_with fail
        go_roundw
        case rel =>
          refine ⟨k + 1, m + 1, a8, c8, by omega, by go_num, HB9.out, HZ9.out, HX9.out, ?_, ?_⟩
          · show _ = _
            rw [HT.out, HR.out, List.length_append, hm.out]
            rfl
          · show World.ownsRow _ _ _ _ _ _ _
            rw [HT.out, HR.out]
            have e : ints (I ++ [y.id]) = ints I ++ [.int .i64 y.id] := by simp [ints]
            rw [e]
            exact HO9.out
        case measure => simp [intOf]; omega
    · have hke : k = n := by omega
      subst hke
      have HL : Hid (t.facts.take k = t.facts) := List.take_of_length_le (Nat.le_of_eq HNN.out)
      rw [HL.out] at hm hoq
      generalize wr = wo at *
      have HCO1 := Lib.hid (HCO.out wo (HB.out.trans (hbq.out.mono HB.out.size)))
      have xt := HX12.out.next hbq.out (Nat.lt_of_lt_of_le (Nat.lt_of_le_of_lt HL1.out HL2.out) (Nat.le_refl _))
      have q0 := xt.at' 0 _ rfl
      have q1 := xt.at' 1 _ rfl
      have q2 := xt.at' 2 _ rfl
      clear xt hlt
      generalize hI : gids p t.facts = I at *
      go_wp2_with fail
      with_reducible refine HCO1.out.mono ?_
      rintro e w6 ⟨a6, c6, vs6, rfl, hk6, hb6⟩
      obtain ⟨W7, hW7⟩ : ∃ U, w6.alloc (.cells #[.int .i64 t.next, .int .i64 t.depth, .slice a6 k c6] 24) = U := ⟨_, rfl⟩
      have hb7 : Below w6.heap.size w6 W7 := by rw [← hW7]; exact (Below.refl _ _).alloc (Nat.le_refl _) _
      have x7 := BoxN.new w6 #[.int .i64 t.next, .int .i64 t.depth, .slice a6 k c6] 24
      rw [hW7] at x7
      have hb67 := hb6.trans (hb7.mono hb6.size)
      have hk7 := hk6.next hb7
      have hx7 := hxq.out.next hb67 hxq.out.lt
      have ho7 := own_next hoq.out hb67
      have hne : ∀ q, (Value.slice a6 k c6).ownBlock = some q → wo.heap.size ≤ q := fun q hq => (hk7.outer.lt q hq).1
      have DK := delF_own W7 wo.heap.size a6 k c6 vs6 t.facts hk7 hb67.size 28 #[.pointer (some ⟨W2.heap.size, 0, none⟩)] (fun x => decide (x.id ∈ I)) eg_w2 (by
        intro V hV i f a1 c1 a2 c2 _ _ _
        have hbV : Below wo.heap.size wo V := hb67.grown hV hb67.size hne
        have hxV := hxq.out.next hbV hxq.out.lt
        exact w2_any V W2.heap.size ai m ci I hxV.lt (hxV.at' 0 _ rfl) (own_slI (own_next hoq.out hbV)) f a1 c1 a2 c2)
      have HDK := Lib.hid DK
      have HNE := Lib.hid hne
      have HB67 := Lib.hid hb67
      have HX7 := Lib.hid x7
      have HK7 := Lib.hid hk7
      have u2 := x7.at' 2 _ rfl
      have f7 := x7.fz 2
      have HZ6 := Lib.hid hb6.size
      have HO7 := Lib.hid ho7
      have HLT6 := Lib.hid (fun q (hq : (Value.slice a6 k c6).ownBlock = some q) => (hk6.outer.lt q hq).2)
      have HT7 : Hid (W7.heap[w6.heap.size]? = some (.cells #[.int .i64 t.next, .int .i64 t.depth, .slice a6 k c6] 24 (0, 0))) := by show _ = _; rw [← hW7]; show (w6.heap.push _)[w6.heap.size]? = _; simp
      have HWW := Lib.hid hbq.out
      have HXQ := Lib.hid hxq.out
      have HXR := Lib.hid (HX2.out.next hbq.out HX2.out.lt)
      have HOQ := Lib.hid hoq.out
      have HSO := Lib.hid hzq.out
      clear DK hb6 hk6 hb7 x7 hb67 hk7 hx7 ho7 hne q0 q1 q2
      go_wp2_with fail
      with_reducible refine HDK.out.mono ?_
      rintro e w8 ⟨n8, vs8, rfl, hk8, hg8⟩
      have hbo8 : Below wo.heap.size wo w8 := HB67.out.grown hg8 HB67.out.size HNE.out
      have x8 := box_grown HX7.out hg8 (fun q hq => Nat.ne_of_lt (HLT6.out q hq))
      have h8 : w8.heap[w6.heap.size]? = some (.cells #[.int .i64 t.next, .int .i64 t.depth, .slice a6 k c6] 24 (0, 0)) := (hg8.block w6.heap.size (Array.getElem?_eq_some_iff.1 HT7.out).1 (fun e => Nat.ne_of_lt (HLT6.out _ e.symm) rfl)).trans HT7.out
      have m2 := x8.at' 2 _ rfl
      have g2 := x8.fz 2
      obtain ⟨w9, hw9⟩ : ∃ U, w8.setCell ⟨w6.heap.size, 2, none⟩ (.slice a6 n8 c6) = U := ⟨_, rfl⟩
      have x9 := x8.set 2 (.slice a6 n8 c6)
      rw [hw9] at x9
      have hn62 : w6.heap.size ≠ W2.heap.size := by
        have h1 := HX3.out.lt
        have h2 := HSO.out
        have h3 := HZ6.out
        omega
      have hn61 : w6.heap.size ≠ W1.heap.size := by
        have h0 := HL2.out
        have h1 := HX3.out.lt
        have h2 := HSO.out
        have h3 := HZ6.out
        omega
      have y9 := (HXQ.out.next hbo8 HXQ.out.lt).other (a := ⟨w6.heap.size, 2, none⟩) hn62 (.slice a6 n8 c6)
      rw [hw9] at y9
      have r9 := (HXR.out.next hbo8 HXR.out.lt).other (a := ⟨w6.heap.size, 2, none⟩) hn61 (.slice a6 n8 c6)
      rw [hw9] at r9
      have k9 := hk8.setT (o := 2) (u := .slice a6 n8 c6) h8
      rw [hw9] at k9
      have o9 := own_setT (o := 2) (u := .slice a6 n8 c6) (own_next HOQ.out hbo8) h8 (by decide)
      rw [hw9] at o9
      have b9 : Below wo.heap.size wo w9 := by rw [← hw9]; exact hbo8.setCell (p := ⟨w6.heap.size, 2, none⟩) HZ6.out _
      have HK9 := Lib.hid k9
      have HO9 := Lib.hid o9
      have HB9 := Lib.hid (HWW.out.trans (b9.mono HWW.out.size))
      have p0 := x9.at' 0 _ rfl
      have p1 := x9.at' 1 _ rfl
      have p2 := x9.at' 2 _ rfl
      have i0 := y9.at' 0 _ rfl
      have s0 := r9.at' 0 _ rfl
      have s1 := r9.at' 1 _ rfl
      have s2 := r9.at' 2 _ rfl
      have f0 := r9.fz 0
      have f1 := r9.fz 1
      have f2 := r9.fz 2
      have hn12 : W1.heap.size ≠ W2.heap.size := Nat.ne_of_lt HL2.out
      have i0s := (((y9.other (a := ⟨W1.heap.size, 0, none⟩) hn12 (.int .i64 t.next)).other (a := ⟨W1.heap.size, 1, none⟩) hn12 (.int .i64 t.depth)).other (a := ⟨W1.heap.size, 2, none⟩) hn12 (.slice a6 n8 c6)).at' 0 _ rfl
      have HLN := Lib.hid hk8.len
      have HLW := Lib.hid (Nat.lt_of_lt_of_le HL2.out HB3.out.size)
      clear hk8 hg8 hbo8 x8 h8 x9 y9 r9 k9 o9 b9 hn62 hn61 u2 f7 hbq hzq hxq hoq
      go_upto_region 11 with fail
      go_region
      all_goals go_wp2_with fail
      all_goals refine bodyPost_ret (v := .tuple #[.agg #[.int .i64 t.next, .int .i64 t.depth, .slice a6 n8 c6], .slice ai m ci]) (by simp [results, Try.results17, go_sem, s0, s1, s2]) rfl ?_
      all_goals
        have hm := hm.out
        subst hm
        have hln : (rest t.facts I).length = n8 := HLN.out
        have hlo : W1.heap.size < wo.heap.size := Nat.lt_of_lt_of_le HLW.out HSO.out
        have hK := ((HK9.out.set (p := ⟨W1.heap.size, 0, none⟩) hlo (.int .i64 t.next)).set (p := ⟨W1.heap.size, 1, none⟩) hlo (.int .i64 t.depth)).set (p := ⟨W1.heap.size, 2, none⟩) hlo (.slice a6 n8 c6)
        have hO := ownsRow_setCell_below (a := ⟨W1.heap.size, 2, none⟩) (ownsRow_setCell_below (a := ⟨W1.heap.size, 1, none⟩) (ownsRow_setCell_below (a := ⟨W1.heap.size, 0, none⟩) HO9.out HLW.out (.int .i64 t.next)) HLW.out (.int .i64 t.depth)) HLW.out (.slice a6 n8 c6)
        have hBB := (((HB.out.trans (HB9.out.mono HB.out.size)).setCell (p := ⟨W1.heap.size, 0, none⟩) HL1.out (.int .i64 t.next)).setCell (p := ⟨W1.heap.size, 1, none⟩) HL1.out (.int .i64 t.depth)).setCell (p := ⟨W1.heap.size, 2, none⟩) HL1.out (.slice a6 n8 c6)
        have hw3 : w.heap.size ≤ W3.heap.size := Nat.le_of_lt (Nat.lt_of_le_of_lt HL1.out HLW.out)
        subst hln
        rw [hI]
        exact ⟨a6, c6, vs8, ai, ci, rfl, (hK.mono (Nat.le_trans hw3 HSO.out)).next (Below.refl _ _).drew, own_next (own_mono hO hw3) (Below.refl _ _).drew, hBB.drew⟩
end Fact
end Go.Proofs.Ytgbpoeidpldmkaa
