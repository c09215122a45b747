/-
  keep.copied: what is kept, in memory of its own.
-/
import Derived.Test.YtdpmfcfelncbeaaKeptS
import Derived.Test.YtdpmfcfelncbeaaHeldMore
import Derived.Test.YtdpmfcfelncbeaaBoxN
import Derived.Test.YtdpmfcfelncbeaaCloneI
import Derived.Deep.DeepCutAuto
import Derived.BigQuiet
namespace Go.Proofs.Ytdpmfcfelncbeaa
open Go.RowKit Base
set_option linter.unusedVariables false
set_option linter.unusedSimpArgs false
namespace Keep

theorem info_kept : (Try.prog.info? 34).map (fun i => (i.zero, i.size, i.bytes)) = some (some (.agg #[.slice none 0 0, .slice none 0 0]), 2, 48) := by kernel_rfl
theorem info_ints : (Try.prog.info? 24).map (fun i => (i.zero, i.size, i.bytes)) = some (some (.slice none 0 0), 1, 24) := by kernel_rfl

/-- An element of one's own. -/
def RowOwn (w : World) (B : Nat) (v : List Value) (k : Kp) : Prop := ∃ a1 c1 vals a2 c2, v = [.slice a1 k.1.length c1, .slice a2 k.2.length c2] ∧ Own2 w B 24 3 (.slice a1 k.1.length c1) k.1.length vals k.1 ∧ w.ownsRow B 3 1 (.slice a2 k.2.length c2) k.2.length (ints k.2)

/-- A slice of Kept in memory of one's own, with all that it holds. -/
structure KOwn (w : World) (B : Nat) (a : Option Addr) (n c : Nat) (vs : List (List Value)) (l : List Kp) : Prop where
  outer : w.ownsRow B 34 2 (.slice a n c) n vs.flatten
  two : ∀ r ∈ vs, r.length = 2
  vlen : vs.length = n
  len : l.length = n
  row : ∀ (i : Nat) (v : List Value) (k : Kp), vs[i]? = some v → l[i]? = some k → RowOwn w B v k

theorem own2_sl2 {w : World} {B : Nat} {e1 e0 : TypeId} {a : Option Addr} {n c : Nat} {vals : List Value} {xss : List (List Int)} (h : Own2 w B e1 e0 (.slice a n c) n vals xss) : Sl2 w a n c vals xss := by
  obtain ⟨a', c', hv, hs⟩ := h.sl2
  simp only [Value.slice.injEq, true_and] at hv
  obtain ⟨rfl, rfl⟩ := hv
  exact hs
theorem own_slI {w : World} {B : Nat} {e : TypeId} {a : Option Addr} {n c : Nat} {vs : List Value} (h : w.ownsRow B e 1 (.slice a n c) n vs) : Sl w a n c vs := by
  obtain ⟨a', c', hv, hs⟩ := own_sl h
  simp only [Value.slice.injEq, true_and] at hv
  obtain ⟨rfl, rfl⟩ := hv
  exact hs

theorem RowOwn.inn {w : World} {B : Nat} {v : List Value} {k : Kp} (h : RowOwn w B v k) : KeptIn w v k := by
  obtain ⟨a1, c1, vals, a2, c2, rfl, h1, h2⟩ := h
  exact ⟨a1, c1, vals, a2, c2, rfl, own2_sl2 h1, own_slI h2⟩
theorem own2_mono {w : World} {B B' : Nat} {e1 e0 : TypeId} {v : Value} {n : Nat} {vals : List Value} {xss : List (List Int)} (h : Own2 w B e1 e0 v n vals xss) (hB : B' ≤ B) : Own2 w B' e1 e0 v n vals xss :=
  ⟨own_mono h.outer hB, h.len, fun i x xs hx hxs => by
    obtain ⟨a, c, rfl, ho⟩ := h.row i x xs hx hxs
    exact ⟨a, c, rfl, own_mono ho hB⟩⟩
theorem RowOwn.next {w w' : World} {B : Nat} {v : List Value} {k : Kp} (h : RowOwn w B v k) (hb : Below w.heap.size w w') : RowOwn w' B v k := by
  obtain ⟨a1, c1, vals, a2, c2, rfl, h1, h2⟩ := h
  exact ⟨a1, c1, vals, a2, c2, rfl, h1.next hb, own_next h2 hb⟩
theorem RowOwn.mono {w : World} {B B' : Nat} {v : List Value} {k : Kp} (h : RowOwn w B v k) (hB : B' ≤ B) : RowOwn w B' v k := by
  obtain ⟨a1, c1, vals, a2, c2, rfl, h1, h2⟩ := h
  exact ⟨a1, c1, vals, a2, c2, rfl, own2_mono h1 hB, own_mono h2 hB⟩
theorem RowOwn.holds {w w' : World} {B N : Nat} {v : List Value} {k : Kp} (h : RowOwn w B v k) (hk : Holds N w w') (hN : N ≤ B) : RowOwn w' B v k := by
  obtain ⟨a1, c1, vals, a2, c2, rfl, h1, h2⟩ := h
  exact ⟨a1, c1, vals, a2, c2, rfl, ⟨hk.own h1.outer hN, h1.len, fun i x xs hx hxs => by
    obtain ⟨a, c, rfl, ho⟩ := h1.row i x xs hx hxs
    exact ⟨a, c, rfl, hk.own ho hN⟩⟩, hk.own h2 hN⟩
theorem RowOwn.kept {w w1 : World} {B B2 : Nat} {v : List Value} {k : Kp} (h : RowOwn w B v k) {u : Value} {n : Nat} {xs : List Value} (ho : w.ownsRow B2 34 2 u n xs) (hg : w.grownBy w1 u.ownBlock) : RowOwn w1 B v k := by
  obtain ⟨a1, c1, vals, a2, c2, rfl, h1, h2⟩ := h
  refine ⟨a1, c1, vals, a2, c2, rfl, ⟨h1.outer.kept hg (own_apart h1.outer ho (by decide)), h1.len, fun i x xs hx hxs => ?_⟩, h2.kept hg (own_apart h2 ho (by decide))⟩
  obtain ⟨a, c, rfl, hr⟩ := h1.row i x xs hx hxs
  exact ⟨a, c, rfl, hr.kept hg (own_apart hr ho (by decide))⟩

theorem KOwn.slK {w : World} {B : Nat} {a : Option Addr} {n c : Nat} {vs : List (List Value)} {l : List Kp} (h : KOwn w B a n c vs l) : SlK w a n c vs l := by
  obtain ⟨a', c', hv, hs⟩ := own_slT (by decide) h.two h.vlen h.outer
  simp only [Value.slice.injEq, true_and] at hv
  obtain ⟨rfl, rfl⟩ := hv
  exact ⟨hs, h.len, fun i v k hv hk => (h.row i v k hv hk).inn⟩
theorem KOwn.nil (w : World) (B : Nat) : KOwn w B none 0 0 [] [] := ⟨World.ownsRow_nil _ _ _ _, by simp, rfl, rfl, fun i v k h => by simp at h⟩
theorem KOwn.next {w w' : World} {B : Nat} {a : Option Addr} {n c : Nat} {vs : List (List Value)} {l : List Kp} (h : KOwn w B a n c vs l) (hb : Below w.heap.size w w') : KOwn w' B a n c vs l :=
  ⟨own_next h.outer hb, h.two, h.vlen, h.len, fun i v k hv hk => (h.row i v k hv hk).next hb⟩
theorem KOwn.mono {w : World} {B B' : Nat} {a : Option Addr} {n c : Nat} {vs : List (List Value)} {l : List Kp} (h : KOwn w B a n c vs l) (hB : B' ≤ B) : KOwn w B' a n c vs l :=
  ⟨own_mono h.outer hB, h.two, h.vlen, h.len, fun i v k hv hk => (h.row i v k hv hk).mono hB⟩
theorem KOwn.holds {w w' : World} {B N : Nat} {a : Option Addr} {n c : Nat} {vs : List (List Value)} {l : List Kp} (h : KOwn w B a n c vs l) (hk : Holds N w w') (hN : N ≤ B) : KOwn w' B a n c vs l :=
  ⟨hk.own h.outer hN, h.two, h.vlen, h.len, fun i v k hv hk' => (h.row i v k hv hk').holds hk hN⟩

theorem KOwn.push {w w1 : World} {B : Nat} {a : Option Addr} {n c : Nat} {vs : List (List Value)} {l : List Kp} (h : KOwn w B a n c vs l) {v : List Value} {k : Kp} (hv : RowOwn w B v k) {a' : Option Addr} {c' : Nat} (hown : w1.ownsRow B 34 2 (.slice a' (n + 1) c') (n + 1) (vs ++ [v]).flatten) (hg : w.grownBy w1 (.slice a n c : Value).ownBlock) : KOwn w1 B a' (n + 1) c' (vs ++ [v]) (l ++ [k]) := by
  have h2 : v.length = 2 := by obtain ⟨_, _, _, _, _, rfl, _⟩ := hv; rfl
  refine ⟨hown, fun r hr => ?_, by rw [List.length_append, h.vlen]; rfl, by rw [List.length_append, h.len]; rfl, fun i u y hu hy => ?_⟩
  · rcases List.mem_append.1 hr with hr | hr
    · exact h.two r hr
    · rw [List.mem_singleton] at hr; rw [hr]; exact h2
  · by_cases hin : i < n
    · rw [List.getElem?_append_left (by rw [h.vlen]; exact hin)] at hu
      rw [List.getElem?_append_left (by rw [h.len]; exact hin)] at hy
      exact (h.row i u y hu hy).kept h.outer hg
    · rw [List.getElem?_append_right (by rw [h.vlen]; omega)] at hu
      rw [List.getElem?_append_right (by rw [h.len]; omega)] at hy
      have e : i - vs.length = 0 := by
        have := (List.getElem?_eq_some_iff.1 hu).1
        simpa using this
      rw [e] at hu
      rw [h.len, ← h.vlen, e] at hy
      simp only [List.getElem?_cons_zero, Option.some.injEq] at hu hy
      subst hu; subst hy
      exact hv.kept h.outer hg

/-- append of one struct of k cells, the block that it grew in told. -/
theorem wpL_pushK {P : Program} {w : World} {ops : Array Oper} {rest : List Oper} {dst : Option Tmp} {ty : TypeId} {pos : String} {af : Array Edge} {a : Act} {Q : Exit → Act → World → Prop}
    {s x : Operand} {t e : TypeId} {z : Value} {k bytes : Nat} (hk : 0 < k) (B : Nat) (v : Value) (n : Nat) (vs : List (List Value)) (ad : Addr) (c : Nat) (u : List Value)
    (hinfo : (P.info? e).map (fun i => (i.zero, i.size, i.bytes)) = some (some z, k, bytes)) (ht : P.underlying t = some (.slice e)) (hzs : z.cells.size = k)
    (hs : a.eval s = v) (hx : a.eval x = .slice (some ad) 1 c) (hu : ∀ y ∈ u, y.oneCell' = true) (hul : u.length = k)
    (hown : w.ownsRow B e k v n vs.flatten) (hc : ∀ (j : Nat) (y : Value), u[j]? = some y → w.cell? (ad.add j) = some y) (hB : B ≤ w.heap.size) (hn : (n + 1) * bytes ≤ 140737488355328) (hn' : n + 1 ≤ 9223372036854775807)
    (hK : ∀ a' c' w1, w1.ownsRow B e k (.slice a' (n + 1) c') (n + 1) (vs ++ [u]).flatten → w.grownBy w1 v.ownBlock → wpList P ops Q rest (a.put dst (.slice a' (n + 1) c')) w1) :
    wpList P ops Q (⟨dst, .call { callee := .builtin .append, args := #[s, x], argTypes := #[t, t] }, ty, pos, af, none⟩ :: rest) a w := by
  obtain ⟨i, hi, hz0, hz1, hz2⟩ := info_parts hinfo
  refine wpList_append_own _ rfl s x t rfl B e i z k bytes ht hi hz0 hz1 hz2 hzs hk v n vs.flatten hs hown ad 1 c u hx (by omega) hc hu
    (by unfold maxLen; omega) hn hB ?_
  intro v' w1 hown' hgrow _
  obtain ⟨g, cap, rfl⟩ : ∃ g cap, v' = .slice (some ⟨g, 0, none⟩) (n + 1) cap := by
    rcases hown'.2 with ⟨_, h0⟩ | ⟨g, cap, _, rfl, _⟩
    · omega
    · exact ⟨g, cap, rfl⟩
  exact hK _ _ w1 (by rw [List.flatten_append]; simpa using hown') hgrow

/-- All that is kept can be made anew. -/
structure Fit1 (k : Kp) : Prop where
  rows : k.1.length * 24 ≤ 140737488355328
  tags : k.2.length * 8 ≤ 140737488355328
  each : ∀ x ∈ k.1, x.length * 8 ≤ 140737488355328

set_option maxRecDepth 8000 in
set_option maxHeartbeats 16000000 in
theorem copied_any (w : World) (a : Option Addr) (n c : Nat) (vs : List (List Value)) (l : List Kp) (hsl : SlK w a n c vs l) (hn : n * 48 ≤ 140737488355328) (hfit : ∀ k ∈ l, Fit1 k) :
    Calls Try.prog 24 #[.slice a n c] w fun e w' => ∃ a' c' vs', e = .returned (.slice a' n c') ∧ KOwn w' w.heap.size a' n c' vs' l ∧ Below w.heap.size w w' := by
  have hcap := hsl.sl.cap
  have hbig := hsl.sl.big
  have HS := Lib.hid hsl
  have HN := Lib.hid hn
  have HF := Lib.hid hfit
  clear hsl hn hfit
  go_enter Try.func24, Try.ntmps24
  go_wp2_with fail
  go_loopw [3, 11] (fun s i wr => ∃ (k : Nat) (a' : Option Addr) (c' : Nat) (vs' : List (List Value)), k ≤ n ∧ i = .int .i64 k ∧ s = .slice a' k c' ∧ Hid (KOwn wr w.heap.size a' k c' vs' (l.take k)) ∧ Hid (Below w.heap.size w wr)) (fun _ i _ => n - (intOf i).toNat)
  case atStart => exact ⟨0, none, 0, [], Nat.zero_le _, rfl, rfl, KOwn.nil _ _, Below.refl _ _⟩
  case round =>
    obtain ⟨k, a', c', vs', hk, rfl, rfl, hK, hB⟩ := hrel
    by_cases hlt : k < n
    · obtain ⟨b, o, a1, c1, vals, a2, c2, hx, rfl, hbs, d0, d1, hs1, hs2, _⟩ := (HS.out.next hB.out).at hlt
      have HT := Lib.hid (List.take_succ_eq_append_getElem hx)
      have HF1 := Lib.hid (HF.out _ (List.getElem_mem hx))
      generalize l[k] = y at *
      obtain ⟨W5, hW5⟩ : ∃ U, wr.alloc (.cells #[.slice a1 y.1.length c1, .slice a2 y.2.length c2] 34) = U := ⟨_, rfl⟩
      have hb5 : Below wr.heap.size wr W5 := by rw [← hW5]; exact (Below.refl _ _).alloc (Nat.le_refl _) _
      have x5 := BoxN.new wr #[.slice a1 y.1.length c1, .slice a2 y.2.length c2] 34
      rw [hW5] at x5
      have q0 := x5.at' 0 _ rfl
      have q1 := x5.at' 1 _ rfl
      have CL := CloneI.clone W5 a2 y.2.length c2 (ints y.2) (hs2.next hb5) (ints_one y.2) HF1.out.tags
      have HCL := Lib.hid CL
      have HX5 := Lib.hid x5
      have HB5 := Lib.hid hb5
      have HS1 := Lib.hid hs1
      clear CL x5 hb5 hs1 hs2
      go_wp2_with fail
      with_reducible refine HCL.out.mono ?_
      rintro e w5 ⟨at', ct', rfl, hown5, hb5⟩
      clear q0 q1 d0 d1
      obtain ⟨W6, hW6⟩ : ∃ U, w5.alloc (.cells #[.slice none 0 0, .slice at' y.2.length ct'] 34) = U := ⟨_, rfl⟩
      have hb6 : Below w5.heap.size w5 W6 := by rw [← hW6]; exact (Below.refl _ _).alloc (Nat.le_refl _) _
      have x6 := BoxN.new w5 #[.slice none 0 0, .slice at' y.2.length ct'] 34
      rw [hW6] at x6
      have hb56 := hb5.trans (hb6.mono hb5.size)
      have q0 := (HX5.out.next hb56 HX5.out.lt).at' 0 _ rfl
      have HBT := Lib.hid (HB5.out.trans (hb5.mono HB5.out.size))
      have HX6 := Lib.hid x6
      have HB6 := Lib.hid hb6
      have HTG := Lib.hid (own_mono hown5 HB5.out.size)
      clear hb6 x6 hb56 hown5 hb5
      go_wp2_with fail
      generalize wr = wo at *
      go_loopw [22] (fun i wq => ∃ (j : Nat) (ai : Option Addr) (ci : Nat) (vj : List Value), j ≤ y.1.length ∧ i = .int .i64 j ∧ Hid (Below w5.heap.size w5 wq) ∧ Hid (W6.heap.size ≤ wq.heap.size) ∧ Hid (BoxN w5.heap.size [.slice ai j ci, .slice at' y.2.length ct'] wq) ∧ Hid (Own2 wq W6.heap.size 24 3 (.slice ai j ci) j vj (y.1.take j))) (fun i _ => y.1.length - (intOf i).toNat)
      case atStart => exact ⟨0, none, 0, [], Nat.zero_le _, rfl, HB6.out, Nat.le_refl _, HX6.out, Own2.nil _ _ _ _⟩
      case round =>
        generalize wr = wq at *
        obtain ⟨j, ai, ci, vj, hj, rfl, hbq, hzq, hxq, hoq⟩ := hrel
        have hcy := HS1.out.sl.cap
        have hby := HS1.out.sl.big
        by_cases hjl : j < y.1.length
        · have hbw : Below wo.heap.size wo wq := HBT.out.trans (hbq.out.mono HBT.out.size)
          obtain ⟨b2, o2, ax, cx, hx2, hae, hbs2, e0, hsx, _⟩ := (HS1.out.next hbw).at hjl
          subst hae
          have HT2 := Lib.hid (List.take_succ_eq_append_getElem hx2)
          have HXS := Lib.hid (HF1.out.each _ (List.getElem_mem hx2))
          generalize y.1[j] = r at *
          have HRR := Lib.hid HF1.out.rows
          have hbs3 : True := trivial
          clear hbs2 hbw hbs3
          go_upto_region 9 with fail
          have hD : Below wq.heap.size wq wq.drew := (Below.refl _ _).drew
          have hSK : ∀ U : World, Below wq.heap.size wq U → U.cell? ⟨w5.heap.size, 0, none⟩ = some (.slice ai j ci) := fun U hU => (hxq.out.next hU hxq.out.lt).at' 0 _ rfl
          have hS := hSK _ hD
          refine HeldTo.region (fun U : World => U.cell? ⟨w5.heap.size, 0, none⟩ = some (.slice ai j ci)) 7 (by kernel_rfl) ?_
          (refine HeldTo.plain (i := 0) (oi := _) (d := some 26) (v := ?_) rfl rfl (by kernel_rfl) (by kernel_rfl) (by kernel_rfl) (by kernel_rfl) (fun _ _ _ h => h) (Or.inl ⟨by rfl, ?_⟩) (fun _ => hS) ?_; rotate_left; (focus (intro w hSw; clear hSw; go_simp; (try with_reducible rfl); done)); (try simp only [Act.put, List.setIfInBounds_toArray, List.set_cons_zero, List.set_cons_succ]))
          (refine HeldTo.take (i := 1) (oi := _) (d := some 27) (v := ?_) rfl rfl (by kernel_rfl) (by kernel_rfl) (by kernel_rfl) (by kernel_rfl) (by kernel_rfl) (by kernel_rfl) (fun _ _ _ h => h) (Or.inl ⟨by rfl, ?_⟩) hS ?_; rotate_left; (focus (intro w hSw; (try dsimp only at hSw); go_simp; (try with_reducible rfl); done)); (try simp only [Act.put, List.setIfInBounds_toArray, List.set_cons_zero, List.set_cons_succ]))
          (refine HeldTo.plain (i := 2) (oi := _) (d := some 28) (v := ?_) rfl rfl (by kernel_rfl) (by kernel_rfl) (by kernel_rfl) (by kernel_rfl) (fun _ _ _ h => h) (Or.inl ⟨by rfl, ?_⟩) (fun _ => hS) ?_; rotate_left; (focus (intro w hSw; clear hSw; go_simp; (try with_reducible rfl); done)); (try simp only [Act.put, List.setIfInBounds_toArray, List.set_cons_zero, List.set_cons_succ]))
          refine HeldTo.call (i := 3) (oi := _) (d := some 29) (R := fun v w' => ∃ a' c', v = .slice a' r.length c' ∧ w'.ownsRow wq.drew.heap.size 3 1 (.slice a' r.length c') r.length (ints r) ∧ Below wq.drew.heap.size wq.drew w') rfl rfl (by kernel_rfl) (by rfl) (by go_simp; done) ((CloneI.clone wq.drew ax r.length cx (ints r) (hsx.next hD) (ints_one r) HXS.out).mono (fun e w' ⟨a', c', he, ho, hb⟩ => ⟨_, he, a', c', rfl, ho, hb⟩)) ?_
          rintro v w3 ⟨b3, d3, rfl, ho3, hb3⟩
          have hB3 := hD.trans (hb3.mono hD.size)
          refine ⟨hSK w3 hB3, ?_⟩
          (try simp only [Act.put, List.setIfInBounds_toArray, List.set_cons_zero, List.set_cons_succ])
          obtain ⟨w4, hw4⟩ : ∃ U, w3.alloc (.cells #[.slice b3 r.length d3] 24) = U := ⟨_, rfl⟩
          have hb4 : Below w3.heap.size w3 w4 := by rw [← hw4]; exact (Below.refl _ _).alloc (Nat.le_refl _) _
          have hB4 := hB3.trans (hb4.mono hB3.size)
          (refine HeldTo.make (i := 4) (oi := _) (d := some 30) (v := .slice (some ⟨w3.heap.size, 0, none⟩) 1 1) (w2 := w4) rfl rfl (by kernel_rfl) (by rfl) (by go_simp; done) (hSK w4 hB4) ?_; (try simp only [Act.put, List.setIfInBounds_toArray, List.set_cons_zero, List.set_cons_succ]))
          have hsl4 : Sl w4 (some ⟨w3.heap.size, 0, none⟩) 1 1 [.slice b3 r.length d3] := by rw [← hw4]; exact sl_new w3 _ _ 1 rfl (by omega)
          have hoq4 := hoq.out.next hB4
          (refine HeldTo.app (i := 5) (oi := _) (d := some 31) rfl rfl (by kernel_rfl) (by rfl) _ _ 23 rfl W6.heap.size (.slice ai j ci) j vj ⟨w3.heap.size, 0, none⟩ 1 1 [.slice b3 r.length d3] info_ints Try.underlying23 rfl (by rfl) (by rfl) (by intro u hu; simp only [List.mem_cons, List.not_mem_nil, or_false] at hu; subst hu; rfl) hoq4.outer hsl4 (Nat.le_trans hzq.out hB4.size) (by have := HRR.out; omega) (by omega) ?_)
          intro a7 c7 w7 hown7 hg7
          have hne7 : ∀ q, (.slice ai j ci : Value).ownBlock = some q → W6.heap.size ≤ q := fun q hq => (hoq4.outer.lt q hq).1
          have hb47 : Below W6.heap.size w4 w7 := (Below.refl _ _).grown hg7 (Nat.le_trans hzq.out hB4.size) hne7
          have x7 := (hxq.out.next hB4 hxq.out.lt).next hb47 HX6.out.lt
          refine ⟨x7.at' 0 _ rfl, ?_⟩
          (try simp only [Act.put, List.setIfInBounds_toArray, List.set_cons_zero, List.set_cons_succ])
          have hoN : w4.ownsRow W6.heap.size 3 1 (.slice b3 r.length d3) r.length (ints r) := own_mono (own_next ho3 hb4) hzq.out
          have hp7 := hoq4.push (by decide) hoN hown7 hg7
          (refine HeldTo.plain (i := 6) (oi := _) (d := some 32) (v := ?_) rfl rfl (by kernel_rfl) (by kernel_rfl) (by kernel_rfl) (by kernel_rfl) (fun _ _ _ h => h) (Or.inl ⟨by rfl, ?_⟩) (fun _ => x7.at' 0 _ rfl) ?_; rotate_left; (focus (intro w hSw; clear hSw; go_simp; (try with_reducible rfl); done)); (try simp only [Act.put, List.setIfInBounds_toArray, List.set_cons_zero, List.set_cons_succ]))
          obtain ⟨w8, hw8⟩ : ∃ U, w7.setCell ⟨w5.heap.size, 0, none⟩ (.slice a7 (j + 1) c7) = U := ⟨_, rfl⟩
          have x8 := x7.set 0 (.slice a7 (j + 1) c7)
          rw [hw8] at x8
          have g7 := x7.at' 0 _ rfl
          have f7 := x7.fz 0
          (refine HeldTo.store (i := 7) (oi := _) (d := none) (w2 := w8) rfl rfl (by kernel_rfl) (by kernel_rfl) (by rfl) (by go_simp; done) ?_; (try simp only [Act.put, List.setIfInBounds_toArray, List.set_cons_zero, List.set_cons_succ]))
          refine HeldTo.done (by kernel_rfl) ?_ _
          have hp8 := hp7.set (a := ⟨w5.heap.size, 0, none⟩) HX6.out.lt (.slice a7 (j + 1) c7)
          rw [hw8] at hp8
          have hb8 : Below w5.heap.size w5 w8 := by
            have h := ((hbq.out.trans (hB4.mono hbq.out.size)).trans (hb47.mono HB6.out.size)).setCell (p := ⟨w5.heap.size, 0, none⟩) (Nat.le_refl _) (.slice a7 (j + 1) c7)
            rw [hw8] at h
            exact h
          have hz8 : W6.heap.size ≤ w8.heap.size := by
            rw [← hw8]
            simp only [World.setCell, Array.size_modify]
            exact Nat.le_trans (Nat.le_trans hzq.out hB4.size) hb47.size
          have HP8 := Lib.hid hp8
          have HB8 := Lib.hid hb8
          have HZ8 := Lib.hid hz8
          have HX8 := Lib.hid x8
          clear hp8 hb8 hz8 x8 hp7 hoN x7 hb47 hne7 hg7 hown7 hoq4 hsl4 hB4 hb4 hB3 hb3 ho3 hS hSK hD hw4 hw8 g7 f7 hsx e0
          go_wp2_with fail
          go_roundw
          case rel => exact ⟨j + 1, a7, c7, vj ++ [.slice b3 r.length d3], by omega, by go_num, HB8.out, HZ8.out, HX8.out, by rw [HT2.out]; exact HP8.out⟩
          case measure => simp [intOf]; omega
        · have hje : j = y.1.length := by omega
          subst hje
          rw [List.take_length] at hoq
          have m0 := hxq.out.at' 0 _ rfl
          have m1 := hxq.out.at' 1 _ rfl
          obtain ⟨W7, hW7⟩ : ∃ U, wq.alloc (.cells #[.slice ai y.1.length ci, .slice at' y.2.length ct'] 34) = U := ⟨_, rfl⟩
          have hb7 : Below wq.heap.size wq W7 := by rw [← hW7]; exact (Below.refl _ _).alloc (Nat.le_refl _) _
          have x7 := BoxN.new wq #[.slice ai y.1.length ci, .slice at' y.2.length ct'] 34
          rw [hW7] at x7
          have hb5q : Below w5.heap.size w5 W7 := hbq.out.trans (hb7.mono hbq.out.size)
          have hrow : RowOwn W7 wo.heap.size [.slice ai y.1.length ci, .slice at' y.2.length ct'] y := ⟨ai, ci, vj, at', ct', rfl, own2_mono (hoq.out.next hb7) (Nat.le_trans HBT.out.size HB6.out.size), own_next HTG.out hb5q⟩
          have hbr : Below wo.heap.size wo W7 := HBT.out.trans (hb5q.mono HBT.out.size)
          have hK7 := hK.out.next hbr
          have HK7 := Lib.hid hK7
          have HROW := Lib.hid (hrow.mono hB.out.size)
          have HX7 := Lib.hid x7
          have HBR := Lib.hid (hB.out.trans (hbr.mono hB.out.size))
          have hvl := hK7.vlen
          have HNN : Hid ((k + 1) * 48 ≤ 140737488355328) := by show _ ≤ _; have := HN.out; omega
          clear hK7 hrow x7 hbr hvl hb5q hb7 hoq
          go_wp2_with ((with_reducible refine wpL_pushK (k := 2) (by decide) w.heap.size (.slice a' k c') k vs' ⟨wq.heap.size, 0, none⟩ 1 [.slice ai y.1.length ci, .slice at' y.2.length ct'] info_kept Try.underlying22 rfl ?_ ?_ ?_ rfl HK7.out.outer ?_ HBR.out.size HNN.out ?_ ?_); rfl; rfl; (intro u hu; simp only [List.mem_cons, List.not_mem_nil, or_false] at hu; rcases hu with rfl | rfl <;> rfl); (intro j y hy; rw [Addr.add_lit, Nat.zero_add]; exact HX7.out.at' j y hy); (have := HNN.out; omega); (intro a8 c8 w8 hown8 hg8))
          have HP := Lib.hid (HK7.out.push HROW.out hown8 hg8)
          have HB8 : Hid (Below w.heap.size w w8) := HBR.out.grown hg8 HBR.out.size (fun q hq => (HK7.out.outer.lt q hq).1)
          clear hown8 hg8 m0 m1 hW7
          go_wp2_with fail
          go_roundw
          case rel => exact ⟨k + 1, a8, c8, vs' ++ [[.slice ai y.1.length ci, .slice at' y.2.length ct']], by omega, by go_num, rfl, by rw [HT.out]; exact HP.out, HB8.out⟩
          case measure => simp [intOf]; omega
    · have hke : k = n := by omega
      subst hke
      have HL : Hid (l.take k = l) := List.take_of_length_le (Nat.le_of_eq HS.out.len)
      go_wp2_with fail
      go_ret
      exact ⟨a', c', vs', rfl, by rw [← HL.out]; exact hK.out, hB.out⟩
end Keep
end Go.Proofs.Ytdpmfcfelncbeaa
