/-
  Plain: a text's clauses; they come back from their texts, and texts from their clauses.
-/
import Derived.Test.YtmiklgekcmeedaaDoorSplP
import Derived.Test.YtmiklgekcmeedaaDoorTextP
namespace Go.Proofs.YtmiklgekcmeedaaDoor.Inv
open Go.RowKit Base Dig Spl
set_option linter.unusedVariables false
set_option linter.unusedSimpArgs false

def allP : List (List UInt8) → Option (List Int)
  | [] => some []
  | w :: r => match parseD w with | none => none | some n => match allP r with | none => none | some l => some (n :: l)
def parseLine (t : List UInt8) : Option (List Int) := match allP (spl 32 t) with | none => none | some x => if fitsB x = true then some x else none
def linesP : List (List UInt8) → Option (List (List Int))
  | [] => some []
  | t :: r => match parseLine t with | none => none | some x => match linesP r with | none => none | some l => some (x :: l)
def headOk (L : List (List UInt8)) : Prop := 3 ≤ L.length ∧ L.length - 3 ≤ 1024 ∧ L[0]? = some (hd (L.length - 3)) ∧ L[L.length - 3 + 1]? = some [46] ∧ L[L.length - 3 + 2]? = some []
instance (L : List (List UInt8)) : Decidable (headOk L) := by unfold headOk; infer_instance
def parseT (s : List UInt8) : Option (List (List Int)) := if 65536 < s.length then none else if headOk (spl 10 s) then linesP (((spl 10 s).drop 1).take ((spl 10 s).length - 3)) else none

theorem fits_bounds {x : List Int} (h : fitsB x = true) : 0 < x.length ∧ x.length ≤ 1024 ∧ ∀ v ∈ x, -64 ≤ v ∧ v ≤ 64 := by
  unfold fitsB at h
  rw [Bool.and_eq_true, Bool.and_eq_true, Bool.and_eq_true] at h
  obtain ⟨h1, h2, h3, h4⟩ := h
  have h4 := of_decide_eq_true h4
  unfold Clause.check at h4
  by_cases h5 : 1024 < x.length
  · rw [if_pos h5] at h4; omega
  · rw [if_neg h5] at h4
    refine ⟨of_decide_eq_true h1, by omega, fun v hv => ?_⟩
    by_cases h6 : x.any (Clause.badL 64) = true
    · rw [if_pos h6] at h4; omega
    · have h7 : ¬ Clause.badL 64 v = true := fun hb => h6 (List.any_eq_true.2 ⟨v, hv, hb⟩)
      unfold Clause.badL Clause.absI at h7
      simp at h7
      omega
theorem allP_map : ∀ (x : List Int), (∀ v ∈ x, -64 ≤ v ∧ v ≤ 64) → allP (x.map pr) = some x
  | [], _ => rfl
  | v :: r, h => by
    have hv := h v List.mem_cons_self
    rw [List.map_cons, allP, parse_of (by omega) (by omega), allP_map r (fun u hu => h u (List.mem_cons_of_mem _ hu))]
theorem allP_inv : ∀ (W : List (List UInt8)) (x : List Int), allP W = some x → W = x.map pr
  | [], x, h => by injection h with h; rw [← h]; rfl
  | w :: r, x, h => by
    rw [allP] at h
    cases hw : parseD w with
    | none => rw [hw] at h; cases h
    | some n =>
      rw [hw] at h
      cases hr : allP r with
      | none => rw [hr] at h; cases h
      | some l =>
        rw [hr] at h
        injection h with h
        rw [← h, List.map_cons, ← allP_inv r l hr, ← (parse_pr hw).1]
theorem allP_some {W : List (List UInt8)} {x : List Int} (h : allP W = some x) : ∀ v ∈ x, -1099511627776 ≤ v ∧ v ≤ 1099511627776 := by
  induction W generalizing x with
  | nil => injection h with h; rw [← h]; simp
  | cons w r ih =>
    rw [allP] at h
    cases hw : parseD w with
    | none => rw [hw] at h; cases h
    | some n =>
      rw [hw] at h
      cases hr : allP r with
      | none => rw [hr] at h; cases h
      | some l =>
        rw [hr] at h
        injection h with h
        rw [← h]
        intro v hv
        rcases List.mem_cons.1 hv with rfl | hv
        · exact (parse_pr hw).2
        · exact ih hr v hv
theorem allP_more (T : List (List UInt8)) : ∀ k (h : k < T.length) (l : List Int), allP (T.take k) = some l → allP (T.take (k + 1)) = match parseD T[k] with | none => none | some n => some (l ++ [n]) := by
  induction T with
  | nil => intro k h; simp at h
  | cons t r ih =>
    intro k h l hl
    cases k with
    | zero =>
      simp [allP] at hl
      subst hl
      simp only [Nat.zero_add, List.take_succ_cons, List.take_zero, List.getElem_cons_zero, allP]
      cases parseD t <;> rfl
    | succ k =>
      rw [List.take_succ_cons, allP] at hl
      rw [List.take_succ_cons, allP, List.getElem_cons_succ]
      cases ht : parseD t with
      | none => rw [ht] at hl; cases hl
      | some x =>
        rw [ht] at hl
        cases hr : allP (r.take k) with
        | none => rw [hr] at hl; cases hl
        | some m =>
          rw [hr] at hl
          injection hl with hl
          have hk : k < r.length := by simpa using h
          simp only [ih k hk m hr]
          rw [← hl]
          cases parseD r[k] <;> rfl
theorem allP_stop (T : List (List UInt8)) : ∀ k (h : k < T.length), parseD T[k] = none → allP T = none := by
  induction T with
  | nil => intro k h; simp at h
  | cons t r ih =>
    intro k h hk
    rw [allP]
    cases k with
    | zero =>
      rw [List.getElem_cons_zero] at hk
      rw [hk]
    | succ k =>
      rw [List.getElem_cons_succ] at hk
      rw [ih k (by simpa using h) hk]
      cases parseD t <;> rfl
theorem pr_no32 {c : UInt8} (hc : c = 32 ∨ c = 10) (v : Int) : c ∉ pr v := fun h => by
  rcases pr_bytes h with e | e
  · rcases hc with rfl | rfl <;> cases e
  · rcases hc with rfl | rfl
    · have := e.1; revert this; decide
    · have := e.1; revert this; decide
theorem line_jn (x : List Int) : lineT x = jn 32 (x.map pr) := by rw [jn_join]; rfl
theorem line_spl {x : List Int} (h : x ≠ []) : spl 32 (lineT x) = x.map pr := by
  rw [line_jn, spl_jn _ (by simpa using h)]
  intro p hp
  obtain ⟨v, _, rfl⟩ := List.mem_map.1 hp
  exact pr_no32 (Or.inl rfl) v
theorem line_of {x : List Int} (h : fitsB x = true) : parseLine (lineT x) = some x := by
  obtain ⟨h1, _, h3⟩ := fits_bounds h
  unfold parseLine
  rw [line_spl (fun e => by rw [e] at h1; simp at h1), allP_map x h3]
  simp [h]
theorem line_inv {t : List UInt8} {x : List Int} (h : parseLine t = some x) : t = lineT x ∧ fitsB x = true := by
  unfold parseLine at h
  cases hq : allP (spl 32 t) with
  | none => rw [hq] at h; cases h
  | some y =>
    rw [hq] at h
    simp only at h
    split at h
    case isFalse => cases h
    case isTrue hf =>
      injection h with h
      subst h
      refine ⟨?_, hf⟩
      rw [line_jn, ← allP_inv _ _ hq, jn_spl]
theorem lines_of : ∀ (l : List (List Int)), (∀ x ∈ l, fitsB x = true) → linesP (l.map lineT) = some l
  | [], _ => rfl
  | x :: r, h => by rw [List.map_cons, linesP, line_of (h x List.mem_cons_self), lines_of r (fun y hy => h y (List.mem_cons_of_mem _ hy))]
theorem lines_inv : ∀ (T : List (List UInt8)) (l : List (List Int)), linesP T = some l → T = l.map lineT ∧ ∀ x ∈ l, fitsB x = true
  | [], l, h => by injection h with h; rw [← h]; simp
  | t :: r, l, h => by
    rw [linesP] at h
    cases ht : parseLine t with
    | none => rw [ht] at h; cases h
    | some x =>
      rw [ht] at h
      cases hr : linesP r with
      | none => rw [hr] at h; cases h
      | some m =>
        rw [hr] at h
        injection h with h
        obtain ⟨h1, h2⟩ := line_inv ht
        obtain ⟨h3, h4⟩ := lines_inv r m hr
        rw [← h, List.map_cons, ← h3, ← h1]
        exact ⟨rfl, fun y hy => (List.mem_cons.1 hy).elim (fun e => e ▸ h2) (h4 y)⟩
theorem lines_take (T : List (List UInt8)) : ∀ k (h : k < T.length) (l : List (List Int)), linesP (T.take k) = some l → linesP (T.take (k + 1)) = match parseLine T[k] with | none => none | some x => some (l ++ [x]) := by
  induction T with
  | nil => intro k h; simp at h
  | cons t r ih =>
    intro k h l hl
    cases k with
    | zero =>
      simp [linesP] at hl
      subst hl
      simp only [Nat.zero_add, List.take_succ_cons, List.take_zero, List.getElem_cons_zero, linesP]
      cases parseLine t <;> rfl
    | succ k =>
      rw [List.take_succ_cons, linesP] at hl
      rw [List.take_succ_cons, linesP, List.getElem_cons_succ]
      cases ht : parseLine t with
      | none => rw [ht] at hl; cases hl
      | some x =>
        rw [ht] at hl
        cases hr : linesP (r.take k) with
        | none => rw [hr] at hl; cases hl
        | some m =>
          rw [hr] at hl
          injection hl with hl
          have hk : k < r.length := by simpa using h
          simp only [ih k hk m hr]
          rw [← hl]
          cases parseLine r[k] <;> rfl
theorem lines_stop (T : List (List UInt8)) : ∀ k (h : k < T.length), parseLine T[k] = none → linesP T = none := by
  induction T with
  | nil => intro k h; simp at h
  | cons t r ih =>
    intro k h hk
    rw [linesP]
    cases k with
    | zero =>
      rw [List.getElem_cons_zero] at hk
      rw [hk]
    | succ k =>
      rw [List.getElem_cons_succ] at hk
      rw [ih k (by simpa using h) hk]
      cases parseLine t <;> rfl
theorem jn_snoc (c : UInt8) : ∀ (L : List (List UInt8)), L ≠ [] → jn c (L ++ [[]]) = jn c L ++ [c]
  | [], h => absurd rfl h
  | [p], _ => by simp [jn]
  | p :: q :: r, _ => by
    have ih := jn_snoc c (q :: r) (by simp)
    rw [List.cons_append, List.cons_append, jn, jn]
    rw [List.cons_append] at ih
    rw [ih]
    simp
def partsT (h : List UInt8) (l : List (List Int)) : List (List UInt8) := h :: (l.map lineT ++ [[46], []])
theorem text_jn (l : List (List Int)) : textP l = jn 10 (partsT (hd l.length) l) := by
  unfold textP partsT
  rw [← jn_join, ← jn_snoc 10 _ (by simp)]
  simp
theorem line_no10 {c : UInt8} (hc : c = 10) (x : List Int) : c ∉ lineT x := fun h => by
  rw [line_jn] at h
  have key : ∀ L : List (List UInt8), (∀ p ∈ L, c ∉ p) → c ∉ jn 32 L := by
    intro L
    induction L with
    | nil => intro _ h; cases h
    | cons p r ih =>
      intro hp h
      cases r with
      | nil => exact hp p List.mem_cons_self h
      | cons q r =>
        rw [jn] at h
        rcases List.mem_append.1 h with h | h
        · exact hp p List.mem_cons_self h
        · rcases List.mem_cons.1 h with e | h
          · rw [hc] at e; cases e
          · exact ih (fun z hz => hp z (List.mem_cons_of_mem _ hz)) h
  refine key _ (fun p hp => ?_) h
  obtain ⟨v, _, rfl⟩ := List.mem_map.1 hp
  exact pr_no32 (Or.inr hc) v
theorem head_no10 (v : Int) : (10 : UInt8) ∉ ([105, 110, 118, 32] : List UInt8) ++ pr v := fun h => by
  rcases List.mem_append.1 h with h | h
  · revert h; decide
  · exact pr_no32 (Or.inr rfl) v h
theorem parts_spl (v : Int) (l : List (List Int)) : spl 10 (jn 10 (partsT ([105, 110, 118, 32] ++ pr v) l)) = partsT ([105, 110, 118, 32] ++ pr v) l := by
  refine spl_jn _ (by simp [partsT]) fun p hp => ?_
  unfold partsT at hp
  rcases List.mem_cons.1 hp with rfl | hp
  · exact head_no10 v
  · rcases List.mem_append.1 hp with hp | hp
    · obtain ⟨x, _, rfl⟩ := List.mem_map.1 hp
      exact line_no10 rfl x
    · simp at hp
      rcases hp with rfl | rfl
      · decide
      · simp
theorem partsT_len (h : List UInt8) (l : List (List Int)) : (partsT h l).length = l.length + 3 := by simp [partsT]
/-- Clauses come back from their text. -/
theorem back_clauses {l : List (List Int)} (h1 : l.length ≤ 1024) (hf : ∀ x ∈ l, fitsB x = true) (hs : (textP l).length ≤ 65536) : parseT (textP l) = some l := by
  unfold parseT
  have e : spl 10 (textP l) = partsT (hd l.length) l := by rw [text_jn]; exact parts_spl l.length l
  rw [if_neg (by omega), e]
  have hh : headOk (partsT (hd l.length) l) := by
    unfold headOk
    rw [partsT_len]
    refine ⟨by omega, by omega, by simp [partsT], ?_, ?_⟩
    · unfold partsT; rw [Nat.add_sub_cancel, List.getElem?_cons_succ, List.getElem?_append_right (by simp)]; simp
    · unfold partsT; rw [Nat.add_sub_cancel, List.getElem?_cons_succ, List.getElem?_append_right (by simp)]; simp
  rw [if_pos hh, partsT_len, Nat.add_sub_cancel]
  unfold partsT
  rw [List.drop_succ_cons, List.drop_zero, List.take_append_of_le_length (by simp), List.take_of_length_le (by simp)]
  exact lines_of l hf
/-- A text comes back from its clauses. -/
theorem back_text {s : List UInt8} {m : List (List Int)} (h : parseT s = some m) : m.length ≤ 1024 ∧ (∀ x ∈ m, fitsB x = true) ∧ textP m = s ∧ s.length ≤ 65536 := by
  unfold parseT at h
  by_cases hl : 65536 < s.length
  · rw [if_pos hl] at h; cases h
  · rw [if_neg hl] at h
    by_cases hh : headOk (spl 10 s)
    · rw [if_pos hh] at h
      obtain ⟨k1, k2, k3, k4, k5⟩ := hh
      obtain ⟨h1, h2⟩ := lines_inv _ _ h
      have hn : m.length = (spl 10 s).length - 3 := by
        have := congrArg List.length h1
        rw [List.length_map, List.length_take, List.length_drop] at this
        omega
      refine ⟨by omega, h2, ?_, by omega⟩
      rw [text_jn]
      have e : partsT (hd m.length) m = spl 10 s := by
        unfold partsT
        rw [← h1, hn]
        generalize spl 10 s = L at *
        cases L with
        | nil => simp at k1
        | cons a r =>
          rw [List.getElem?_cons_zero] at k3
          injection k3 with k3
          rw [← k3, List.drop_succ_cons, List.drop_zero]
          congr 1
          have hr : r.length = (a :: r).length - 3 + 2 := by rw [List.length_cons] at k1 ⊢; omega
          rw [List.getElem?_cons_succ] at k4 k5
          generalize (a :: r).length - 3 = n at *
          have e2 : r.drop n = [[46], []] := by
            apply List.ext_getElem?
            intro i
            rw [List.getElem?_drop]
            rcases i with _ | _ | i
            · rw [Nat.add_zero, k4]; rfl
            · rw [k5]; rfl
            · rw [List.getElem?_eq_none (by omega)]; simp
          rw [← e2, List.take_append_drop]
      rw [e, jn_spl]
    · rw [if_neg hh] at h; cases h
/-- A text that tells another number. -/
theorem other_count {l : List (List Int)} {n : Int} (h1 : l.length ≤ 1024) (hn : n ≠ l.length) : parseT (([105, 110, 118, 32] ++ pr n) ++ (textP l).drop (hd l.length).length) = none := by
  have e1 : ([105, 110, 118, 32] ++ pr n) ++ (textP l).drop (hd l.length).length = jn 10 (partsT ([105, 110, 118, 32] ++ pr n) l) := by
    rw [text_jn]
    unfold partsT
    cases hq : l.map lineT ++ [[46], []] with
    | nil => simp at hq
    | cons a r => rw [jn, jn, List.drop_left]
  unfold parseT
  split
  · rfl
  · rw [e1, parts_spl]
    rw [if_neg]
    rintro ⟨_, _, k3, _⟩
    rw [partsT_len, Nat.add_sub_cancel] at k3
    unfold partsT at k3
    rw [List.getElem?_cons_zero] at k3
    injection k3 with k3
    have k4 : pr n = pr (l.length : Int) := List.append_cancel_left k3
    exact hn (pr_inj_all k4)
end Go.Proofs.YtmiklgekcmeedaaDoor.Inv
