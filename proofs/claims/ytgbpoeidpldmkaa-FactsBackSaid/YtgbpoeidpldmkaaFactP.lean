/-
  Plain: a table of facts that may be; without some; with one more. No program.
-/
import Derived.Test.YtgbpoeidpldmkaaSortPl
namespace Go.Proofs.Ytgbpoeidpldmkaa.Fact
set_option linter.unusedVariables false
set_option linter.unusedSimpArgs false
open Vals (srt srt_spec srt_one)

structure Fc where
  id : Int
  kind : Int
  depth : Int
  lits : List Int
  tags : List Int
structure Tb where
  next : Int
  depth : Int
  facts : List Fc

instance : Inhabited Fc := ⟨⟨0, 0, 0, [], []⟩⟩

/-- May a literal not be? -/
def odd (x : Int) : Bool := decide (x < 0) || decide (2048 < max x 0 / 2)
def litsOk (l : List Int) : Bool := decide (l.length ≤ 64) && (!l.any odd && decide (l = srt l))
def known (ahead : List Fc) (id : Int) : Bool := ahead.any fun f => f.id == id && f.kind == 1
def tagged (x : Fc) (ahead : List Fc) : Bool := if x.kind = 1 then decide (x.tags.length = 0) else decide (x.tags = srt x.tags) && !x.tags.any fun i => !known ahead i
/-- May a fact be, alone? -/
def alone (t : Tb) (x : Fc) : Bool := !(decide (x.id < 1) || decide (t.next ≤ x.id) || decide (x.kind < 1) || decide (2 < x.kind) || decide (x.depth < 0) || decide (t.depth < x.depth) || !litsOk x.lits)
def oneOk (t : Tb) (i : Nat) : Bool := alone t t.facts[i]! && ((decide (i = 0) || (decide (t.facts[i - 1]!.id < t.facts[i]!.id) && decide (t.facts[i - 1]!.depth ≤ t.facts[i]!.depth))) && tagged t.facts[i]! (t.facts.take i))
def bounds (t : Tb) : Bool := !(decide (t.depth < 0) || decide (16 < t.depth) || decide (t.next < 1) || decide (1099511627776 < t.next) || decide (64 < t.facts.length))
def tableOk (t : Tb) : Bool := bounds t && (List.range t.facts.length).all (oneOk t)

structure Ok (t : Tb) : Prop where
  d0 : 0 ≤ t.depth
  d1 : t.depth ≤ 16
  n1 : 1 ≤ t.next
  n2 : t.next ≤ 1099511627776
  len : t.facts.length ≤ 64
  each : ∀ x ∈ t.facts, 1 ≤ x.id ∧ x.id < t.next ∧ (x.kind = 1 ∨ x.kind = 2) ∧ 0 ≤ x.depth ∧ x.depth ≤ t.depth ∧ litsOk x.lits = true
  ord : t.facts.Pairwise (fun a b => a.id < b.id ∧ a.depth ≤ b.depth)
  tag : ∀ pre x post, t.facts = pre ++ x :: post → tagged x pre = true

theorem alone_iff {t : Tb} {x : Fc} : alone t x = true ↔ 1 ≤ x.id ∧ x.id < t.next ∧ (x.kind = 1 ∨ x.kind = 2) ∧ 0 ≤ x.depth ∧ x.depth ≤ t.depth ∧ litsOk x.lits = true := by
  unfold alone
  simp only [Bool.not_eq_true', Bool.or_eq_false_iff, decide_eq_false_iff_not, Bool.not_eq_false', and_assoc]
  constructor
  · rintro ⟨h1, h2, h3, h4, h5, h6, h7⟩
    exact ⟨by omega, by omega, by omega, by omega, by omega, h7⟩
  · rintro ⟨h1, h2, h3, h4, h5, h6⟩
    exact ⟨by omega, by omega, by omega, by omega, by omega, by omega, h6⟩

theorem pairs_of {l : List Fc} (h : ∀ i, (hi : i + 1 < l.length) → l[i].id < l[i + 1].id ∧ l[i].depth ≤ l[i + 1].depth) : l.Pairwise (fun a b => a.id < b.id ∧ a.depth ≤ b.depth) := by
  rw [List.pairwise_iff_getElem]
  intro i j hi hj hij
  induction j with
  | zero => omega
  | succ j ih =>
    have h1 := h j hj
    by_cases he : i = j
    · subst he; exact h1
    · have h2 := ih (by omega) (by omega)
      exact ⟨by omega, by omega⟩

theorem ok_of {t : Tb} (h : tableOk t = true) : Ok t := by
  unfold tableOk bounds at h
  rw [Bool.and_eq_true, List.all_eq_true] at h
  obtain ⟨hb, ha⟩ := h
  simp only [Bool.not_eq_true', Bool.or_eq_false_iff, decide_eq_false_iff_not, and_assoc] at hb
  have key : ∀ i, (hi : i < t.facts.length) → oneOk t i = true := fun i hi => ha i (List.mem_range.2 hi)
  have parts : ∀ i, (hi : i < t.facts.length) → alone t t.facts[i] = true ∧ (i = 0 ∨ (t.facts[i - 1]!.id < t.facts[i].id ∧ t.facts[i - 1]!.depth ≤ t.facts[i].depth)) ∧ tagged t.facts[i] (t.facts.take i) = true := fun i hi => by
    have h := key i hi
    unfold oneOk at h
    rw [getElem!_pos t.facts i hi] at h
    simp only [Bool.and_eq_true, Bool.or_eq_true, decide_eq_true_eq] at h
    exact h
  refine ⟨by omega, by omega, by omega, by omega, by omega, fun x hx => ?_, pairs_of fun i hi => ?_, fun pre x post he => ?_⟩
  · obtain ⟨i, hi, rfl⟩ := List.mem_iff_getElem.1 hx
    exact alone_iff.1 (parts i hi).1
  · rcases (parts (i + 1) hi).2.1 with h0 | h
    · omega
    · rw [Nat.add_sub_cancel, getElem!_pos t.facts i (by omega)] at h
      exact h
  · have hl : pre.length < t.facts.length := by rw [he]; simp
    have := (parts pre.length hl).2.2
    have e1 : t.facts[pre.length] = x := by simp [he]
    have e2 : t.facts.take pre.length = pre := by simp [he]
    rw [e1, e2] at this
    exact this

theorem ok_to {t : Tb} (h : Ok t) : tableOk t = true := by
  unfold tableOk bounds
  rw [Bool.and_eq_true, List.all_eq_true]
  refine ⟨?_, fun i hi => ?_⟩
  · simp only [Bool.not_eq_true', Bool.or_eq_false_iff, decide_eq_false_iff_not, and_assoc]
    have h1 := h.d0; have h2 := h.d1; have h3 := h.n1; have h4 := h.n2; have h5 := h.len
    exact ⟨by omega, by omega, by omega, by omega, by omega⟩
  · have hi := List.mem_range.1 hi
    unfold oneOk
    rw [getElem!_pos t.facts i hi]
    simp only [Bool.and_eq_true, Bool.or_eq_true, decide_eq_true_eq]
    refine ⟨alone_iff.2 (h.each _ (List.getElem_mem hi)), ?_, ?_⟩
    · by_cases h0 : i = 0
      · exact .inl h0
      · rw [getElem!_pos t.facts (i - 1) (by omega)]
        exact .inr ((List.pairwise_iff_getElem.1 h.ord) (i - 1) i (by omega) hi (by omega))
    · refine h.tag _ _ (t.facts.drop (i + 1)) ?_
      rw [← List.drop_eq_getElem_cons hi, List.take_append_drop]

theorem ok_iff {t : Tb} : tableOk t = true ↔ Ok t := ⟨ok_of, ok_to⟩

/-! ### Without some. -/
def step (gone : Fc → Bool) (ids : List Int) (x : Fc) : List Int := if (x.tags.any (fun i => decide (i ∈ ids)) || gone x) = true then ids ++ [x.id] else ids
def gids (gone : Fc → Bool) (l : List Fc) : List Int := l.foldl (step gone) []
def rest (l : List Fc) (ids : List Int) : List Fc := l.filter fun x => !decide (x.id ∈ ids)

theorem gids_snoc (gone : Fc → Bool) (l : List Fc) (x : Fc) : gids gone (l ++ [x]) = step gone (gids gone l) x := by simp [gids, List.foldl_append]
theorem rest_snoc (l : List Fc) (x : Fc) (ids : List Int) : rest (l ++ [x]) ids = rest l ids ++ (if x.id ∈ ids then [] else [x]) := by
  unfold rest
  rw [List.filter_append]
  by_cases h : x.id ∈ ids <;> simp [h]

/-- Ids that rise, tags of facts ahead. -/
structure Good (l : List Fc) : Prop where
  ord : l.Pairwise (fun a b => a.id < b.id)
  tag : ∀ pre x post, l = pre ++ x :: post → ∀ i ∈ x.tags, ∃ f ∈ pre, f.id = i ∧ f.kind = 1

theorem nil_or_snoc {α : Type} (l : List α) : l = [] ∨ ∃ p x, l = p ++ [x] := by
  induction l with
  | nil => exact .inl rfl
  | cons y r ih =>
    rcases ih with rfl | ⟨p, x, rfl⟩
    · exact .inr ⟨[], y, rfl⟩
    · exact .inr ⟨y :: p, x, rfl⟩

theorem known_iff {l : List Fc} {i : Int} : known l i = true ↔ ∃ f ∈ l, f.id = i ∧ f.kind = 1 := by
  unfold known
  simp [List.any_eq_true]

theorem tag_of {x : Fc} {pre : List Fc} (h : tagged x pre = true) : ∀ i ∈ x.tags, ∃ f ∈ pre, f.id = i ∧ f.kind = 1 := by
  intro i hi
  unfold tagged at h
  split at h
  · have h1 := of_decide_eq_true h
    rw [List.eq_nil_of_length_eq_zero h1] at hi
    cases hi
  · rw [Bool.and_eq_true, Bool.not_eq_true', List.any_eq_false] at h
    have := h.2 i hi
    simp only [Bool.not_eq_true', Bool.not_eq_false] at this
    exact known_iff.1 this

theorem Ok.good {t : Tb} (h : Ok t) : Good t.facts := ⟨h.ord.imp (fun h => h.1), fun pre x post he => tag_of (h.tag pre x post he)⟩

theorem Good.front {l r : List Fc} (h : Good (l ++ r)) : Good l :=
  ⟨(List.pairwise_append.1 h.ord).1, fun pre x post he => h.tag pre x (post ++ r) (by rw [he]; simp)⟩

structure Inv (gone : Fc → Bool) (l : List Fc) : Prop where
  from' : ∀ i ∈ gids gone l, ∃ x ∈ l, x.id = i
  count : (rest l (gids gone l)).length + (gids gone l).length = l.length
  clean : ∀ x ∈ rest l (gids gone l), ∀ i ∈ x.tags, i ∉ gids gone l

theorem inv_of (gone : Fc → Bool) (l : List Fc) (h : Good l) : Inv gone l := by
  suffices ∀ n (l : List Fc), l.length = n → Good l → Inv gone l from this _ l rfl h
  intro n
  induction n with
  | zero =>
    intro l hl _
    rw [List.eq_nil_of_length_eq_zero hl]
    exact ⟨fun i hi => (by cases hi), rfl, fun x hx => (by cases hx)⟩
  | succ n ih =>
    intro l hl h
    have hne : l ≠ [] := fun e => by rw [e] at hl; cases hl
    obtain ⟨p, x, hp⟩ : ∃ p x, l = p ++ [x] := (nil_or_snoc l).resolve_left hne
    subst hp
    have I := ih p (by simpa using hl) h.front
    have hx : ∀ y ∈ p, y.id < x.id := fun y hy => (List.pairwise_append.1 h.ord).2.2 y hy x (List.mem_singleton.2 rfl)
    have hxn : x.id ∉ gids gone p := fun hm => by
      obtain ⟨y, hy, e⟩ := I.from' _ hm
      have := hx y hy
      omega
    by_cases hs : (x.tags.any (fun i => decide (i ∈ gids gone p)) || gone x) = true
    · have hg : gids gone (p ++ [x]) = gids gone p ++ [x.id] := by rw [gids_snoc]; unfold step; rw [if_pos hs]
      have hr : rest (p ++ [x]) (gids gone (p ++ [x])) = rest p (gids gone p) := by
        rw [rest_snoc, hg, if_pos (by simp), List.append_nil]
        unfold rest
        refine List.filter_congr fun y hy => ?_
        have := hx y hy
        have e : (y.id ∈ gids gone p ++ [x.id]) ↔ y.id ∈ gids gone p := by
          rw [List.mem_append, List.mem_singleton]
          exact ⟨fun h => h.elim id (fun h => by omega), .inl⟩
        simp [e]
      refine ⟨fun i hi => ?_, ?_, fun y hy i hi => ?_⟩
      · rw [hg] at hi
        rcases List.mem_append.1 hi with hi | hi
        · obtain ⟨y, hy, e⟩ := I.from' i hi
          exact ⟨y, List.mem_append_left _ hy, e⟩
        · exact ⟨x, by simp, (List.mem_singleton.1 hi).symm⟩
      · rw [hr, hg, List.length_append, List.length_append]
        have := I.count
        simp
        omega
      · rw [hr] at hy
        rw [hg, List.mem_append, List.mem_singleton]
        rintro (h1 | h1)
        · exact I.clean y hy i hi h1
        · have hyp : y ∈ p := (List.mem_filter.1 hy).1
          obtain ⟨a, b, hab⟩ := List.append_of_mem hyp
          obtain ⟨f, hf, e, _⟩ := h.tag a y (b ++ [x]) (by rw [hab]; simp) i hi
          have := hx f (by rw [hab]; exact List.mem_append_left _ hf)
          omega
    · have hg : gids gone (p ++ [x]) = gids gone p := by rw [gids_snoc]; unfold step; rw [if_neg hs]
      have hr : rest (p ++ [x]) (gids gone (p ++ [x])) = rest p (gids gone p) ++ [x] := by rw [rest_snoc, hg, if_neg hxn]
      refine ⟨fun i hi => ?_, ?_, fun y hy i hi => ?_⟩
      · rw [hg] at hi
        obtain ⟨y, hy, e⟩ := I.from' i hi
        exact ⟨y, List.mem_append_left _ hy, e⟩
      · rw [hr, hg, List.length_append, List.length_append]
        have := I.count
        simp
        omega
      · rw [hr] at hy
        rw [hg]
        rcases List.mem_append.1 hy with hy | hy
        · exact I.clean y hy i hi
        · rw [List.mem_singleton] at hy
          subst hy
          intro hm
          apply hs
          rw [Bool.or_eq_true, List.any_eq_true]
          exact .inl ⟨i, hi, decide_eq_true hm⟩

/-- What is left may be. -/
theorem ok_rest {t : Tb} (h : Ok t) (gone : Fc → Bool) : Ok ⟨t.next, t.depth, rest t.facts (gids gone t.facts)⟩ := by
  have I := inv_of gone t.facts h.good
  have hsub : (rest t.facts (gids gone t.facts)).Sublist t.facts := List.filter_sublist
  refine ⟨h.d0, h.d1, h.n1, h.n2, Nat.le_trans hsub.length_le h.len, fun x hx => h.each x (hsub.subset hx), h.ord.sublist hsub, fun pre x post he => ?_⟩
  show tagged x pre = true
  have he' : t.facts.filter (fun x => !decide (x.id ∈ gids gone t.facts)) = pre ++ x :: post := he
  obtain ⟨l1, l2, e1, f1, f2⟩ := List.filter_eq_append_iff.1 he'
  obtain ⟨l3, l4, e2, h3, hx, f4⟩ := List.filter_eq_cons_iff.1 f2
  subst e2
  have hm : x ∈ rest t.facts (gids gone t.facts) := by rw [show rest t.facts (gids gone t.facts) = pre ++ x :: post from he]; simp
  have ht := h.tag (l1 ++ l3) x l4 (by rw [e1]; simp)
  have hk : ∀ i ∈ x.tags, known pre i = true := fun i hi => by
    obtain ⟨f, hf, e, k1⟩ := tag_of ht i hi
    have hn := I.clean x hm i hi
    rw [known_iff]
    refine ⟨f, ?_, e, k1⟩
    rw [← f1, List.mem_filter]
    rcases List.mem_append.1 hf with hf | hf
    · exact ⟨hf, by simp [e, hn]⟩
    · have := h3 f hf
      rw [e] at this
      simp [hn] at this
  unfold tagged at ht ⊢
  split
  · rename_i hk1
    rw [if_pos hk1] at ht
    exact ht
  · rename_i hk1
    rw [if_neg hk1, Bool.and_eq_true] at ht
    rw [Bool.and_eq_true, Bool.not_eq_true', List.any_eq_false]
    exact ⟨ht.1, fun i hi => by simp [hk i hi]⟩

/-! ### One more. -/
def active (l : List Fc) : List Int := (l.filter fun x => x.kind == 1).map (·.id)
def fresh (t : Tb) (kind : Int) (x : List Int) : Fc := ⟨t.next, kind, t.depth, x, if kind = 2 then active t.facts else []⟩
def put (t : Tb) (kind : Int) (x : List Int) : Tb := ⟨t.next + 1, t.depth, t.facts ++ [fresh t kind x]⟩

theorem active_mem {l : List Fc} {i : Int} (h : i ∈ active l) : ∃ f ∈ l, f.id = i ∧ f.kind = 1 := by
  unfold active at h
  obtain ⟨f, hf, e⟩ := List.mem_map.1 h
  obtain ⟨h1, h2⟩ := List.mem_filter.1 hf
  exact ⟨f, h1, e, by simpa using h2⟩

theorem strict_ext {a b : List Int} (ha : a.Pairwise (· < ·)) (hb : b.Pairwise (· < ·)) (h : ∀ v, v ∈ a ↔ v ∈ b) : a = b := by
  have na : a.Nodup := ha.imp (fun h => by omega)
  have nb : b.Nodup := hb.imp (fun h => by omega)
  have hp : a.Perm b := (List.perm_ext_iff_of_nodup na nb).2 h
  exact List.Perm.eq_of_pairwise (le := fun a b => a < b) (fun a b _ _ h1 h2 => by omega) ha hb hp

theorem srt_self {l : List Int} (h : l.Pairwise (· < ·)) : l = srt l := strict_ext h (srt_spec l).1 (fun v => ((srt_spec l).2 v).symm)

theorem active_srt {l : List Fc} (h : l.Pairwise (fun a b => a.id < b.id)) : active l = srt (active l) := by
  apply srt_self
  unfold active
  rw [List.pairwise_map]
  exact h.sublist List.filter_sublist

theorem srt_srt (l : List Int) : srt l = srt (srt l) := srt_self (srt_spec l).1

theorem ok_put {t : Tb} (h : Ok t) {kind : Int} (hk : kind = 1 ∨ kind = 2) {x : List Int} (hx : litsOk x = true) (hl : t.facts.length ≠ 64) (hn : t.next ≠ 1099511627776) : Ok (put t kind x) := by
  have hlen := h.len
  have hn2 := h.n2
  have hn1 := h.n1
  refine ⟨h.d0, h.d1, ?_, ?_, ?_, fun y hy => ?_, ?_, fun pre y post he => ?_⟩
  · show 1 ≤ t.next + 1; omega
  · show t.next + 1 ≤ _; omega
  · show (t.facts ++ [fresh t kind x]).length ≤ 64
    rw [List.length_append]
    simp
    omega
  · rcases List.mem_append.1 hy with hy | hy
    · have := h.each y hy
      exact ⟨this.1, by show y.id < t.next + 1; omega, this.2.2⟩
    · rw [List.mem_singleton] at hy
      subst hy
      exact ⟨hn1, by show t.next < t.next + 1; omega, hk, h.d0, Int.le_refl _, hx⟩
  · show (t.facts ++ [fresh t kind x]).Pairwise _
    rw [List.pairwise_append]
    refine ⟨h.ord, by simp, fun a ha b hb => ?_⟩
    rw [List.mem_singleton] at hb
    subst hb
    have := h.each a ha
    exact ⟨this.2.1, this.2.2.2.2.1⟩
  · have he' : t.facts ++ [fresh t kind x] = pre ++ y :: post := he
    by_cases hp : post = []
    · subst hp
      have hj := List.append_inj' he' (by simp)
      obtain ⟨h1, h2⟩ := hj
      simp only [List.cons.injEq, and_true] at h2
      subst h1 h2
      rcases hk with rfl | rfl
      · rfl
      · show (decide (active t.facts = srt (active t.facts)) && !(active t.facts).any fun i => !known t.facts i) = true
        rw [Bool.and_eq_true, Bool.not_eq_true', List.any_eq_false]
        refine ⟨decide_eq_true (active_srt (h.ord.imp (fun h => h.1))), fun i hi => ?_⟩
        rw [known_iff.2 (active_mem hi)]
        simp
    · obtain ⟨q, z, hq⟩ : ∃ q z, post = q ++ [z] := (nil_or_snoc post).resolve_left hp
      subst hq
      have e2 : pre ++ y :: (q ++ [z]) = (pre ++ y :: q) ++ [z] := by simp
      rw [e2] at he'
      have hj := List.append_inj' he' (by simp)
      exact h.tag pre y q hj.1

theorem ok_deep {t : Tb} (h : Ok t) (hd : t.depth ≠ 16) : Ok ⟨t.next, t.depth + 1, t.facts⟩ := by
  have h0 := h.d0
  have h1 := h.d1
  refine ⟨by show 0 ≤ t.depth + 1; omega, by show t.depth + 1 ≤ 16; omega, h.n1, h.n2, h.len, fun x hx => ?_, h.ord, h.tag⟩
  have := h.each x hx
  exact ⟨this.1, this.2.1, this.2.2.1, this.2.2.2.1, by show x.depth ≤ t.depth + 1; omega, this.2.2.2.2.2⟩

theorem ok_up {t : Tb} {l : List Fc} (h : Ok ⟨t.next, t.depth, l⟩) : Ok ⟨t.next, t.depth, l⟩ := h

/-- Elder facts stay behind a pop; new ones go. -/
theorem gids_none {gone : Fc → Bool} (l : List Fc) (h : ∀ x ∈ l, gone x = false) : gids gone l = [] := by
  unfold gids
  induction l with
  | nil => rfl
  | cons x r ih =>
    rw [List.foldl_cons]
    have e : step gone [] x = [] := by
      unfold step
      rw [h x List.mem_cons_self]
      simp
    rw [e]
    exact ih (fun y hy => h y (List.mem_cons_of_mem _ hy))

theorem gids_new {gone : Fc → Bool} (l new : List Fc) (h : ∀ x ∈ l, gone x = false) (h2 : ∀ x ∈ new, gone x = true) : gids gone (l ++ new) = new.map (·.id) := by
  have h0 := gids_none l h
  unfold gids at *
  rw [List.foldl_append, h0]
  suffices ∀ (new : List Fc) (o : List Int), (∀ x ∈ new, gone x = true) → new.foldl (step gone) o = o ++ new.map (·.id) by simpa using this new [] h2
  intro new
  induction new with
  | nil => intro o _; simp
  | cons x r ih =>
    intro o h
    rw [List.foldl_cons]
    have e : step gone o x = o ++ [x.id] := by
      unfold step
      rw [h x List.mem_cons_self]
      simp
    rw [e, ih _ (fun y hy => h y (List.mem_cons_of_mem _ hy))]
    simp

theorem rest_new {l new : List Fc} {ids : List Int} (h : ∀ x ∈ l, x.id ∉ ids) (h2 : ∀ x ∈ new, x.id ∈ ids) : rest (l ++ new) ids = l := by
  unfold rest
  rw [List.filter_append]
  have e1 : l.filter (fun x => !decide (x.id ∈ ids)) = l := by
    rw [List.filter_eq_self]
    intro x hx
    simp [h x hx]
  have e2 : new.filter (fun x => !decide (x.id ∈ ids)) = [] := by
    rw [List.filter_eq_nil_iff]
    intro x hx
    simp [h2 x hx]
  rw [e1, e2, List.append_nil]
end Go.Proofs.Ytgbpoeidpldmkaa.Fact
