/-
  Plain: what circuit.Check says is what the page says.
-/
import Derived.Test.YtjmmhbmbafjneaaGreatDoorRefCheck
namespace Go.Proofs.YtjmmhbmbafjneaaGreatDoor
open Go.RowKit Base
set_option linter.unusedVariables false
set_option linter.unusedSimpArgs false
namespace Circuit

theorem full_iff (x : Circ) (v : Int) : (kindOf x v).toList.isEmpty = false ↔ v = 0 ∨ ∃ m ∈ ownL x, 0 ≤ m ∧ var m = v := by
  have hany : ∀ {α : Type} (l : List α) (f : α → Int), ((l.map fun t => ofV v (f t)).any id = true ↔ ∃ t ∈ l, 0 ≤ f t ∧ var (f t) = v) := by
    intro α l f
    rw [List.any_eq_true]
    constructor
    · rintro ⟨b, hb, hb2⟩
      obtain ⟨t, ht, rfl⟩ := List.mem_map.1 hb
      unfold ofV at hb2
      simp only [id, Bool.and_eq_true, decide_eq_true_eq] at hb2
      exact ⟨t, ht, hb2⟩
    · rintro ⟨t, ht, h⟩
      refine ⟨true, List.mem_map.2 ⟨t, ht, ?_⟩, rfl⟩
      unfold ofV
      simp [h]
  have hmem : (∃ m ∈ ownL x, 0 ≤ m ∧ var m = v) ↔ (∃ t ∈ x.ins, 0 ≤ t ∧ var t = v) ∨ (∃ t ∈ x.lats, 0 ≤ t.1 ∧ var t.1 = v) ∨ ∃ t ∈ x.ands, 0 ≤ t.1 ∧ var t.1 = v := by
    unfold ownL
    constructor
    · rintro ⟨m, hm, h⟩
      rw [List.mem_append, List.mem_append] at hm
      rcases hm with (hm | hm) | hm
      · exact Or.inl ⟨m, hm, h⟩
      · obtain ⟨t, ht, rfl⟩ := List.mem_map.1 hm; exact Or.inr (Or.inl ⟨t, ht, h⟩)
      · obtain ⟨t, ht, rfl⟩ := List.mem_map.1 hm; exact Or.inr (Or.inr ⟨t, ht, h⟩)
    · rintro (⟨t, ht, h⟩ | ⟨t, ht, h⟩ | ⟨t, ht, h⟩)
      · exact ⟨t, by rw [List.mem_append, List.mem_append]; exact Or.inl (Or.inl ht), h⟩
      · exact ⟨t.1, by rw [List.mem_append, List.mem_append]; exact Or.inl (Or.inr (List.mem_map.2 ⟨t, ht, rfl⟩)), h⟩
      · exact ⟨t.1, by rw [List.mem_append]; exact Or.inr (List.mem_map.2 ⟨t, ht, rfl⟩), h⟩
  rw [hmem, ← hany x.ins (fun t => t), ← hany x.lats (fun t => t.1), ← hany x.ands (fun t => t.1)]
  unfold kindOf
  rw [gate_any_ofV x.ands v]
  have hnil : (⟨#[]⟩ : ByteArray).toList.isEmpty = true := by rw [Lib.toList_data]; rfl
  by_cases h0 : v = 0
  · rw [if_pos h0]; simp [one_full, h0]
  · rw [if_neg h0]
    show _ ↔ v = 0 ∨ (x.ins.map (ofV v)).any id = true ∨ _
    by_cases h1 : (x.ins.map (ofV v)).any id = true
    · rw [if_pos h1]; simp [one_full, h1]
    · rw [if_neg h1]
      by_cases h2 : (x.lats.map fun t => ofV v t.1).any id = true
      · rw [if_pos h2]; simp [one_full, h2]
      · rw [if_neg h2]
        by_cases h3 : (x.ands.map fun t => ofV v t.1).any id = true
        · rw [if_pos h3]; simp [one_full, h3]
        · rw [if_neg h3]; simp [hnil, h0, h1, h2, h3]

theorem knR_iff {x : Circ} (hown : ∀ m ∈ ownL x, 2 ≤ m) (l : Int) : KnR x l ↔ knownV (vsOf x) l := by
  unfold KnR knownV
  rw [full_iff]
  constructor
  · rintro ⟨h0, h | ⟨m, hm, hm0, hv⟩⟩
    · exact ⟨h0, Or.inl (by omega)⟩
    · refine ⟨h0, Or.inr (List.mem_map.2 ⟨m, hm, ?_⟩)⟩
      rw [hv]; unfold var; omega
  · rintro ⟨h0, h | h⟩
    · exact ⟨h0, Or.inl (by omega)⟩
    · obtain ⟨m, hm, hv⟩ := List.mem_map.1 h
      refine ⟨h0, Or.inr ⟨m, hm, by have := hown m hm; omega, ?_⟩⟩
      rw [hv]; unfold var; omega

theorem own_two {x : Circ} (h : ∀ i, ROwn x i) : ∀ m ∈ ownL x, 2 ≤ m := fun m hm => by
  obtain ⟨i, hi, rfl⟩ := List.mem_iff_getElem.1 hm
  exact (h i hi).1

theorem own_iff {x : Circ} (hm : 0 ≤ x.max) : OwnOk x.max (ownL x) ↔ ∀ i, ROwn x i := by
  constructor
  · intro h i hi
    obtain ⟨h1, h2, h3, h4⟩ := h i hi
    have h2' : (ownL x)[i] % 2 ≠ 1 := by
      unfold neg at h2
      rw [if_neg (by omega)] at h2
      simpa using h2
    refine ⟨h1, h2', ?_, fun hmem => h4 (List.mem_map.2 ⟨_, hmem, rfl⟩)⟩
    unfold var at h3
    omega
  · intro h i hi
    obtain ⟨h1, h2, h3, h4⟩ := h i hi
    refine ⟨h1, ?_, by unfold var; omega, ?_⟩
    · unfold neg
      rw [if_neg (by omega)]
      simpa using h2
    · intro hmem
      obtain ⟨m, hm2, hv⟩ := List.mem_map.1 hmem
      obtain ⟨j, hj, rfl⟩ := List.mem_iff_getElem.1 hm2
      have hji : j < i := by rw [List.length_take] at hj; omega
      have hjl : j < (ownL x).length := by omega
      obtain ⟨g1, g2, _, _⟩ := h j hjl
      rw [List.getElem_take] at hv hm2
      have : (ownL x)[j] = (ownL x)[i] := by unfold var at hv; omega
      rw [this] at hm2
      exact h4 hm2

theorem five {c : UInt8} (h : 0 ≤ at1 kindsB c) : c = 105 ∨ c = 108 ∨ c = 111 ∨ c = 98 ∨ c = 99 := by
  by_cases h1 : c = 105
  · exact Or.inl h1
  by_cases h2 : c = 108
  · exact Or.inr (Or.inl h2)
  by_cases h3 : c = 111
  · exact Or.inr (Or.inr (Or.inl h3))
  by_cases h4 : c = 98
  · exact Or.inr (Or.inr (Or.inr (Or.inl h4)))
  by_cases h5 : c = 99
  · exact Or.inr (Or.inr (Or.inr (Or.inr h5)))
  exfalso
  have e : at1 kindsB c = Lib.indexByte [105, 108, 111, 98, 99] c := rfl
  rw [e] at h
  simp [Lib.indexByte, Ne.symm h1, Ne.symm h2, Ne.symm h3, Ne.symm h4, Ne.symm h5] at h

theorem rankR_data (k : ByteArray) : rankR k = idx (fun s : List UInt8 => s == k.data.toList) [[105], [108], [111], [98], [99]] 0 := by
  unfold rankR kinds5
  simp only [idx, Lib.toList_data]
theorem countR_data (x : Circ) (k : ByteArray) : countR x k = if k.data.toList = [105] then (x.ins.length : Int) else if k.data.toList = [108] then x.lats.length else if k.data.toList = [111] then x.outs.length else if k.data.toList = [98] then x.bads.length else if k.data.toList = [99] then x.invs.length else -1 := by
  unfold countR
  simp only [Lib.toList_data, beq_iff_eq]
theorem countOf_data (x : Circ) (k : ByteArray) : (countOf x k : Int) = if k.data.toList = [105] then (x.ins.length : Int) else if k.data.toList = [108] then x.lats.length else if k.data.toList = [111] then x.outs.length else if k.data.toList = [98] then x.bads.length else x.invs.length := by
  unfold countOf
  simp only [Lib.toList_data, beq_iff_eq]
  split
  · rfl
  · split
    · rfl
    · split
      · rfl
      · split <;> rfl

theorem kind_facts (x : Circ) {k : ByteArray} {c : UInt8} (hk : k.data.toList = [c]) (h : 0 ≤ at1 kindsB c) : rankR k = at1 kindsB c ∧ countR x k = countOf x k := by
  rw [rankR_data, countR_data, countOf_data, hk]
  rcases five h with rfl | rfl | rfl | rfl | rfl
  all_goals exact ⟨by decide, by simp⟩

theorem count_one {x : Circ} {k : ByteArray} (h : 0 ≤ countR x k) : ∃ c, k.data.toList = [c] ∧ 0 ≤ at1 kindsB c := by
  rw [countR_data] at h
  split at h
  · rename_i h1; exact ⟨105, h1, by decide⟩
  · split at h
    · rename_i h1; exact ⟨108, h1, by decide⟩
    · split at h
      · rename_i h1; exact ⟨111, h1, by decide⟩
      · split at h
        · rename_i h1; exact ⟨98, h1, by decide⟩
        · split at h
          · rename_i h1; exact ⟨99, h1, by decide⟩
          · omega

theorem text_iff (s : ByteArray) : textOk s = true ↔ (s.toList == []) = false ∧ (s.size : Int) ≤ 32 ∧ ∀ j (h : j < s.size), j < s.size → offB s[j] = false := by
  unfold textOk
  have he : (s.toList == []) = s.toList.isEmpty := by cases s.toList <;> rfl
  have ha : (s.data.toList.map offB).any id = false ↔ ∀ j (h : j < s.size), j < s.size → offB s[j] = false := by
    constructor
    · intro h j hj _
      rw [Bool.eq_false_iff]
      intro hb
      rw [Bool.eq_false_iff] at h
      apply h
      rw [List.any_eq_true]
      have hl : j < s.data.toList.length := by simpa using hj
      refine ⟨true, List.mem_map.2 ⟨s.data.toList[j], List.getElem_mem hl, ?_⟩, rfl⟩
      rw [← hb]
      rfl
    · intro h
      rw [Bool.eq_false_iff]
      intro hb
      rw [List.any_eq_true] at hb
      obtain ⟨b, hb1, hb2⟩ := hb
      obtain ⟨c, hc, rfl⟩ := List.mem_map.1 hb1
      obtain ⟨j, hj, rfl⟩ := List.mem_iff_getElem.1 hc
      have hj2 : j < s.size := by simpa using hj
      have := h j hj2 hj2
      have e : s[j] = s.data.toList[j] := rfl
      rw [e] at this
      simp only [id] at hb2
      rw [this] at hb2
      cases hb2
  rw [Bool.and_eq_true, Bool.and_eq_true, Bool.not_eq_true', Bool.not_eq_true', decide_eq_true_iff, he, ha]

theorem nameOk_iff (x : Circ) (t : NameT) : NameOk x t ↔ HeadR x t ∧ BytesR t t.2.2.size := by
  unfold HeadR BytesR
  constructor
  · rintro ⟨c, hk, ha, h0, h1, ht⟩
    obtain ⟨g1, g2, g3⟩ := (text_iff _).1 ht
    exact ⟨⟨h0, by rw [(kind_facts x hk ha).2]; exact h1, g1, g2⟩, g3⟩
  · rintro ⟨⟨h0, h1, g1, g2⟩, g3⟩
    obtain ⟨c, hk, ha⟩ := count_one (x := x) (k := t.1) (by omega)
    exact ⟨c, hk, ha, h0, by rw [← (kind_facts x hk ha).2]; exact h1, (text_iff _).2 ⟨g1, g2, g3⟩⟩

theorem count_64 {x : Circ} (h : Few x) (k : ByteArray) : (countOf x k : Int) ≤ 64 := by
  obtain ⟨_, _, h1, h2, h3, h4, h5⟩ := h
  rw [countOf_data]
  split
  · omega
  · split
    · omega
    · split
      · omega
      · split <;> omega

theorem rank_iff {x : Circ} (hf : Few x) {t t' : NameT} (h : NameOk x t) (h' : NameOk x t') : rankT t' < rankT t ↔ OrdR t' t := by
  obtain ⟨c, hk, ha, h0, h1, _⟩ := h
  obtain ⟨c', hk', ha', h0', h1', _⟩ := h'
  have e := count_64 hf t.1
  have e' := count_64 hf t'.1
  unfold rankT rankOf OrdR
  rw [(kind_facts x hk ha).1, (kind_facts x hk' ha').1, hk, hk', Lib.toList_data, Lib.toList_data, hk, hk']
  simp only [List.headD_cons, beq_iff_eq, List.cons.injEq, and_true]
  by_cases hcc : c' = c
  · subst hcc
    constructor
    · intro hlt; exact ⟨by omega, fun hh => by omega⟩
    · rintro ⟨_, g⟩
      have : ¬ t.2.1 ≤ t'.2.1 := fun hh => g ⟨rfl, hh⟩
      omega
  · have hne : at1 kindsB c ≠ at1 kindsB c' := by
      rcases five ha with rfl | rfl | rfl | rfl | rfl <;> rcases five ha' with rfl | rfl | rfl | rfl | rfl <;> first | exact absurd rfl hcc | decide
    constructor
    · intro hlt; exact ⟨by omega, fun hh => hcc hh.1⟩
    · rintro ⟨g, _⟩
      omega

theorem names_iff {x : Circ} (hf : Few x) : NamesTo x x.names.length ↔ NamesR x x.names.length := by
  constructor
  · intro h j hj hj2
    have hok := (h j hj hj2).1
    refine ⟨(nameOk_iff x _).1 hok, fun t h0 ht => ?_⟩
    obtain ⟨hl, rfl⟩ := List.getElem?_eq_some_iff.1 ht
    exact (rank_iff hf hok (h (j - 1) hl hl).1).1 ((h j hj hj2).2 _ h0 ht)
  · intro h j hj hj2
    have hok := (nameOk_iff x _).2 (h j hj hj2).1
    refine ⟨hok, fun t h0 ht => ?_⟩
    obtain ⟨hl, rfl⟩ := List.getElem?_eq_some_iff.1 ht
    exact (rank_iff hf hok ((nameOk_iff x _).2 (h (j - 1) hl hl).1)).2 ((h j hj hj2).2 _ h0 ht)

theorem namesR_few {x : Circ} (h1 : x.ins.length ≤ 64) (h2 : x.lats.length ≤ 64) (h0 : 0 ≤ x.max) (hm : x.max ≤ 2048) (ho : AllR x x.outs) (hb : AllR x x.bads) (hv : AllR x x.invs) : Few x :=
  ⟨h0, hm, h1, h2, ho.2, hb.2, hv.2⟩

/-- What may be by the code may be by the page, and the other way round. -/
theorem check_iff (x : Circ) : CheckOk x ↔ RefOk x := by
  constructor
  · rintro ⟨hf, ⟨hd, hr, hs⟩, hl, ha, ho, hb, hv, hn⟩
    have hown := (own_iff hf.1).1 hd
    have hk := knR_iff (own_two hown)
    refine ⟨hf.1, hf.2.1, hf.2.2.1, hf.2.2.2.1, (names_iff hf).1 hn, fun t ht => ⟨hr t ht, (hk _).2 (hl t ht)⟩, fun t ht => ?_, fun j hj _ => hs j hj, hown, ⟨fun y hy => (hk _).2 (ho y hy), hf.2.2.2.2.1⟩, ⟨fun y hy => (hk _).2 (hb y hy), hf.2.2.2.2.2.1⟩, ⟨fun y hy => (hk _).2 (hv y hy), hf.2.2.2.2.2.2⟩⟩
    obtain ⟨g1, g2, g3, g4⟩ := ha t ht
    exact ⟨g3, g4, (hk _).2 g1, (hk _).2 g2⟩
  · rintro ⟨h0, hm, hi, hl, hn, hlat, hand, hris, hown, ho, hb, hv⟩
    have hf := namesR_few hi hl h0 hm ho hb hv
    have hk := knR_iff (own_two hown)
    refine ⟨hf, ⟨(own_iff h0).2 hown, fun t ht => (hlat t ht).1, fun j hj => hris j hj hj⟩, fun t ht => (hk _).1 (hlat t ht).2, fun t ht => ?_, fun y hy => (hk _).1 (ho.1 y hy), fun y hy => (hk _).1 (hb.1 y hy), fun y hy => (hk _).1 (hv.1 y hy), (names_iff hf).2 hn⟩
    obtain ⟨g3, g4, g1, g2⟩ := hand t ht
    exact ⟨(hk _).1 g1, (hk _).1 g2, g3, g4⟩

theorem refchk_eq (x : Circ) : refchk x = chk x := by
  unfold refchk chk
  rw [tt_congr (check_iff x)]

/-- A gate's variable is a gate's; what it names is something. -/
theorem and_kind {x : Circ} (h : CheckOk x) {t : Tri} (ht : t ∈ x.ands) : kindOf x (t.1 / 2) = ⟨#[97]⟩ ∧ (kindOf x (t.2.1 / 2)).toList.isEmpty = false ∧ (kindOf x (t.2.2 / 2)).toList.isEmpty = false ∧ t.2.1 / 2 < t.1 / 2 ∧ t.2.2 / 2 < t.1 / 2 := by
  obtain ⟨hf, ⟨hd, _, _⟩, _, ha, _⟩ := h
  have hown := (own_iff hf.1).1 hd
  have hk := knR_iff (own_two hown)
  obtain ⟨g1, g2, g3, g4⟩ := ha t ht
  obtain ⟨j, hj, rfl⟩ := List.mem_iff_getElem.1 ht
  have hoi := own_ands x hj
  obtain ⟨hlen, he⟩ := List.getElem?_eq_some_iff.1 hoi
  obtain ⟨e1, e2, e3, e4⟩ := hd _ hlen
  rw [he] at e1 e2 e3 e4
  have hr := hown _ hlen
  rw [he] at hr
  have k1 := (hk _).2 g1
  have k2 := (hk _).2 g2
  refine ⟨?_, k1.2, k2.2, ?_, ?_⟩
  · have hv : var x.ands[j].1 = x.ands[j].1 / 2 := by unfold var; omega
    rw [hv] at e4
    have hne : ∀ m ∈ (ownL x).take (x.ins.length + x.lats.length + j), ¬ (0 ≤ m ∧ var m = x.ands[j].1 / 2) := fun m hm hh => e4 (List.mem_map.2 ⟨m, hm, hh.2⟩)
    have hti : ∀ m ∈ x.ins ++ x.lats.map (·.1), m ∈ (ownL x).take (x.ins.length + x.lats.length + j) := by
      intro m hm
      have : (ownL x).take (x.ins.length + x.lats.length + j) = (x.ins ++ x.lats.map (·.1)) ++ (x.ands.map (·.1)).take j := by
        unfold ownL
        rw [List.take_append, List.take_of_length_le (by simp), show x.ins.length + x.lats.length + j - (x.ins ++ x.lats.map (·.1)).length = j by simp]
      rw [this]
      exact List.mem_append_left _ hm
    unfold kindOf
    rw [if_neg (by omega)]
    have h1 : (x.ins.map (ofV (x.ands[j].1 / 2))).any id = false := any_none (fun i hi _ => by
      have := hne x.ins[i] (hti _ (List.mem_append_left _ (List.getElem_mem hi)))
      unfold ofV
      rw [Bool.eq_false_iff]
      intro hb
      simp only [Bool.and_eq_true, decide_eq_true_eq] at hb
      exact this hb)
    have h2 : (x.lats.map fun t => ofV (x.ands[j].1 / 2) t.1).any id = false := any_none (p := fun t : Tri => ofV (x.ands[j].1 / 2) t.1) (fun i hi _ => by
      have := hne x.lats[i].1 (hti _ (List.mem_append_right _ (List.mem_map.2 ⟨_, List.getElem_mem hi, rfl⟩)))
      unfold ofV
      rw [Bool.eq_false_iff]
      intro hb
      simp only [Bool.and_eq_true, decide_eq_true_eq] at hb
      exact this hb)
    have h3 : (gate x.ands (x.ands[j].1 / 2)).isSome = true := by
      rw [gate_any_ofV]
      exact any_some (p := fun t : Tri => ofV (x.ands[j].1 / 2) t.1) hj (by unfold ofV; rw [hv]; simp; omega)
    rw [h1, h2, h3]
    rfl
  · have := k1.1; omega
  · have := k2.1; omega

end Circuit
end Go.Proofs.YtjmmhbmbafjneaaGreatDoor
