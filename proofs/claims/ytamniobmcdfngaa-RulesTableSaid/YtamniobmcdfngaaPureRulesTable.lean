/- RulesTable: for every number and every name the program's names, patterns and numbers of kinds are the document's; over the printed functions, by cases on the name's nine texts and on the number; no condition beyond the printed bounds. -/
import Derived.Test.YtamniobmcdfngaaPRulesTablex1
namespace Go.Proofs.Ytamniobmcdfngaa.Pure
open Go.RowKit Go.Proofs.Ytamniobmcdfngaa.PRulesTable Go.Proofs.YtamniobmcdfngaaW.PrintWords Go.Proofs.YtamniobmcdfngaaW.PrintLast

theorem nameOf (k : Int) : rules_Name.f k = winnowerref12_Name.f k := by
  unfold rules_Name.f winnowerref12_Name.f rules_names.f
  rfl

theorem patternOf (k : Int) : ∃ p, rules_Pattern.f k = some p ∧ winnowerref12_Pattern.f k = some p := by
  by_cases h0 : k < 0
  · refine ⟨⟨#[]⟩, ?_, ?_⟩
    · unfold rules_Pattern.f
      rw [if_neg (by omega), if_neg (by omega), if_neg (by omega), if_neg (by omega), if_neg (by omega), if_neg (by omega), if_neg (by omega), if_neg (by omega), if_neg (by omega)]
    · unfold winnowerref12_Pattern.f
      simp only [Option.bind_some]
      rw [if_pos h0]
  · by_cases h9 : k ≥ 9
    · refine ⟨⟨#[]⟩, ?_, ?_⟩
      · unfold rules_Pattern.f
        rw [if_neg (by omega), if_neg (by omega), if_neg (by omega), if_neg (by omega), if_neg (by omega), if_neg (by omega), if_neg (by omega), if_neg (by omega), if_neg (by omega)]
      · unfold winnowerref12_Pattern.f
        simp only [Option.bind_some]
        rw [if_neg h0, if_pos (by simp only [List.length_cons, List.length_nil]; omega)]
    · obtain h | h | h | h | h | h | h | h | h : k = 0 ∨ k = 1 ∨ k = 2 ∨ k = 3 ∨ k = 4 ∨ k = 5 ∨ k = 6 ∨ k = 7 ∨ k = 8 := by omega
      all_goals
        subst h
        exact ⟨_, rfl, rfl⟩

theorem nameSome (k : Int) : ∃ p, winnowerref12_Name.f k = some p := by
  by_cases h0 : k < 0
  · exact ⟨_, by unfold winnowerref12_Name.f; simp only [Option.bind_some]; rw [if_pos h0]⟩
  · by_cases h9 : k ≥ 9
    · exact ⟨_, by unfold winnowerref12_Name.f; simp only [Option.bind_some]; rw [if_neg h0, if_pos (by simp only [List.length_cons, List.length_nil]; omega)]⟩
    · obtain h | h | h | h | h | h | h | h | h : k = 0 ∨ k = 1 ∨ k = 2 ∨ k = 3 ∨ k = 4 ∨ k = 5 ∨ k = 6 ∨ k = 7 ∨ k = 8 := by omega
      all_goals
        subst h
        exact ⟨_, rfl⟩

abbrev names9 : List ByteArray := [(⟨#[115, 116, 97, 109, 112]⟩ : ByteArray), (⟨#[105, 112]⟩ : ByteArray), (⟨#[109, 97, 99]⟩ : ByteArray), (⟨#[104, 101, 120]⟩ : ByteArray), (⟨#[110, 117, 109, 98, 101, 114]⟩ : ByteArray), (⟨#[113, 117, 111, 116, 101, 100]⟩ : ByteArray), (⟨#[119, 111, 114, 100]⟩ : ByteArray), (⟨#[98, 108, 97, 110, 107]⟩ : ByteArray), (⟨#[111, 116, 104, 101, 114]⟩ : ByteArray)]

theorem aStep (k : Nat) (s : ByteArray) (i : Int) (h0 : 0 ≤ i) (h : i < 9) :
    slices_Index_string_string.l0 (k + 1) names9 s 9 i =
      if s.toList = (rdOf ByteArray.empty names9 i).toList then some i else slices_Index_string_string.l0 k names9 s 9 (i + 1) := by
  have hw : wrap64 (i + 1) = i + 1 := by unfold wrap64; omega
  have hl : ((names9.length : Nat) : Int) = 9 := rfl
  rw [slices_Index_string_string.l0, if_pos h, if_pos h0, hl, if_pos h, hw]

theorem bName (i : Int) (h0 : 0 ≤ i) (h : i < 9) : winnowerref12_Name.f i = some (rdOf ByteArray.empty names9 i) := by
  unfold winnowerref12_Name.f
  have hl : ((names9.length : Nat) : Int) = 9 := rfl
  change (if i < 0 then (some (⟨#[]⟩ : ByteArray)) else (if i ≥ (names9.length : Int) then (some (⟨#[]⟩ : ByteArray)) else (if 0 ≤ i then (if i < (names9.length : Int) then (some (rdOf ByteArray.empty names9 i)) else (none)) else (none)))) = _
  rw [hl, if_neg (by omega), if_neg (by omega), if_pos h0, if_pos h]

theorem bStep (k : Nat) (s : ByteArray) (i : Int) (h0 : 0 ≤ i) (h : i < 9) :
    winnowerref12_Kind.l0 (k + 1) s i =
      if (rdOf ByteArray.empty names9 i).toList = s.toList then some (i, true) else winnowerref12_Kind.l0 k s (i + 1) := by
  have hw : wrap64 (i + 1) = i + 1 := by unfold wrap64; omega
  rw [winnowerref12_Kind.l0, if_pos h, bName i h0 h, Option.bind_some, hw]

/-- Both look for the name in one and the same row of names. -/
theorem kindFrom (s : ByteArray) : ∀ (d : Nat) (i : Int), i = 9 - (d : Int) → 0 ≤ i →
    ∃ r : Int, slices_Index_string_string.l0 (d + 1) names9 s 9 i = some r ∧ winnowerref12_Kind.l0 (d + 1) s i = some (r, decide (r ≥ 0))
  | 0, i, hi, h0 => by
    refine ⟨-1, ?_, ?_⟩
    · rw [slices_Index_string_string.l0, if_neg (by omega)]
    · rw [winnowerref12_Kind.l0, if_neg (by omega)]
      rfl
  | d + 1, i, hi, h0 => by
    rw [aStep _ s i h0 (by omega), bStep _ s i h0 (by omega)]
    by_cases h : s.toList = (rdOf ByteArray.empty names9 i).toList
    · rw [if_pos h, if_pos h.symm]
      exact ⟨i, rfl, by rw [decide_eq_true h0]⟩
    · rw [if_neg h, if_neg (fun x => h x.symm)]
      exact kindFrom s d (i + 1) (by omega) (by omega)

theorem kindOf (s : ByteArray) : ∃ r : Int, rules_Kind.f 12 s = some (r, decide (r ≥ 0)) ∧ winnowerref12_Kind.f 12 s = some (r, decide (r ≥ 0)) := by
  obtain ⟨r, h1, h2⟩ := kindFrom s 9 0 rfl (by omega)
  have m1 := slices_Index_string_string.mono names9 s
  have m2 := winnowerref12_Kind.mono s
  refine ⟨r, ?_, m2 11 _ (m2 10 _ h2)⟩
  have h3 : slices_Index_string_string.f 12 names9 s = some r := m1 11 _ (m1 10 _ h1)
  unfold rules_Kind.f rules_names.f
  rw [Option.bind_some, h3, Option.bind_some]

theorem known12 : winnowerlaw12_known.f 12 = some true := by
  obtain ⟨r, h1, h2⟩ := kindOf ⟨#[105, 112]⟩
  have h3 : r = 1 := by
    have m2 := winnowerref12_Kind.mono ⟨#[105, 112]⟩
    have h4 : winnowerref12_Kind.f 3 ⟨#[105, 112]⟩ = some (1, true) := by
      unfold winnowerref12_Kind.f
      rw [bStep _ _ 0 (by omega) (by omega), if_neg (by decide +kernel), bStep _ _ (0 + 1) (by omega) (by omega), if_pos (by decide +kernel)]
      rfl
    have h5 := m2 11 _ (m2 10 _ (m2 9 _ (m2 8 _ (m2 7 _ (m2 6 _ (m2 5 _ (m2 4 _ (m2 3 _ h4))))))))
    rw [h5] at h2
    exact (Prod.mk.inj (Option.some.inj h2)).1.symm
  subst h3
  unfold winnowerlaw12_known.f
  rw [h1, Option.bind_some, if_pos (by decide), if_pos (by decide)]
  decide +kernel

theorem RulesTable : winnowerlaw12_RulesTable.Pure := by
  intro a0 a1 _ _
  refine ⟨12, ?_⟩
  unfold winnowerlaw12_RulesTable.f
  by_cases h : (a1.size : Int) > 100
  · rw [if_pos h]
  · rw [if_neg h]
    obtain ⟨r, k1, k2⟩ := kindOf a1
    obtain ⟨n, hn⟩ := nameSome a0
    obtain ⟨p, hp, hq⟩ := patternOf a0
    rw [k1, k2, nameOf, hn, hp, hq, known12]
    simp only [Option.bind_some, if_true, beq_self_eq_true]

end Go.Proofs.Ytamniobmcdfngaa.Pure
