/- What the functions on sets of bytes answer: lists, rows of neighbours, how many. -/
import Derived.Test.YtamniobmcdfngaaAnswers3
set_option linter.unusedSimpArgs false
set_option linter.unusedVariables false
/- What the functions on sets of bytes answer: lists, rows of neighbours, how many. -/
namespace Go.Abs
open S
set_option maxRecDepth 10000

def listN (s : BSet) (i : Nat) : List UInt8 := ((List.range i).filter fun b => s.getLsbD b).map UInt8.ofNat
def listS (s : BSet) : List UInt8 := listN s 256
theorem listN_succ (s : BSet) (i : Nat) : listN s (i + 1) = if s.getLsbD i then listN s i ++ [UInt8.ofNat i] else listN s i := by
  unfold listN
  rw [List.range_succ, List.filter_append, List.map_append]
  by_cases h : s.getLsbD i = true
  · simp [h]
  · simp [h]
theorem listN_len (s : BSet) : ∀ i, (listN s i).length ≤ i
  | 0 => by simp [listN]
  | i + 1 => by
    have := listN_len s i
    rw [listN_succ]
    split <;> simp <;> omega

theorem class_List_ok (s : BSet) : pcL C i_class_List [.agg (scells s)] = some (.ps (bcells (listS s)) (listS s).length none) := by
  refine pcL_of rfl f_class_List ?_
  repeat (first | (refine Wp.seq ?_) | (refine Wp.block ?_) | (refine Wp.skip ?_) | (apply Wp.region; focus (simp (maxSteps := 1000000) (disch := first | omega | assumption | (simp only [R5]; first | done | omega)) only [R1, R2, R3, R4, R5, R6, RC, Nat.reduceEqDiff, Nat.reduceAdd, Nat.reduceSub, Nat.reduceMul, Nat.reduceLT, Nat.reduceLeDiff, Nat.reduceBEq, reduceIte, Int.reduceEq, Int.reduceLT, Int.reduceLE, Int.reduceAdd, Int.reduceSub, Int.reduceNeg, Int.reduceMul, reduceCtorEq, Int.reduceToNat]; with_reducible rfl)) | (refine Wp.condT ?_ ?_; focus (simp (maxSteps := 1000000) (disch := first | omega | assumption | (simp only [R5]; first | done | omega)) only [R1, R2, R3, R4, R5, R6, RC, Nat.reduceEqDiff, Nat.reduceAdd, Nat.reduceSub, Nat.reduceMul, Nat.reduceLT, Nat.reduceLeDiff, Nat.reduceBEq, reduceIte, Int.reduceEq, Int.reduceLT, Int.reduceLE, Int.reduceAdd, Int.reduceSub, Int.reduceNeg, Int.reduceMul, reduceCtorEq, Int.reduceToNat]; done)) | (refine Wp.condF ?_ ?_; focus (simp (maxSteps := 1000000) (disch := first | omega | assumption | (simp only [R5]; first | done | omega)) only [R1, R2, R3, R4, R5, R6, RC, Nat.reduceEqDiff, Nat.reduceAdd, Nat.reduceSub, Nat.reduceMul, Nat.reduceLT, Nat.reduceLeDiff, Nat.reduceBEq, reduceIte, Int.reduceEq, Int.reduceLT, Int.reduceLE, Int.reduceAdd, Int.reduceSub, Int.reduceNeg, Int.reduceMul, reduceCtorEq, Int.reduceToNat]; done)) | (refine Wp.exit ⟨fun _ => ?_, fun h => absurd rfl h⟩) | (refine Wp.exit ⟨fun h => absurd h (by decide), fun _ => ⟨fun _ => ?_, fun h => absurd rfl h⟩⟩))
  refine Wp.count 256 (fun i st => ∃ t h c v, st = ⟨t, h, c⟩ ∧ Own h 4 1 v (bcells (listN s i)) (listN s i).length 0 ∧ Sl t [(1, .reg 0 (scells s)), (5, .int .i64 i), (3, v)]) ?_ ?_ ?_
  · exact ⟨_, _, _, _, rfl, Own.nil _ _ _ _, by simp (maxSteps := 1000000) (disch := first | omega | assumption | (simp only [R5, Sl]; first | done | omega)) only [R1, R2, R3, R4, R5, R6, RC, Nat.reduceEqDiff, Nat.reduceAdd, Nat.reduceSub, Nat.reduceMul, Nat.reduceLT, Nat.reduceLeDiff, Nat.reduceBEq, reduceIte, Int.reduceEq, Int.reduceLT, Int.reduceLE, Int.reduceAdd, Int.reduceSub, Int.reduceNeg, Int.reduceMul, reduceCtorEq, Int.reduceToNat, Sl]⟩
  · rintro i _ hi ⟨t, h, c, v, rfl, o, hs⟩
    simp only [Sl] at hs
    have hl := listN_len s i
    obtain ⟨v', h', ha, o', -⟩ := o.app (x := .ps [.int .u8 i] 1 (some 1)) (m := 1) rfl (more_ps 1 h [.int .u8 i] 1 _ rfl) rfl rfl (bytes := 1) (by omega) (by omega)
    cases hb : s.getLsbD i with
    | true =>
      repeat (first | (refine Wp.seq ?_) | (refine Wp.block ?_) | (refine Wp.skip ?_) | (apply Wp.region; focus (simp (maxSteps := 1000000) (disch := first | omega | assumption | (simp only [R5, hs, class_Has_ok, hb, o.rval, ha]; first | done | omega)) only [R1, R2, R3, R4, R5, R6, RC, Nat.reduceEqDiff, Nat.reduceAdd, Nat.reduceSub, Nat.reduceMul, Nat.reduceLT, Nat.reduceLeDiff, Nat.reduceBEq, reduceIte, Int.reduceEq, Int.reduceLT, Int.reduceLE, Int.reduceAdd, Int.reduceSub, Int.reduceNeg, Int.reduceMul, reduceCtorEq, Int.reduceToNat, hs, class_Has_ok, hb, o.rval, ha]; with_reducible rfl)) | (refine Wp.condT ?_ ?_; focus (simp (maxSteps := 1000000) (disch := first | omega | assumption | (simp only [R5, hs, class_Has_ok, hb, o.rval, ha]; first | done | omega)) only [R1, R2, R3, R4, R5, R6, RC, Nat.reduceEqDiff, Nat.reduceAdd, Nat.reduceSub, Nat.reduceMul, Nat.reduceLT, Nat.reduceLeDiff, Nat.reduceBEq, reduceIte, Int.reduceEq, Int.reduceLT, Int.reduceLE, Int.reduceAdd, Int.reduceSub, Int.reduceNeg, Int.reduceMul, reduceCtorEq, Int.reduceToNat, hs, class_Has_ok, hb, o.rval, ha]; done)) | (refine Wp.condF ?_ ?_; focus (simp (maxSteps := 1000000) (disch := first | omega | assumption | (simp only [R5, hs, class_Has_ok, hb, o.rval, ha]; first | done | omega)) only [R1, R2, R3, R4, R5, R6, RC, Nat.reduceEqDiff, Nat.reduceAdd, Nat.reduceSub, Nat.reduceMul, Nat.reduceLT, Nat.reduceLeDiff, Nat.reduceBEq, reduceIte, Int.reduceEq, Int.reduceLT, Int.reduceLE, Int.reduceAdd, Int.reduceSub, Int.reduceNeg, Int.reduceMul, reduceCtorEq, Int.reduceToNat, hs, class_Has_ok, hb, o.rval, ha]; done)) | (refine Wp.exit ⟨fun _ => ?_, fun h => absurd rfl h⟩) | (refine Wp.exit ⟨fun h => absurd h (by decide), fun _ => ⟨fun _ => ?_, fun h => absurd rfl h⟩⟩))
      refine ⟨_, _, _, v', rfl, ?_, ?_⟩
      · rw [listN_succ, if_pos hb, bcells_app, bcells_cons, bcells_nil, ← u8_ofNat hi, List.length_append]
        exact o'
      · simp (maxSteps := 1000000) (disch := first | omega | assumption | (simp only [R5, Sl, hs, o'.rval]; first | done | omega)) only [R1, R2, R3, R4, R5, R6, RC, Nat.reduceEqDiff, Nat.reduceAdd, Nat.reduceSub, Nat.reduceMul, Nat.reduceLT, Nat.reduceLeDiff, Nat.reduceBEq, reduceIte, Int.reduceEq, Int.reduceLT, Int.reduceLE, Int.reduceAdd, Int.reduceSub, Int.reduceNeg, Int.reduceMul, reduceCtorEq, Int.reduceToNat, Sl, hs, o'.rval]
    | false =>
      repeat (first | (refine Wp.seq ?_) | (refine Wp.block ?_) | (refine Wp.skip ?_) | (apply Wp.region; focus (simp (maxSteps := 1000000) (disch := first | omega | assumption | (simp only [R5, hs, class_Has_ok, hb]; first | done | omega)) only [R1, R2, R3, R4, R5, R6, RC, Nat.reduceEqDiff, Nat.reduceAdd, Nat.reduceSub, Nat.reduceMul, Nat.reduceLT, Nat.reduceLeDiff, Nat.reduceBEq, reduceIte, Int.reduceEq, Int.reduceLT, Int.reduceLE, Int.reduceAdd, Int.reduceSub, Int.reduceNeg, Int.reduceMul, reduceCtorEq, Int.reduceToNat, hs, class_Has_ok, hb]; with_reducible rfl)) | (refine Wp.condT ?_ ?_; focus (simp (maxSteps := 1000000) (disch := first | omega | assumption | (simp only [R5, hs, class_Has_ok, hb]; first | done | omega)) only [R1, R2, R3, R4, R5, R6, RC, Nat.reduceEqDiff, Nat.reduceAdd, Nat.reduceSub, Nat.reduceMul, Nat.reduceLT, Nat.reduceLeDiff, Nat.reduceBEq, reduceIte, Int.reduceEq, Int.reduceLT, Int.reduceLE, Int.reduceAdd, Int.reduceSub, Int.reduceNeg, Int.reduceMul, reduceCtorEq, Int.reduceToNat, hs, class_Has_ok, hb]; done)) | (refine Wp.condF ?_ ?_; focus (simp (maxSteps := 1000000) (disch := first | omega | assumption | (simp only [R5, hs, class_Has_ok, hb]; first | done | omega)) only [R1, R2, R3, R4, R5, R6, RC, Nat.reduceEqDiff, Nat.reduceAdd, Nat.reduceSub, Nat.reduceMul, Nat.reduceLT, Nat.reduceLeDiff, Nat.reduceBEq, reduceIte, Int.reduceEq, Int.reduceLT, Int.reduceLE, Int.reduceAdd, Int.reduceSub, Int.reduceNeg, Int.reduceMul, reduceCtorEq, Int.reduceToNat, hs, class_Has_ok, hb]; done)) | (refine Wp.exit ⟨fun _ => ?_, fun h => absurd rfl h⟩) | (refine Wp.exit ⟨fun h => absurd h (by decide), fun _ => ⟨fun _ => ?_, fun h => absurd rfl h⟩⟩))
      refine ⟨_, _, _, v, rfl, ?_, ?_⟩
      · rw [listN_succ, if_neg (by simp [hb])]
        exact o
      · simp (maxSteps := 1000000) (disch := first | omega | assumption | (simp only [R5, Sl, hs]; first | done | omega)) only [R1, R2, R3, R4, R5, R6, RC, Nat.reduceEqDiff, Nat.reduceAdd, Nat.reduceSub, Nat.reduceMul, Nat.reduceLT, Nat.reduceLeDiff, Nat.reduceBEq, reduceIte, Int.reduceEq, Int.reduceLT, Int.reduceLE, Int.reduceAdd, Int.reduceSub, Int.reduceNeg, Int.reduceMul, reduceCtorEq, Int.reduceToNat, Sl, hs]
  · rintro _ ⟨t, h, c, v, rfl, o, hs⟩
    simp only [Sl] at hs
    repeat (first | (refine Wp.seq ?_) | (refine Wp.block ?_) | (refine Wp.skip ?_) | (apply Wp.region; focus (simp (maxSteps := 1000000) (disch := first | omega | assumption | (simp only [R5, hs, o.rval]; first | done | omega)) only [R1, R2, R3, R4, R5, R6, RC, Nat.reduceEqDiff, Nat.reduceAdd, Nat.reduceSub, Nat.reduceMul, Nat.reduceLT, Nat.reduceLeDiff, Nat.reduceBEq, reduceIte, Int.reduceEq, Int.reduceLT, Int.reduceLE, Int.reduceAdd, Int.reduceSub, Int.reduceNeg, Int.reduceMul, reduceCtorEq, Int.reduceToNat, hs, o.rval]; with_reducible rfl)) | (refine Wp.condT ?_ ?_; focus (simp (maxSteps := 1000000) (disch := first | omega | assumption | (simp only [R5, hs, o.rval]; first | done | omega)) only [R1, R2, R3, R4, R5, R6, RC, Nat.reduceEqDiff, Nat.reduceAdd, Nat.reduceSub, Nat.reduceMul, Nat.reduceLT, Nat.reduceLeDiff, Nat.reduceBEq, reduceIte, Int.reduceEq, Int.reduceLT, Int.reduceLE, Int.reduceAdd, Int.reduceSub, Int.reduceNeg, Int.reduceMul, reduceCtorEq, Int.reduceToNat, hs, o.rval]; done)) | (refine Wp.condF ?_ ?_; focus (simp (maxSteps := 1000000) (disch := first | omega | assumption | (simp only [R5, hs, o.rval]; first | done | omega)) only [R1, R2, R3, R4, R5, R6, RC, Nat.reduceEqDiff, Nat.reduceAdd, Nat.reduceSub, Nat.reduceMul, Nat.reduceLT, Nat.reduceLeDiff, Nat.reduceBEq, reduceIte, Int.reduceEq, Int.reduceLT, Int.reduceLE, Int.reduceAdd, Int.reduceSub, Int.reduceNeg, Int.reduceMul, reduceCtorEq, Int.reduceToNat, hs, o.rval]; done)) | (refine Wp.exit ⟨fun _ => ?_, fun h => absurd rfl h⟩) | (refine Wp.exit ⟨fun h => absurd h (by decide), fun _ => ⟨fun _ => ?_, fun h => absurd rfl h⟩⟩))
    refine Wp.ret (ret_ok (by simp (maxSteps := 1000000) (disch := first | omega | assumption | (simp only [R5, a_class_List, hs, o.rval, o.keeps]; first | done | omega)) only [R1, R2, R3, R4, R5, R6, RC, Nat.reduceEqDiff, Nat.reduceAdd, Nat.reduceSub, Nat.reduceMul, Nat.reduceLT, Nat.reduceLeDiff, Nat.reduceBEq, reduceIte, Int.reduceEq, Int.reduceLT, Int.reduceLE, Int.reduceAdd, Int.reduceSub, Int.reduceNeg, Int.reduceMul, reduceCtorEq, Int.reduceToNat, a_class_List, hs, o.rval, o.keeps]; with_reducible rfl) ?_)
    simp (maxSteps := 1000000) (disch := first | omega | assumption | (simp only [R5, o.argR (bcells_flat _), listS]; first | done | omega)) only [R1, R2, R3, R4, R5, R6, RC, Nat.reduceEqDiff, Nat.reduceAdd, Nat.reduceSub, Nat.reduceMul, Nat.reduceLT, Nat.reduceLeDiff, Nat.reduceBEq, reduceIte, Int.reduceEq, Int.reduceLT, Int.reduceLE, Int.reduceAdd, Int.reduceSub, Int.reduceNeg, Int.reduceMul, reduceCtorEq, Int.reduceToNat, o.argR (bcells_flat _), listS]

theorem winnowerref5_List_ok (s : BSet) : pcL C i_winnowerref5_List [.agg (scells s)] = some (.ps (bcells (listS s)) (listS s).length none) := by
  refine pcL_of rfl f_winnowerref5_List ?_
  repeat (first | (refine Wp.seq ?_) | (refine Wp.block ?_) | (refine Wp.skip ?_) | (apply Wp.region; focus (simp (maxSteps := 1000000) (disch := first | omega | assumption | (simp only [R5]; first | done | omega)) only [R1, R2, R3, R4, R5, R6, RC, Nat.reduceEqDiff, Nat.reduceAdd, Nat.reduceSub, Nat.reduceMul, Nat.reduceLT, Nat.reduceLeDiff, Nat.reduceBEq, reduceIte, Int.reduceEq, Int.reduceLT, Int.reduceLE, Int.reduceAdd, Int.reduceSub, Int.reduceNeg, Int.reduceMul, reduceCtorEq, Int.reduceToNat]; with_reducible rfl)) | (refine Wp.condT ?_ ?_; focus (simp (maxSteps := 1000000) (disch := first | omega | assumption | (simp only [R5]; first | done | omega)) only [R1, R2, R3, R4, R5, R6, RC, Nat.reduceEqDiff, Nat.reduceAdd, Nat.reduceSub, Nat.reduceMul, Nat.reduceLT, Nat.reduceLeDiff, Nat.reduceBEq, reduceIte, Int.reduceEq, Int.reduceLT, Int.reduceLE, Int.reduceAdd, Int.reduceSub, Int.reduceNeg, Int.reduceMul, reduceCtorEq, Int.reduceToNat]; done)) | (refine Wp.condF ?_ ?_; focus (simp (maxSteps := 1000000) (disch := first | omega | assumption | (simp only [R5]; first | done | omega)) only [R1, R2, R3, R4, R5, R6, RC, Nat.reduceEqDiff, Nat.reduceAdd, Nat.reduceSub, Nat.reduceMul, Nat.reduceLT, Nat.reduceLeDiff, Nat.reduceBEq, reduceIte, Int.reduceEq, Int.reduceLT, Int.reduceLE, Int.reduceAdd, Int.reduceSub, Int.reduceNeg, Int.reduceMul, reduceCtorEq, Int.reduceToNat]; done)) | (refine Wp.exit ⟨fun _ => ?_, fun h => absurd rfl h⟩) | (refine Wp.exit ⟨fun h => absurd h (by decide), fun _ => ⟨fun _ => ?_, fun h => absurd rfl h⟩⟩))
  refine Wp.count 256 (fun i st => ∃ t h c v, st = ⟨t, h, c⟩ ∧ Own h 4 1 v (bcells (listN s i)) (listN s i).length 0 ∧ Sl t [(1, .reg 0 (scells s)), (4, .int .i64 i), (3, v)]) ?_ ?_ ?_
  · exact ⟨_, _, _, _, rfl, Own.nil _ _ _ _, by simp (maxSteps := 1000000) (disch := first | omega | assumption | (simp only [R5, Sl]; first | done | omega)) only [R1, R2, R3, R4, R5, R6, RC, Nat.reduceEqDiff, Nat.reduceAdd, Nat.reduceSub, Nat.reduceMul, Nat.reduceLT, Nat.reduceLeDiff, Nat.reduceBEq, reduceIte, Int.reduceEq, Int.reduceLT, Int.reduceLE, Int.reduceAdd, Int.reduceSub, Int.reduceNeg, Int.reduceMul, reduceCtorEq, Int.reduceToNat, Sl]⟩
  · rintro i _ hi ⟨t, h, c, v, rfl, o, hs⟩
    simp only [Sl] at hs
    have hl := listN_len s i
    obtain ⟨v', h', ha, o', -⟩ := o.app (x := .ps [.int .u8 i] 1 (some 1)) (m := 1) rfl (more_ps 1 h [.int .u8 i] 1 _ rfl) rfl rfl (bytes := 1) (by omega) (by omega)
    cases hb : s.getLsbD i with
    | true =>
      repeat (first | (refine Wp.seq ?_) | (refine Wp.block ?_) | (refine Wp.skip ?_) | (apply Wp.region; focus (simp (maxSteps := 1000000) (disch := first | omega | assumption | (simp only [R5, hs, winnowerref5_Has_ok, hb, o.rval, ha]; first | done | omega)) only [R1, R2, R3, R4, R5, R6, RC, Nat.reduceEqDiff, Nat.reduceAdd, Nat.reduceSub, Nat.reduceMul, Nat.reduceLT, Nat.reduceLeDiff, Nat.reduceBEq, reduceIte, Int.reduceEq, Int.reduceLT, Int.reduceLE, Int.reduceAdd, Int.reduceSub, Int.reduceNeg, Int.reduceMul, reduceCtorEq, Int.reduceToNat, hs, winnowerref5_Has_ok, hb, o.rval, ha]; with_reducible rfl)) | (refine Wp.condT ?_ ?_; focus (simp (maxSteps := 1000000) (disch := first | omega | assumption | (simp only [R5, hs, winnowerref5_Has_ok, hb, o.rval, ha]; first | done | omega)) only [R1, R2, R3, R4, R5, R6, RC, Nat.reduceEqDiff, Nat.reduceAdd, Nat.reduceSub, Nat.reduceMul, Nat.reduceLT, Nat.reduceLeDiff, Nat.reduceBEq, reduceIte, Int.reduceEq, Int.reduceLT, Int.reduceLE, Int.reduceAdd, Int.reduceSub, Int.reduceNeg, Int.reduceMul, reduceCtorEq, Int.reduceToNat, hs, winnowerref5_Has_ok, hb, o.rval, ha]; done)) | (refine Wp.condF ?_ ?_; focus (simp (maxSteps := 1000000) (disch := first | omega | assumption | (simp only [R5, hs, winnowerref5_Has_ok, hb, o.rval, ha]; first | done | omega)) only [R1, R2, R3, R4, R5, R6, RC, Nat.reduceEqDiff, Nat.reduceAdd, Nat.reduceSub, Nat.reduceMul, Nat.reduceLT, Nat.reduceLeDiff, Nat.reduceBEq, reduceIte, Int.reduceEq, Int.reduceLT, Int.reduceLE, Int.reduceAdd, Int.reduceSub, Int.reduceNeg, Int.reduceMul, reduceCtorEq, Int.reduceToNat, hs, winnowerref5_Has_ok, hb, o.rval, ha]; done)) | (refine Wp.exit ⟨fun _ => ?_, fun h => absurd rfl h⟩) | (refine Wp.exit ⟨fun h => absurd h (by decide), fun _ => ⟨fun _ => ?_, fun h => absurd rfl h⟩⟩))
      refine ⟨_, _, _, v', rfl, ?_, ?_⟩
      · rw [listN_succ, if_pos hb, bcells_app, bcells_cons, bcells_nil, ← u8_ofNat hi, List.length_append]
        exact o'
      · simp (maxSteps := 1000000) (disch := first | omega | assumption | (simp only [R5, Sl, hs, o'.rval]; first | done | omega)) only [R1, R2, R3, R4, R5, R6, RC, Nat.reduceEqDiff, Nat.reduceAdd, Nat.reduceSub, Nat.reduceMul, Nat.reduceLT, Nat.reduceLeDiff, Nat.reduceBEq, reduceIte, Int.reduceEq, Int.reduceLT, Int.reduceLE, Int.reduceAdd, Int.reduceSub, Int.reduceNeg, Int.reduceMul, reduceCtorEq, Int.reduceToNat, Sl, hs, o'.rval]
    | false =>
      repeat (first | (refine Wp.seq ?_) | (refine Wp.block ?_) | (refine Wp.skip ?_) | (apply Wp.region; focus (simp (maxSteps := 1000000) (disch := first | omega | assumption | (simp only [R5, hs, winnowerref5_Has_ok, hb]; first | done | omega)) only [R1, R2, R3, R4, R5, R6, RC, Nat.reduceEqDiff, Nat.reduceAdd, Nat.reduceSub, Nat.reduceMul, Nat.reduceLT, Nat.reduceLeDiff, Nat.reduceBEq, reduceIte, Int.reduceEq, Int.reduceLT, Int.reduceLE, Int.reduceAdd, Int.reduceSub, Int.reduceNeg, Int.reduceMul, reduceCtorEq, Int.reduceToNat, hs, winnowerref5_Has_ok, hb]; with_reducible rfl)) | (refine Wp.condT ?_ ?_; focus (simp (maxSteps := 1000000) (disch := first | omega | assumption | (simp only [R5, hs, winnowerref5_Has_ok, hb]; first | done | omega)) only [R1, R2, R3, R4, R5, R6, RC, Nat.reduceEqDiff, Nat.reduceAdd, Nat.reduceSub, Nat.reduceMul, Nat.reduceLT, Nat.reduceLeDiff, Nat.reduceBEq, reduceIte, Int.reduceEq, Int.reduceLT, Int.reduceLE, Int.reduceAdd, Int.reduceSub, Int.reduceNeg, Int.reduceMul, reduceCtorEq, Int.reduceToNat, hs, winnowerref5_Has_ok, hb]; done)) | (refine Wp.condF ?_ ?_; focus (simp (maxSteps := 1000000) (disch := first | omega | assumption | (simp only [R5, hs, winnowerref5_Has_ok, hb]; first | done | omega)) only [R1, R2, R3, R4, R5, R6, RC, Nat.reduceEqDiff, Nat.reduceAdd, Nat.reduceSub, Nat.reduceMul, Nat.reduceLT, Nat.reduceLeDiff, Nat.reduceBEq, reduceIte, Int.reduceEq, Int.reduceLT, Int.reduceLE, Int.reduceAdd, Int.reduceSub, Int.reduceNeg, Int.reduceMul, reduceCtorEq, Int.reduceToNat, hs, winnowerref5_Has_ok, hb]; done)) | (refine Wp.exit ⟨fun _ => ?_, fun h => absurd rfl h⟩) | (refine Wp.exit ⟨fun h => absurd h (by decide), fun _ => ⟨fun _ => ?_, fun h => absurd rfl h⟩⟩))
      refine ⟨_, _, _, v, rfl, ?_, ?_⟩
      · rw [listN_succ, if_neg (by simp [hb])]
        exact o
      · simp (maxSteps := 1000000) (disch := first | omega | assumption | (simp only [R5, Sl, hs]; first | done | omega)) only [R1, R2, R3, R4, R5, R6, RC, Nat.reduceEqDiff, Nat.reduceAdd, Nat.reduceSub, Nat.reduceMul, Nat.reduceLT, Nat.reduceLeDiff, Nat.reduceBEq, reduceIte, Int.reduceEq, Int.reduceLT, Int.reduceLE, Int.reduceAdd, Int.reduceSub, Int.reduceNeg, Int.reduceMul, reduceCtorEq, Int.reduceToNat, Sl, hs]
  · rintro _ ⟨t, h, c, v, rfl, o, hs⟩
    simp only [Sl] at hs
    repeat (first | (refine Wp.seq ?_) | (refine Wp.block ?_) | (refine Wp.skip ?_) | (apply Wp.region; focus (simp (maxSteps := 1000000) (disch := first | omega | assumption | (simp only [R5, hs, o.rval]; first | done | omega)) only [R1, R2, R3, R4, R5, R6, RC, Nat.reduceEqDiff, Nat.reduceAdd, Nat.reduceSub, Nat.reduceMul, Nat.reduceLT, Nat.reduceLeDiff, Nat.reduceBEq, reduceIte, Int.reduceEq, Int.reduceLT, Int.reduceLE, Int.reduceAdd, Int.reduceSub, Int.reduceNeg, Int.reduceMul, reduceCtorEq, Int.reduceToNat, hs, o.rval]; with_reducible rfl)) | (refine Wp.condT ?_ ?_; focus (simp (maxSteps := 1000000) (disch := first | omega | assumption | (simp only [R5, hs, o.rval]; first | done | omega)) only [R1, R2, R3, R4, R5, R6, RC, Nat.reduceEqDiff, Nat.reduceAdd, Nat.reduceSub, Nat.reduceMul, Nat.reduceLT, Nat.reduceLeDiff, Nat.reduceBEq, reduceIte, Int.reduceEq, Int.reduceLT, Int.reduceLE, Int.reduceAdd, Int.reduceSub, Int.reduceNeg, Int.reduceMul, reduceCtorEq, Int.reduceToNat, hs, o.rval]; done)) | (refine Wp.condF ?_ ?_; focus (simp (maxSteps := 1000000) (disch := first | omega | assumption | (simp only [R5, hs, o.rval]; first | done | omega)) only [R1, R2, R3, R4, R5, R6, RC, Nat.reduceEqDiff, Nat.reduceAdd, Nat.reduceSub, Nat.reduceMul, Nat.reduceLT, Nat.reduceLeDiff, Nat.reduceBEq, reduceIte, Int.reduceEq, Int.reduceLT, Int.reduceLE, Int.reduceAdd, Int.reduceSub, Int.reduceNeg, Int.reduceMul, reduceCtorEq, Int.reduceToNat, hs, o.rval]; done)) | (refine Wp.exit ⟨fun _ => ?_, fun h => absurd rfl h⟩) | (refine Wp.exit ⟨fun h => absurd h (by decide), fun _ => ⟨fun _ => ?_, fun h => absurd rfl h⟩⟩))
    refine Wp.ret (ret_ok (by simp (maxSteps := 1000000) (disch := first | omega | assumption | (simp only [R5, a_winnowerref5_List, hs, o.rval, o.keeps]; first | done | omega)) only [R1, R2, R3, R4, R5, R6, RC, Nat.reduceEqDiff, Nat.reduceAdd, Nat.reduceSub, Nat.reduceMul, Nat.reduceLT, Nat.reduceLeDiff, Nat.reduceBEq, reduceIte, Int.reduceEq, Int.reduceLT, Int.reduceLE, Int.reduceAdd, Int.reduceSub, Int.reduceNeg, Int.reduceMul, reduceCtorEq, Int.reduceToNat, a_winnowerref5_List, hs, o.rval, o.keeps]; with_reducible rfl) ?_)
    simp (maxSteps := 1000000) (disch := first | omega | assumption | (simp only [R5, o.argR (bcells_flat _), listS]; first | done | omega)) only [R1, R2, R3, R4, R5, R6, RC, Nat.reduceEqDiff, Nat.reduceAdd, Nat.reduceSub, Nat.reduceMul, Nat.reduceLT, Nat.reduceLeDiff, Nat.reduceBEq, reduceIte, Int.reduceEq, Int.reduceLT, Int.reduceLE, Int.reduceAdd, Int.reduceSub, Int.reduceNeg, Int.reduceMul, reduceCtorEq, Int.reduceToNat, o.argR (bcells_flat _), listS]

/-! ### rows of neighbours -/
def prc (p : UInt8 × UInt8) : List AV := [.int .u8 p.1.toNat, .int .u8 p.2.toNat]
def prcells (l : List (UInt8 × UInt8)) : List AV := rows prc l
theorem prcells_len (l : List (UInt8 × UInt8)) : (prcells l).length = l.length * 2 := rows_len (f := prc) (k := 2) (fun _ => rfl) l
theorem prcells_flat (l : List (UInt8 × UInt8)) : (prcells l).all flat = true := rows_flat (fun _ => rfl) l
theorem prcells_norm (l : List (UInt8 × UInt8)) : norms (prcells l) = prcells l := rows_norm (fun _ => rfl) l
theorem prcells_snoc (l : List (UInt8 × UInt8)) (p : UInt8 × UInt8) : prcells (l ++ [p]) = prcells l ++ prc p := rows_snoc l p
theorem prcells_last (l : List (UInt8 × UInt8)) (a b : UInt8) : (prcells (l ++ [(a, b)]))[l.length * 2 + 1]? = some (.int .u8 b.toNat) := by
  rw [prcells_snoc, List.getElem?_append_right (by rw [prcells_len]; omega), prcells_len]
  simp [prc]
theorem prcells_setlast (l : List (UInt8 × UInt8)) (a b c : UInt8) : (prcells (l ++ [(a, b)])).set (l.length * 2 + 1) (.int .u8 c.toNat) = prcells (l ++ [(a, c)]) := by
  rw [prcells_snoc, prcells_snoc, List.set_append_right _ _ (by rw [prcells_len]; omega), prcells_len]
  simp [prc]
theorem prcells_at {l : List (UInt8 × UInt8)} {i : Nat} (h : i < l.length) : ((prcells l).drop (i * 2)).take 2 = prc l[i] := rows_at (f := prc) (k := 2) (fun _ => rfl) h

def rstep (acc : List (UInt8 × UInt8)) (b : UInt8) : List (UInt8 × UInt8) :=
  match acc.getLast? with
  | some (lo, hi) => if hi.toNat + 1 = b.toNat then acc.dropLast ++ [(lo, b)] else acc ++ [(b, b)]
  | none => [(b, b)]
def rangesOf (l : List UInt8) : List (UInt8 × UInt8) := l.foldl rstep []
theorem rangesOf_take {l : List UInt8} {i : Nat} (h : i < l.length) : rangesOf (l.take (i + 1)) = rstep (rangesOf (l.take i)) l[i] := by
  unfold rangesOf
  rw [List.take_add_one, List.getElem?_eq_getElem h, List.foldl_append]; rfl
theorem rstep_last (acc : List (UInt8 × UInt8)) (b : UInt8) : ∃ init lo, rstep acc b = init ++ [(lo, b)] := by
  unfold rstep
  split
  · split
    · exact ⟨_, _, rfl⟩
    · exact ⟨_, _, rfl⟩
  · exact ⟨[], b, rfl⟩
theorem rangesOf_last {l : List UInt8} {i : Nat} (h : i < l.length) : ∃ init lo, rangesOf (l.take (i + 1)) = init ++ [(lo, l[i])] := by
  rw [rangesOf_take h]; exact rstep_last _ _
theorem rstep_len (acc : List (UInt8 × UInt8)) (b : UInt8) : (rstep acc b).length ≤ acc.length + 1 := by
  unfold rstep
  split
  · rename_i lo hi h
    have : acc ≠ [] := by rintro rfl; simp at h
    have := List.length_pos_iff.2 this
    split <;> simp <;> omega
  · simp
theorem rangesOf_len (l : List UInt8) : ∀ i, i ≤ l.length → (rangesOf (l.take i)).length ≤ i
  | 0, _ => by simp [rangesOf]
  | i + 1, h => by
    rw [rangesOf_take (by omega)]
    have := rangesOf_len l i (by omega)
    have := rstep_len (rangesOf (l.take i)) l[i]
    omega
def rangesS (s : BSet) : List (UInt8 × UInt8) := rangesOf (listS s)

theorem listS_sorted (s : BSet) : (listS s).Pairwise fun a b => a.toNat < b.toNat := by
  unfold listS listN
  rw [List.pairwise_map]
  have h1 : ((List.range 256).filter fun b => s.getLsbD b).Pairwise (· < ·) := List.Pairwise.sublist List.filter_sublist List.pairwise_lt_range
  refine h1.imp_of_mem fun {a b} ha hb hab => ?_
  have ha' := List.mem_range.1 (List.mem_filter.1 ha).1
  have hb' := List.mem_range.1 (List.mem_filter.1 hb).1
  rw [UInt8.toNat_ofNat_of_lt' (show a < 256 from ha'), UInt8.toNat_ofNat_of_lt' (show b < 256 from hb')]
  exact hab
theorem listS_lt (s : BSet) {i : Nat} (h : i + 1 < (listS s).length) : ((listS s)[i]).toNat < ((listS s)[i + 1]).toNat :=
  List.pairwise_iff_getElem.1 (listS_sorted s) i (i + 1) (by omega) h (by omega)

theorem class_Ranges_ok (s : BSet) : pcL C i_class_Ranges [.agg (scells s)] = some (.ps (prcells (rangesS s)) (rangesS s).length none) := by
  refine pcL_of rfl f_class_Ranges ?_
  have hl : (listS s).length ≤ 256 := listN_len s 256
  repeat (first | (refine Wp.seq ?_) | (refine Wp.block ?_) | (refine Wp.skip ?_) | (apply Wp.region; focus (simp (maxSteps := 1000000) (disch := first | omega | assumption | (simp only [R5, class_List_ok]; first | done | omega)) only [R1, R2, R3, R4, R5, R6, RC, Nat.reduceEqDiff, Nat.reduceAdd, Nat.reduceSub, Nat.reduceMul, Nat.reduceLT, Nat.reduceLeDiff, Nat.reduceBEq, reduceIte, Int.reduceEq, Int.reduceLT, Int.reduceLE, Int.reduceAdd, Int.reduceSub, Int.reduceNeg, Int.reduceMul, reduceCtorEq, Int.reduceToNat, class_List_ok]; with_reducible rfl)) | (refine Wp.condT ?_ ?_; focus (simp (maxSteps := 1000000) (disch := first | omega | assumption | (simp only [R5, class_List_ok]; first | done | omega)) only [R1, R2, R3, R4, R5, R6, RC, Nat.reduceEqDiff, Nat.reduceAdd, Nat.reduceSub, Nat.reduceMul, Nat.reduceLT, Nat.reduceLeDiff, Nat.reduceBEq, reduceIte, Int.reduceEq, Int.reduceLT, Int.reduceLE, Int.reduceAdd, Int.reduceSub, Int.reduceNeg, Int.reduceMul, reduceCtorEq, Int.reduceToNat, class_List_ok]; done)) | (refine Wp.condF ?_ ?_; focus (simp (maxSteps := 1000000) (disch := first | omega | assumption | (simp only [R5, class_List_ok]; first | done | omega)) only [R1, R2, R3, R4, R5, R6, RC, Nat.reduceEqDiff, Nat.reduceAdd, Nat.reduceSub, Nat.reduceMul, Nat.reduceLT, Nat.reduceLeDiff, Nat.reduceBEq, reduceIte, Int.reduceEq, Int.reduceLT, Int.reduceLE, Int.reduceAdd, Int.reduceSub, Int.reduceNeg, Int.reduceMul, reduceCtorEq, Int.reduceToNat, class_List_ok]; done)) | (refine Wp.exit ⟨fun _ => ?_, fun h => absurd rfl h⟩) | (refine Wp.exit ⟨fun h => absurd h (by decide), fun _ => ⟨fun _ => ?_, fun h => absurd rfl h⟩⟩))
  refine Wp.count (listS s).length (fun i st => ∃ t h c v, st = ⟨t, h, c⟩ ∧ Own h 2 2 v (prcells (rangesOf ((listS s).take i))) (rangesOf ((listS s).take i)).length 0 ∧ Sl t [(8, .ps (bcells (listS s)) (listS s).length none), (9, .int .i64 (listS s).length), (10, .int .i64 i), (3, v)]) ?_ ?_ ?_
  · exact ⟨_, _, _, _, rfl, Own.nil _ _ _ _, by simp (maxSteps := 1000000) (disch := first | omega | assumption | (simp only [R5, Sl]; first | done | omega)) only [R1, R2, R3, R4, R5, R6, RC, Nat.reduceEqDiff, Nat.reduceAdd, Nat.reduceSub, Nat.reduceMul, Nat.reduceLT, Nat.reduceLeDiff, Nat.reduceBEq, reduceIte, Int.reduceEq, Int.reduceLT, Int.reduceLE, Int.reduceAdd, Int.reduceSub, Int.reduceNeg, Int.reduceMul, reduceCtorEq, Int.reduceToNat, Sl]⟩
  · rintro i _ hi ⟨t, h, c, v, rfl, o, hs⟩
    simp only [Sl] at hs
    have hrl := rangesOf_len (listS s) i (by omega)
    have hb := ((listS s)[i]).toNat_lt
    obtain ⟨v', h', ha, o', -⟩ := o.app (x := .ps (prc ((listS s)[i], (listS s)[i])) 1 (some 1)) (m := 1) rfl (more_ps 2 h _ 1 _ rfl) rfl rfl (bytes := 2) (by omega) (by omega)
    simp only [prc] at ha
    have hv := o.v_len
    rcases Nat.eq_zero_or_pos i with h0 | h0
    · subst h0
      repeat (first | (refine Wp.seq ?_) | (refine Wp.block ?_) | (refine Wp.skip ?_) | (apply Wp.region; focus (simp (maxSteps := 1000000) (disch := first | omega | assumption | (simp only [R5, hs, o.rval, hv, ha, rangesOf]; first | done | omega)) only [R1, R2, R3, R4, R5, R6, RC, Nat.reduceEqDiff, Nat.reduceAdd, Nat.reduceSub, Nat.reduceMul, Nat.reduceLT, Nat.reduceLeDiff, Nat.reduceBEq, reduceIte, Int.reduceEq, Int.reduceLT, Int.reduceLE, Int.reduceAdd, Int.reduceSub, Int.reduceNeg, Int.reduceMul, reduceCtorEq, Int.reduceToNat, hs, o.rval, hv, ha, rangesOf]; with_reducible rfl)) | (refine Wp.condT ?_ ?_; focus (simp (maxSteps := 1000000) (disch := first | omega | assumption | (simp only [R5, hs, o.rval, hv, ha, rangesOf]; first | done | omega)) only [R1, R2, R3, R4, R5, R6, RC, Nat.reduceEqDiff, Nat.reduceAdd, Nat.reduceSub, Nat.reduceMul, Nat.reduceLT, Nat.reduceLeDiff, Nat.reduceBEq, reduceIte, Int.reduceEq, Int.reduceLT, Int.reduceLE, Int.reduceAdd, Int.reduceSub, Int.reduceNeg, Int.reduceMul, reduceCtorEq, Int.reduceToNat, hs, o.rval, hv, ha, rangesOf]; done)) | (refine Wp.condF ?_ ?_; focus (simp (maxSteps := 1000000) (disch := first | omega | assumption | (simp only [R5, hs, o.rval, hv, ha, rangesOf]; first | done | omega)) only [R1, R2, R3, R4, R5, R6, RC, Nat.reduceEqDiff, Nat.reduceAdd, Nat.reduceSub, Nat.reduceMul, Nat.reduceLT, Nat.reduceLeDiff, Nat.reduceBEq, reduceIte, Int.reduceEq, Int.reduceLT, Int.reduceLE, Int.reduceAdd, Int.reduceSub, Int.reduceNeg, Int.reduceMul, reduceCtorEq, Int.reduceToNat, hs, o.rval, hv, ha, rangesOf]; done)) | (refine Wp.exit ⟨fun _ => ?_, fun h => absurd rfl h⟩) | (refine Wp.exit ⟨fun h => absurd h (by decide), fun _ => ⟨fun _ => ?_, fun h => absurd rfl h⟩⟩))
      refine ⟨_, _, _, v', rfl, ?_, ?_⟩
      · rw [rangesOf_take hi]
        exact o'
      · simp (maxSteps := 1000000) (disch := first | omega | assumption | (simp only [R5, Sl, hs, o'.rval]; first | done | omega)) only [R1, R2, R3, R4, R5, R6, RC, Nat.reduceEqDiff, Nat.reduceAdd, Nat.reduceSub, Nat.reduceMul, Nat.reduceLT, Nat.reduceLeDiff, Nat.reduceBEq, reduceIte, Int.reduceEq, Int.reduceLT, Int.reduceLE, Int.reduceAdd, Int.reduceSub, Int.reduceNeg, Int.reduceMul, reduceCtorEq, Int.reduceToNat, Sl, hs, o'.rval]
    · obtain ⟨j, rfl⟩ : ∃ j, i = j + 1 := ⟨i - 1, by omega⟩
      obtain ⟨init, lo, he⟩ := rangesOf_last (l := listS s) (i := j) (by omega)
      have hlt := listS_lt s hi
      have hstep := rangesOf_take hi
      rw [he] at o hrl o' hstep
      have hil : init.length ≤ j := by simpa using hrl
      rcases o with ⟨rfl, _, h2⟩ | ⟨b, ver, fz, rfl, hrow, hz, hz2, hlen⟩
      · simp at h2
      · have hget := prcells_last init lo (listS s)[j]
        by_cases hadj : ((listS s)[j]).toNat + 1 = ((listS s)[j + 1]).toNat
        · have hd : decide ((((listS s)[j]).toNat : Int) + 1 = ((listS s)[j + 1]).toNat) = true := decide_eq_true (by omega)
          repeat (first | (refine Wp.seq ?_) | (refine Wp.block ?_) | (refine Wp.skip ?_) | (apply Wp.region; focus (simp (maxSteps := 1000000) (disch := first | omega | assumption | (simp only [R5, hs, hrow, hget, prcells_len, hd]; first | done | omega)) only [R1, R2, R3, R4, R5, R6, RC, Nat.reduceEqDiff, Nat.reduceAdd, Nat.reduceSub, Nat.reduceMul, Nat.reduceLT, Nat.reduceLeDiff, Nat.reduceBEq, reduceIte, Int.reduceEq, Int.reduceLT, Int.reduceLE, Int.reduceAdd, Int.reduceSub, Int.reduceNeg, Int.reduceMul, reduceCtorEq, Int.reduceToNat, hs, hrow, hget, prcells_len, hd]; with_reducible rfl)) | (refine Wp.condT ?_ ?_; focus (simp (maxSteps := 1000000) (disch := first | omega | assumption | (simp only [R5, hs, hrow, hget, prcells_len, hd]; first | done | omega)) only [R1, R2, R3, R4, R5, R6, RC, Nat.reduceEqDiff, Nat.reduceAdd, Nat.reduceSub, Nat.reduceMul, Nat.reduceLT, Nat.reduceLeDiff, Nat.reduceBEq, reduceIte, Int.reduceEq, Int.reduceLT, Int.reduceLE, Int.reduceAdd, Int.reduceSub, Int.reduceNeg, Int.reduceMul, reduceCtorEq, Int.reduceToNat, hs, hrow, hget, prcells_len, hd]; done)) | (refine Wp.condF ?_ ?_; focus (simp (maxSteps := 1000000) (disch := first | omega | assumption | (simp only [R5, hs, hrow, hget, prcells_len, hd]; first | done | omega)) only [R1, R2, R3, R4, R5, R6, RC, Nat.reduceEqDiff, Nat.reduceAdd, Nat.reduceSub, Nat.reduceMul, Nat.reduceLT, Nat.reduceLeDiff, Nat.reduceBEq, reduceIte, Int.reduceEq, Int.reduceLT, Int.reduceLE, Int.reduceAdd, Int.reduceSub, Int.reduceNeg, Int.reduceMul, reduceCtorEq, Int.reduceToNat, hs, hrow, hget, prcells_len, hd]; done)) | (refine Wp.exit ⟨fun _ => ?_, fun h => absurd rfl h⟩) | (refine Wp.exit ⟨fun h => absurd h (by decide), fun _ => ⟨fun _ => ?_, fun h => absurd rfl h⟩⟩))
          refine ⟨_, _, _, .sl b ver 0 (init.length + 1) 2 none, rfl, ?_, ?_⟩
          · rw [hstep]
            have e : rstep (init ++ [(lo, (listS s)[j])]) (listS s)[j + 1] = init ++ [(lo, (listS s)[j + 1])] := by
              unfold rstep; simp [hadj]
            rw [e, prcells_setlast]
            exact .inr ⟨b, ver, fz, by simp, rowAt_set _ _ _ _ _ _ (rowAt_lt hrow), hz, by omega, by simp [prcells_len]⟩
          · simp (maxSteps := 1000000) (disch := first | omega | assumption | (simp only [R5, Sl, hs]; first | done | omega)) only [R1, R2, R3, R4, R5, R6, RC, Nat.reduceEqDiff, Nat.reduceAdd, Nat.reduceSub, Nat.reduceMul, Nat.reduceLT, Nat.reduceLeDiff, Nat.reduceBEq, reduceIte, Int.reduceEq, Int.reduceLT, Int.reduceLE, Int.reduceAdd, Int.reduceSub, Int.reduceNeg, Int.reduceMul, reduceCtorEq, Int.reduceToNat, Sl, hs]
        · have hd : decide ((((listS s)[j]).toNat : Int) + 1 = ((listS s)[j + 1]).toNat) = false := decide_eq_false (by omega)
          simp only [List.length_append, List.length_cons, List.length_nil, Nat.zero_add] at ha
          repeat (first | (refine Wp.seq ?_) | (refine Wp.block ?_) | (refine Wp.skip ?_) | (apply Wp.region; focus (simp (maxSteps := 1000000) (disch := first | omega | assumption | (simp only [R5, hs, hrow, hget, prcells_len, hd, ha]; first | done | omega)) only [R1, R2, R3, R4, R5, R6, RC, Nat.reduceEqDiff, Nat.reduceAdd, Nat.reduceSub, Nat.reduceMul, Nat.reduceLT, Nat.reduceLeDiff, Nat.reduceBEq, reduceIte, Int.reduceEq, Int.reduceLT, Int.reduceLE, Int.reduceAdd, Int.reduceSub, Int.reduceNeg, Int.reduceMul, reduceCtorEq, Int.reduceToNat, hs, hrow, hget, prcells_len, hd, ha]; with_reducible rfl)) | (refine Wp.condT ?_ ?_; focus (simp (maxSteps := 1000000) (disch := first | omega | assumption | (simp only [R5, hs, hrow, hget, prcells_len, hd, ha]; first | done | omega)) only [R1, R2, R3, R4, R5, R6, RC, Nat.reduceEqDiff, Nat.reduceAdd, Nat.reduceSub, Nat.reduceMul, Nat.reduceLT, Nat.reduceLeDiff, Nat.reduceBEq, reduceIte, Int.reduceEq, Int.reduceLT, Int.reduceLE, Int.reduceAdd, Int.reduceSub, Int.reduceNeg, Int.reduceMul, reduceCtorEq, Int.reduceToNat, hs, hrow, hget, prcells_len, hd, ha]; done)) | (refine Wp.condF ?_ ?_; focus (simp (maxSteps := 1000000) (disch := first | omega | assumption | (simp only [R5, hs, hrow, hget, prcells_len, hd, ha]; first | done | omega)) only [R1, R2, R3, R4, R5, R6, RC, Nat.reduceEqDiff, Nat.reduceAdd, Nat.reduceSub, Nat.reduceMul, Nat.reduceLT, Nat.reduceLeDiff, Nat.reduceBEq, reduceIte, Int.reduceEq, Int.reduceLT, Int.reduceLE, Int.reduceAdd, Int.reduceSub, Int.reduceNeg, Int.reduceMul, reduceCtorEq, Int.reduceToNat, hs, hrow, hget, prcells_len, hd, ha]; done)) | (refine Wp.exit ⟨fun _ => ?_, fun h => absurd rfl h⟩) | (refine Wp.exit ⟨fun h => absurd h (by decide), fun _ => ⟨fun _ => ?_, fun h => absurd rfl h⟩⟩))
          refine ⟨_, _, _, v', rfl, ?_, ?_⟩
          · rw [hstep]
            have e : rstep (init ++ [(lo, (listS s)[j])]) (listS s)[j + 1] = init ++ [(lo, (listS s)[j])] ++ [((listS s)[j + 1], (listS s)[j + 1])] := by
              unfold rstep; simp [hadj]
            rw [e, prcells_snoc]
            simpa using o'
          · simp (maxSteps := 1000000) (disch := first | omega | assumption | (simp only [R5, Sl, hs, o'.rval]; first | done | omega)) only [R1, R2, R3, R4, R5, R6, RC, Nat.reduceEqDiff, Nat.reduceAdd, Nat.reduceSub, Nat.reduceMul, Nat.reduceLT, Nat.reduceLeDiff, Nat.reduceBEq, reduceIte, Int.reduceEq, Int.reduceLT, Int.reduceLE, Int.reduceAdd, Int.reduceSub, Int.reduceNeg, Int.reduceMul, reduceCtorEq, Int.reduceToNat, Sl, hs, o'.rval]
  · rintro _ ⟨t, h, c, v, rfl, o, hs⟩
    simp only [Sl] at hs
    rw [List.take_length] at o
    repeat (first | (refine Wp.seq ?_) | (refine Wp.block ?_) | (refine Wp.skip ?_) | (apply Wp.region; focus (simp (maxSteps := 1000000) (disch := first | omega | assumption | (simp only [R5, hs, o.rval]; first | done | omega)) only [R1, R2, R3, R4, R5, R6, RC, Nat.reduceEqDiff, Nat.reduceAdd, Nat.reduceSub, Nat.reduceMul, Nat.reduceLT, Nat.reduceLeDiff, Nat.reduceBEq, reduceIte, Int.reduceEq, Int.reduceLT, Int.reduceLE, Int.reduceAdd, Int.reduceSub, Int.reduceNeg, Int.reduceMul, reduceCtorEq, Int.reduceToNat, hs, o.rval]; with_reducible rfl)) | (refine Wp.condT ?_ ?_; focus (simp (maxSteps := 1000000) (disch := first | omega | assumption | (simp only [R5, hs, o.rval]; first | done | omega)) only [R1, R2, R3, R4, R5, R6, RC, Nat.reduceEqDiff, Nat.reduceAdd, Nat.reduceSub, Nat.reduceMul, Nat.reduceLT, Nat.reduceLeDiff, Nat.reduceBEq, reduceIte, Int.reduceEq, Int.reduceLT, Int.reduceLE, Int.reduceAdd, Int.reduceSub, Int.reduceNeg, Int.reduceMul, reduceCtorEq, Int.reduceToNat, hs, o.rval]; done)) | (refine Wp.condF ?_ ?_; focus (simp (maxSteps := 1000000) (disch := first | omega | assumption | (simp only [R5, hs, o.rval]; first | done | omega)) only [R1, R2, R3, R4, R5, R6, RC, Nat.reduceEqDiff, Nat.reduceAdd, Nat.reduceSub, Nat.reduceMul, Nat.reduceLT, Nat.reduceLeDiff, Nat.reduceBEq, reduceIte, Int.reduceEq, Int.reduceLT, Int.reduceLE, Int.reduceAdd, Int.reduceSub, Int.reduceNeg, Int.reduceMul, reduceCtorEq, Int.reduceToNat, hs, o.rval]; done)) | (refine Wp.exit ⟨fun _ => ?_, fun h => absurd rfl h⟩) | (refine Wp.exit ⟨fun h => absurd h (by decide), fun _ => ⟨fun _ => ?_, fun h => absurd rfl h⟩⟩))
    refine Wp.ret (ret_ok (by simp (maxSteps := 1000000) (disch := first | omega | assumption | (simp only [R5, a_class_Ranges, hs, o.rval, o.keeps]; first | done | omega)) only [R1, R2, R3, R4, R5, R6, RC, Nat.reduceEqDiff, Nat.reduceAdd, Nat.reduceSub, Nat.reduceMul, Nat.reduceLT, Nat.reduceLeDiff, Nat.reduceBEq, reduceIte, Int.reduceEq, Int.reduceLT, Int.reduceLE, Int.reduceAdd, Int.reduceSub, Int.reduceNeg, Int.reduceMul, reduceCtorEq, Int.reduceToNat, a_class_Ranges, hs, o.rval, o.keeps]; with_reducible rfl) ?_)
    simp (maxSteps := 1000000) (disch := first | omega | assumption | (simp only [R5, o.argR (prcells_flat _), prcells_norm, rangesS]; first | done | omega)) only [R1, R2, R3, R4, R5, R6, RC, Nat.reduceEqDiff, Nat.reduceAdd, Nat.reduceSub, Nat.reduceMul, Nat.reduceLT, Nat.reduceLeDiff, Nat.reduceBEq, reduceIte, Int.reduceEq, Int.reduceLT, Int.reduceLE, Int.reduceAdd, Int.reduceSub, Int.reduceNeg, Int.reduceMul, reduceCtorEq, Int.reduceToNat, o.argR (prcells_flat _), prcells_norm, rangesS]

theorem winnowerref5_Ranges_ok (s : BSet) : pcL C i_winnowerref5_Ranges [.agg (scells s)] = some (.ps (prcells (rangesS s)) (rangesS s).length none) := by
  refine pcL_of rfl f_winnowerref5_Ranges ?_
  have hl : (listS s).length ≤ 256 := listN_len s 256
  repeat (first | (refine Wp.seq ?_) | (refine Wp.block ?_) | (refine Wp.skip ?_) | (apply Wp.region; focus (simp (maxSteps := 1000000) (disch := first | omega | assumption | (simp only [R5, winnowerref5_List_ok]; first | done | omega)) only [R1, R2, R3, R4, R5, R6, RC, Nat.reduceEqDiff, Nat.reduceAdd, Nat.reduceSub, Nat.reduceMul, Nat.reduceLT, Nat.reduceLeDiff, Nat.reduceBEq, reduceIte, Int.reduceEq, Int.reduceLT, Int.reduceLE, Int.reduceAdd, Int.reduceSub, Int.reduceNeg, Int.reduceMul, reduceCtorEq, Int.reduceToNat, winnowerref5_List_ok]; with_reducible rfl)) | (refine Wp.condT ?_ ?_; focus (simp (maxSteps := 1000000) (disch := first | omega | assumption | (simp only [R5, winnowerref5_List_ok]; first | done | omega)) only [R1, R2, R3, R4, R5, R6, RC, Nat.reduceEqDiff, Nat.reduceAdd, Nat.reduceSub, Nat.reduceMul, Nat.reduceLT, Nat.reduceLeDiff, Nat.reduceBEq, reduceIte, Int.reduceEq, Int.reduceLT, Int.reduceLE, Int.reduceAdd, Int.reduceSub, Int.reduceNeg, Int.reduceMul, reduceCtorEq, Int.reduceToNat, winnowerref5_List_ok]; done)) | (refine Wp.condF ?_ ?_; focus (simp (maxSteps := 1000000) (disch := first | omega | assumption | (simp only [R5, winnowerref5_List_ok]; first | done | omega)) only [R1, R2, R3, R4, R5, R6, RC, Nat.reduceEqDiff, Nat.reduceAdd, Nat.reduceSub, Nat.reduceMul, Nat.reduceLT, Nat.reduceLeDiff, Nat.reduceBEq, reduceIte, Int.reduceEq, Int.reduceLT, Int.reduceLE, Int.reduceAdd, Int.reduceSub, Int.reduceNeg, Int.reduceMul, reduceCtorEq, Int.reduceToNat, winnowerref5_List_ok]; done)) | (refine Wp.exit ⟨fun _ => ?_, fun h => absurd rfl h⟩) | (refine Wp.exit ⟨fun h => absurd h (by decide), fun _ => ⟨fun _ => ?_, fun h => absurd rfl h⟩⟩))
  refine Wp.count (listS s).length (fun i st => ∃ t h c v, st = ⟨t, h, c⟩ ∧ Own h 2 2 v (prcells (rangesOf ((listS s).take i))) (rangesOf ((listS s).take i)).length 0 ∧ Sl t [(4, .ps (bcells (listS s)) (listS s).length none), (5, .int .i64 i), (3, v)]) ?_ ?_ ?_
  · exact ⟨_, _, _, _, rfl, Own.nil _ _ _ _, by simp (maxSteps := 1000000) (disch := first | omega | assumption | (simp only [R5, Sl]; first | done | omega)) only [R1, R2, R3, R4, R5, R6, RC, Nat.reduceEqDiff, Nat.reduceAdd, Nat.reduceSub, Nat.reduceMul, Nat.reduceLT, Nat.reduceLeDiff, Nat.reduceBEq, reduceIte, Int.reduceEq, Int.reduceLT, Int.reduceLE, Int.reduceAdd, Int.reduceSub, Int.reduceNeg, Int.reduceMul, reduceCtorEq, Int.reduceToNat, Sl]⟩
  · rintro i _ hi ⟨t, h, c, v, rfl, o, hs⟩
    simp only [Sl] at hs
    have hrl := rangesOf_len (listS s) i (by omega)
    have hb := ((listS s)[i]).toNat_lt
    obtain ⟨v', h', ha, o', -⟩ := o.app (x := .ps (prc ((listS s)[i], (listS s)[i])) 1 (some 1)) (m := 1) rfl (more_ps 2 h _ 1 _ rfl) rfl rfl (bytes := 2) (by omega) (by omega)
    simp only [prc] at ha
    have hv := o.v_len
    rcases Nat.eq_zero_or_pos i with h0 | h0
    · subst h0
      repeat (first | (refine Wp.seq ?_) | (refine Wp.block ?_) | (refine Wp.skip ?_) | (apply Wp.region; focus (simp (maxSteps := 1000000) (disch := first | omega | assumption | (simp only [R5, hs, o.rval, hv, ha, rangesOf]; first | done | omega)) only [R1, R2, R3, R4, R5, R6, RC, Nat.reduceEqDiff, Nat.reduceAdd, Nat.reduceSub, Nat.reduceMul, Nat.reduceLT, Nat.reduceLeDiff, Nat.reduceBEq, reduceIte, Int.reduceEq, Int.reduceLT, Int.reduceLE, Int.reduceAdd, Int.reduceSub, Int.reduceNeg, Int.reduceMul, reduceCtorEq, Int.reduceToNat, hs, o.rval, hv, ha, rangesOf]; with_reducible rfl)) | (refine Wp.condT ?_ ?_; focus (simp (maxSteps := 1000000) (disch := first | omega | assumption | (simp only [R5, hs, o.rval, hv, ha, rangesOf]; first | done | omega)) only [R1, R2, R3, R4, R5, R6, RC, Nat.reduceEqDiff, Nat.reduceAdd, Nat.reduceSub, Nat.reduceMul, Nat.reduceLT, Nat.reduceLeDiff, Nat.reduceBEq, reduceIte, Int.reduceEq, Int.reduceLT, Int.reduceLE, Int.reduceAdd, Int.reduceSub, Int.reduceNeg, Int.reduceMul, reduceCtorEq, Int.reduceToNat, hs, o.rval, hv, ha, rangesOf]; done)) | (refine Wp.condF ?_ ?_; focus (simp (maxSteps := 1000000) (disch := first | omega | assumption | (simp only [R5, hs, o.rval, hv, ha, rangesOf]; first | done | omega)) only [R1, R2, R3, R4, R5, R6, RC, Nat.reduceEqDiff, Nat.reduceAdd, Nat.reduceSub, Nat.reduceMul, Nat.reduceLT, Nat.reduceLeDiff, Nat.reduceBEq, reduceIte, Int.reduceEq, Int.reduceLT, Int.reduceLE, Int.reduceAdd, Int.reduceSub, Int.reduceNeg, Int.reduceMul, reduceCtorEq, Int.reduceToNat, hs, o.rval, hv, ha, rangesOf]; done)) | (refine Wp.exit ⟨fun _ => ?_, fun h => absurd rfl h⟩) | (refine Wp.exit ⟨fun h => absurd h (by decide), fun _ => ⟨fun _ => ?_, fun h => absurd rfl h⟩⟩))
      refine ⟨_, _, _, v', rfl, ?_, ?_⟩
      · rw [rangesOf_take hi]
        exact o'
      · simp (maxSteps := 1000000) (disch := first | omega | assumption | (simp only [R5, Sl, hs, o'.rval]; first | done | omega)) only [R1, R2, R3, R4, R5, R6, RC, Nat.reduceEqDiff, Nat.reduceAdd, Nat.reduceSub, Nat.reduceMul, Nat.reduceLT, Nat.reduceLeDiff, Nat.reduceBEq, reduceIte, Int.reduceEq, Int.reduceLT, Int.reduceLE, Int.reduceAdd, Int.reduceSub, Int.reduceNeg, Int.reduceMul, reduceCtorEq, Int.reduceToNat, Sl, hs, o'.rval]
    · obtain ⟨j, rfl⟩ : ∃ j, i = j + 1 := ⟨i - 1, by omega⟩
      obtain ⟨init, lo, he⟩ := rangesOf_last (l := listS s) (i := j) (by omega)
      have hlt := listS_lt s hi
      have hstep := rangesOf_take hi
      rw [he] at o hrl o' hstep
      have hil : init.length ≤ j := by simpa using hrl
      rcases o with ⟨rfl, _, h2⟩ | ⟨b, ver, fz, rfl, hrow, hz, hz2, hlen⟩
      · simp at h2
      · have hget := prcells_last init lo (listS s)[j]
        by_cases hadj : ((listS s)[j]).toNat + 1 = ((listS s)[j + 1]).toNat
        · have hd : decide ((((listS s)[j]).toNat : Int) + 1 = ((listS s)[j + 1]).toNat) = true := decide_eq_true (by omega)
          repeat (first | (refine Wp.seq ?_) | (refine Wp.block ?_) | (refine Wp.skip ?_) | (apply Wp.region; focus (simp (maxSteps := 1000000) (disch := first | omega | assumption | (simp only [R5, hs, hrow, hget, prcells_len, hd]; first | done | omega)) only [R1, R2, R3, R4, R5, R6, RC, Nat.reduceEqDiff, Nat.reduceAdd, Nat.reduceSub, Nat.reduceMul, Nat.reduceLT, Nat.reduceLeDiff, Nat.reduceBEq, reduceIte, Int.reduceEq, Int.reduceLT, Int.reduceLE, Int.reduceAdd, Int.reduceSub, Int.reduceNeg, Int.reduceMul, reduceCtorEq, Int.reduceToNat, hs, hrow, hget, prcells_len, hd]; with_reducible rfl)) | (refine Wp.condT ?_ ?_; focus (simp (maxSteps := 1000000) (disch := first | omega | assumption | (simp only [R5, hs, hrow, hget, prcells_len, hd]; first | done | omega)) only [R1, R2, R3, R4, R5, R6, RC, Nat.reduceEqDiff, Nat.reduceAdd, Nat.reduceSub, Nat.reduceMul, Nat.reduceLT, Nat.reduceLeDiff, Nat.reduceBEq, reduceIte, Int.reduceEq, Int.reduceLT, Int.reduceLE, Int.reduceAdd, Int.reduceSub, Int.reduceNeg, Int.reduceMul, reduceCtorEq, Int.reduceToNat, hs, hrow, hget, prcells_len, hd]; done)) | (refine Wp.condF ?_ ?_; focus (simp (maxSteps := 1000000) (disch := first | omega | assumption | (simp only [R5, hs, hrow, hget, prcells_len, hd]; first | done | omega)) only [R1, R2, R3, R4, R5, R6, RC, Nat.reduceEqDiff, Nat.reduceAdd, Nat.reduceSub, Nat.reduceMul, Nat.reduceLT, Nat.reduceLeDiff, Nat.reduceBEq, reduceIte, Int.reduceEq, Int.reduceLT, Int.reduceLE, Int.reduceAdd, Int.reduceSub, Int.reduceNeg, Int.reduceMul, reduceCtorEq, Int.reduceToNat, hs, hrow, hget, prcells_len, hd]; done)) | (refine Wp.exit ⟨fun _ => ?_, fun h => absurd rfl h⟩) | (refine Wp.exit ⟨fun h => absurd h (by decide), fun _ => ⟨fun _ => ?_, fun h => absurd rfl h⟩⟩))
          refine ⟨_, _, _, .sl b ver 0 (init.length + 1) 2 none, rfl, ?_, ?_⟩
          · rw [hstep]
            have e : rstep (init ++ [(lo, (listS s)[j])]) (listS s)[j + 1] = init ++ [(lo, (listS s)[j + 1])] := by
              unfold rstep; simp [hadj]
            rw [e, prcells_setlast]
            exact .inr ⟨b, ver, fz, by simp, rowAt_set _ _ _ _ _ _ (rowAt_lt hrow), hz, by omega, by simp [prcells_len]⟩
          · simp (maxSteps := 1000000) (disch := first | omega | assumption | (simp only [R5, Sl, hs]; first | done | omega)) only [R1, R2, R3, R4, R5, R6, RC, Nat.reduceEqDiff, Nat.reduceAdd, Nat.reduceSub, Nat.reduceMul, Nat.reduceLT, Nat.reduceLeDiff, Nat.reduceBEq, reduceIte, Int.reduceEq, Int.reduceLT, Int.reduceLE, Int.reduceAdd, Int.reduceSub, Int.reduceNeg, Int.reduceMul, reduceCtorEq, Int.reduceToNat, Sl, hs]
        · have hd : decide ((((listS s)[j]).toNat : Int) + 1 = ((listS s)[j + 1]).toNat) = false := decide_eq_false (by omega)
          simp only [List.length_append, List.length_cons, List.length_nil, Nat.zero_add] at ha
          repeat (first | (refine Wp.seq ?_) | (refine Wp.block ?_) | (refine Wp.skip ?_) | (apply Wp.region; focus (simp (maxSteps := 1000000) (disch := first | omega | assumption | (simp only [R5, hs, hrow, hget, prcells_len, hd, ha]; first | done | omega)) only [R1, R2, R3, R4, R5, R6, RC, Nat.reduceEqDiff, Nat.reduceAdd, Nat.reduceSub, Nat.reduceMul, Nat.reduceLT, Nat.reduceLeDiff, Nat.reduceBEq, reduceIte, Int.reduceEq, Int.reduceLT, Int.reduceLE, Int.reduceAdd, Int.reduceSub, Int.reduceNeg, Int.reduceMul, reduceCtorEq, Int.reduceToNat, hs, hrow, hget, prcells_len, hd, ha]; with_reducible rfl)) | (refine Wp.condT ?_ ?_; focus (simp (maxSteps := 1000000) (disch := first | omega | assumption | (simp only [R5, hs, hrow, hget, prcells_len, hd, ha]; first | done | omega)) only [R1, R2, R3, R4, R5, R6, RC, Nat.reduceEqDiff, Nat.reduceAdd, Nat.reduceSub, Nat.reduceMul, Nat.reduceLT, Nat.reduceLeDiff, Nat.reduceBEq, reduceIte, Int.reduceEq, Int.reduceLT, Int.reduceLE, Int.reduceAdd, Int.reduceSub, Int.reduceNeg, Int.reduceMul, reduceCtorEq, Int.reduceToNat, hs, hrow, hget, prcells_len, hd, ha]; done)) | (refine Wp.condF ?_ ?_; focus (simp (maxSteps := 1000000) (disch := first | omega | assumption | (simp only [R5, hs, hrow, hget, prcells_len, hd, ha]; first | done | omega)) only [R1, R2, R3, R4, R5, R6, RC, Nat.reduceEqDiff, Nat.reduceAdd, Nat.reduceSub, Nat.reduceMul, Nat.reduceLT, Nat.reduceLeDiff, Nat.reduceBEq, reduceIte, Int.reduceEq, Int.reduceLT, Int.reduceLE, Int.reduceAdd, Int.reduceSub, Int.reduceNeg, Int.reduceMul, reduceCtorEq, Int.reduceToNat, hs, hrow, hget, prcells_len, hd, ha]; done)) | (refine Wp.exit ⟨fun _ => ?_, fun h => absurd rfl h⟩) | (refine Wp.exit ⟨fun h => absurd h (by decide), fun _ => ⟨fun _ => ?_, fun h => absurd rfl h⟩⟩))
          refine ⟨_, _, _, v', rfl, ?_, ?_⟩
          · rw [hstep]
            have e : rstep (init ++ [(lo, (listS s)[j])]) (listS s)[j + 1] = init ++ [(lo, (listS s)[j])] ++ [((listS s)[j + 1], (listS s)[j + 1])] := by
              unfold rstep; simp [hadj]
            rw [e, prcells_snoc]
            simpa using o'
          · simp (maxSteps := 1000000) (disch := first | omega | assumption | (simp only [R5, Sl, hs, o'.rval]; first | done | omega)) only [R1, R2, R3, R4, R5, R6, RC, Nat.reduceEqDiff, Nat.reduceAdd, Nat.reduceSub, Nat.reduceMul, Nat.reduceLT, Nat.reduceLeDiff, Nat.reduceBEq, reduceIte, Int.reduceEq, Int.reduceLT, Int.reduceLE, Int.reduceAdd, Int.reduceSub, Int.reduceNeg, Int.reduceMul, reduceCtorEq, Int.reduceToNat, Sl, hs, o'.rval]
  · rintro _ ⟨t, h, c, v, rfl, o, hs⟩
    simp only [Sl] at hs
    rw [List.take_length] at o
    repeat (first | (refine Wp.seq ?_) | (refine Wp.block ?_) | (refine Wp.skip ?_) | (apply Wp.region; focus (simp (maxSteps := 1000000) (disch := first | omega | assumption | (simp only [R5, hs, o.rval]; first | done | omega)) only [R1, R2, R3, R4, R5, R6, RC, Nat.reduceEqDiff, Nat.reduceAdd, Nat.reduceSub, Nat.reduceMul, Nat.reduceLT, Nat.reduceLeDiff, Nat.reduceBEq, reduceIte, Int.reduceEq, Int.reduceLT, Int.reduceLE, Int.reduceAdd, Int.reduceSub, Int.reduceNeg, Int.reduceMul, reduceCtorEq, Int.reduceToNat, hs, o.rval]; with_reducible rfl)) | (refine Wp.condT ?_ ?_; focus (simp (maxSteps := 1000000) (disch := first | omega | assumption | (simp only [R5, hs, o.rval]; first | done | omega)) only [R1, R2, R3, R4, R5, R6, RC, Nat.reduceEqDiff, Nat.reduceAdd, Nat.reduceSub, Nat.reduceMul, Nat.reduceLT, Nat.reduceLeDiff, Nat.reduceBEq, reduceIte, Int.reduceEq, Int.reduceLT, Int.reduceLE, Int.reduceAdd, Int.reduceSub, Int.reduceNeg, Int.reduceMul, reduceCtorEq, Int.reduceToNat, hs, o.rval]; done)) | (refine Wp.condF ?_ ?_; focus (simp (maxSteps := 1000000) (disch := first | omega | assumption | (simp only [R5, hs, o.rval]; first | done | omega)) only [R1, R2, R3, R4, R5, R6, RC, Nat.reduceEqDiff, Nat.reduceAdd, Nat.reduceSub, Nat.reduceMul, Nat.reduceLT, Nat.reduceLeDiff, Nat.reduceBEq, reduceIte, Int.reduceEq, Int.reduceLT, Int.reduceLE, Int.reduceAdd, Int.reduceSub, Int.reduceNeg, Int.reduceMul, reduceCtorEq, Int.reduceToNat, hs, o.rval]; done)) | (refine Wp.exit ⟨fun _ => ?_, fun h => absurd rfl h⟩) | (refine Wp.exit ⟨fun h => absurd h (by decide), fun _ => ⟨fun _ => ?_, fun h => absurd rfl h⟩⟩))
    refine Wp.ret (ret_ok (by simp (maxSteps := 1000000) (disch := first | omega | assumption | (simp only [R5, a_winnowerref5_Ranges, hs, o.rval, o.keeps]; first | done | omega)) only [R1, R2, R3, R4, R5, R6, RC, Nat.reduceEqDiff, Nat.reduceAdd, Nat.reduceSub, Nat.reduceMul, Nat.reduceLT, Nat.reduceLeDiff, Nat.reduceBEq, reduceIte, Int.reduceEq, Int.reduceLT, Int.reduceLE, Int.reduceAdd, Int.reduceSub, Int.reduceNeg, Int.reduceMul, reduceCtorEq, Int.reduceToNat, a_winnowerref5_Ranges, hs, o.rval, o.keeps]; with_reducible rfl) ?_)
    simp (maxSteps := 1000000) (disch := first | omega | assumption | (simp only [R5, o.argR (prcells_flat _), prcells_norm, rangesS]; first | done | omega)) only [R1, R2, R3, R4, R5, R6, RC, Nat.reduceEqDiff, Nat.reduceAdd, Nat.reduceSub, Nat.reduceMul, Nat.reduceLT, Nat.reduceLeDiff, Nat.reduceBEq, reduceIte, Int.reduceEq, Int.reduceLT, Int.reduceLE, Int.reduceAdd, Int.reduceSub, Int.reduceNeg, Int.reduceMul, reduceCtorEq, Int.reduceToNat, o.argR (prcells_flat _), prcells_norm, rangesS]

/-! ### how many -/
def popc (x : BitVec 64) : Nat := (List.range 64).countP fun i => x.getLsbD i
def countS (s : BSet) : Nat := (List.range 256).countP fun i => s.getLsbD i
theorem countS_list (s : BSet) : countS s = (listS s).length := by
  simp [countS, listS, listN, List.countP_eq_length_filter]
theorem countS_words (s : BSet) : countS s = popc (sword s 0) + popc (sword s 1) + popc (sword s 2) + popc (sword s 3) := by
  have key : ∀ i, i < 4 → popc (sword s i) = (List.range' (64 * i) 64).countP fun b => s.getLsbD b := by
    intro i hi
    unfold popc
    rw [List.range'_eq_map_range, List.countP_map]
    refine List.countP_congr fun j hj => ?_
    have := List.mem_range.1 hj
    simp only [Function.comp, sword_bit, this, decide_true, Bool.true_and]
  have e : List.range 256 = List.range' 0 64 ++ List.range' 64 64 ++ List.range' 128 64 ++ List.range' 192 64 := by decide
  rw [key 0 (by omega), key 1 (by omega), key 2 (by omega), key 3 (by omega)]
  unfold countS
  rw [e]
  simp only [List.countP_append]

/- How many bits are set in a word. -/
end Go.Abs
namespace Go.Abs
open S
set_option maxRecDepth 10000

def by8 (x : BitVec 64) (k : Nat) : BitVec 8 := x.extractLsb' (8 * k) 8
theorem by8_bit (x : BitVec 64) (k j : Nat) : (by8 x k).getLsbD j = (decide (j < 8) && x.getLsbD (8 * k + j)) := by
  unfold by8; rw [BitVec.getLsbD_extractLsb']
theorem by8_nat (x : BitVec 64) (k : Nat) : (by8 x k).toNat = x.toNat / 2 ^ (8 * k) % 256 := by
  unfold by8; rw [BitVec.extractLsb'_toNat, Nat.shiftRight_eq_div_pow]
theorem by8_mask {x : BitVec 64} {M : BitVec 64} {m : BitVec 8} {s : Nat} (hM : ∀ i, i < 64 → M.getLsbD i = m.getLsbD (i % 8)) (hm : ∀ j, j < 8 → m.getLsbD j = true → j + s < 8) {k : Nat} (hk : k < 8) :
    by8 ((x >>> s) &&& M) k = (by8 x k >>> s) &&& m := by
  apply BitVec.eq_of_getLsbD_eq
  intro j hj
  rw [by8_bit, BitVec.getLsbD_and, BitVec.getLsbD_and, BitVec.getLsbD_ushiftRight, BitVec.getLsbD_ushiftRight, by8_bit, hM _ (by omega)]
  have e : (8 * k + j) % 8 = j := by omega
  rw [e]
  cases hb : m.getLsbD j with
  | false => simp
  | true =>
    have := hm j hj hb
    have e2 : s + (8 * k + j) = 8 * k + (s + j) := by omega
    have e3 : s + j < 8 := by omega
    simp [hj, e2, e3]
/-- A digit of a number. -/
def dg (B n k : Nat) : Nat := n / B ^ k % B
theorem dg_succ (B n k : Nat) : dg B n (k + 1) = dg B (n / B) k := by
  unfold dg; rw [Nat.pow_succ', Nat.div_div_eq_div_mul]
theorem dg_zero (B n : Nat) : dg B n 0 = n % B := by simp [dg]
theorem dg_add {B : Nat} (hB : 0 < B) : ∀ (K a b : Nat), a < B ^ K → b < B ^ K → (∀ k, k < K → dg B a k + dg B b k < B) → a + b < B ^ K ∧ ∀ k, k < K → dg B (a + b) k = dg B a k + dg B b k
  | 0, a, b, ha, hb, _ => ⟨by simp at *; omega, fun k hk => by omega⟩
  | K + 1, a, b, ha, hb, h => by
    have h0 := h 0 (by omega)
    rw [dg_zero, dg_zero] at h0
    have e : (a + b) / B = a / B + b / B := by rw [Nat.add_div hB, if_neg (by omega)]; rfl
    obtain ⟨h1, h2⟩ := dg_add hB K (a / B) (b / B) (Nat.div_lt_of_lt_mul (by rw [← Nat.pow_succ']; exact ha)) (Nat.div_lt_of_lt_mul (by rw [← Nat.pow_succ']; exact hb)) (fun k hk => by rw [← dg_succ, ← dg_succ]; exact h (k + 1) (by omega))
    refine ⟨?_, fun k hk => ?_⟩
    · rw [← e] at h1
      rw [Nat.pow_succ]
      exact (Nat.div_lt_iff_lt_mul hB).1 h1
    · cases k with
      | zero => rw [dg_zero, dg_zero, dg_zero, Nat.add_mod, Nat.mod_eq_of_lt h0]
      | succ k => rw [dg_succ, dg_succ, dg_succ, e]; exact h2 k (by omega)
theorem dg_shift (B n s k : Nat) : dg B (n / B ^ s) k = dg B n (k + s) := by
  unfold dg; rw [Nat.div_div_eq_div_mul, ← Nat.pow_add, Nat.add_comm s k]
theorem by8_dg (x : BitVec 64) (k : Nat) : (by8 x k).toNat = dg 256 x.toNat k := by
  rw [by8_nat]
  unfold dg
  rw [show (256 : Nat) = 2 ^ 8 from rfl, ← Nat.pow_mul]
theorem by8_add {x y : BitVec 64} (h : ∀ k, k < 8 → (by8 x k).toNat + (by8 y k).toNat < 256) {k : Nat} (hk : k < 8) : by8 (x + y) k = by8 x k + by8 y k := by
  apply BitVec.eq_of_toNat_eq
  obtain ⟨h1, h2⟩ := dg_add (B := 256) (by omega) 8 x.toNat y.toNat x.isLt y.isLt (fun k hk => by rw [← by8_dg, ← by8_dg]; exact h k hk)
  have h3 := h k hk
  rw [BitVec.toNat_add, by8_dg, BitVec.toNat_add, Nat.mod_eq_of_lt (show x.toNat + y.toNat < 2 ^ 64 from h1), h2 k hk, ← by8_dg, ← by8_dg, Nat.mod_eq_of_lt (show _ < 2 ^ 8 from h3)]

def popc8 (b : BitVec 8) : Nat := (List.range 8).countP fun i => b.getLsbD i
def f1 (b : BitVec 8) : BitVec 8 := ((b >>> 1) &&& 0x55#8) + (b &&& 0x55#8)
def f2 (b : BitVec 8) : BitVec 8 := ((b >>> 2) &&& 0x33#8) + (b &&& 0x33#8)
theorem f1_small : ∀ b : BitVec 8, ((b >>> 1) &&& 0x55#8).toNat + (b &&& 0x55#8).toNat < 256 := by decide
theorem f2_small : ∀ b : BitVec 8, ((b >>> 2) &&& 0x33#8).toNat + (b &&& 0x33#8).toNat < 256 := by decide
theorem f_pop : ∀ b : BitVec 8, (f2 (f1 b)).toNat / 16 + (f2 (f1 b)).toNat % 16 = popc8 b ∧ (f2 (f1 b)).toNat / 16 ≤ 4 ∧ (f2 (f1 b)).toNat % 16 ≤ 4 := by decide +kernel

theorem popc_bytes (x : BitVec 64) : popc x = popc8 (by8 x 0) + popc8 (by8 x 1) + popc8 (by8 x 2) + popc8 (by8 x 3) + popc8 (by8 x 4) + popc8 (by8 x 5) + popc8 (by8 x 6) + popc8 (by8 x 7) := by
  have key : ∀ k, popc8 (by8 x k) = (List.range' (8 * k) 8).countP fun b => x.getLsbD b := by
    intro k
    unfold popc8
    rw [List.range'_eq_map_range, List.countP_map]
    refine List.countP_congr fun j hj => ?_
    have := List.mem_range.1 hj
    simp only [Function.comp, by8_bit, this, decide_true, Bool.true_and]
  have e : List.range 64 = List.range' 0 8 ++ List.range' 8 8 ++ List.range' 16 8 ++ List.range' 24 8 ++ List.range' 32 8 ++ List.range' 40 8 ++ List.range' 48 8 ++ List.range' 56 8 := by decide
  rw [key, key, key, key, key, key, key, key]
  unfold popc
  rw [e]
  simp only [List.countP_append]

def s1 (x : BitVec 64) : BitVec 64 := ((x >>> 1) &&& 6148914691236517205#64) + (x &&& 6148914691236517205#64)
def s2 (x : BitVec 64) : BitVec 64 := ((x >>> 2) &&& 3689348814741910323#64) + (x &&& 3689348814741910323#64)
def s3 (x : BitVec 64) : BitVec 64 := ((x >>> 4) + x) &&& 1085102592571150095#64
theorem by8_s1 (x : BitVec 64) {k : Nat} (hk : k < 8) : by8 (s1 x) k = f1 (by8 x k) := by
  have a : ∀ k, k < 8 → by8 ((x >>> 1) &&& 6148914691236517205#64) k = (by8 x k >>> 1) &&& 0x55#8 := fun k hk => by8_mask (by decide) (by decide) hk
  have b : ∀ k, k < 8 → by8 (x &&& 6148914691236517205#64) k = by8 x k &&& 0x55#8 := fun k hk => by
    have := by8_mask (x := x) (M := 6148914691236517205#64) (m := 0x55#8) (s := 0) (by decide) (by decide) hk
    simpa using this
  unfold s1 f1
  rw [by8_add (fun k hk => by rw [a k hk, b k hk]; exact f1_small _) hk, a k hk, b k hk]
theorem by8_s2 (x : BitVec 64) {k : Nat} (hk : k < 8) : by8 (s2 x) k = f2 (by8 x k) := by
  have a : ∀ k, k < 8 → by8 ((x >>> 2) &&& 3689348814741910323#64) k = (by8 x k >>> 2) &&& 0x33#8 := fun k hk => by8_mask (by decide) (by decide) hk
  have b : ∀ k, k < 8 → by8 (x &&& 3689348814741910323#64) k = by8 x k &&& 0x33#8 := fun k hk => by
    have := by8_mask (x := x) (M := 3689348814741910323#64) (m := 0x33#8) (s := 0) (by decide) (by decide) hk
    simpa using this
  unfold s2 f2
  rw [by8_add (fun k hk => by rw [a k hk, b k hk]; exact f2_small _) hk, a k hk, b k hk]

theorem dg_s3 (x : BitVec 64) : ∀ k, k < 8 → dg 256 (s3 (s2 (s1 x))).toNat k = popc8 (by8 x k) ∧ popc8 (by8 x k) ≤ 8 := by
  have hb : ∀ k, k < 8 → dg 256 (s2 (s1 x)).toNat k / 16 + dg 256 (s2 (s1 x)).toNat k % 16 = popc8 (by8 x k) ∧ dg 256 (s2 (s1 x)).toNat k / 16 ≤ 4 ∧ dg 256 (s2 (s1 x)).toNat k % 16 ≤ 4 := by
    intro k hk
    rw [← by8_dg, by8_s2 _ hk, by8_s1 _ hk]
    exact f_pop (by8 x k)
  generalize s2 (s1 x) = y at *
  -- half bytes
  have hn : ∀ k, dg 16 y.toNat (2 * k) = dg 256 y.toNat k % 16 ∧ dg 16 y.toNat (2 * k + 1) = dg 256 y.toNat k / 16 := by
    intro k
    unfold dg
    have e : (16 : Nat) ^ (2 * k) = 256 ^ k := by rw [show (256 : Nat) = 16 ^ 2 from rfl, ← Nat.pow_mul]
    rw [Nat.pow_succ, e, ← Nat.div_div_eq_div_mul]
    generalize y.toNat / 256 ^ k = z
    omega
  have h4 : ∀ j, j < 16 → dg 16 y.toNat j ≤ 4 := by
    intro j hj
    have h1 := hb (j / 2) (by omega)
    have h2 := hn (j / 2)
    rcases Nat.mod_two_eq_zero_or_one j with h | h
    · have : j = 2 * (j / 2) := by omega
      rw [this, h2.1]; exact h1.2.2
    · have : j = 2 * (j / 2) + 1 := by omega
      rw [this, h2.2]; exact h1.2.1
  have h5 : ∀ j, j < 16 → dg 16 (y.toNat / 16) j ≤ 4 := by
    intro j hj
    rw [← dg_succ]
    rcases Nat.lt_or_ge (j + 1) 16 with h | h
    · exact h4 _ h
    · have : dg 16 y.toNat (j + 1) = 0 := by
        unfold dg
        rw [Nat.div_eq_of_lt]
        have : (16 : Nat) ^ 16 ≤ 16 ^ (j + 1) := Nat.pow_le_pow_right (by omega) h
        exact Nat.lt_of_lt_of_le y.isLt this
      omega
  obtain ⟨g1, g2⟩ := dg_add (B := 16) (by omega) 16 (y.toNat / 16) y.toNat (by have := y.isLt; omega) y.isLt (fun k hk => by have := h4 k hk; have := h5 k hk; omega)
  have hT : ((y >>> 4) + y).toNat = y.toNat / 16 + y.toNat := by
    rw [BitVec.toNat_add, BitVec.toNat_ushiftRight, Nat.shiftRight_eq_div_pow, Nat.mod_eq_of_lt]
    exact g1
  intro k hk
  have h1 := hb k hk
  refine ⟨?_, by omega⟩
  have := by8_mask (x := (y >>> 4) + y) (M := 1085102592571150095#64) (m := 0x0f#8) (s := 0) (by decide) (by decide) hk
  unfold s3
  rw [BitVec.ushiftRight_zero] at this
  rw [← by8_dg, this, BitVec.ushiftRight_zero, BitVec.toNat_and, by8_dg, hT]
  have e : (0x0f#8).toNat = 2 ^ 4 - 1 := rfl
  rw [e, Nat.and_two_pow_sub_one_eq_mod]
  have e2 : dg 256 (y.toNat / 16 + y.toNat) k % 2 ^ 4 = dg 16 (y.toNat / 16 + y.toNat) (2 * k) := by
    unfold dg
    have e : (16 : Nat) ^ (2 * k) = 256 ^ k := by rw [show (256 : Nat) = 16 ^ 2 from rfl, ← Nat.pow_mul]
    rw [e]; omega
  rw [e2, g2 _ (by omega), ← dg_succ, (hn k).1, (hn k).2]
  exact h1.1

def s4 (x : BitVec 64) (s : Nat) : BitVec 64 := x + (x >>> s)
theorem dg_s4 {x : BitVec 64} {s M : Nat} (hM : M + M < 256) (h : ∀ k, k < 8 → dg 256 x.toNat k ≤ M) : ∀ k, k < 8 → dg 256 (s4 x (8 * s)).toNat k = dg 256 x.toNat k + dg 256 x.toNat (k + s) := by
  have hz : ∀ k, dg 256 x.toNat k ≤ M := fun k => by
    rcases Nat.lt_or_ge k 8 with h1 | h1
    · exact h k h1
    · have : dg 256 x.toNat k = 0 := by
        unfold dg
        rw [Nat.div_eq_of_lt]
        have : (256 : Nat) ^ 8 ≤ 256 ^ k := Nat.pow_le_pow_right (by omega) h1
        exact Nat.lt_of_lt_of_le x.isLt this
      omega
  have e : (x >>> (8 * s)).toNat = x.toNat / 256 ^ s := by
    rw [BitVec.toNat_ushiftRight, Nat.shiftRight_eq_div_pow, Nat.pow_mul]
  have hlt : x.toNat / 256 ^ s < 256 ^ 8 := Nat.lt_of_le_of_lt (Nat.div_le_self _ _) x.isLt
  obtain ⟨g1, g2⟩ := dg_add (B := 256) (by omega) 8 x.toNat (x.toNat / 256 ^ s) x.isLt hlt (fun k hk => by
    rw [dg_shift]
    have := hz k
    have := hz (k + s)
    omega)
  intro k hk
  unfold s4
  rw [BitVec.toNat_add, e, Nat.mod_eq_of_lt (show _ < 2 ^ 64 from g1), g2 k hk, dg_shift]
theorem dg_top (x : BitVec 64) {k : Nat} (h : 8 ≤ k) : dg 256 x.toNat k = 0 := by
  unfold dg
  rw [Nat.div_eq_of_lt]
  have : (256 : Nat) ^ 8 ≤ 256 ^ k := Nat.pow_le_pow_right (by omega) h
  exact Nat.lt_of_lt_of_le x.isLt this

def s6 (x : BitVec 64) : BitVec 64 := s4 (s4 (s4 (s3 (s2 (s1 x))) 8) 16) 32
theorem s6_pop (x : BitVec 64) : (s6 x).toNat % 256 = popc x ∧ popc x ≤ 64 ∧ (s6 x).toNat < 9223372036854775808 := by
  have h3 := dg_s3 x
  unfold s6
  generalize s3 (s2 (s1 x)) = y at *
  have y8 : ∀ k, k < 8 → dg 256 y.toNat k ≤ 8 := fun k hk => by have := h3 k hk; omega
  have a := dg_s4 (x := y) (s := 1) (M := 8) (by omega) y8
  have a8 : ∀ k, k < 8 → dg 256 (s4 y (8 * 1)).toNat k ≤ 16 := fun k hk => by
    rw [a k hk]
    have := y8 k hk
    rcases Nat.lt_or_ge (k + 1) 8 with h | h
    · have := y8 (k + 1) h; omega
    · rw [dg_top y h]; omega
  have b := dg_s4 (x := s4 y (8 * 1)) (s := 2) (M := 16) (by omega) a8
  have b8 : ∀ k, k < 8 → dg 256 (s4 (s4 y (8 * 1)) (8 * 2)).toNat k ≤ 32 := fun k hk => by
    rw [b k hk]
    have := a8 k hk
    rcases Nat.lt_or_ge (k + 2) 8 with h | h
    · have := a8 (k + 2) h; omega
    · rw [dg_top _ h]; omega
  have c := dg_s4 (x := s4 (s4 y (8 * 1)) (8 * 2)) (s := 4) (M := 32) (by omega) b8
  have c0 := c 0 (by omega)
  have c7 := c 7 (by omega)
  rw [dg_top _ (show 8 ≤ 7 + 4 by omega), b 7 (by omega), dg_top _ (show 8 ≤ 7 + 2 by omega), a 7 (by omega), dg_top _ (show 8 ≤ 7 + 1 by omega)] at c7
  rw [b 0 (by omega), b 4 (by omega), a 0 (by omega), a 2 (by omega), a 4 (by omega), a 6 (by omega)] at c0
  rw [(h3 0 (by omega)).1, (h3 1 (by omega)).1, (h3 2 (by omega)).1, (h3 3 (by omega)).1, (h3 4 (by omega)).1, (h3 5 (by omega)).1, (h3 6 (by omega)).1, (h3 7 (by omega)).1] at c0
  have hp := popc_bytes x
  have q0 := (h3 0 (by omega)).2
  have q1 := (h3 1 (by omega)).2
  have q2 := (h3 2 (by omega)).2
  have q3 := (h3 3 (by omega)).2
  have q4 := (h3 4 (by omega)).2
  have q5 := (h3 5 (by omega)).2
  have q6 := (h3 6 (by omega)).2
  have q7 := (h3 7 (by omega)).2
  have z7 := y8 7 (by omega)
  simp only [Nat.reduceMul] at c0 c7
  refine ⟨?_, by omega, ?_⟩
  · rw [dg_zero] at c0
    omega
  · have e : dg 256 (s4 (s4 (s4 y 8) 16) 32).toNat 7 ≤ 8 := by omega
    have hlt := (s4 (s4 (s4 y 8) 16) 32).isLt
    unfold dg at e
    rw [show (256 : Nat) ^ 7 = 72057594037927936 from rfl] at e
    omega

theorem u64_lit {n : Nat} (h : n < 18446744073709551616) : (AV.int .u64 (n : Int)) = .int .u64 (BitVec.ofNat 64 n).toNat := by
  rw [BitVec.toNat_ofNat, Nat.mod_eq_of_lt (show n < 2 ^ 64 from h)]
theorem b_andl (x : BitVec 64) (n : Nat) (h : n < 18446744073709551616) : binA .and (.int .u64 x.toNat) (.int .u64 (n : Int)) = some (.int .u64 (x &&& BitVec.ofNat 64 n).toNat) := by
  rw [u64_lit h]; exact b_and _ _
theorem b_and55 (x : BitVec 64) : binA .and (.int .u64 x.toNat) (.int .u64 6148914691236517205) = some (.int .u64 (x &&& 6148914691236517205#64).toNat) := b_andl x 6148914691236517205 (by omega)
theorem b_and33 (x : BitVec 64) : binA .and (.int .u64 x.toNat) (.int .u64 3689348814741910323) = some (.int .u64 (x &&& 3689348814741910323#64).toNat) := b_andl x 3689348814741910323 (by omega)
theorem b_and0f (x : BitVec 64) : binA .and (.int .u64 x.toNat) (.int .u64 1085102592571150095) = some (.int .u64 (x &&& 1085102592571150095#64).toNat) := b_andl x 1085102592571150095 (by omega)
theorem b_shrl (x : BitVec 64) (k : Nat) : binA .shr (.int .u64 x.toNat) (.int .u64 (k : Int)) = some (.int .u64 (x >>> k).toNat) := b_shr x .u64 k
theorem b_shrl1 (x : BitVec 64) : binA .shr (.int .u64 x.toNat) (.int .u64 1) = some (.int .u64 (x >>> 1).toNat) := b_shr x .u64 1
theorem b_shrl2 (x : BitVec 64) : binA .shr (.int .u64 x.toNat) (.int .u64 2) = some (.int .u64 (x >>> 2).toNat) := b_shr x .u64 2
theorem b_shrl4 (x : BitVec 64) : binA .shr (.int .u64 x.toNat) (.int .u64 4) = some (.int .u64 (x >>> 4).toNat) := b_shr x .u64 4
theorem b_shrl8 (x : BitVec 64) : binA .shr (.int .u64 x.toNat) (.int .u64 8) = some (.int .u64 (x >>> 8).toNat) := b_shr x .u64 8
theorem b_shrl16 (x : BitVec 64) : binA .shr (.int .u64 x.toNat) (.int .u64 16) = some (.int .u64 (x >>> 16).toNat) := b_shr x .u64 16
theorem b_shrl32 (x : BitVec 64) : binA .shr (.int .u64 x.toNat) (.int .u64 32) = some (.int .u64 (x >>> 32).toNat) := b_shr x .u64 32
theorem b_and127 {n : Nat} (h : n < 9223372036854775808) : binA .and (.int .i64 (n : Int)) (.int .i64 127) = some (.int .i64 ((n % 128 : Nat) : Int)) := by
  simp only [binA, if_true]
  congr 2
  have h1 : BitVec.ofInt 64 (n : Int) = BitVec.ofNat 64 n := BitVec.ofInt_natCast _ _
  have h2 : BitVec.ofInt 64 127 = 127#64 := rfl
  have h3 : (BitVec.ofInt 64 (n : Int) &&& BitVec.ofInt 64 127).toNat = n % 128 := by
    rw [h1, h2, BitVec.toNat_and, BitVec.toNat_ofNat, Nat.mod_eq_of_lt (show n < 2 ^ 64 by omega)]
    have e : (127#64).toNat = 2 ^ 7 - 1 := rfl
    rw [e, Nat.and_two_pow_sub_one_eq_mod]
  exact (congrArg (fun m : Nat => IntKind.wrap .i64 (m : Int)) h3).trans (wrap_i64 (by omega) (by omega))

theorem s1_fold (x : BitVec 64) : ((x >>> 1) &&& 6148914691236517205#64) + (x &&& 6148914691236517205#64) = s1 x := rfl
theorem s2_fold (x : BitVec 64) : ((x >>> 2) &&& 3689348814741910323#64) + (x &&& 3689348814741910323#64) = s2 x := rfl
theorem s3_fold (x : BitVec 64) : ((x >>> 4) + x) &&& 1085102592571150095#64 = s3 x := rfl
theorem s4_fold (x : BitVec 64) (s : Nat) : x + (x >>> s) = s4 x s := rfl
theorem math_bits_OnesCount64_ok (x : BitVec 64) : pcL C i_math_bits_OnesCount64 [.int .u64 x.toNat] = some (.int .i64 (popc x)) := by
  refine pcL_of rfl f_math_bits_OnesCount64 ?_
  obtain ⟨h1, h2, h3⟩ := s6_pop x
  have h3' : (s6 x).toNat < 9223372036854775808 := h3
  unfold s6 at h1 h3'
  repeat (first | (refine Wp.seq ?_) | (refine Wp.block ?_) | (refine Wp.skip ?_) | (apply Wp.region; focus (simp (maxSteps := 1000000) (disch := first | omega | assumption | (simp only [R5, s1_fold, s2_fold, s3_fold, s4_fold, b_and55, b_and33, b_and0f, b_shrl1, b_shrl2, b_shrl4, b_shrl8, b_shrl16, b_shrl32, b_and127 h3']; first | done | omega)) only [R1, R2, R3, R4, R5, R6, RC, Nat.reduceEqDiff, Nat.reduceAdd, Nat.reduceSub, Nat.reduceMul, Nat.reduceLT, Nat.reduceLeDiff, Nat.reduceBEq, reduceIte, Int.reduceEq, Int.reduceLT, Int.reduceLE, Int.reduceAdd, Int.reduceSub, Int.reduceNeg, Int.reduceMul, reduceCtorEq, Int.reduceToNat, s1_fold, s2_fold, s3_fold, s4_fold, b_and55, b_and33, b_and0f, b_shrl1, b_shrl2, b_shrl4, b_shrl8, b_shrl16, b_shrl32, b_and127 h3']; with_reducible rfl)) | (refine Wp.condT ?_ ?_; focus (simp (maxSteps := 1000000) (disch := first | omega | assumption | (simp only [R5, s1_fold, s2_fold, s3_fold, s4_fold, b_and55, b_and33, b_and0f, b_shrl1, b_shrl2, b_shrl4, b_shrl8, b_shrl16, b_shrl32, b_and127 h3']; first | done | omega)) only [R1, R2, R3, R4, R5, R6, RC, Nat.reduceEqDiff, Nat.reduceAdd, Nat.reduceSub, Nat.reduceMul, Nat.reduceLT, Nat.reduceLeDiff, Nat.reduceBEq, reduceIte, Int.reduceEq, Int.reduceLT, Int.reduceLE, Int.reduceAdd, Int.reduceSub, Int.reduceNeg, Int.reduceMul, reduceCtorEq, Int.reduceToNat, s1_fold, s2_fold, s3_fold, s4_fold, b_and55, b_and33, b_and0f, b_shrl1, b_shrl2, b_shrl4, b_shrl8, b_shrl16, b_shrl32, b_and127 h3']; done)) | (refine Wp.condF ?_ ?_; focus (simp (maxSteps := 1000000) (disch := first | omega | assumption | (simp only [R5, s1_fold, s2_fold, s3_fold, s4_fold, b_and55, b_and33, b_and0f, b_shrl1, b_shrl2, b_shrl4, b_shrl8, b_shrl16, b_shrl32, b_and127 h3']; first | done | omega)) only [R1, R2, R3, R4, R5, R6, RC, Nat.reduceEqDiff, Nat.reduceAdd, Nat.reduceSub, Nat.reduceMul, Nat.reduceLT, Nat.reduceLeDiff, Nat.reduceBEq, reduceIte, Int.reduceEq, Int.reduceLT, Int.reduceLE, Int.reduceAdd, Int.reduceSub, Int.reduceNeg, Int.reduceMul, reduceCtorEq, Int.reduceToNat, s1_fold, s2_fold, s3_fold, s4_fold, b_and55, b_and33, b_and0f, b_shrl1, b_shrl2, b_shrl4, b_shrl8, b_shrl16, b_shrl32, b_and127 h3']; done)) | (refine Wp.exit ⟨fun _ => ?_, fun h => absurd rfl h⟩) | (refine Wp.exit ⟨fun h => absurd h (by decide), fun _ => ⟨fun _ => ?_, fun h => absurd rfl h⟩⟩))
  have e : (s4 (s4 (s4 (s3 (s2 (s1 x))) 8) 16) 32).toNat % 128 = popc x := by omega
  refine Wp.ret (ret_ok (by simp (maxSteps := 1000000) (disch := first | omega | assumption | (simp only [R5, a_math_bits_OnesCount64]; first | done | omega)) only [R1, R2, R3, R4, R5, R6, RC, Nat.reduceEqDiff, Nat.reduceAdd, Nat.reduceSub, Nat.reduceMul, Nat.reduceLT, Nat.reduceLeDiff, Nat.reduceBEq, reduceIte, Int.reduceEq, Int.reduceLT, Int.reduceLE, Int.reduceAdd, Int.reduceSub, Int.reduceNeg, Int.reduceMul, reduceCtorEq, Int.reduceToNat, a_math_bits_OnesCount64]; with_reducible rfl) ?_)
  simp (maxSteps := 1000000) (disch := first | omega | assumption | (simp only [R5, e]; first | done | omega)) only [R1, R2, R3, R4, R5, R6, RC, Nat.reduceEqDiff, Nat.reduceAdd, Nat.reduceSub, Nat.reduceMul, Nat.reduceLT, Nat.reduceLeDiff, Nat.reduceBEq, reduceIte, Int.reduceEq, Int.reduceLT, Int.reduceLE, Int.reduceAdd, Int.reduceSub, Int.reduceNeg, Int.reduceMul, reduceCtorEq, Int.reduceToNat, e]

theorem class_Count_ok (s : BSet) : pcL C i_class_Count [.agg (scells s)] = some (.int .i64 (countS s)) := by
  refine pcL_of rfl f_class_Count ?_
  have hp := fun i => (s6_pop (sword s i)).2.1
  let f : Nat → Nat := fun i => ((List.range i).map fun j => popc (sword s j)).sum
  have hf : ∀ i, f (i + 1) = f i + popc (sword s i) := fun i => by simp [f, List.range_succ]
  have hfb : ∀ i, i ≤ 4 → f i ≤ 64 * i := fun i hi => by
    induction i with
    | zero => simp [f]
    | succ i ih => rw [hf]; have := hp i; have := ih (by omega); omega
  have h0 : f 0 = 0 := rfl
  have h4 : f 4 = countS s := by rw [countS_words, hf, hf, hf, hf, h0]; omega
  clear_value f
  repeat (first | (refine Wp.seq ?_) | (refine Wp.block ?_) | (refine Wp.skip ?_) | (apply Wp.region; focus (simp (maxSteps := 1000000) (disch := first | omega | assumption | (simp only [R5]; first | done | omega)) only [R1, R2, R3, R4, R5, R6, RC, Nat.reduceEqDiff, Nat.reduceAdd, Nat.reduceSub, Nat.reduceMul, Nat.reduceLT, Nat.reduceLeDiff, Nat.reduceBEq, reduceIte, Int.reduceEq, Int.reduceLT, Int.reduceLE, Int.reduceAdd, Int.reduceSub, Int.reduceNeg, Int.reduceMul, reduceCtorEq, Int.reduceToNat]; with_reducible rfl)) | (refine Wp.condT ?_ ?_; focus (simp (maxSteps := 1000000) (disch := first | omega | assumption | (simp only [R5]; first | done | omega)) only [R1, R2, R3, R4, R5, R6, RC, Nat.reduceEqDiff, Nat.reduceAdd, Nat.reduceSub, Nat.reduceMul, Nat.reduceLT, Nat.reduceLeDiff, Nat.reduceBEq, reduceIte, Int.reduceEq, Int.reduceLT, Int.reduceLE, Int.reduceAdd, Int.reduceSub, Int.reduceNeg, Int.reduceMul, reduceCtorEq, Int.reduceToNat]; done)) | (refine Wp.condF ?_ ?_; focus (simp (maxSteps := 1000000) (disch := first | omega | assumption | (simp only [R5]; first | done | omega)) only [R1, R2, R3, R4, R5, R6, RC, Nat.reduceEqDiff, Nat.reduceAdd, Nat.reduceSub, Nat.reduceMul, Nat.reduceLT, Nat.reduceLeDiff, Nat.reduceBEq, reduceIte, Int.reduceEq, Int.reduceLT, Int.reduceLE, Int.reduceAdd, Int.reduceSub, Int.reduceNeg, Int.reduceMul, reduceCtorEq, Int.reduceToNat]; done)) | (refine Wp.exit ⟨fun _ => ?_, fun h => absurd rfl h⟩) | (refine Wp.exit ⟨fun h => absurd h (by decide), fun _ => ⟨fun _ => ?_, fun h => absurd rfl h⟩⟩))
  refine Wp.count 4 (fun i st => ∃ t c, st = ⟨t, [], c⟩ ∧ Sl t [(6, .agg (scells s)), (7, .int .i64 i), (3, .int .i64 (f i))]) ?_ ?_ ?_
  · exact ⟨_, _, rfl, by simp (maxSteps := 1000000) (disch := first | omega | assumption | (simp only [R5, Sl, h0]; first | done | omega)) only [R1, R2, R3, R4, R5, R6, RC, Nat.reduceEqDiff, Nat.reduceAdd, Nat.reduceSub, Nat.reduceMul, Nat.reduceLT, Nat.reduceLeDiff, Nat.reduceBEq, reduceIte, Int.reduceEq, Int.reduceLT, Int.reduceLE, Int.reduceAdd, Int.reduceSub, Int.reduceNeg, Int.reduceMul, reduceCtorEq, Int.reduceToNat, Sl, h0]⟩
  · rintro i _ hi ⟨t, c, rfl, hs⟩
    simp only [Sl] at hs
    have := hfb i (by omega)
    have := hp i
    repeat (first | (refine Wp.seq ?_) | (refine Wp.block ?_) | (refine Wp.skip ?_) | (apply Wp.region; focus (simp (maxSteps := 1000000) (disch := first | omega | assumption | (simp only [R5, hs, math_bits_OnesCount64_ok]; first | done | omega)) only [R1, R2, R3, R4, R5, R6, RC, Nat.reduceEqDiff, Nat.reduceAdd, Nat.reduceSub, Nat.reduceMul, Nat.reduceLT, Nat.reduceLeDiff, Nat.reduceBEq, reduceIte, Int.reduceEq, Int.reduceLT, Int.reduceLE, Int.reduceAdd, Int.reduceSub, Int.reduceNeg, Int.reduceMul, reduceCtorEq, Int.reduceToNat, hs, math_bits_OnesCount64_ok]; with_reducible rfl)) | (refine Wp.condT ?_ ?_; focus (simp (maxSteps := 1000000) (disch := first | omega | assumption | (simp only [R5, hs, math_bits_OnesCount64_ok]; first | done | omega)) only [R1, R2, R3, R4, R5, R6, RC, Nat.reduceEqDiff, Nat.reduceAdd, Nat.reduceSub, Nat.reduceMul, Nat.reduceLT, Nat.reduceLeDiff, Nat.reduceBEq, reduceIte, Int.reduceEq, Int.reduceLT, Int.reduceLE, Int.reduceAdd, Int.reduceSub, Int.reduceNeg, Int.reduceMul, reduceCtorEq, Int.reduceToNat, hs, math_bits_OnesCount64_ok]; done)) | (refine Wp.condF ?_ ?_; focus (simp (maxSteps := 1000000) (disch := first | omega | assumption | (simp only [R5, hs, math_bits_OnesCount64_ok]; first | done | omega)) only [R1, R2, R3, R4, R5, R6, RC, Nat.reduceEqDiff, Nat.reduceAdd, Nat.reduceSub, Nat.reduceMul, Nat.reduceLT, Nat.reduceLeDiff, Nat.reduceBEq, reduceIte, Int.reduceEq, Int.reduceLT, Int.reduceLE, Int.reduceAdd, Int.reduceSub, Int.reduceNeg, Int.reduceMul, reduceCtorEq, Int.reduceToNat, hs, math_bits_OnesCount64_ok]; done)) | (refine Wp.exit ⟨fun _ => ?_, fun h => absurd rfl h⟩) | (refine Wp.exit ⟨fun h => absurd h (by decide), fun _ => ⟨fun _ => ?_, fun h => absurd rfl h⟩⟩))
    exact ⟨_, _, rfl, by simp (maxSteps := 1000000) (disch := first | omega | assumption | (simp only [R5, Sl, hs, hf i]; first | done | omega)) only [R1, R2, R3, R4, R5, R6, RC, Nat.reduceEqDiff, Nat.reduceAdd, Nat.reduceSub, Nat.reduceMul, Nat.reduceLT, Nat.reduceLeDiff, Nat.reduceBEq, reduceIte, Int.reduceEq, Int.reduceLT, Int.reduceLE, Int.reduceAdd, Int.reduceSub, Int.reduceNeg, Int.reduceMul, reduceCtorEq, Int.reduceToNat, Sl, hs, hf i]⟩
  · rintro _ ⟨t, c, rfl, hs⟩
    simp only [Sl, h4] at hs
    repeat (first | (refine Wp.seq ?_) | (refine Wp.block ?_) | (refine Wp.skip ?_) | (apply Wp.region; focus (simp (maxSteps := 1000000) (disch := first | omega | assumption | (simp only [R5, hs]; first | done | omega)) only [R1, R2, R3, R4, R5, R6, RC, Nat.reduceEqDiff, Nat.reduceAdd, Nat.reduceSub, Nat.reduceMul, Nat.reduceLT, Nat.reduceLeDiff, Nat.reduceBEq, reduceIte, Int.reduceEq, Int.reduceLT, Int.reduceLE, Int.reduceAdd, Int.reduceSub, Int.reduceNeg, Int.reduceMul, reduceCtorEq, Int.reduceToNat, hs]; with_reducible rfl)) | (refine Wp.condT ?_ ?_; focus (simp (maxSteps := 1000000) (disch := first | omega | assumption | (simp only [R5, hs]; first | done | omega)) only [R1, R2, R3, R4, R5, R6, RC, Nat.reduceEqDiff, Nat.reduceAdd, Nat.reduceSub, Nat.reduceMul, Nat.reduceLT, Nat.reduceLeDiff, Nat.reduceBEq, reduceIte, Int.reduceEq, Int.reduceLT, Int.reduceLE, Int.reduceAdd, Int.reduceSub, Int.reduceNeg, Int.reduceMul, reduceCtorEq, Int.reduceToNat, hs]; done)) | (refine Wp.condF ?_ ?_; focus (simp (maxSteps := 1000000) (disch := first | omega | assumption | (simp only [R5, hs]; first | done | omega)) only [R1, R2, R3, R4, R5, R6, RC, Nat.reduceEqDiff, Nat.reduceAdd, Nat.reduceSub, Nat.reduceMul, Nat.reduceLT, Nat.reduceLeDiff, Nat.reduceBEq, reduceIte, Int.reduceEq, Int.reduceLT, Int.reduceLE, Int.reduceAdd, Int.reduceSub, Int.reduceNeg, Int.reduceMul, reduceCtorEq, Int.reduceToNat, hs]; done)) | (refine Wp.exit ⟨fun _ => ?_, fun h => absurd rfl h⟩) | (refine Wp.exit ⟨fun h => absurd h (by decide), fun _ => ⟨fun _ => ?_, fun h => absurd rfl h⟩⟩))
    refine Wp.ret (ret_ok (by simp (maxSteps := 1000000) (disch := first | omega | assumption | (simp only [R5, a_class_Count, hs]; first | done | omega)) only [R1, R2, R3, R4, R5, R6, RC, Nat.reduceEqDiff, Nat.reduceAdd, Nat.reduceSub, Nat.reduceMul, Nat.reduceLT, Nat.reduceLeDiff, Nat.reduceBEq, reduceIte, Int.reduceEq, Int.reduceLT, Int.reduceLE, Int.reduceAdd, Int.reduceSub, Int.reduceNeg, Int.reduceMul, reduceCtorEq, Int.reduceToNat, a_class_Count, hs]; with_reducible rfl) ?_)
    simp (maxSteps := 1000000) (disch := first | omega | assumption | (simp only [R5]; first | done | omega)) only [R1, R2, R3, R4, R5, R6, RC, Nat.reduceEqDiff, Nat.reduceAdd, Nat.reduceSub, Nat.reduceMul, Nat.reduceLT, Nat.reduceLeDiff, Nat.reduceBEq, reduceIte, Int.reduceEq, Int.reduceLT, Int.reduceLE, Int.reduceAdd, Int.reduceSub, Int.reduceNeg, Int.reduceMul, reduceCtorEq, Int.reduceToNat]

/- The laws of sets of bytes. -/
end Go.Abs
namespace Go.Abs
open S
set_option maxRecDepth 10000

theorem winnowerlaw5_known_ok : pcL C i_winnowerlaw5_known [] = some (.bool true) := by
  have h1 := class_Of_ok [97, 98, 100] (by decide)
  have h2 := class_Ranges_ok (setOf [97, 98, 100])
  have e : rangesS (setOf [97, 98, 100]) = [(97, 98), (100, 100)] := by decide +kernel
  rw [e] at h2
  simp only [bcells, List.map_cons, List.map_nil, List.length_cons, List.length_nil, Nat.reduceAdd, prcells, rows, prc, List.flatten_cons, List.flatten_nil, List.append_nil, List.cons_append, List.nil_append] at h1 h2
  have e97 : ((97 : UInt8).toNat : Int) = 97 := rfl
  have e98 : ((98 : UInt8).toNat : Int) = 98 := rfl
  have e100 : ((100 : UInt8).toNat : Int) = 100 := rfl
  rw [e97, e98, e100] at h1 h2
  have q1 : eqVal (.arr 2 1 .int) (.agg [.int .u8 97, .int .u8 98]) (.agg [.int .u8 97, .int .u8 98]) = some true := rfl
  have q2 : eqVal (.arr 2 1 .int) (.agg [.int .u8 100, .int .u8 100]) (.agg [.int .u8 100, .int .u8 100]) = some true := rfl
  refine pcL_of rfl f_winnowerlaw5_known ?_
  repeat (first | (refine Wp.seq ?_) | (refine Wp.block ?_) | (refine Wp.skip ?_) | (apply Wp.region; focus (simp (maxSteps := 1000000) (disch := first | omega | assumption | (simp only [R5, h1, h2, q1, q2]; first | done | omega)) only [R1, R2, R3, R4, R5, R6, RC, Nat.reduceEqDiff, Nat.reduceAdd, Nat.reduceSub, Nat.reduceMul, Nat.reduceLT, Nat.reduceLeDiff, Nat.reduceBEq, reduceIte, Int.reduceEq, Int.reduceLT, Int.reduceLE, Int.reduceAdd, Int.reduceSub, Int.reduceNeg, Int.reduceMul, reduceCtorEq, Int.reduceToNat, h1, h2, q1, q2]; with_reducible rfl)) | (refine Wp.condT ?_ ?_; focus (simp (maxSteps := 1000000) (disch := first | omega | assumption | (simp only [R5, h1, h2, q1, q2]; first | done | omega)) only [R1, R2, R3, R4, R5, R6, RC, Nat.reduceEqDiff, Nat.reduceAdd, Nat.reduceSub, Nat.reduceMul, Nat.reduceLT, Nat.reduceLeDiff, Nat.reduceBEq, reduceIte, Int.reduceEq, Int.reduceLT, Int.reduceLE, Int.reduceAdd, Int.reduceSub, Int.reduceNeg, Int.reduceMul, reduceCtorEq, Int.reduceToNat, h1, h2, q1, q2]; done)) | (refine Wp.condF ?_ ?_; focus (simp (maxSteps := 1000000) (disch := first | omega | assumption | (simp only [R5, h1, h2, q1, q2]; first | done | omega)) only [R1, R2, R3, R4, R5, R6, RC, Nat.reduceEqDiff, Nat.reduceAdd, Nat.reduceSub, Nat.reduceMul, Nat.reduceLT, Nat.reduceLeDiff, Nat.reduceBEq, reduceIte, Int.reduceEq, Int.reduceLT, Int.reduceLE, Int.reduceAdd, Int.reduceSub, Int.reduceNeg, Int.reduceMul, reduceCtorEq, Int.reduceToNat, h1, h2, q1, q2]; done)) | (refine Wp.exit ⟨fun _ => ?_, fun h => absurd rfl h⟩) | (refine Wp.exit ⟨fun h => absurd h (by decide), fun _ => ⟨fun _ => ?_, fun h => absurd rfl h⟩⟩))
  refine Wp.ret (ret_ok (by simp (maxSteps := 1000000) (disch := first | omega | assumption | (simp only [R5, a_winnowerlaw5_known]; first | done | omega)) only [R1, R2, R3, R4, R5, R6, RC, Nat.reduceEqDiff, Nat.reduceAdd, Nat.reduceSub, Nat.reduceMul, Nat.reduceLT, Nat.reduceLeDiff, Nat.reduceBEq, reduceIte, Int.reduceEq, Int.reduceLT, Int.reduceLE, Int.reduceAdd, Int.reduceSub, Int.reduceNeg, Int.reduceMul, reduceCtorEq, Int.reduceToNat, a_winnowerlaw5_known]; with_reducible rfl) ?_)
  simp (maxSteps := 1000000) (disch := first | omega | assumption | (simp only [R5]; first | done | omega)) only [R1, R2, R3, R4, R5, R6, RC, Nat.reduceEqDiff, Nat.reduceAdd, Nat.reduceSub, Nat.reduceMul, Nat.reduceLT, Nat.reduceLeDiff, Nat.reduceBEq, reduceIte, Int.reduceEq, Int.reduceLT, Int.reduceLE, Int.reduceAdd, Int.reduceSub, Int.reduceNeg, Int.reduceMul, reduceCtorEq, Int.reduceToNat]

theorem joinS_bit (l : List BSet) (b : Nat) : (joinS l).getLsbD b = l.any fun s => s.getLsbD b := by
  have key : ∀ (l : List BSet) (a : BSet), (l.foldl (· ||| ·) a).getLsbD b = (a.getLsbD b || l.any fun s => s.getLsbD b) := by
    intro l
    induction l with
    | nil => intro a; simp
    | cons s l ih => intro a; rw [List.foldl_cons, ih, BitVec.getLsbD_or, List.any_cons, Bool.or_assoc]
  unfold joinS
  rw [key]
  simp
theorem meetS_bit (l : List BSet) {b : Nat} (hb : b < 256) : (meetS l).getLsbD b = l.all fun s => s.getLsbD b := by
  have key : ∀ (l : List BSet) (a : BSet), (l.foldl (· &&& ·) a).getLsbD b = (a.getLsbD b && l.all fun s => s.getLsbD b) := by
    intro l
    induction l with
    | nil => intro a; simp
    | cons s l ih => intro a; rw [List.foldl_cons, ih, BitVec.getLsbD_and, List.all_cons, Bool.and_assoc]
  unfold meetS
  rw [key, BitVec.getLsbD_not]
  simp [hb]

set_option maxHeartbeats 4000000 in
theorem winnowerlaw5_ClassJoins_ok (l : List BSet) (b : Nat) (hb : b < 256) : pcL C i_winnowerlaw5_ClassJoins [.ps (setcells l) l.length none, .int .u8 b] = some (.bool true) := by
  refine pcL_of rfl f_winnowerlaw5_ClassJoins ?_
  by_cases hl : l.length ≤ 50
  · repeat (first | (refine Wp.seq ?_) | (refine Wp.block ?_) | (refine Wp.skip ?_) | (apply Wp.region; focus (simp (maxSteps := 1000000) (disch := first | omega | assumption | (simp only [R5]; first | done | omega)) only [R1, R2, R3, R4, R5, R6, RC, Nat.reduceEqDiff, Nat.reduceAdd, Nat.reduceSub, Nat.reduceMul, Nat.reduceLT, Nat.reduceLeDiff, Nat.reduceBEq, reduceIte, Int.reduceEq, Int.reduceLT, Int.reduceLE, Int.reduceAdd, Int.reduceSub, Int.reduceNeg, Int.reduceMul, reduceCtorEq, Int.reduceToNat]; with_reducible rfl)) | (refine Wp.condT ?_ ?_; focus (simp (maxSteps := 1000000) (disch := first | omega | assumption | (simp only [R5]; first | done | omega)) only [R1, R2, R3, R4, R5, R6, RC, Nat.reduceEqDiff, Nat.reduceAdd, Nat.reduceSub, Nat.reduceMul, Nat.reduceLT, Nat.reduceLeDiff, Nat.reduceBEq, reduceIte, Int.reduceEq, Int.reduceLT, Int.reduceLE, Int.reduceAdd, Int.reduceSub, Int.reduceNeg, Int.reduceMul, reduceCtorEq, Int.reduceToNat]; done)) | (refine Wp.condF ?_ ?_; focus (simp (maxSteps := 1000000) (disch := first | omega | assumption | (simp only [R5]; first | done | omega)) only [R1, R2, R3, R4, R5, R6, RC, Nat.reduceEqDiff, Nat.reduceAdd, Nat.reduceSub, Nat.reduceMul, Nat.reduceLT, Nat.reduceLeDiff, Nat.reduceBEq, reduceIte, Int.reduceEq, Int.reduceLT, Int.reduceLE, Int.reduceAdd, Int.reduceSub, Int.reduceNeg, Int.reduceMul, reduceCtorEq, Int.reduceToNat]; done)) | (refine Wp.exit ⟨fun _ => ?_, fun h => absurd rfl h⟩) | (refine Wp.exit ⟨fun h => absurd h (by decide), fun _ => ⟨fun _ => ?_, fun h => absurd rfl h⟩⟩))
    refine Wp.count l.length (fun i s => ∃ t c, s = ⟨t, [], c⟩ ∧ Sl t [(0, .ps (setcells l) l.length none), (1, .int .u8 b), (7, .int .i64 i), (5, .bool ((l.take i).any fun s => s.getLsbD b)), (6, .bool ((l.take i).all fun s => s.getLsbD b))]) ?_ ?_ ?_
    · exact ⟨_, _, rfl, by simp (maxSteps := 1000000) (disch := first | omega | assumption | (simp only [R5, Sl, List.any_nil, List.all_nil]; first | done | omega)) only [R1, R2, R3, R4, R5, R6, RC, Nat.reduceEqDiff, Nat.reduceAdd, Nat.reduceSub, Nat.reduceMul, Nat.reduceLT, Nat.reduceLeDiff, Nat.reduceBEq, reduceIte, Int.reduceEq, Int.reduceLT, Int.reduceLE, Int.reduceAdd, Int.reduceSub, Int.reduceNeg, Int.reduceMul, reduceCtorEq, Int.reduceToNat, Sl, List.any_nil, List.all_nil]⟩
    · rintro i _ hi ⟨t, c, rfl, hs⟩
      have h1 : (l.take (i + 1)).any (fun s => s.getLsbD b) = ((l.take i).any (fun s => s.getLsbD b) || (l[i]).getLsbD b) := by
        rw [List.take_add_one, List.getElem?_eq_getElem hi, List.any_append]; simp only [Option.toList_some, List.any_cons, List.any_nil, Bool.or_false]
      have h2 : (l.take (i + 1)).all (fun s => s.getLsbD b) = ((l.take i).all (fun s => s.getLsbD b) && (l[i]).getLsbD b) := by
        rw [List.take_add_one, List.getElem?_eq_getElem hi, List.all_append]; simp only [Option.toList_some, List.all_cons, List.all_nil, Bool.and_true]
      rw [h1, h2]
      have h3 : (~~~l[i]).getLsbD b = !(l[i]).getLsbD b := by rw [BitVec.getLsbD_not]; simp [hb]
      simp only [Sl] at hs
      generalize (l.take i).any (fun s => s.getLsbD b) = x at *
      generalize (l.take i).all (fun s => s.getLsbD b) = y at *
      cases hz : (l[i]).getLsbD b <;> rw [hz] at h3 <;> cases x <;> cases y
      all_goals
        repeat (first | (refine Wp.seq ?_) | (refine Wp.block ?_) | (refine Wp.skip ?_) | (apply Wp.region; focus (simp (maxSteps := 1000000) (disch := first | omega | assumption | (simp only [R5, hs, winnowerref5_Has_ok, class_Not_ok, class_Has_ok, h3, hz]; first | done | omega)) only [R1, R2, R3, R4, R5, R6, RC, Nat.reduceEqDiff, Nat.reduceAdd, Nat.reduceSub, Nat.reduceMul, Nat.reduceLT, Nat.reduceLeDiff, Nat.reduceBEq, reduceIte, Int.reduceEq, Int.reduceLT, Int.reduceLE, Int.reduceAdd, Int.reduceSub, Int.reduceNeg, Int.reduceMul, reduceCtorEq, Int.reduceToNat, hs, winnowerref5_Has_ok, class_Not_ok, class_Has_ok, h3, hz]; with_reducible rfl)) | (refine Wp.condT ?_ ?_; focus (simp (maxSteps := 1000000) (disch := first | omega | assumption | (simp only [R5, hs, winnowerref5_Has_ok, class_Not_ok, class_Has_ok, h3, hz]; first | done | omega)) only [R1, R2, R3, R4, R5, R6, RC, Nat.reduceEqDiff, Nat.reduceAdd, Nat.reduceSub, Nat.reduceMul, Nat.reduceLT, Nat.reduceLeDiff, Nat.reduceBEq, reduceIte, Int.reduceEq, Int.reduceLT, Int.reduceLE, Int.reduceAdd, Int.reduceSub, Int.reduceNeg, Int.reduceMul, reduceCtorEq, Int.reduceToNat, hs, winnowerref5_Has_ok, class_Not_ok, class_Has_ok, h3, hz]; done)) | (refine Wp.condF ?_ ?_; focus (simp (maxSteps := 1000000) (disch := first | omega | assumption | (simp only [R5, hs, winnowerref5_Has_ok, class_Not_ok, class_Has_ok, h3, hz]; first | done | omega)) only [R1, R2, R3, R4, R5, R6, RC, Nat.reduceEqDiff, Nat.reduceAdd, Nat.reduceSub, Nat.reduceMul, Nat.reduceLT, Nat.reduceLeDiff, Nat.reduceBEq, reduceIte, Int.reduceEq, Int.reduceLT, Int.reduceLE, Int.reduceAdd, Int.reduceSub, Int.reduceNeg, Int.reduceMul, reduceCtorEq, Int.reduceToNat, hs, winnowerref5_Has_ok, class_Not_ok, class_Has_ok, h3, hz]; done)) | (refine Wp.exit ⟨fun _ => ?_, fun h => absurd rfl h⟩) | (refine Wp.exit ⟨fun h => absurd h (by decide), fun _ => ⟨fun _ => ?_, fun h => absurd rfl h⟩⟩))
        exact ⟨_, _, rfl, by simp (maxSteps := 1000000) (disch := first | omega | assumption | (simp only [R5, Sl, hs]; first | done | omega)) only [R1, R2, R3, R4, R5, R6, RC, Nat.reduceEqDiff, Nat.reduceAdd, Nat.reduceSub, Nat.reduceMul, Nat.reduceLT, Nat.reduceLeDiff, Nat.reduceBEq, reduceIte, Int.reduceEq, Int.reduceLT, Int.reduceLE, Int.reduceAdd, Int.reduceSub, Int.reduceNeg, Int.reduceMul, reduceCtorEq, Int.reduceToNat, Sl, hs]⟩
    · rintro _ ⟨t, c, rfl, hs⟩
      simp only [Sl, List.take_length, ← joinS_bit, ← meetS_bit l hb] at hs
      repeat (first | (refine Wp.seq ?_) | (refine Wp.block ?_) | (refine Wp.skip ?_) | (apply Wp.region; focus (simp (maxSteps := 1000000) (disch := first | omega | assumption | (simp only [R5, hs, class_Join_ok, winnowerref5_Join_ok, class_Meet_ok, winnowerref5_Meet_ok, class_Has_ok, winnowerlaw5_known_ok]; first | done | omega)) only [R1, R2, R3, R4, R5, R6, RC, Nat.reduceEqDiff, Nat.reduceAdd, Nat.reduceSub, Nat.reduceMul, Nat.reduceLT, Nat.reduceLeDiff, Nat.reduceBEq, reduceIte, Int.reduceEq, Int.reduceLT, Int.reduceLE, Int.reduceAdd, Int.reduceSub, Int.reduceNeg, Int.reduceMul, reduceCtorEq, Int.reduceToNat, hs, class_Join_ok, winnowerref5_Join_ok, class_Meet_ok, winnowerref5_Meet_ok, class_Has_ok, winnowerlaw5_known_ok]; with_reducible rfl)) | (refine Wp.condT ?_ ?_; focus (simp (maxSteps := 1000000) (disch := first | omega | assumption | (simp only [R5, hs, class_Join_ok, winnowerref5_Join_ok, class_Meet_ok, winnowerref5_Meet_ok, class_Has_ok, winnowerlaw5_known_ok]; first | done | omega)) only [R1, R2, R3, R4, R5, R6, RC, Nat.reduceEqDiff, Nat.reduceAdd, Nat.reduceSub, Nat.reduceMul, Nat.reduceLT, Nat.reduceLeDiff, Nat.reduceBEq, reduceIte, Int.reduceEq, Int.reduceLT, Int.reduceLE, Int.reduceAdd, Int.reduceSub, Int.reduceNeg, Int.reduceMul, reduceCtorEq, Int.reduceToNat, hs, class_Join_ok, winnowerref5_Join_ok, class_Meet_ok, winnowerref5_Meet_ok, class_Has_ok, winnowerlaw5_known_ok]; done)) | (refine Wp.condF ?_ ?_; focus (simp (maxSteps := 1000000) (disch := first | omega | assumption | (simp only [R5, hs, class_Join_ok, winnowerref5_Join_ok, class_Meet_ok, winnowerref5_Meet_ok, class_Has_ok, winnowerlaw5_known_ok]; first | done | omega)) only [R1, R2, R3, R4, R5, R6, RC, Nat.reduceEqDiff, Nat.reduceAdd, Nat.reduceSub, Nat.reduceMul, Nat.reduceLT, Nat.reduceLeDiff, Nat.reduceBEq, reduceIte, Int.reduceEq, Int.reduceLT, Int.reduceLE, Int.reduceAdd, Int.reduceSub, Int.reduceNeg, Int.reduceMul, reduceCtorEq, Int.reduceToNat, hs, class_Join_ok, winnowerref5_Join_ok, class_Meet_ok, winnowerref5_Meet_ok, class_Has_ok, winnowerlaw5_known_ok]; done)) | (refine Wp.exit ⟨fun _ => ?_, fun h => absurd rfl h⟩) | (refine Wp.exit ⟨fun h => absurd h (by decide), fun _ => ⟨fun _ => ?_, fun h => absurd rfl h⟩⟩))
      refine Wp.ret (ret_ok (by simp (maxSteps := 1000000) (disch := first | omega | assumption | (simp only [R5, a_winnowerlaw5_ClassJoins]; first | done | omega)) only [R1, R2, R3, R4, R5, R6, RC, Nat.reduceEqDiff, Nat.reduceAdd, Nat.reduceSub, Nat.reduceMul, Nat.reduceLT, Nat.reduceLeDiff, Nat.reduceBEq, reduceIte, Int.reduceEq, Int.reduceLT, Int.reduceLE, Int.reduceAdd, Int.reduceSub, Int.reduceNeg, Int.reduceMul, reduceCtorEq, Int.reduceToNat, a_winnowerlaw5_ClassJoins]; with_reducible rfl) ?_)
      simp (maxSteps := 1000000) (disch := first | omega | assumption | (simp only [R5]; first | done | omega)) only [R1, R2, R3, R4, R5, R6, RC, Nat.reduceEqDiff, Nat.reduceAdd, Nat.reduceSub, Nat.reduceMul, Nat.reduceLT, Nat.reduceLeDiff, Nat.reduceBEq, reduceIte, Int.reduceEq, Int.reduceLT, Int.reduceLE, Int.reduceAdd, Int.reduceSub, Int.reduceNeg, Int.reduceMul, reduceCtorEq, Int.reduceToNat]
  · repeat (first | (refine Wp.seq ?_) | (refine Wp.block ?_) | (refine Wp.skip ?_) | (apply Wp.region; focus (simp (maxSteps := 1000000) (disch := first | omega | assumption | (simp only [R5]; first | done | omega)) only [R1, R2, R3, R4, R5, R6, RC, Nat.reduceEqDiff, Nat.reduceAdd, Nat.reduceSub, Nat.reduceMul, Nat.reduceLT, Nat.reduceLeDiff, Nat.reduceBEq, reduceIte, Int.reduceEq, Int.reduceLT, Int.reduceLE, Int.reduceAdd, Int.reduceSub, Int.reduceNeg, Int.reduceMul, reduceCtorEq, Int.reduceToNat]; with_reducible rfl)) | (refine Wp.condT ?_ ?_; focus (simp (maxSteps := 1000000) (disch := first | omega | assumption | (simp only [R5]; first | done | omega)) only [R1, R2, R3, R4, R5, R6, RC, Nat.reduceEqDiff, Nat.reduceAdd, Nat.reduceSub, Nat.reduceMul, Nat.reduceLT, Nat.reduceLeDiff, Nat.reduceBEq, reduceIte, Int.reduceEq, Int.reduceLT, Int.reduceLE, Int.reduceAdd, Int.reduceSub, Int.reduceNeg, Int.reduceMul, reduceCtorEq, Int.reduceToNat]; done)) | (refine Wp.condF ?_ ?_; focus (simp (maxSteps := 1000000) (disch := first | omega | assumption | (simp only [R5]; first | done | omega)) only [R1, R2, R3, R4, R5, R6, RC, Nat.reduceEqDiff, Nat.reduceAdd, Nat.reduceSub, Nat.reduceMul, Nat.reduceLT, Nat.reduceLeDiff, Nat.reduceBEq, reduceIte, Int.reduceEq, Int.reduceLT, Int.reduceLE, Int.reduceAdd, Int.reduceSub, Int.reduceNeg, Int.reduceMul, reduceCtorEq, Int.reduceToNat]; done)) | (refine Wp.exit ⟨fun _ => ?_, fun h => absurd rfl h⟩) | (refine Wp.exit ⟨fun h => absurd h (by decide), fun _ => ⟨fun _ => ?_, fun h => absurd rfl h⟩⟩))
    refine Wp.ret (ret_ok (by simp (maxSteps := 1000000) (disch := first | omega | assumption | (simp only [R5, a_winnowerlaw5_ClassJoins]; first | done | omega)) only [R1, R2, R3, R4, R5, R6, RC, Nat.reduceEqDiff, Nat.reduceAdd, Nat.reduceSub, Nat.reduceMul, Nat.reduceLT, Nat.reduceLeDiff, Nat.reduceBEq, reduceIte, Int.reduceEq, Int.reduceLT, Int.reduceLE, Int.reduceAdd, Int.reduceSub, Int.reduceNeg, Int.reduceMul, reduceCtorEq, Int.reduceToNat, a_winnowerlaw5_ClassJoins]; with_reducible rfl) ?_)
    simp (maxSteps := 1000000) (disch := first | omega | assumption | (simp only [R5]; first | done | omega)) only [R1, R2, R3, R4, R5, R6, RC, Nat.reduceEqDiff, Nat.reduceAdd, Nat.reduceSub, Nat.reduceMul, Nat.reduceLT, Nat.reduceLeDiff, Nat.reduceBEq, reduceIte, Int.reduceEq, Int.reduceLT, Int.reduceLE, Int.reduceAdd, Int.reduceSub, Int.reduceNeg, Int.reduceMul, reduceCtorEq, Int.reduceToNat]

/- The laws of sets of bytes, go on. -/
end Go.Abs
namespace Go.Abs
open S
set_option maxRecDepth 10000

theorem bytesIn_b : ∀ l : List UInt8, bytesIn (bcells l) = some l
  | [] => rfl
  | b :: l => by
    rw [bcells_cons]
    simp only [bytesIn, bytesIn_b l, Option.map_some, Int.toNat_natCast, UInt8.ofNat_toNat]
theorem v_strOf (ts : List AV) (h : AHeap) (l : List UInt8) (c : Option Nat) : V_strOf ts h (.ps (bcells l) l.length c) = some (.str l, ts, h) := by
  simp [V_strOf, bcells_len, bytesIn_b]
theorem eq_prc (p q : UInt8 × UInt8) : eqVal (.arr 2 1 .int) (.agg (prc p)) (.agg (prc q)) = some (decide (p = q)) := by
  obtain ⟨a, b⟩ := p
  obtain ⟨c, d⟩ := q
  have hn : ∀ x y : UInt8, (((x.toNat : Int) == (y.toNat : Int)) = decide (x = y)) := fun x y => by
    by_cases h : x = y
    · simp [h]
    · have : ¬ ((x.toNat : Int) = y.toNat) := fun he => h (UInt8.toNat_inj.1 (by omega))
      simp [h, this]
  simp only [prc, eqVal, shAgg, if_true, eqCells, eqArr, List.length_cons, List.length_nil, List.take_succ_cons, List.take_zero, List.drop_succ_cons, List.drop_zero, hn]
  by_cases h1 : a = c <;> by_cases h2 : b = d <;> simp [h1, h2]

set_option maxHeartbeats 4000000 in
theorem winnowerlaw5_ClassTells_ok (l : List UInt8) (s : BSet) (lo hi : Nat) (h1 : lo < 256) (h2 : hi < 256) : pcL C i_winnowerlaw5_ClassTells [.ps (bcells l) l.length none, .agg (scells s), .int .u8 lo, .int .u8 hi] = some (.bool true) := by
  refine pcL_of rfl f_winnowerlaw5_ClassTells ?_
  have hL : (listS s).length ≤ 256 := listN_len s 256
  have hR : (rangesS s).length ≤ 256 := by
    have := rangesOf_len (listS s) (listS s).length (Nat.le_refl _)
    rw [List.take_length] at this
    unfold rangesS; omega
  by_cases hl : l.length ≤ 500
  · repeat (first | (refine Wp.seq ?_) | (refine Wp.block ?_) | (refine Wp.skip ?_) | (apply Wp.region; focus (simp (maxSteps := 1000000) (disch := first | omega | assumption | (simp only [R5, class_List_ok, winnowerref5_List_ok, class_Ranges_ok, winnowerref5_Ranges_ok, class_Count_ok, v_strOf, prcells_norm, countS_list]; first | done | omega)) only [R1, R2, R3, R4, R5, R6, RC, Nat.reduceEqDiff, Nat.reduceAdd, Nat.reduceSub, Nat.reduceMul, Nat.reduceLT, Nat.reduceLeDiff, Nat.reduceBEq, reduceIte, Int.reduceEq, Int.reduceLT, Int.reduceLE, Int.reduceAdd, Int.reduceSub, Int.reduceNeg, Int.reduceMul, reduceCtorEq, Int.reduceToNat, class_List_ok, winnowerref5_List_ok, class_Ranges_ok, winnowerref5_Ranges_ok, class_Count_ok, v_strOf, prcells_norm, countS_list]; with_reducible rfl)) | (refine Wp.condT ?_ ?_; focus (simp (maxSteps := 1000000) (disch := first | omega | assumption | (simp only [R5, class_List_ok, winnowerref5_List_ok, class_Ranges_ok, winnowerref5_Ranges_ok, class_Count_ok, v_strOf, prcells_norm, countS_list]; first | done | omega)) only [R1, R2, R3, R4, R5, R6, RC, Nat.reduceEqDiff, Nat.reduceAdd, Nat.reduceSub, Nat.reduceMul, Nat.reduceLT, Nat.reduceLeDiff, Nat.reduceBEq, reduceIte, Int.reduceEq, Int.reduceLT, Int.reduceLE, Int.reduceAdd, Int.reduceSub, Int.reduceNeg, Int.reduceMul, reduceCtorEq, Int.reduceToNat, class_List_ok, winnowerref5_List_ok, class_Ranges_ok, winnowerref5_Ranges_ok, class_Count_ok, v_strOf, prcells_norm, countS_list]; done)) | (refine Wp.condF ?_ ?_; focus (simp (maxSteps := 1000000) (disch := first | omega | assumption | (simp only [R5, class_List_ok, winnowerref5_List_ok, class_Ranges_ok, winnowerref5_Ranges_ok, class_Count_ok, v_strOf, prcells_norm, countS_list]; first | done | omega)) only [R1, R2, R3, R4, R5, R6, RC, Nat.reduceEqDiff, Nat.reduceAdd, Nat.reduceSub, Nat.reduceMul, Nat.reduceLT, Nat.reduceLeDiff, Nat.reduceBEq, reduceIte, Int.reduceEq, Int.reduceLT, Int.reduceLE, Int.reduceAdd, Int.reduceSub, Int.reduceNeg, Int.reduceMul, reduceCtorEq, Int.reduceToNat, class_List_ok, winnowerref5_List_ok, class_Ranges_ok, winnowerref5_Ranges_ok, class_Count_ok, v_strOf, prcells_norm, countS_list]; done)) | (refine Wp.exit ⟨fun _ => ?_, fun h => absurd rfl h⟩) | (refine Wp.exit ⟨fun h => absurd h (by decide), fun _ => ⟨fun _ => ?_, fun h => absurd rfl h⟩⟩))
    refine Wp.count (rangesS s).length (fun i st => ∃ t c, st = ⟨t, [], c⟩ ∧ Sl t [(0, .ps (bcells l) l.length none), (2, .int .u8 lo), (3, .int .u8 hi), (5, .reg 0 (scells s)), (11, .ps (prcells (rangesS s)) (rangesS s).length none), (12, .ps (prcells (rangesS s)) (rangesS s).length none), (13, .int .i64 i)]) ?_ ?_ ?_
    · exact ⟨_, _, rfl, by simp (maxSteps := 1000000) (disch := first | omega | assumption | (simp only [R5, Sl]; first | done | omega)) only [R1, R2, R3, R4, R5, R6, RC, Nat.reduceEqDiff, Nat.reduceAdd, Nat.reduceSub, Nat.reduceMul, Nat.reduceLT, Nat.reduceLeDiff, Nat.reduceBEq, reduceIte, Int.reduceEq, Int.reduceLT, Int.reduceLE, Int.reduceAdd, Int.reduceSub, Int.reduceNeg, Int.reduceMul, reduceCtorEq, Int.reduceToNat, Sl]⟩
    · rintro i _ hi ⟨t, c, rfl, hs⟩
      simp only [Sl] at hs
      repeat (first | (refine Wp.seq ?_) | (refine Wp.block ?_) | (refine Wp.skip ?_) | (apply Wp.region; focus (simp (maxSteps := 1000000) (disch := first | omega | assumption | (simp only [R5, hs, prcells_len, prcells_at, eq_prc]; first | done | omega)) only [R1, R2, R3, R4, R5, R6, RC, Nat.reduceEqDiff, Nat.reduceAdd, Nat.reduceSub, Nat.reduceMul, Nat.reduceLT, Nat.reduceLeDiff, Nat.reduceBEq, reduceIte, Int.reduceEq, Int.reduceLT, Int.reduceLE, Int.reduceAdd, Int.reduceSub, Int.reduceNeg, Int.reduceMul, reduceCtorEq, Int.reduceToNat, hs, prcells_len, prcells_at, eq_prc]; with_reducible rfl)) | (refine Wp.condT ?_ ?_; focus (simp (maxSteps := 1000000) (disch := first | omega | assumption | (simp only [R5, hs, prcells_len, prcells_at, eq_prc]; first | done | omega)) only [R1, R2, R3, R4, R5, R6, RC, Nat.reduceEqDiff, Nat.reduceAdd, Nat.reduceSub, Nat.reduceMul, Nat.reduceLT, Nat.reduceLeDiff, Nat.reduceBEq, reduceIte, Int.reduceEq, Int.reduceLT, Int.reduceLE, Int.reduceAdd, Int.reduceSub, Int.reduceNeg, Int.reduceMul, reduceCtorEq, Int.reduceToNat, hs, prcells_len, prcells_at, eq_prc]; done)) | (refine Wp.condF ?_ ?_; focus (simp (maxSteps := 1000000) (disch := first | omega | assumption | (simp only [R5, hs, prcells_len, prcells_at, eq_prc]; first | done | omega)) only [R1, R2, R3, R4, R5, R6, RC, Nat.reduceEqDiff, Nat.reduceAdd, Nat.reduceSub, Nat.reduceMul, Nat.reduceLT, Nat.reduceLeDiff, Nat.reduceBEq, reduceIte, Int.reduceEq, Int.reduceLT, Int.reduceLE, Int.reduceAdd, Int.reduceSub, Int.reduceNeg, Int.reduceMul, reduceCtorEq, Int.reduceToNat, hs, prcells_len, prcells_at, eq_prc]; done)) | (refine Wp.exit ⟨fun _ => ?_, fun h => absurd rfl h⟩) | (refine Wp.exit ⟨fun h => absurd h (by decide), fun _ => ⟨fun _ => ?_, fun h => absurd rfl h⟩⟩))
      exact ⟨_, _, rfl, by simp (maxSteps := 1000000) (disch := first | omega | assumption | (simp only [R5, Sl, hs]; first | done | omega)) only [R1, R2, R3, R4, R5, R6, RC, Nat.reduceEqDiff, Nat.reduceAdd, Nat.reduceSub, Nat.reduceMul, Nat.reduceLT, Nat.reduceLeDiff, Nat.reduceBEq, reduceIte, Int.reduceEq, Int.reduceLT, Int.reduceLE, Int.reduceAdd, Int.reduceSub, Int.reduceNeg, Int.reduceMul, reduceCtorEq, Int.reduceToNat, Sl, hs]⟩
    · rintro _ ⟨t, c, rfl, hs⟩
      simp only [Sl] at hs
      repeat (first | (refine Wp.seq ?_) | (refine Wp.block ?_) | (refine Wp.skip ?_) | (apply Wp.region; focus (simp (maxSteps := 1000000) (disch := first | omega | assumption | (simp only [R5, hs, class_Of_ok, winnowerref5_Of_ok, class_Range_ok, winnowerref5_Range_ok, class_Has_ok, winnowerref5_Has_ok, winnowerlaw5_known_ok]; first | done | omega)) only [R1, R2, R3, R4, R5, R6, RC, Nat.reduceEqDiff, Nat.reduceAdd, Nat.reduceSub, Nat.reduceMul, Nat.reduceLT, Nat.reduceLeDiff, Nat.reduceBEq, reduceIte, Int.reduceEq, Int.reduceLT, Int.reduceLE, Int.reduceAdd, Int.reduceSub, Int.reduceNeg, Int.reduceMul, reduceCtorEq, Int.reduceToNat, hs, class_Of_ok, winnowerref5_Of_ok, class_Range_ok, winnowerref5_Range_ok, class_Has_ok, winnowerref5_Has_ok, winnowerlaw5_known_ok]; with_reducible rfl)) | (refine Wp.condT ?_ ?_; focus (simp (maxSteps := 1000000) (disch := first | omega | assumption | (simp only [R5, hs, class_Of_ok, winnowerref5_Of_ok, class_Range_ok, winnowerref5_Range_ok, class_Has_ok, winnowerref5_Has_ok, winnowerlaw5_known_ok]; first | done | omega)) only [R1, R2, R3, R4, R5, R6, RC, Nat.reduceEqDiff, Nat.reduceAdd, Nat.reduceSub, Nat.reduceMul, Nat.reduceLT, Nat.reduceLeDiff, Nat.reduceBEq, reduceIte, Int.reduceEq, Int.reduceLT, Int.reduceLE, Int.reduceAdd, Int.reduceSub, Int.reduceNeg, Int.reduceMul, reduceCtorEq, Int.reduceToNat, hs, class_Of_ok, winnowerref5_Of_ok, class_Range_ok, winnowerref5_Range_ok, class_Has_ok, winnowerref5_Has_ok, winnowerlaw5_known_ok]; done)) | (refine Wp.condF ?_ ?_; focus (simp (maxSteps := 1000000) (disch := first | omega | assumption | (simp only [R5, hs, class_Of_ok, winnowerref5_Of_ok, class_Range_ok, winnowerref5_Range_ok, class_Has_ok, winnowerref5_Has_ok, winnowerlaw5_known_ok]; first | done | omega)) only [R1, R2, R3, R4, R5, R6, RC, Nat.reduceEqDiff, Nat.reduceAdd, Nat.reduceSub, Nat.reduceMul, Nat.reduceLT, Nat.reduceLeDiff, Nat.reduceBEq, reduceIte, Int.reduceEq, Int.reduceLT, Int.reduceLE, Int.reduceAdd, Int.reduceSub, Int.reduceNeg, Int.reduceMul, reduceCtorEq, Int.reduceToNat, hs, class_Of_ok, winnowerref5_Of_ok, class_Range_ok, winnowerref5_Range_ok, class_Has_ok, winnowerref5_Has_ok, winnowerlaw5_known_ok]; done)) | (refine Wp.exit ⟨fun _ => ?_, fun h => absurd rfl h⟩) | (refine Wp.exit ⟨fun h => absurd h (by decide), fun _ => ⟨fun _ => ?_, fun h => absurd rfl h⟩⟩))
      refine Wp.ret (ret_ok (by simp (maxSteps := 1000000) (disch := first | omega | assumption | (simp only [R5, a_winnowerlaw5_ClassTells]; first | done | omega)) only [R1, R2, R3, R4, R5, R6, RC, Nat.reduceEqDiff, Nat.reduceAdd, Nat.reduceSub, Nat.reduceMul, Nat.reduceLT, Nat.reduceLeDiff, Nat.reduceBEq, reduceIte, Int.reduceEq, Int.reduceLT, Int.reduceLE, Int.reduceAdd, Int.reduceSub, Int.reduceNeg, Int.reduceMul, reduceCtorEq, Int.reduceToNat, a_winnowerlaw5_ClassTells]; with_reducible rfl) ?_)
      simp (maxSteps := 1000000) (disch := first | omega | assumption | (simp only [R5]; first | done | omega)) only [R1, R2, R3, R4, R5, R6, RC, Nat.reduceEqDiff, Nat.reduceAdd, Nat.reduceSub, Nat.reduceMul, Nat.reduceLT, Nat.reduceLeDiff, Nat.reduceBEq, reduceIte, Int.reduceEq, Int.reduceLT, Int.reduceLE, Int.reduceAdd, Int.reduceSub, Int.reduceNeg, Int.reduceMul, reduceCtorEq, Int.reduceToNat]
  · repeat (first | (refine Wp.seq ?_) | (refine Wp.block ?_) | (refine Wp.skip ?_) | (apply Wp.region; focus (simp (maxSteps := 1000000) (disch := first | omega | assumption | (simp only [R5]; first | done | omega)) only [R1, R2, R3, R4, R5, R6, RC, Nat.reduceEqDiff, Nat.reduceAdd, Nat.reduceSub, Nat.reduceMul, Nat.reduceLT, Nat.reduceLeDiff, Nat.reduceBEq, reduceIte, Int.reduceEq, Int.reduceLT, Int.reduceLE, Int.reduceAdd, Int.reduceSub, Int.reduceNeg, Int.reduceMul, reduceCtorEq, Int.reduceToNat]; with_reducible rfl)) | (refine Wp.condT ?_ ?_; focus (simp (maxSteps := 1000000) (disch := first | omega | assumption | (simp only [R5]; first | done | omega)) only [R1, R2, R3, R4, R5, R6, RC, Nat.reduceEqDiff, Nat.reduceAdd, Nat.reduceSub, Nat.reduceMul, Nat.reduceLT, Nat.reduceLeDiff, Nat.reduceBEq, reduceIte, Int.reduceEq, Int.reduceLT, Int.reduceLE, Int.reduceAdd, Int.reduceSub, Int.reduceNeg, Int.reduceMul, reduceCtorEq, Int.reduceToNat]; done)) | (refine Wp.condF ?_ ?_; focus (simp (maxSteps := 1000000) (disch := first | omega | assumption | (simp only [R5]; first | done | omega)) only [R1, R2, R3, R4, R5, R6, RC, Nat.reduceEqDiff, Nat.reduceAdd, Nat.reduceSub, Nat.reduceMul, Nat.reduceLT, Nat.reduceLeDiff, Nat.reduceBEq, reduceIte, Int.reduceEq, Int.reduceLT, Int.reduceLE, Int.reduceAdd, Int.reduceSub, Int.reduceNeg, Int.reduceMul, reduceCtorEq, Int.reduceToNat]; done)) | (refine Wp.exit ⟨fun _ => ?_, fun h => absurd rfl h⟩) | (refine Wp.exit ⟨fun h => absurd h (by decide), fun _ => ⟨fun _ => ?_, fun h => absurd rfl h⟩⟩))
    refine Wp.ret (ret_ok (by simp (maxSteps := 1000000) (disch := first | omega | assumption | (simp only [R5, a_winnowerlaw5_ClassTells]; first | done | omega)) only [R1, R2, R3, R4, R5, R6, RC, Nat.reduceEqDiff, Nat.reduceAdd, Nat.reduceSub, Nat.reduceMul, Nat.reduceLT, Nat.reduceLeDiff, Nat.reduceBEq, reduceIte, Int.reduceEq, Int.reduceLT, Int.reduceLE, Int.reduceAdd, Int.reduceSub, Int.reduceNeg, Int.reduceMul, reduceCtorEq, Int.reduceToNat, a_winnowerlaw5_ClassTells]; with_reducible rfl) ?_)
    simp (maxSteps := 1000000) (disch := first | omega | assumption | (simp only [R5]; first | done | omega)) only [R1, R2, R3, R4, R5, R6, RC, Nat.reduceEqDiff, Nat.reduceAdd, Nat.reduceSub, Nat.reduceMul, Nat.reduceLT, Nat.reduceLeDiff, Nat.reduceBEq, reduceIte, Int.reduceEq, Int.reduceLT, Int.reduceLE, Int.reduceAdd, Int.reduceSub, Int.reduceNeg, Int.reduceMul, reduceCtorEq, Int.reduceToNat]

/- The laws of sets of bytes: the last. -/
end Go.Abs
namespace Go.Abs
open S
set_option maxRecDepth 10000

theorem setOfN_bit (b : Nat) (hb : b < 256) : ∀ l : List Nat, (setOfN l).getLsbD b = l.contains b := by
  have key : ∀ (l : List Nat) (a : BSet), (l.foldl (fun s b => s ||| 1#256 <<< b) a).getLsbD b = (a.getLsbD b || l.contains b) := by
    intro l
    induction l with
    | nil => intro a; simp
    | cons x l ih =>
      intro a
      rw [List.foldl_cons, ih, BitVec.getLsbD_or, BitVec.getLsbD_shiftLeft, BitVec.getLsbD_one, List.contains_cons, Bool.or_assoc]
      congr 1
      congr 1
      by_cases h : b = x
      · subst h; simp [hb]
      · have : ¬ (b - x = 0 ∧ x ≤ b) := by omega
        have h2 : (b == x) = false := by simpa using h
        rw [h2]
        simp only [hb, decide_true, Bool.true_and]
        by_cases h3 : b < x
        · simp [h3]
        · have : ¬ (b - x = 0) := by omega
          simp [h3, this]
  intro l
  unfold setOfN
  rw [key]
  simp
theorem BSet.ext {a b : BSet} (h : ∀ i, i < 256 → a.getLsbD i = b.getLsbD i) : a = b := BitVec.eq_of_getLsbD_eq fun i hi => h i hi
theorem mem_listS (a : BSet) (b : Nat) (hb : b < 256) : ((listS a).map UInt8.toNat).contains b = a.getLsbD b := by
  have e : (listS a).map UInt8.toNat = (List.range 256).filter fun b => a.getLsbD b := by
    unfold listS listN
    rw [List.map_map]
    refine (List.map_congr_left fun x hx => ?_).trans (List.map_id _)
    have := List.mem_range.1 (List.mem_filter.1 hx).1
    simp only [Function.comp, id]
    exact UInt8.toNat_ofNat_of_lt' (show x < 256 from this)
  rw [e]
  cases h : a.getLsbD b with
  | true => simp [hb, h]
  | false => simp [h]
theorem setOf_listS (a : BSet) : setOf (listS a) = a := BSet.ext fun b hb => by
  unfold setOf
  rw [setOfN_bit b hb, mem_listS a b hb]

def cov (acc : List (UInt8 × UInt8)) (b : Nat) : Bool := acc.any fun p => decide (p.1.toNat ≤ b ∧ b ≤ p.2.toNat)
theorem rstep_cov (acc : List (UInt8 × UInt8)) (x : UInt8) (h : ∀ p ∈ acc, p.1.toNat ≤ p.2.toNat) (b : Nat) : (∀ p ∈ rstep acc x, p.1.toNat ≤ p.2.toNat) ∧ cov (rstep acc x) b = (cov acc b || decide (b = x.toNat)) := by
  unfold rstep
  cases hl : acc.getLast? with
  | none =>
    have : acc = [] := List.getLast?_eq_none_iff.1 hl
    subst this
    refine ⟨by simp, ?_⟩
    simp only [cov, List.any_cons, List.any_nil, Bool.or_false, Bool.false_or]
    congr 1; apply propext; omega
  | some p =>
    obtain ⟨lo, hi⟩ := p
    obtain ⟨ys, rfl⟩ := List.getLast?_eq_some_iff.1 hl
    have hlo := h (lo, hi) (by simp)
    simp only at hlo ⊢
    split
    · rename_i hadj
      rw [List.dropLast_concat]
      refine ⟨fun p hp => ?_, ?_⟩
      · rcases List.mem_append.1 hp with hp | hp
        · exact h p (List.mem_append_left _ hp)
        · have : p = (lo, x) := by simpa using hp
          subst this; simp only; omega
      · simp only [cov, List.any_append, List.any_cons, List.any_nil, Bool.or_false, Bool.or_assoc]
        congr 1
        rw [← Bool.decide_or]
        congr 1; apply propext; omega
    · refine ⟨fun p hp => ?_, ?_⟩
      · rcases List.mem_append.1 hp with hp | hp
        · exact h p hp
        · have : p = (x, x) := by simpa using hp
          subst this; exact Nat.le_refl _
      · unfold cov
        rw [List.any_append]
        congr 1
        simp only [List.any_cons, List.any_nil, Bool.or_false]
        congr 1; apply propext; omega
theorem rangesOf_cov (l : List UInt8) (b : Nat) : cov (rangesOf l) b = (l.map UInt8.toNat).contains b := by
  have key : ∀ (l : List UInt8) (acc : List (UInt8 × UInt8)), (∀ p ∈ acc, p.1.toNat ≤ p.2.toNat) → cov (l.foldl rstep acc) b = (cov acc b || (l.map UInt8.toNat).contains b) := by
    intro l
    induction l with
    | nil => intro acc _; simp
    | cons x l ih =>
      intro acc h
      obtain ⟨h1, h2⟩ := rstep_cov acc x h b
      rw [List.foldl_cons, ih _ h1, h2, List.map_cons, List.contains_cons, Bool.or_assoc]
      congr 2
  unfold rangesOf
  rw [key l [] (by simp)]
  simp [cov]
theorem rangeS_bit (lo hi b : Nat) (hb : b < 256) : (rangeS lo hi).getLsbD b = decide (lo ≤ b ∧ b ≤ hi) := by
  unfold rangeS
  rw [setOfN_bit b hb]
  by_cases h : lo ≤ b ∧ b ≤ hi
  · rw [decide_eq_true h]
    simp only [List.contains_eq_mem, decide_eq_true_eq, List.mem_range'_1]; omega
  · rw [decide_eq_false h]
    simp only [List.contains_eq_mem, decide_eq_false_iff_not, List.mem_range'_1]; omega
def rangeP (p : UInt8 × UInt8) : BSet := rangeS p.1.toNat p.2.toNat
theorem join_ranges (a : BSet) : joinS ((rangesS a).map rangeP) = a := BSet.ext fun b hb => by
  rw [joinS_bit, List.any_map]
  have e : ((rangesS a).any ((fun s => BitVec.getLsbD s b) ∘ rangeP)) = cov (rangesS a) b := by
    unfold cov
    congr 1
    funext p
    exact rangeS_bit _ _ _ hb
  rw [e]
  unfold rangesS
  rw [rangesOf_cov, mem_listS a b hb]
theorem join_not (a b : BSet) : (~~~(joinS [a, b]) = meetS [~~~a, ~~~b]) := BSet.ext fun i hi => by
  rw [BitVec.getLsbD_not, joinS_bit, meetS_bit _ hi]
  simp [hi]
theorem count_not (a : BSet) : countS a + countS (~~~a) = 256 := by
  unfold countS
  have h := List.length_eq_countP_add_countP (fun b => a.getLsbD b) (l := List.range 256)
  rw [List.length_range] at h
  have e : (List.range 256).countP (fun b => (~~~a).getLsbD b) = (List.range 256).countP fun b => decide ¬a.getLsbD b = true := by
    refine List.countP_congr fun b hb => ?_
    have := List.mem_range.1 hb
    rw [BitVec.getLsbD_not]
    simp [this]
  rw [e]
  exact h.symm

theorem sc2 (a b : BSet) : scells a ++ scells b = setcells [a, b] := by simp [setcells, rows]
theorem prcells_get0 {l : List (UInt8 × UInt8)} {i : Nat} (h : i < l.length) : (prcells l)[i * 2]? = some (.int .u8 (l[i]).1.toNat) := by
  have := rows_get (f := prc) (k := 2) (fun _ => rfl) (l := l) (i := i) (j := 0) h (by omega)
  simpa [prc, prcells] using this
theorem prcells_get1 {l : List (UInt8 × UInt8)} {i : Nat} (h : i < l.length) : (prcells l)[i * 2 + 1]? = some (.int .u8 (l[i]).2.toNat) := by
  have := rows_get (f := prc) (k := 2) (fun _ => rfl) (l := l) (i := i) (j := 1) h (by omega)
  simpa [prc, prcells] using this

set_option maxHeartbeats 4000000 in
theorem winnowerlaw5_ClassTurned_ok (a b : BSet) : pcL C i_winnowerlaw5_ClassTurned [.agg (scells a), .agg (scells b)] = some (.bool true) := by
  refine pcL_of rfl f_winnowerlaw5_ClassTurned ?_
  have hL : (listS a).length ≤ 256 := listN_len a 256
  have hR : (rangesS a).length ≤ 256 := by
    have := rangesOf_len (listS a) (listS a).length (Nat.le_refl _)
    rw [List.take_length] at this
    unfold rangesS; omega
  repeat (first | (refine Wp.seq ?_) | (refine Wp.block ?_) | (refine Wp.skip ?_) | (apply Wp.region; focus (simp (maxSteps := 1000000) (disch := first | omega | assumption | (simp only [R5, class_Ranges_ok, prcells_norm]; first | done | omega)) only [R1, R2, R3, R4, R5, R6, RC, Nat.reduceEqDiff, Nat.reduceAdd, Nat.reduceSub, Nat.reduceMul, Nat.reduceLT, Nat.reduceLeDiff, Nat.reduceBEq, reduceIte, Int.reduceEq, Int.reduceLT, Int.reduceLE, Int.reduceAdd, Int.reduceSub, Int.reduceNeg, Int.reduceMul, reduceCtorEq, Int.reduceToNat, class_Ranges_ok, prcells_norm]; with_reducible rfl)) | (refine Wp.condT ?_ ?_; focus (simp (maxSteps := 1000000) (disch := first | omega | assumption | (simp only [R5, class_Ranges_ok, prcells_norm]; first | done | omega)) only [R1, R2, R3, R4, R5, R6, RC, Nat.reduceEqDiff, Nat.reduceAdd, Nat.reduceSub, Nat.reduceMul, Nat.reduceLT, Nat.reduceLeDiff, Nat.reduceBEq, reduceIte, Int.reduceEq, Int.reduceLT, Int.reduceLE, Int.reduceAdd, Int.reduceSub, Int.reduceNeg, Int.reduceMul, reduceCtorEq, Int.reduceToNat, class_Ranges_ok, prcells_norm]; done)) | (refine Wp.condF ?_ ?_; focus (simp (maxSteps := 1000000) (disch := first | omega | assumption | (simp only [R5, class_Ranges_ok, prcells_norm]; first | done | omega)) only [R1, R2, R3, R4, R5, R6, RC, Nat.reduceEqDiff, Nat.reduceAdd, Nat.reduceSub, Nat.reduceMul, Nat.reduceLT, Nat.reduceLeDiff, Nat.reduceBEq, reduceIte, Int.reduceEq, Int.reduceLT, Int.reduceLE, Int.reduceAdd, Int.reduceSub, Int.reduceNeg, Int.reduceMul, reduceCtorEq, Int.reduceToNat, class_Ranges_ok, prcells_norm]; done)) | (refine Wp.exit ⟨fun _ => ?_, fun h => absurd rfl h⟩) | (refine Wp.exit ⟨fun h => absurd h (by decide), fun _ => ⟨fun _ => ?_, fun h => absurd rfl h⟩⟩))
  refine Wp.count (rangesS a).length (fun i st => ∃ t h c v, st = ⟨t, h, c⟩ ∧ Own h 1 4 v (setcells (((rangesS a).take i).map rangeP)) i 0 ∧ Sl t [(2, .reg 0 (scells a)), (3, .reg 1 (scells b)), (6, .ps (prcells (rangesS a)) (rangesS a).length none), (7, .int .i64 i), (5, v)]) ?_ ?_ ?_
  · exact ⟨_, _, _, _, rfl, Own.nil _ _ _ _, by simp (maxSteps := 1000000) (disch := first | omega | assumption | (simp only [R5, Sl]; first | done | omega)) only [R1, R2, R3, R4, R5, R6, RC, Nat.reduceEqDiff, Nat.reduceAdd, Nat.reduceSub, Nat.reduceMul, Nat.reduceLT, Nat.reduceLeDiff, Nat.reduceBEq, reduceIte, Int.reduceEq, Int.reduceLT, Int.reduceLE, Int.reduceAdd, Int.reduceSub, Int.reduceNeg, Int.reduceMul, reduceCtorEq, Int.reduceToNat, Sl]⟩
  · rintro i _ hi ⟨t, h, c, v, rfl, o, hs⟩
    have b1 := ((rangesS a)[i]).1.toNat_lt
    have b2 := ((rangesS a)[i]).2.toNat_lt
    simp only [Sl] at hs
    obtain ⟨v', h', ha, o', -⟩ := o.app (x := .ps (scells (rangeP (rangesS a)[i])) 1 (some 1)) (m := 1) rfl (more_ps 4 h _ 1 _ rfl) rfl rfl (bytes := 32) (by omega) (by omega)
    unfold rangeP at ha
    repeat (first | (refine Wp.seq ?_) | (refine Wp.block ?_) | (refine Wp.skip ?_) | (apply Wp.region; focus (simp (maxSteps := 1000000) (disch := first | omega | assumption | (simp only [R5, hs, prcells_len, prcells_get0, prcells_get1, class_Range_ok, o.rval, ha]; first | done | omega)) only [R1, R2, R3, R4, R5, R6, RC, Nat.reduceEqDiff, Nat.reduceAdd, Nat.reduceSub, Nat.reduceMul, Nat.reduceLT, Nat.reduceLeDiff, Nat.reduceBEq, reduceIte, Int.reduceEq, Int.reduceLT, Int.reduceLE, Int.reduceAdd, Int.reduceSub, Int.reduceNeg, Int.reduceMul, reduceCtorEq, Int.reduceToNat, hs, prcells_len, prcells_get0, prcells_get1, class_Range_ok, o.rval, ha]; with_reducible rfl)) | (refine Wp.condT ?_ ?_; focus (simp (maxSteps := 1000000) (disch := first | omega | assumption | (simp only [R5, hs, prcells_len, prcells_get0, prcells_get1, class_Range_ok, o.rval, ha]; first | done | omega)) only [R1, R2, R3, R4, R5, R6, RC, Nat.reduceEqDiff, Nat.reduceAdd, Nat.reduceSub, Nat.reduceMul, Nat.reduceLT, Nat.reduceLeDiff, Nat.reduceBEq, reduceIte, Int.reduceEq, Int.reduceLT, Int.reduceLE, Int.reduceAdd, Int.reduceSub, Int.reduceNeg, Int.reduceMul, reduceCtorEq, Int.reduceToNat, hs, prcells_len, prcells_get0, prcells_get1, class_Range_ok, o.rval, ha]; done)) | (refine Wp.condF ?_ ?_; focus (simp (maxSteps := 1000000) (disch := first | omega | assumption | (simp only [R5, hs, prcells_len, prcells_get0, prcells_get1, class_Range_ok, o.rval, ha]; first | done | omega)) only [R1, R2, R3, R4, R5, R6, RC, Nat.reduceEqDiff, Nat.reduceAdd, Nat.reduceSub, Nat.reduceMul, Nat.reduceLT, Nat.reduceLeDiff, Nat.reduceBEq, reduceIte, Int.reduceEq, Int.reduceLT, Int.reduceLE, Int.reduceAdd, Int.reduceSub, Int.reduceNeg, Int.reduceMul, reduceCtorEq, Int.reduceToNat, hs, prcells_len, prcells_get0, prcells_get1, class_Range_ok, o.rval, ha]; done)) | (refine Wp.exit ⟨fun _ => ?_, fun h => absurd rfl h⟩) | (refine Wp.exit ⟨fun h => absurd h (by decide), fun _ => ⟨fun _ => ?_, fun h => absurd rfl h⟩⟩))
    refine ⟨_, _, _, v', rfl, ?_, ?_⟩
    · rw [List.take_add_one, List.getElem?_eq_getElem hi, List.map_append, Option.toList_some, List.map_singleton, setcells_snoc]
      exact o'
    · simp (maxSteps := 1000000) (disch := first | omega | assumption | (simp only [R5, Sl, hs, o'.rval]; first | done | omega)) only [R1, R2, R3, R4, R5, R6, RC, Nat.reduceEqDiff, Nat.reduceAdd, Nat.reduceSub, Nat.reduceMul, Nat.reduceLT, Nat.reduceLeDiff, Nat.reduceBEq, reduceIte, Int.reduceEq, Int.reduceLT, Int.reduceLE, Int.reduceAdd, Int.reduceSub, Int.reduceNeg, Int.reduceMul, reduceCtorEq, Int.reduceToNat, Sl, hs, o'.rval]
  · rintro _ ⟨t, h, c, v, rfl, o, hs⟩
    simp only [Sl] at hs
    rw [List.take_length] at o
    have hj := class_Join_ok ((rangesS a).map rangeP) (by rw [List.length_map]; omega)
    rw [List.length_map, join_ranges] at hj
    have hc := count_not a
    have hca : countS a ≤ 256 := by omega
    have hcb : countS (~~~a) ≤ 256 := by omega
    have hof := class_Of_ok (listS a) (by omega)
    rw [setOf_listS] at hof
    have hj2 := class_Join_ok [a, b] (by simp)
    have hm2 := class_Meet_ok [~~~a, ~~~b] (by simp)
    rw [← join_not] at hm2
    have hc' : decide (((countS a + countS (~~~a) : Nat) : Int) = 256) = true := decide_eq_true (by omega)
    simp only [List.length_cons, List.length_nil, Nat.reduceAdd] at hj2 hm2
    repeat (first | (refine Wp.seq ?_) | (refine Wp.block ?_) | (refine Wp.skip ?_) | (apply Wp.region; focus (simp (maxSteps := 1000000) (disch := first | omega | assumption | (simp only [R5, hs, List.take_left'.{0}, List.drop_left'.{0}, List.drop_of_length_le.{0}, sc2, hj2, hm2, class_Not_ok, BitVec.not_not, class_List_ok, hof, o.rval, o.keeps, o.argR (setcells_flat _), hj, class_Count_ok, hc', winnowerlaw5_known_ok]; first | done | omega)) only [R1, R2, R3, R4, R5, R6, RC, Nat.reduceEqDiff, Nat.reduceAdd, Nat.reduceSub, Nat.reduceMul, Nat.reduceLT, Nat.reduceLeDiff, Nat.reduceBEq, reduceIte, Int.reduceEq, Int.reduceLT, Int.reduceLE, Int.reduceAdd, Int.reduceSub, Int.reduceNeg, Int.reduceMul, reduceCtorEq, Int.reduceToNat, hs, List.take_left'.{0}, List.drop_left'.{0}, List.drop_of_length_le.{0}, sc2, hj2, hm2, class_Not_ok, BitVec.not_not, class_List_ok, hof, o.rval, o.keeps, o.argR (setcells_flat _), hj, class_Count_ok, hc', winnowerlaw5_known_ok]; with_reducible rfl)) | (refine Wp.condT ?_ ?_; focus (simp (maxSteps := 1000000) (disch := first | omega | assumption | (simp only [R5, hs, List.take_left'.{0}, List.drop_left'.{0}, List.drop_of_length_le.{0}, sc2, hj2, hm2, class_Not_ok, BitVec.not_not, class_List_ok, hof, o.rval, o.keeps, o.argR (setcells_flat _), hj, class_Count_ok, hc', winnowerlaw5_known_ok]; first | done | omega)) only [R1, R2, R3, R4, R5, R6, RC, Nat.reduceEqDiff, Nat.reduceAdd, Nat.reduceSub, Nat.reduceMul, Nat.reduceLT, Nat.reduceLeDiff, Nat.reduceBEq, reduceIte, Int.reduceEq, Int.reduceLT, Int.reduceLE, Int.reduceAdd, Int.reduceSub, Int.reduceNeg, Int.reduceMul, reduceCtorEq, Int.reduceToNat, hs, List.take_left'.{0}, List.drop_left'.{0}, List.drop_of_length_le.{0}, sc2, hj2, hm2, class_Not_ok, BitVec.not_not, class_List_ok, hof, o.rval, o.keeps, o.argR (setcells_flat _), hj, class_Count_ok, hc', winnowerlaw5_known_ok]; done)) | (refine Wp.condF ?_ ?_; focus (simp (maxSteps := 1000000) (disch := first | omega | assumption | (simp only [R5, hs, List.take_left'.{0}, List.drop_left'.{0}, List.drop_of_length_le.{0}, sc2, hj2, hm2, class_Not_ok, BitVec.not_not, class_List_ok, hof, o.rval, o.keeps, o.argR (setcells_flat _), hj, class_Count_ok, hc', winnowerlaw5_known_ok]; first | done | omega)) only [R1, R2, R3, R4, R5, R6, RC, Nat.reduceEqDiff, Nat.reduceAdd, Nat.reduceSub, Nat.reduceMul, Nat.reduceLT, Nat.reduceLeDiff, Nat.reduceBEq, reduceIte, Int.reduceEq, Int.reduceLT, Int.reduceLE, Int.reduceAdd, Int.reduceSub, Int.reduceNeg, Int.reduceMul, reduceCtorEq, Int.reduceToNat, hs, List.take_left'.{0}, List.drop_left'.{0}, List.drop_of_length_le.{0}, sc2, hj2, hm2, class_Not_ok, BitVec.not_not, class_List_ok, hof, o.rval, o.keeps, o.argR (setcells_flat _), hj, class_Count_ok, hc', winnowerlaw5_known_ok]; done)) | (refine Wp.exit ⟨fun _ => ?_, fun h => absurd rfl h⟩) | (refine Wp.exit ⟨fun h => absurd h (by decide), fun _ => ⟨fun _ => ?_, fun h => absurd rfl h⟩⟩))
    refine Wp.ret (ret_ok (by simp (maxSteps := 1000000) (disch := first | omega | assumption | (simp only [R5, a_winnowerlaw5_ClassTurned]; first | done | omega)) only [R1, R2, R3, R4, R5, R6, RC, Nat.reduceEqDiff, Nat.reduceAdd, Nat.reduceSub, Nat.reduceMul, Nat.reduceLT, Nat.reduceLeDiff, Nat.reduceBEq, reduceIte, Int.reduceEq, Int.reduceLT, Int.reduceLE, Int.reduceAdd, Int.reduceSub, Int.reduceNeg, Int.reduceMul, reduceCtorEq, Int.reduceToNat, a_winnowerlaw5_ClassTurned]; with_reducible rfl) ?_)
    simp (maxSteps := 1000000) (disch := first | omega | assumption | (simp only [R5]; first | done | omega)) only [R1, R2, R3, R4, R5, R6, RC, Nat.reduceEqDiff, Nat.reduceAdd, Nat.reduceSub, Nat.reduceMul, Nat.reduceLT, Nat.reduceLeDiff, Nat.reduceBEq, reduceIte, Int.reduceEq, Int.reduceLT, Int.reduceLE, Int.reduceAdd, Int.reduceSub, Int.reduceNeg, Int.reduceMul, reduceCtorEq, Int.reduceToNat]

end Go.Abs
