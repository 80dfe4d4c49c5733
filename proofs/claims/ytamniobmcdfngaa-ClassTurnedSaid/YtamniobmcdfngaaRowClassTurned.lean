/- The law ClassTurned of the given program answers true, whatever it is handed: its row. -/
import Derived.Test.YtamniobmcdfngaaRows
import Derived.Test.YtamniobmcdfngaaAnswers4
import Derived.Test.YtamniobmcdfngaaMachine2
import Derived.WalkKit
import Derived.ProofKit
import Derived.OpenShut
import Derived.ShutString
import Derived.ChangeOld
import Derived.Below
import Derived.Carry
import Derived.SizedLaws
set_option linter.unusedSimpArgs false
set_option linter.unusedVariables false
/- The law ClassTurned of the given program answers true, whatever it is handed: its row. -/
namespace Go.Proofs.Ytamniobmcdfngaa.classTurned
open Go.ChangeShapes Go.WideShapes Go.ChangeAt Go.RowKit
open Go.ChangeMaps (open_string shut_string)
theorem own : ownKnob Try.prog.godebug = none := by kernel_rfl
theorem laidOut : laidOutB Try.prog = true := by kernel_rfl
set_option maxRecDepth 100000 in
theorem lifted (os : Os) (started : os.Started) (H : Type) (enc : TypeId × Value → H) :
    ReturnsInHanded {} Try.checked os 6 .any (Rows.classTurnedSpec.pre6 enc Try.prog Try.f6 Rows.classTurnedRow.domain false) (Rows.classTurnedSpec.post enc Try.prog Try.f6 false true false false) := by
  refine returnsInHanded_of_change_sized (C := Try.checked) own started (by kernel_rfl) Try.func6
    (ChangeSpec.witness6 (enc := enc) (C := Try.checked) false ⟨#[], #[.agg #[.int .u64 0, .int .u64 0, .int .u64 0, .int .u64 0], .agg #[.int .u64 0, .int .u64 0, .int .u64 0, .int .u64 0]], []⟩ 8 (by kernel_rfl) (by kernel_rfl) (by kernel_rfl) (by kernel_rfl)) ?_
  intro W base args ds gs before hval0 hW hcnd hsz0 _
  have hW' := hW
  obtain ⟨p, q, hA0, hV, rfl, hfz, hnd⟩ := hW
  have hA : DataW.TrodAll enc Try.prog W 0 (fun _ => true) true Try.f6.params.toList args.toList ds p := hA0
  rw [Try.params6] at hA
  obtain ⟨v0, vs0, d0, ds0, p0, q0, hargs, rfl, rfl, h0, r0⟩ := trodAll_cons hA
  obtain ⟨v1, vs1, d1, ds1, p1, q1, rfl, rfl, rfl, h1, r1⟩ := trodAll_cons r0
  obtain ⟨rfl, rfl, rfl⟩ := trodAll_nil r1
  obtain rfl : args = #[v0, v1] := by cases args; simp_all
  obtain ⟨rfl, rfl⟩ := trodVars_none hV
  have hval : ∀ (j : Nat) t v, ([31, 31] : List TypeId)[j]? = some t → ([v0, v1] : List Value)[j]? = some v → Value.okWide Try.prog W .any base t v := fun j t v h1 h2 => hval0 j t v (by rw [show Try.checked.prog = Try.prog from rfl] at *; simpa [Try.params6] using h1) (by simpa using h2)
  have hS : ∀ t ∈ ([31, 29] : List TypeId), Abs.plainIn Try.prog [31, 29] t = true := by decide +kernel
  obtain ⟨xss, e1, e2, e3⟩ := Abs.args_trees hS (by decide) hA hval
  match xss, e1 with
  | [x0, x1], _ =>
    obtain ⟨n0, g0⟩ := e2 0 31 rfl
    obtain ⟨n1, g1⟩ := e2 1 31 rfl
    obtain ⟨s0, rfl⟩ := Abs.has_set Try.underlying31 Try.underlying29 g0
    obtain ⟨s1, rfl⟩ := Abs.has_set Try.underlying31 Try.underlying29 g1
    obtain ⟨n, h', hr⟩ := Abs.runA_of_pcL rfl (Abs.winnowerlaw5_ClassTurned_ok s0 s1)
    refine (Abs.law_calls Abs.cok Try.func6 (by kernel_rfl) (by kernel_rfl) (args := [.agg (Abs.scells s0), .agg (Abs.scells s1)]) (cargs := [v0, v1]) e3 hr).mono fun e W' ⟨he, bel⟩ => ?_
    subst he
    exact ⟨_, rfl, _, _, _, [], _, [], hW', trodAll_mk1 (shut_bool Try.underlying4 _), Abs.trodAll_stays laidOut bel (by kernel_rfl) hA, rfl, bel.frame _, fun h => by cases h⟩
theorem over : Rows.classTurnedRow.holds Try.pinned (OpenSpec.ofChange Rows.classTurnedSpec) :=
  OpenClaim.holds_of_wide 6 Try.f6 rfl rfl rfl rfl rfl rfl rfl ⟨rfl, rfl, rfl, rfl, rfl⟩ rfl rfl rfl rfl rfl (by kernel_rfl) Try.func6 (by kernel_rfl)
    (of_decide_eq_true (by kernel_rfl)) (by unfold Func.isWrapper; first | (rw [if_pos (by decide +kernel)]; kernel_rfl) | (rw [if_neg (by decide +kernel)]; exact ⟨rfl, rfl⟩))
    (fun os started H enc _ => lifted os started H enc)
theorem proved : Rows.ClassTurnedSaid := over
end Go.Proofs.Ytamniobmcdfngaa.classTurned
namespace Go.Proofs.Ytamniobmcdfngaa
/-- The row, under a short name, for the claim. -/
theorem classTurned_holds : Rows.ClassTurnedSaid := classTurned.proved
#print axioms classTurned_holds
end Go.Proofs.Ytamniobmcdfngaa
