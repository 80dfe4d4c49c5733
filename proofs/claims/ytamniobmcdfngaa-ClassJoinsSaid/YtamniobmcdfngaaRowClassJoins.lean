/- The law ClassJoins of the given program answers true, whatever it is handed: its row. -/
import Derived.Test.YtamniobmcdfngaaRows
import Derived.Test.YtamniobmcdfngaaAnswers4
import Derived.Test.YtamniobmcdfngaaMachine2
import Derived.WalkKit
import Derived.ProofKit
import Derived.OpenShut
import Derived.ShutString
import Derived.ChangeOld
import Derived.Below
import Derived.Carry
import Derived.SizedLaws
set_option linter.unusedSimpArgs false
set_option linter.unusedVariables false
/- The law ClassJoins of the given program answers true, whatever it is handed: its row. -/
namespace Go.Proofs.Ytamniobmcdfngaa.classJoins
open Go.ChangeShapes Go.WideShapes Go.ChangeAt Go.RowKit
open Go.ChangeMaps (open_string shut_string)
theorem own : ownKnob Try.prog.godebug = none := by kernel_rfl
theorem laidOut : laidOutB Try.prog = true := by kernel_rfl
set_option maxRecDepth 100000 in
theorem lifted (os : Os) (started : os.Started) (H : Type) (enc : TypeId × Value → H) :
    ReturnsInHanded {} Try.checked os 4 .any (Rows.classJoinsSpec.pre6 enc Try.prog Try.f4 Rows.classJoinsRow.domain false) (Rows.classJoinsSpec.post enc Try.prog Try.f4 false true false false) := by
  refine returnsInHanded_of_change_sized (C := Try.checked) own started (by kernel_rfl) Try.func4
    (ChangeSpec.witness6 (enc := enc) (C := Try.checked) false ⟨#[], #[.slice none 0 0, .int .u8 0], []⟩ 8 (by kernel_rfl) (by kernel_rfl) (by kernel_rfl) (by kernel_rfl)) ?_
  intro W base args ds gs before hval0 hW hcnd hsz0 _
  have hW' := hW
  obtain ⟨p, q, hA0, hV, rfl, hfz, hnd⟩ := hW
  have hA : DataW.TrodAll enc Try.prog W 0 (fun _ => true) true Try.f4.params.toList args.toList ds p := hA0
  rw [Try.params4] at hA
  obtain ⟨v0, vs0, d0, ds0, p0, q0, hargs, rfl, rfl, h0, r0⟩ := trodAll_cons hA
  obtain ⟨v1, vs1, d1, ds1, p1, q1, rfl, rfl, rfl, h1, r1⟩ := trodAll_cons r0
  obtain ⟨rfl, rfl, rfl⟩ := trodAll_nil r1
  obtain rfl : args = #[v0, v1] := by cases args; simp_all
  obtain ⟨rfl, rfl⟩ := trodVars_none hV
  have hval : ∀ (j : Nat) t v, ([27, 5] : List TypeId)[j]? = some t → ([v0, v1] : List Value)[j]? = some v → Value.okWide Try.prog W .any base t v := fun j t v h1 h2 => hval0 j t v (by rw [show Try.checked.prog = Try.prog from rfl] at *; simpa [Try.params4] using h1) (by simpa using h2)
  have hS : ∀ t ∈ ([27, 31, 29, 5] : List TypeId), Abs.plainIn Try.prog [27, 31, 29, 5] t = true := by decide +kernel
  obtain ⟨xss, e1, e2, e3⟩ := Abs.args_trees hS (by decide) hA hval
  match xss, e1 with
  | [x0, x1], _ =>
    obtain ⟨n0, g0⟩ := e2 0 27 rfl
    obtain ⟨n1, g1⟩ := e2 1 5 rfl
    obtain ⟨l0, rfl, hl0⟩ := Abs.has_sets Try.underlying27 Try.underlying31 Try.underlying29 g0
    obtain ⟨b1, rfl⟩ := Abs.has_u8 Try.underlying5 g1
    obtain ⟨n, h', hr⟩ := Abs.runA_of_pcL rfl (Abs.winnowerlaw5_ClassJoins_ok l0 b1.toNat b1.toNat_lt)
    refine (Abs.law_calls Abs.cok Try.func4 (by kernel_rfl) (by kernel_rfl) (args := [.ps (Abs.setcells l0) l0.length none, .int .u8 b1.toNat]) (cargs := [v0, v1]) e3 hr).mono fun e W' ⟨he, bel⟩ => ?_
    subst he
    exact ⟨_, rfl, _, _, _, [], _, [], hW', trodAll_mk1 (shut_bool Try.underlying4 _), Abs.trodAll_stays laidOut bel (by kernel_rfl) hA, rfl, bel.frame _, fun h => by cases h⟩
theorem over : Rows.classJoinsRow.holds Try.pinned (OpenSpec.ofChange Rows.classJoinsSpec) :=
  OpenClaim.holds_of_wide 4 Try.f4 rfl rfl rfl rfl rfl rfl rfl ⟨rfl, rfl, rfl, rfl, rfl⟩ rfl rfl rfl rfl rfl (by kernel_rfl) Try.func4 (by kernel_rfl)
    (of_decide_eq_true (by kernel_rfl)) (by unfold Func.isWrapper; first | (rw [if_pos (by decide +kernel)]; kernel_rfl) | (rw [if_neg (by decide +kernel)]; exact ⟨rfl, rfl⟩))
    (fun os started H enc _ => lifted os started H enc)
theorem proved : Rows.ClassJoinsSaid := over
end Go.Proofs.Ytamniobmcdfngaa.classJoins
namespace Go.Proofs.Ytamniobmcdfngaa
/-- The row, under a short name, for the claim. -/
theorem classJoins_holds : Rows.ClassJoinsSaid := classJoins.proved
#print axioms classJoins_holds
end Go.Proofs.Ytamniobmcdfngaa
