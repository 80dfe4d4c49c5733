/- The law ClassTells of the given program answers true, whatever it is handed: its row. -/
import Derived.Test.YtamniobmcdfngaaRows
import Derived.Test.YtamniobmcdfngaaAnswers4
import Derived.Test.YtamniobmcdfngaaMachine2
import Derived.WalkKit
import Derived.ProofKit
import Derived.OpenShut
import Derived.ShutString
import Derived.ChangeOld
import Derived.Below
import Derived.Carry
import Derived.SizedLaws
set_option linter.unusedSimpArgs false
set_option linter.unusedVariables false
/- The law ClassTells of the given program answers true, whatever it is handed: its row. -/
namespace Go.Proofs.Ytamniobmcdfngaa.classTells
open Go.ChangeShapes Go.WideShapes Go.ChangeAt Go.RowKit
open Go.ChangeMaps (open_string shut_string)
theorem own : ownKnob Try.prog.godebug = none := by kernel_rfl
theorem laidOut : laidOutB Try.prog = true := by kernel_rfl
set_option maxRecDepth 100000 in
theorem lifted (os : Os) (started : os.Started) (H : Type) (enc : TypeId × Value → H) :
    ReturnsInHanded {} Try.checked os 5 .any (Rows.classTellsSpec.pre6 enc Try.prog Try.f5 Rows.classTellsRow.domain false) (Rows.classTellsSpec.post enc Try.prog Try.f5 false true false false) := by
  refine returnsInHanded_of_change_sized (C := Try.checked) own started (by kernel_rfl) Try.func5
    (ChangeSpec.witness6 (enc := enc) (C := Try.checked) false ⟨#[], #[.slice none 0 0, .agg #[.int .u64 0, .int .u64 0, .int .u64 0, .int .u64 0], .int .u8 0, .int .u8 0], []⟩ 8 (by kernel_rfl) (by kernel_rfl) (by kernel_rfl) (by kernel_rfl)) ?_
  intro W base args ds gs before hval0 hW hcnd hsz0 _
  have hW' := hW
  obtain ⟨p, q, hA0, hV, rfl, hfz, hnd⟩ := hW
  have hA : DataW.TrodAll enc Try.prog W 0 (fun _ => true) true Try.f5.params.toList args.toList ds p := hA0
  rw [Try.params5] at hA
  obtain ⟨v0, vs0, d0, ds0, p0, q0, hargs, rfl, rfl, h0, r0⟩ := trodAll_cons hA
  obtain ⟨v1, vs1, d1, ds1, p1, q1, rfl, rfl, rfl, h1, r1⟩ := trodAll_cons r0
  obtain ⟨v2, vs2, d2, ds2, p2, q2, rfl, rfl, rfl, h2, r2⟩ := trodAll_cons r1
  obtain ⟨v3, vs3, d3, ds3, p3, q3, rfl, rfl, rfl, h3, r3⟩ := trodAll_cons r2
  obtain ⟨rfl, rfl, rfl⟩ := trodAll_nil r3
  obtain rfl : args = #[v0, v1, v2, v3] := by cases args; simp_all
  obtain ⟨rfl, rfl⟩ := trodVars_none hV
  have hval : ∀ (j : Nat) t v, ([36, 31, 5, 5] : List TypeId)[j]? = some t → ([v0, v1, v2, v3] : List Value)[j]? = some v → Value.okWide Try.prog W .any base t v := fun j t v h1 h2 => hval0 j t v (by rw [show Try.checked.prog = Try.prog from rfl] at *; simpa [Try.params5] using h1) (by simpa using h2)
  have hS : ∀ t ∈ ([36, 5, 31, 29] : List TypeId), Abs.plainIn Try.prog [36, 5, 31, 29] t = true := by decide +kernel
  obtain ⟨xss, e1, e2, e3⟩ := Abs.args_trees hS (by decide) hA hval
  match xss, e1 with
  | [x0, x1, x2, x3], _ =>
    obtain ⟨n0, g0⟩ := e2 0 36 rfl
    obtain ⟨n1, g1⟩ := e2 1 31 rfl
    obtain ⟨n2, g2⟩ := e2 2 5 rfl
    obtain ⟨n3, g3⟩ := e2 3 5 rfl
    obtain ⟨l0, rfl, hl0⟩ := Abs.has_bytes Try.underlying36 Try.underlying5 g0
    obtain ⟨s1, rfl⟩ := Abs.has_set Try.underlying31 Try.underlying29 g1
    obtain ⟨b2, rfl⟩ := Abs.has_u8 Try.underlying5 g2
    obtain ⟨b3, rfl⟩ := Abs.has_u8 Try.underlying5 g3
    obtain ⟨n, h', hr⟩ := Abs.runA_of_pcL rfl (Abs.winnowerlaw5_ClassTells_ok l0 s1 b2.toNat b3.toNat b2.toNat_lt b3.toNat_lt)
    refine (Abs.law_calls Abs.cok Try.func5 (by kernel_rfl) (by kernel_rfl) (args := [.ps (Abs.bcells l0) l0.length none, .agg (Abs.scells s1), .int .u8 b2.toNat, .int .u8 b3.toNat]) (cargs := [v0, v1, v2, v3]) e3 hr).mono fun e W' ⟨he, bel⟩ => ?_
    subst he
    exact ⟨_, rfl, _, _, _, [], _, [], hW', trodAll_mk1 (shut_bool Try.underlying4 _), Abs.trodAll_stays laidOut bel (by kernel_rfl) hA, rfl, bel.frame _, fun h => by cases h⟩
theorem over : Rows.classTellsRow.holds Try.pinned (OpenSpec.ofChange Rows.classTellsSpec) :=
  OpenClaim.holds_of_wide 5 Try.f5 rfl rfl rfl rfl rfl rfl rfl ⟨rfl, rfl, rfl, rfl, rfl⟩ rfl rfl rfl rfl rfl (by kernel_rfl) Try.func5 (by kernel_rfl)
    (of_decide_eq_true (by kernel_rfl)) (by unfold Func.isWrapper; first | (rw [if_pos (by decide +kernel)]; kernel_rfl) | (rw [if_neg (by decide +kernel)]; exact ⟨rfl, rfl⟩))
    (fun os started H enc _ => lifted os started H enc)
theorem proved : Rows.ClassTellsSaid := over
end Go.Proofs.Ytamniobmcdfngaa.classTells
namespace Go.Proofs.Ytamniobmcdfngaa
/-- The row, under a short name, for the claim. -/
theorem classTells_holds : Rows.ClassTellsSaid := classTells.proved
#print axioms classTells_holds
end Go.Proofs.Ytamniobmcdfngaa
