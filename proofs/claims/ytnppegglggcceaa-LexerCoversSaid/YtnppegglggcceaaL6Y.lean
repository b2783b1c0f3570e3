/- The row of the law LexerCovers, from what its function says. (Written by row.py.) -/
import Derived.Test.YtnppegglggcceaaY3
import Derived.Test.YtnppegglggcceaaRows
import Derived.WalkKit
import Derived.ProofKit
import Derived.OpenShut
import Derived.ChangeOld
import Derived.Below
import Derived.HandedShaped
set_option linter.unusedVariables false
namespace Go.Proofs.Ytnppegglggcceaa.A
open Go.ChangeShapes Go.WideShapes Go.ChangeAt Go.RowKit
theorem own6 : ownKnob Try.prog.godebug = none := by kernel_rfl
theorem laid6 : laidOutB Try.prog = true := by kernel_rfl
set_option maxRecDepth 100000 in
theorem lifted6 (os : Os) (started : os.Started) (H : Type) (enc : TypeId × Value → H) :
    ReturnsInHanded {} Try.checked os 6 .any (Rows.lexerCoversSpec.pre6 enc Try.prog Try.f6 Rows.lexerCoversRow.domain false) (Rows.lexerCoversSpec.post enc Try.prog Try.f6 false true false false) := by
  refine returnsInHanded_of_change_shaped (C := Try.checked) own6 started (by kernel_rfl) Try.func6
    (ChangeSpec.witness6 (enc := enc) (C := Try.checked) false ⟨#[], #[.string ⟨#[]⟩], []⟩ 8 (by kernel_rfl) (by kernel_rfl) (by kernel_rfl) (by kernel_rfl)) ?_
  intro W base args ds gs before hval0 hW hcnd hwt hsh _
  have hval : ∀ (j : Nat) t v, Try.f6.params[j]? = some t → args[j]? = some v → Value.okWide Try.prog W .any base t v := hval0
  have hW' := hW
  obtain ⟨p, q, hA0, hV, rfl, hfz, hnd⟩ := hW
  have hA : DataW.TrodAll enc Try.prog W 0 (fun _ => true) true Try.f6.params.toList args.toList ds p := hA0
  rw [Try.params6] at hA hval
  obtain ⟨rfl, rfl⟩ := trodVars_none hV
  obtain ⟨dss, hh, hty⟩ := args_of (P := Try.prog) (T := T) T_ok (f := 8) (r := .any) [9] args.toList ds p (by kernel_rfl) hA (fun j t v ht hv => hval j t v (by simpa using ht) (by simpa using hv))
  have hback := fun W' hb => below_trodAll (P := Try.prog) (enc := enc) laid6 (W := W) (W' := W') hb [9] args.toList ds p (by kernel_rfl) hA
  obtain ⟨v0, w0, d0, e0, p0, q0, hv0, rfl, rfl, _, r0⟩ := trodAll_cons hA
  obtain ⟨rfl, rfl, rfl⟩ := trodAll_nil r0
  clear hA0 hval0
  have hs := Spec.call (w := W) hsh (law6_spec dss hty) (vs := args.toList) hh
  rw [Array.toArray_toList] at hs
  refine hs.mono fun e W' ⟨he, bel⟩ => ?_
  subst he
  exact ⟨_, rfl, _, _, _, [], _, [], hW', trodAll_mk1 (shut_bool Try.underlying4 _), hback W' bel, rfl, bel.frame _, fun h => by cases h⟩
theorem over6 : Rows.lexerCoversRow.holds Try.pinned (OpenSpec.ofChange Rows.lexerCoversSpec) :=
  OpenClaim.holds_of_wide 6 Try.f6 rfl rfl rfl rfl rfl rfl rfl ⟨rfl, rfl, rfl, rfl, rfl⟩ rfl rfl rfl rfl rfl (by kernel_rfl) Try.func6 (by kernel_rfl)
    (of_decide_eq_true (by kernel_rfl)) (by unfold Func.isWrapper; first | (rw [if_pos (by decide +kernel)]; kernel_rfl) | (rw [if_neg (by decide +kernel)]; exact ⟨rfl, rfl⟩))
    (fun os started H enc _ => lifted6 os started H enc)
end Go.Proofs.Ytnppegglggcceaa.A
namespace Go.Proofs.Ytnppegglggcceaa
theorem lexerCovers_holds : Rows.LexerCoversSaid := A.over6
#print axioms lexerCovers_holds
end Go.Proofs.Ytnppegglggcceaa
