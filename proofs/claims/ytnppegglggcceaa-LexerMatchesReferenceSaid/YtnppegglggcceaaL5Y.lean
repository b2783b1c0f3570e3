/- The row of the law LexerMatchesReference, from what its function says. (Written by row.py.) -/
import Derived.Test.YtnppegglggcceaaY5
import Derived.Test.YtnppegglggcceaaRows
import Derived.WalkKit
import Derived.ProofKit
import Derived.OpenShut
import Derived.ChangeOld
import Derived.Below
import Derived.HandedShaped
set_option linter.unusedVariables false
namespace Go.Proofs.Ytnppegglggcceaa.A
open Go.ChangeShapes Go.WideShapes Go.ChangeAt Go.RowKit
theorem own5 : ownKnob Try.prog.godebug = none := by kernel_rfl
theorem laid5 : laidOutB Try.prog = true := by kernel_rfl
theorem sized5 {H : Type} {ds : List (DataW H)} (h : (DataW.weightsEach Try.prog (Try.f5.params.toList ++ Rows.lexerMatchesReferenceSpec.plain.varTypes Try.prog) (ds ++ [])).all (· ≤ reachBytes) = true) : ∀ n ∈ DataW.weightsEach Try.prog [9, 25, 3] ds, n ≤ reachBytes := fun n hn => by
  have h1 : (DataW.weightsEach Try.prog ([9, 25, 3] ++ Rows.lexerMatchesReferenceSpec.plain.varTypes Try.prog) (ds ++ [])).all (· ≤ reachBytes) = true := by
    rw [Try.params5] at h; exact h
  have h2 : n ∈ DataW.weightsEach Try.prog ([9, 25, 3] ++ Rows.lexerMatchesReferenceSpec.plain.varTypes Try.prog) (ds ++ []) := by
    rw [List.append_nil]; exact hn
  simpa using List.all_eq_true.1 h1 n h2
set_option maxRecDepth 100000 in
theorem lifted5 (os : Os) (started : os.Started) (H : Type) (enc : TypeId × Value → H) :
    ReturnsInHanded {} Try.checked os 5 .any (Rows.lexerMatchesReferenceSpec.pre6 enc Try.prog Try.f5 Rows.lexerMatchesReferenceRow.domain false) (Rows.lexerMatchesReferenceSpec.post enc Try.prog Try.f5 false true false false) := by
  refine returnsInHanded_of_change_shaped (C := Try.checked) own5 started (by kernel_rfl) Try.func5
    (ChangeSpec.witness6 (enc := enc) (C := Try.checked) false ⟨#[], #[.string ⟨#[]⟩, .slice none 0 0, .int .i64 0], []⟩ 8 (by kernel_rfl) (by kernel_rfl) (by kernel_rfl) (by kernel_rfl)) ?_
  intro W base args ds gs before hval0 hW hcnd hwt hsh _
  have hval : ∀ (j : Nat) t v, Try.f5.params[j]? = some t → args[j]? = some v → Value.okWide Try.prog W .any base t v := hval0
  have hW' := hW
  obtain ⟨p, q, hA0, hV, rfl, hfz, hnd⟩ := hW
  have hA : DataW.TrodAll enc Try.prog W 0 (fun _ => true) true Try.f5.params.toList args.toList ds p := hA0
  rw [Try.params5] at hA hval
  obtain ⟨rfl, rfl⟩ := trodVars_none hV
  obtain ⟨dss, hh, hty⟩ := args_of (P := Try.prog) (T := T) T_ok (f := 8) (r := .any) [9, 25, 3] args.toList ds p (by kernel_rfl) hA (fun j t v ht hv => hval j t v (by simpa using ht) (by simpa using hv)) (sized5 hwt)
  have hback := fun W' hb => below_trodAll (P := Try.prog) (enc := enc) laid5 (W := W) (W' := W') hb [9, 25, 3] args.toList ds p (by kernel_rfl) hA
  obtain ⟨v0, w0, d0, e0, p0, q0, hv0, rfl, rfl, _, r0⟩ := trodAll_cons hA
  obtain ⟨v1, w1, d1, e1, p1, q1, rfl, rfl, rfl, _, r1⟩ := trodAll_cons r0
  obtain ⟨v2, w2, d2, e2, p2, q2, rfl, rfl, rfl, _, r2⟩ := trodAll_cons r1
  obtain ⟨rfl, rfl, rfl⟩ := trodAll_nil r2
  clear hA0 hval0
  have hs := Spec.call (w := W) hsh (law5_spec dss hty) (vs := args.toList) hh
  rw [Array.toArray_toList] at hs
  refine hs.mono fun e W' ⟨he, bel⟩ => ?_
  subst he
  exact ⟨_, rfl, _, _, _, [], _, [], hW', trodAll_mk1 (shut_bool Try.underlying4 _), hback W' bel, rfl, bel.frame _, fun h => by cases h⟩
theorem over5 : Rows.lexerMatchesReferenceRow.holds Try.pinned (OpenSpec.ofChange Rows.lexerMatchesReferenceSpec) :=
  OpenClaim.holds_of_wide 5 Try.f5 rfl rfl rfl rfl rfl rfl rfl ⟨rfl, rfl, rfl, rfl, rfl⟩ rfl rfl rfl rfl rfl (by kernel_rfl) Try.func5 (by kernel_rfl)
    (of_decide_eq_true (by kernel_rfl)) (by unfold Func.isWrapper; first | (rw [if_pos (by decide +kernel)]; kernel_rfl) | (rw [if_neg (by decide +kernel)]; exact ⟨rfl, rfl⟩))
    (fun os started H enc _ => lifted5 os started H enc)
end Go.Proofs.Ytnppegglggcceaa.A
namespace Go.Proofs.Ytnppegglggcceaa
theorem lexerMatchesReference_holds : Rows.LexerMatchesReferenceSaid := A.over5
#print axioms lexerMatchesReference_holds
end Go.Proofs.Ytnppegglggcceaa
