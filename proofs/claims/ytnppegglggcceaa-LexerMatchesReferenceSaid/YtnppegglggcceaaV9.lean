/- Plain: scanning first, then asking whether the token is valid. -/
import Derived.Test.YtnppegglggcceaaV8
set_option linter.unusedVariables false
set_option linter.unusedSimpArgs false
namespace Go.Proofs.Ytnppegglggcceaa.A
def kindB (b : UInt8) : Nat := if letterB b = true then 1 else if digitB b = true then 2 else if b = 34 then 3 else 4
/-- Content and length as they are scanned; a content that no valid token has stands for a fault. -/
def scanB (l : Bs) : Bs × Nat := match l with
  | [] => ([], 0)
  | b :: l' =>
    if letterB b = true then (l.take (runN wordB l), runN wordB l)
    else if digitB b = true then (if letterB (l.getD (numN l) 0) = true then [] else l.take (numN l), numN l)
    else if b = 34 then match quoteF false l' with
      | none => ([0], 0)
      | some x => (x.1, x.2 + 1)
    else if b = 60 ∧ l'.getD 0 0 = 61 then ([60, 61], 2) else ([b], 1)
theorem valid4_one (b : UInt8) : validB 4 [b] = true ↔ b ∈ signs1 := by
  simp only [validB, Bool.or_eq_true, decide_eq_true_eq, List.any_eq_true]
  constructor
  · rintro (h | ⟨x, hx, h⟩)
    · exact absurd (congrArg List.length h) (by simp)
    · injection h with h1 h2; rw [h1]; exact hx
  · intro h; exact .inr ⟨b, h, rfl⟩
theorem tokB_scan {b : UInt8} {l : Bs} : tokB (b :: l) = if validB (kindB b) (scanB (b :: l)).1 = true then some (kindB b, scanB (b :: l)) else none := by
  have hw1 := runN_take wordB (b :: l) _ (Nat.le_refl _)
  have hw2 := runN_le wordB (b :: l)
  have hn1 := numN_take (l := b :: l) (Nat.le_refl _)
  have hn2 := numN_le (b :: l)
  by_cases h1 : letterB b = true
  · have hp : 1 ≤ runN wordB (b :: l) := runN_pos (by decide) (show wordB b = true by rw [wordB, h1]; rfl)
    have hv : validB 1 ((b :: l).take (runN wordB (b :: l))) = decide (runN wordB (b :: l) ≤ 16) := by
      rw [Bool.eq_iff_iff, decide_eq_true_eq]
      simp only [validB, Bool.and_eq_true, decide_eq_true_eq]
      rw [getD_take, if_pos (by omega), hw1, List.length_take, Nat.min_eq_left hw2]
      exact ⟨fun h => h.2.2, fun h => ⟨h1, rfl, h⟩⟩
    simp only [tokB, kindB, scanB, if_pos h1, hv, decide_eq_true_eq]
  · by_cases h2 : digitB b = true
    · have hp : 1 ≤ numN (b :: l) := Nat.le_trans (runN_pos digit0 (l := b :: l) h2) (numN_ge _)
      have hv : validB 2 ((b :: l).take (numN (b :: l))) = decide (numN (b :: l) ≤ 40) := by
        rw [Bool.eq_iff_iff, decide_eq_true_eq]
        simp only [validB, Bool.and_eq_true, decide_eq_true_eq]
        rw [getD_take, if_pos (by omega), hn1, List.length_take, Nat.min_eq_left hn2]
        exact ⟨fun h => h.2.2, fun h => ⟨h2, rfl, h⟩⟩
      simp only [tokB, kindB, scanB, if_neg h1, if_pos h2]
      by_cases h3 : letterB ((b :: l).getD (numN (b :: l)) 0) = true
      · simp only [if_pos h3]
        rw [if_neg (by decide)]
      · simp only [if_neg h3, hv, decide_eq_true_eq]
    · by_cases h3 : b = 34
      · simp only [tokB, kindB, scanB, if_neg h1, if_neg h2, if_pos h3]
        cases hq : quoteF false l with
        | none => simp only [if_neg (show ¬ validB 3 [0] = true by decide)]
        | some x =>
          simp only [validB, Bool.and_eq_true, decide_eq_true_eq]
          rfl
      · by_cases h4 : b = 60 ∧ l.getD 0 0 = 61
        · simp only [tokB, kindB, scanB, if_neg h1, if_neg h2, if_neg h3, if_pos h4]
          rw [if_pos (by decide)]
        · simp only [tokB, kindB, scanB, if_neg h1, if_neg h2, if_neg h3, if_neg h4, valid4_one]
end Go.Proofs.Ytnppegglggcceaa.A
