/- Plain: a text as it is scanned. -/
import Derived.Test.YtnppegglggcceaaV10
set_option linter.unusedVariables false
set_option linter.unusedSimpArgs false
namespace Go.Proofs.Ytnppegglggcceaa.A
/-- A text behind its first quote: the content, if it ends; how far the scan gets. The flag: behind a backslash. -/
def scanT : Bool → Bs → Option Bs × Nat
  | _, [] => (none, 0)
  | true, b :: l => if b = 34 ∨ b = 92 then ((scanT false l).1.map (b :: ·), (scanT false l).2 + 1) else (none, 0)
  | false, b :: l => if b = 34 then (some [], 1) else if b = 92 then ((scanT true l).1, (scanT true l).2 + 1) else ((scanT false l).1.map (b :: ·), (scanT false l).2 + 1)
theorem scanT_le : ∀ (e : Bool) (l : Bs), (scanT e l).2 ≤ l.length
  | _, [] => by cases ‹Bool› <;> exact Nat.le_refl _
  | true, b :: l => by
    have := scanT_le false l
    simp only [scanT, List.length_cons]; split <;> simp only <;> omega
  | false, b :: l => by
    have h1 := scanT_le false l
    have h2 := scanT_le true l
    simp only [scanT, List.length_cons]; split
    · simp only; omega
    · split <;> simp only <;> omega
theorem scanT_quote : ∀ (e : Bool) (l : Bs), quoteF e l = (scanT e l).1.map fun c => (c, (scanT e l).2)
  | _, [] => by cases ‹Bool› <;> rfl
  | true, b :: l => by
    have h := scanT_quote false l
    simp only [quoteF, scanT]
    split
    · rw [h]; cases (scanT false l).1 <;> rfl
    · rfl
  | false, b :: l => by
    have h1 := scanT_quote false l
    have h2 := scanT_quote true l
    simp only [quoteF, scanT]
    split
    · rfl
    · split
      · rw [h2]; cases (scanT true l).1 <;> rfl
      · rw [h1]; cases (scanT false l).1 <;> rfl
theorem scanT_len : ∀ (e : Bool) (l : Bs) (c : Bs), (scanT e l).1 = some c → c.length ≤ (scanT e l).2
  | _, [], c, h => by cases ‹Bool› <;> simp [scanT] at h
  | true, b :: l, c, h => by
    simp only [scanT] at h ⊢
    split at h
    · rename_i hb
      rw [if_pos hb]
      cases hq : (scanT false l).1 with
      | none => simp [hq] at h
      | some d =>
        have := scanT_len false l d hq
        simp [hq] at h; subst h; simp; omega
    · simp at h
  | false, b :: l, c, h => by
    simp only [scanT] at h ⊢
    split at h
    · rename_i hb
      simp at h; subst h; simp
    · rename_i hb
      rw [if_neg hb]
      split at h
      · rename_i hc
        rw [if_pos hc]
        have := scanT_len true l c h
        simp only; omega
      · rename_i hc
        rw [if_neg hc]
        cases hq : (scanT false l).1 with
        | none => simp [hq] at h
        | some d =>
          have := scanT_len false l d hq
          simp [hq] at h; subst h; simp; omega
/-- What the scan yields: a byte that no text has stands for a fault. -/
def textC (o : Option Bs) : Bs := o.getD [0]
end Go.Proofs.Ytnppegglggcceaa.A
