/- Plain: a lexer over lists of bytes. -/
set_option linter.unusedVariables false
set_option linter.unusedSimpArgs false
namespace Go.Proofs.Ytnppegglggcceaa.A
abbrev Bs := List UInt8
def letterB (b : UInt8) : Bool := decide (97 ≤ b) && decide (b ≤ 122)
def digitB (b : UInt8) : Bool := decide (48 ≤ b) && decide (b ≤ 57)
def wordB (b : UInt8) : Bool := letterB b || digitB b
def wsB (b : UInt8) : Bool := b == 32 || b == 9 || b == 10
/-- The white space ahead; the flag: in a comment. -/
def skipF : Bool → Bs → Nat
  | _, [] => 0
  | true, b :: l => 1 + skipF (b != 10) l
  | false, b :: l => if wsB b = true then 1 + skipF false l else if b = 35 then 1 + skipF true l else 0
/-- How many bytes ahead satisfy a condition. -/
def runN (p : UInt8 → Bool) : Bs → Nat
  | [] => 0
  | b :: l => if p b = true then 1 + runN p l else 0
theorem runN_le (p : UInt8 → Bool) : ∀ l, runN p l ≤ l.length
  | [] => Nat.le_refl _
  | b :: l => by
    have := runN_le p l
    simp only [runN, List.length_cons]; split <;> omega
theorem runN_take (p : UInt8 → Bool) : ∀ (l : Bs) (m : Nat), runN p l ≤ m → runN p (l.take m) = runN p l
  | [], m, _ => by simp [runN]
  | b :: l, 0, h => by
    simp only [runN] at h ⊢
    split at h
    · omega
    · rename_i hp; simp [runN, hp]
  | b :: l, m + 1, h => by
    simp only [runN, List.take_succ_cons] at h ⊢
    split at h
    · rename_i hp
      rw [if_pos hp, if_pos hp, runN_take p l m (by omega)]
    · rename_i hp
      rw [if_neg hp, if_neg hp]
theorem skipF_le : ∀ (c : Bool) (l : Bs), skipF c l ≤ l.length
  | _, [] => by cases ‹Bool› <;> exact Nat.le_refl _
  | true, b :: l => by have := skipF_le (b != 10) l; simp only [skipF, List.length_cons]; omega
  | false, b :: l => by
    have h1 := skipF_le true l
    have h2 := skipF_le false l
    simp only [skipF, List.length_cons]; split
    · omega
    · split <;> omega
theorem skipF_take : ∀ (c : Bool) (l : Bs) (m : Nat), skipF c l ≤ m → skipF c (l.take m) = skipF c l
  | c, [], m, _ => by simp
  | true, b :: l, 0, h => by simp only [skipF] at h; omega
  | false, b :: l, 0, h => by
    simp only [skipF] at h
    simp only [skipF, List.take_zero]
    split at h
    · omega
    · split at h
      · omega
      · rename_i h1 h2; rw [if_neg h1, if_neg h2]
  | true, b :: l, m + 1, h => by
    simp only [skipF, List.take_succ_cons] at h ⊢
    rw [skipF_take _ l m (by omega)]
  | false, b :: l, m + 1, h => by
    simp only [skipF, List.take_succ_cons] at h ⊢
    split at h
    · rename_i h1; rw [if_pos h1, if_pos h1, skipF_take false l m (by omega)]
    · rename_i h1
      split at h
      · rename_i h2; rw [if_neg h1, if_neg h1, if_pos h2, if_pos h2, skipF_take true l m (by omega)]
      · rename_i h2; rw [if_neg h1, if_neg h1, if_neg h2, if_neg h2]
/-- A text's content, and the bytes behind its first quote, with the last one. -/
def quoteF : Bool → Bs → Option (Bs × Nat)
  | _, [] => none
  | true, b :: l => if b = 34 ∨ b = 92 then (quoteF false l).map fun x => (b :: x.1, x.2 + 1) else none
  | false, b :: l => if b = 34 then some ([], 1) else if b = 92 then (quoteF true l).map fun x => (x.1, x.2 + 1) else (quoteF false l).map fun x => (b :: x.1, x.2 + 1)
theorem quoteF_le : ∀ (e : Bool) (l : Bs) (x : Bs × Nat), quoteF e l = some x → x.2 ≤ l.length
  | _, [], x, h => by cases ‹Bool› <;> simp [quoteF] at h
  | true, b :: l, x, h => by
    simp only [quoteF] at h
    split at h
    · cases hq : quoteF false l with
      | none => rw [hq] at h; simp at h
      | some y => rw [hq] at h; simp at h; have := quoteF_le false l y hq; subst h; simp; omega
    · cases h
  | false, b :: l, x, h => by
    simp only [quoteF] at h
    split at h
    · simp at h; subst h; simp
    · split at h
      · cases hq : quoteF true l with
        | none => rw [hq] at h; simp at h
        | some y => rw [hq] at h; simp at h; have := quoteF_le true l y hq; subst h; simp; omega
      · cases hq : quoteF false l with
        | none => rw [hq] at h; simp at h
        | some y => rw [hq] at h; simp at h; have := quoteF_le false l y hq; subst h; simp; omega
theorem quoteF_take : ∀ (e : Bool) (l : Bs) (m : Nat) (x : Bs × Nat), quoteF e l = some x → x.2 ≤ m → quoteF e (l.take m) = some x
  | _, [], m, x, h, _ => by cases ‹Bool› <;> simp [quoteF] at h
  | true, b :: l, m, x, h, hm => by
    simp only [quoteF] at h
    split at h
    · rename_i hb
      cases hq : quoteF false l with
      | none => rw [hq] at h; simp at h
      | some y =>
        rw [hq] at h; simp at h; subst h
        obtain ⟨m, rfl⟩ : ∃ k, m = k + 1 := ⟨m - 1, by simp at hm; omega⟩
        simp only [List.take_succ_cons, quoteF, if_pos hb, quoteF_take false l m y hq (by simp at hm; omega)]
        rfl
    · cases h
  | false, b :: l, m, x, h, hm => by
    simp only [quoteF] at h
    split at h
    · rename_i hb
      simp at h; subst h
      obtain ⟨m, rfl⟩ : ∃ k, m = k + 1 := ⟨m - 1, by simp at hm; omega⟩
      simp only [List.take_succ_cons, quoteF, if_pos hb]
    · rename_i hb
      split at h
      · rename_i hc
        cases hq : quoteF true l with
        | none => rw [hq] at h; simp at h
        | some y =>
          rw [hq] at h; simp at h; subst h
          obtain ⟨m, rfl⟩ : ∃ k, m = k + 1 := ⟨m - 1, by simp at hm; omega⟩
          simp only [List.take_succ_cons, quoteF, if_neg hb, if_pos hc, quoteF_take true l m y hq (by simp at hm; omega)]
          rfl
      · rename_i hc
        cases hq : quoteF false l with
        | none => rw [hq] at h; simp at h
        | some y =>
          rw [hq] at h; simp at h; subst h
          obtain ⟨m, rfl⟩ : ∃ k, m = k + 1 := ⟨m - 1, by simp at hm; omega⟩
          simp only [List.take_succ_cons, quoteF, if_neg hb, if_neg hc, quoteF_take false l m y hq (by simp at hm; omega)]
          rfl
/-- A number's length, without and with places. -/
def numN (l : Bs) : Nat := let n := runN digitB l; if l.getD n 0 = 46 ∧ digitB (l.getD (n + 1) 0) = true then n + 1 + runN digitB (l.drop (n + 1)) else n
def signs1 : Bs := [40, 41, 44, 59, 58, 46, 61, 60, 43, 45, 42]
/-- The token at the beginning of a source that is not empty and does not begin with white space: kind, content, length. -/
def tokB (l : Bs) : Option (Nat × Bs × Nat) := match l with
  | [] => none
  | b :: l' =>
    if letterB b = true then (if runN wordB l ≤ 16 then some (1, l.take (runN wordB l), runN wordB l) else none)
    else if digitB b = true then (if letterB (l.getD (numN l) 0) = true then none else if numN l ≤ 40 then some (2, l.take (numN l), numN l) else none)
    else if b = 34 then match quoteF false l' with
      | none => none
      | some x => if x.1.length ≤ 40 ∧ x.1.all (fun b => decide (32 ≤ b) && decide (b ≤ 126)) = true then some (3, x.1, x.2 + 1) else none
    else if b = 60 ∧ l'.getD 0 0 = 61 then some (4, [60, 61], 2)
    else if b ∈ signs1 then some (4, [b], 1) else none
end Go.Proofs.Ytnppegglggcceaa.A
