/- Plain: valid tokens and their spellings. -/
import Derived.Test.YtnppegglggcceaaV3
set_option linter.unusedVariables false
set_option linter.unusedSimpArgs false
namespace Go.Proofs.Ytnppegglggcceaa.A
def escB : Bs → Bs
  | [] => []
  | b :: l => (if b = 34 ∨ b = 92 then [92, b] else [b]) ++ escB l
def spellB (k : Nat) (c : Bs) : Bs := if k = 3 then 34 :: (escB c ++ [34]) else c
def plainB (c : Bs) : Bool := c.all fun b => decide (32 ≤ b) && decide (b ≤ 126)
def validB (k : Nat) (c : Bs) : Bool := match k with
  | 1 => letterB (c.getD 0 0) && (decide (runN wordB c = c.length) && decide (c.length ≤ 16))
  | 2 => digitB (c.getD 0 0) && (decide (numN c = c.length) && decide (c.length ≤ 40))
  | 3 => decide (c.length ≤ 40) && plainB c
  | 4 => decide (c = [60, 61]) || signs1.any fun b => decide (c = [b])
  | _ => false
/-- What may stand behind a token. -/
def okR (r : Bs) : Prop := r.getD 0 0 = 0 ∨ r.getD 0 0 = 9 ∨ r.getD 0 0 = 10 ∨ r.getD 0 0 = 32 ∨ r.getD 0 0 = 35
theorem okR.no {r : Bs} (h : okR r) : letterB (r.getD 0 0) = false ∧ digitB (r.getD 0 0) = false ∧ r.getD 0 0 ≠ 46 ∧ r.getD 0 0 ≠ 61 := by
  rcases h with h | h | h | h | h <;> rw [h] <;> decide
theorem runN_all {p : UInt8 → Bool} {r : Bs} (h0 : p (r.getD 0 0) = false) : ∀ {l : Bs}, runN p l = l.length → runN p (l ++ r) = l.length
  | [], _ => by
    cases r with
    | nil => rfl
    | cons b r =>
      have : p b = false := h0
      simp [runN, this]
  | b :: l, h => by
    simp only [runN, List.length_cons] at h
    have hp : p b = true := by
      apply Classical.byContradiction; intro hc; rw [if_neg hc] at h; omega
    rw [if_pos hp] at h
    simp only [List.cons_append, runN, List.length_cons, if_pos hp, runN_all h0 (l := l) (by omega)]
    omega
theorem runN_less {p : UInt8 → Bool} (r : Bs) : ∀ {l : Bs}, runN p l < l.length → runN p (l ++ r) = runN p l
  | [], h => by simp [runN] at h
  | b :: l, h => by
    simp only [runN, List.length_cons] at h
    simp only [List.cons_append, runN]
    split
    · rename_i hp
      rw [if_pos hp] at h
      rw [runN_less r (l := l) (by omega)]
    · rfl
theorem getD_ap (l r : Bs) (i : Nat) : (l ++ r).getD i 0 = if i < l.length then l.getD i 0 else r.getD (i - l.length) 0 := by
  simp only [List.getD_eq_getElem?_getD, List.getElem?_append]
  split <;> rfl
theorem numN_all {l r : Bs} (hr : okR r) (h : numN l = l.length) : numN (l ++ r) = l.length := by
  have hno := hr.no
  have hle := runN_le digitB l
  unfold numN at h ⊢
  dsimp only at h ⊢
  split at h
  · rename_i hd
    have hlt : runN digitB l + 1 < l.length := by
      apply Classical.byContradiction; intro hc
      have := hd.2
      rw [getD_out (by omega), digit0] at this; cases this
    rw [runN_less r (by omega), getD_ap, getD_ap, if_pos (show runN digitB l < l.length by omega), if_pos hlt, if_pos hd, List.drop_append_of_le_length (by omega), runN_all hno.2.1 (by rw [List.length_drop]; omega), List.length_drop]
    omega
  · rename_i hd
    rw [runN_all hno.2.1 h, getD_ap, if_neg (Nat.lt_irrefl _), Nat.sub_self, if_neg fun e => hno.2.2.1 e.1]
theorem quoteF_spell (r : Bs) : ∀ c : Bs, quoteF false (escB c ++ 34 :: r) = some (c, (escB c).length + 1)
  | [] => rfl
  | b :: l => by
    simp only [escB]
    split
    · rename_i hb
      simp only [List.cons_append, List.nil_append, quoteF, if_neg (show ¬ (92 : UInt8) = 34 by decide), if_true, if_pos hb, quoteF_spell r l]
      simp
    · rename_i hb
      simp only [List.cons_append, List.nil_append, quoteF, if_neg fun e => hb (.inl e), if_neg fun e => hb (.inr e), quoteF_spell r l]
      simp
theorem sign_no {b : UInt8} (h : b ∈ signs1) : letterB b = false ∧ digitB b = false ∧ b ≠ 34 := by
  simp only [signs1, List.mem_cons, List.not_mem_nil, or_false] at h
  rcases h with rfl | rfl | rfl | rfl | rfl | rfl | rfl | rfl | rfl | rfl | rfl <;> decide
theorem digit_no {b : UInt8} (h : digitB b = true) : letterB b = false := by
  simp only [digitB, letterB, Bool.and_eq_true, decide_eq_true_eq, Bool.and_eq_false_iff, decide_eq_false_iff_not, UInt8.le_iff_toNat_le] at h ⊢
  left
  have := h.2
  simp only [show (57 : UInt8).toNat = 57 from rfl, show (97 : UInt8).toNat = 97 from rfl] at *
  omega
/-- A valid token that is spelled is read. -/
theorem tokB_spell {k : Nat} {c r : Bs} (hv : validB k c = true) (hr : okR r) : tokB (spellB k c ++ r) = some (k, c, (spellB k c).length) := by
  have hno := hr.no
  unfold validB at hv
  split at hv
  · simp only [Bool.and_eq_true, decide_eq_true_eq] at hv
    obtain ⟨h1, h2, h3⟩ := hv
    show tokB (c ++ r) = some (1, c, c.length)
    have hw : wordB (r.getD 0 0) = false := by rw [wordB, hno.1, hno.2.1]; rfl
    have hrun := runN_all hw h2
    cases c with
    | nil => exact absurd h1 (by decide)
    | cons b l =>
      have hb : letterB b = true := h1
      have htk : (b :: l ++ r).take (b :: l).length = b :: l := by simp
      simp only [List.cons_append] at hrun htk ⊢
      simp only [tokB, if_pos hb, hrun, if_pos h3, htk]
  · simp only [Bool.and_eq_true, decide_eq_true_eq] at hv
    obtain ⟨h1, h2, h3⟩ := hv
    show tokB (c ++ r) = some (2, c, c.length)
    have hrun := numN_all hr h2
    cases c with
    | nil => exact absurd h1 (by decide)
    | cons b l =>
      have hb : digitB b = true := h1
      have htk : (b :: l ++ r).take (b :: l).length = b :: l := by simp
      have hg : (b :: l ++ r).getD (b :: l).length 0 = r.getD 0 0 := by rw [getD_ap, if_neg (by omega), Nat.sub_self]
      simp only [List.cons_append] at hrun htk hg ⊢
      simp only [tokB, digit_no hb, if_neg Bool.false_ne_true, if_pos hb, hrun, hg, hno.1, if_pos h3, htk]
  · simp only [Bool.and_eq_true, decide_eq_true_eq] at hv
    show tokB (34 :: (escB c ++ [34]) ++ r) = some (3, c, (34 :: (escB c ++ [34])).length)
    rw [List.cons_append, List.append_assoc, List.singleton_append]
    simp only [tokB, show letterB 34 = false from rfl, show digitB 34 = false from rfl, if_neg Bool.false_ne_true, if_true, quoteF_spell r c]
    rw [if_pos ⟨hv.1, hv.2⟩]
    simp
  · simp only [Bool.or_eq_true, decide_eq_true_eq, List.any_eq_true] at hv
    show tokB (c ++ r) = some (4, c, c.length)
    rcases hv with rfl | ⟨b, hb, rfl⟩
    · rfl
    · have hn := sign_no hb
      have hneq : ¬ (b = 60 ∧ r.getD 0 0 = 61) := fun e => hno.2.2.2 e.2
      simp only [List.cons_append, List.nil_append, tokB, hn.1, hn.2.1, if_neg Bool.false_ne_true, if_neg hn.2.2, if_neg hneq, if_pos hb, List.length_cons, List.length_nil]
  · cases hv
theorem quoteF_esc : ∀ (l : Bs) (x : Bs × Nat), (quoteF false l = some x → l.take x.2 = escB x.1 ++ [34]) ∧ (quoteF true l = some x → 92 :: l.take x.2 = escB x.1 ++ [34])
  | [], x => by constructor <;> (intro h; simp [quoteF] at h)
  | b :: l, x => by
    constructor
    · intro h
      simp only [quoteF] at h
      split at h
      · rename_i hb
        simp at h; subst h; subst hb; rfl
      · rename_i hb
        split at h
        · rename_i hc
          cases hq : quoteF true l with
          | none => rw [hq] at h; simp at h
          | some y =>
            rw [hq] at h; simp at h; subst h
            have := (quoteF_esc l y).2 hq
            rw [← this, hc]; rfl
        · rename_i hc
          cases hq : quoteF false l with
          | none => rw [hq] at h; simp at h
          | some y =>
            rw [hq] at h; simp at h; subst h
            have := (quoteF_esc l y).1 hq
            simp only [List.take_succ_cons, escB, if_neg (show ¬ (b = 34 ∨ b = 92) from fun e => e.elim hb hc), this]
            rfl
    · intro h
      simp only [quoteF] at h
      split at h
      · rename_i hb
        cases hq : quoteF false l with
        | none => rw [hq] at h; simp at h
        | some y =>
          rw [hq] at h; simp at h; subst h
          have := (quoteF_esc l y).1 hq
          simp only [List.take_succ_cons, escB, if_pos hb, this]
          rfl
      · cases h
/-- A token that is read is valid, and stands there as it is spelled. -/
theorem tokB_valid {l : Bs} {k n : Nat} {c : Bs} (h : tokB l = some (k, c, n)) : validB k c = true ∧ spellB k c = l.take n := by
  cases l with
  | nil => cases h
  | cons b l' =>
    simp only [tokB] at h
    split at h
    · rename_i hb
      split at h
      · rename_i hr
        simp only [Option.some.injEq, Prod.mk.injEq] at h
        obtain ⟨rfl, rfl, rfl⟩ := h
        refine ⟨?_, rfl⟩
        have h1 := runN_take wordB (b :: l') _ (Nat.le_refl _)
        have h2 := runN_le wordB (b :: l')
        have h3 : 1 ≤ runN wordB (b :: l') := runN_pos (by decide) (show wordB b = true by rw [wordB, hb]; rfl)
        simp only [validB, Bool.and_eq_true, decide_eq_true_eq]
        refine ⟨by rw [getD_take, if_pos (by omega)]; exact hb, by rw [h1, List.length_take]; omega, by rw [List.length_take]; omega⟩
      · cases h
    · split at h
      · rename_i hb
        split at h
        · cases h
        · split at h
          · rename_i h40
            simp only [Option.some.injEq, Prod.mk.injEq] at h
            obtain ⟨rfl, rfl, rfl⟩ := h
            refine ⟨?_, rfl⟩
            have h1 := numN_take (l := b :: l') (Nat.le_refl _)
            have h2 := numN_le (b :: l')
            have h3 : 1 ≤ numN (b :: l') := Nat.le_trans (runN_pos digit0 (l := b :: l') hb) (numN_ge _)
            simp only [validB, Bool.and_eq_true, decide_eq_true_eq]
            refine ⟨by rw [getD_take, if_pos (by omega)]; exact hb, by rw [h1, List.length_take]; omega, by rw [List.length_take]; omega⟩
          · cases h
      · split at h
        · rename_i hq
          split at h
          · cases h
          · rename_i x hx
            split at h
            · rename_i hc
              simp only [Option.some.injEq, Prod.mk.injEq] at h
              obtain ⟨rfl, rfl, rfl⟩ := h
              refine ⟨?_, ?_⟩
              · simp only [validB, Bool.and_eq_true, decide_eq_true_eq]
                exact ⟨hc.1, hc.2⟩
              · have := (quoteF_esc l' x).1 hx
                show 34 :: (escB x.1 ++ [34]) = _
                rw [List.take_succ_cons, this, hq]
            · cases h
        · split at h
          · rename_i hs
            simp only [Option.some.injEq, Prod.mk.injEq] at h
            obtain ⟨rfl, rfl, rfl⟩ := h
            refine ⟨rfl, ?_⟩
            cases l' with
            | nil => exact absurd hs.2 (by decide)
            | cons b2 l2 =>
              have h61 : b2 = 61 := hs.2
              rw [hs.1, h61]; rfl
          · split at h
            · rename_i hs
              simp only [Option.some.injEq, Prod.mk.injEq] at h
              obtain ⟨rfl, rfl, rfl⟩ := h
              refine ⟨?_, rfl⟩
              simp only [validB, Bool.or_eq_true, decide_eq_true_eq, List.any_eq_true]
              exact .inr ⟨b, hs, rfl⟩
            · cases h
end Go.Proofs.Ytnppegglggcceaa.A
