/- Plain: words and numbers, as the program and as the reference see them; signs. -/
import Derived.Test.YtnppegglggcceaaV6
set_option linter.unusedVariables false
set_option linter.unusedSimpArgs false
namespace Go.Proofs.Ytnppegglggcceaa.A
def cntB (p : Nat → Bool) : Nat → Nat
  | 0 => 0
  | k + 1 => cntB p k + if p k = true then 1 else 0
theorem cntB_mono (p : Nat → Bool) {i : Nat} : ∀ {k : Nat}, i ≤ k → cntB p i ≤ cntB p k
  | 0, h => by have : i = 0 := by omega
               subst this; exact Nat.le_refl _
  | k + 1, h => by
    rcases Nat.lt_or_ge i (k + 1) with hl | hg
    · have := cntB_mono p (i := i) (k := k) (by omega)
      simp only [cntB]; omega
    · have : i = k + 1 := by omega
      subst this; exact Nat.le_refl _
theorem cntB_two {p : Nat → Bool} {i j k : Nat} (hij : i < j) (hjk : j < k) (hi : p i = true) (hj : p j = true) : 2 ≤ cntB p k := by
  have h1 := cntB_mono p (i := i + 1) (k := j) (by omega)
  have h2 := cntB_mono p (i := j + 1) (k := k) (by omega)
  have e1 : cntB p (i + 1) = cntB p i + 1 := by simp only [cntB, if_pos hi]
  have e2 : cntB p (j + 1) = cntB p j + 1 := by simp only [cntB, if_pos hj]
  omega
theorem cntB_one {p : Nat → Bool} {n : Nat} : ∀ {k : Nat}, (∀ j, j < k → p j = true → j = n) → cntB p k ≤ (if n < k then 1 else 0)
  | 0, _ => by simp [cntB]
  | k + 1, h => by
    have ih := cntB_one (p := p) (n := n) (k := k) fun j hj => h j (by omega)
    simp only [cntB]
    by_cases hp : p k = true
    · have := h k (by omega) hp
      subst this
      rw [if_pos hp, if_pos (by omega)]
      rw [if_neg (by omega)] at ih; omega
    · rw [if_neg hp]
      split at ih
      · rw [if_pos (by omega)]; omega
      · split <;> omega
theorem runN_get {p : UInt8 → Bool} : ∀ {l : Bs} {i : Nat}, i < runN p l → p (l.getD i 0) = true
  | [], i, h => by simp [runN] at h
  | b :: l, i, h => by
    simp only [runN] at h
    split at h
    · rename_i hp
      cases i with
      | zero => exact hp
      | succ i => rw [List.getD_cons_succ]; exact runN_get (by omega)
    · omega
theorem all_get {p : UInt8 → Bool} {l : Bs} : l.all p = true ↔ ∀ i, i < l.length → p (l.getD i 0) = true := by
  rw [List.all_eq_true]
  constructor
  · intro h i hi
    rw [List.getD_eq_getElem?_getD, List.getElem?_eq_getElem hi]
    exact h _ (List.getElem_mem hi)
  · intro h b hb
    obtain ⟨i, hi, rfl⟩ := List.getElem_of_mem hb
    have := h i hi
    rwa [List.getD_eq_getElem?_getD, List.getElem?_eq_getElem hi] at this
/-- A point inside. -/
def pointB (c : Bs) (i : Nat) : Bool := c.getD i 0 == 46 && (decide (0 < i) && decide (i + 1 < c.length))
/-- As the reference sees a number. -/
def numR (c : Bs) : Prop := (∀ i, i < c.length → pointB c i = true ∨ digitB (c.getD i 0) = true) ∧ 1 ≤ c.length ∧ c.length ≤ 40 ∧ cntB (pointB c) c.length ≤ 1
theorem pointB_iff {c : Bs} {i : Nat} : pointB c i = true ↔ c.getD i 0 = 46 ∧ 0 < i ∧ i + 1 < c.length := by
  simp only [pointB, Bool.and_eq_true, beq_iff_eq, decide_eq_true_eq]
theorem numR_iff (c : Bs) : numR c ↔ validB 2 c = true := by
  have hle := runN_le digitB c
  simp only [validB, Bool.and_eq_true, decide_eq_true_eq]
  constructor
  · rintro ⟨hok, h1, h40, hpt⟩
    have hhead : digitB (c.getD 0 0) = true := by
      rcases hok 0 (by omega) with h | h
      · exact absurd (pointB_iff.1 h).2.1 (by omega)
      · exact h
    refine ⟨hhead, ?_, h40⟩
    unfold numN; dsimp only
    rcases Nat.lt_or_ge (runN digitB c) c.length with hlt | hge
    · have hs := runN_split digitB c hlt
      have hp : pointB c (runN digitB c) = true := by
        rcases hok _ hlt with h | h
        · exact h
        · rw [hs] at h; cases h
      have hpp := pointB_iff.1 hp
      have hrest : ∀ j, runN digitB c < j → j < c.length → digitB (c.getD j 0) = true := fun j hj hjl => by
        rcases hok j hjl with h | h
        · have := cntB_two hj hjl hp h; omega
        · exact h
      rw [if_pos ⟨hpp.1, hrest _ (by omega) hpp.2.2⟩]
      have hfull : runN digitB (c.drop (runN digitB c + 1)) = (c.drop (runN digitB c + 1)).length := by
        rw [runN_eq_all, all_get]
        intro i hi
        rw [List.length_drop] at hi
        rw [drop_getD]; exact hrest _ (by omega) (by omega)
      rw [hfull, List.length_drop]; omega
    · rw [if_neg]
      · omega
      · rintro ⟨e, -⟩
        rw [getD_out hge] at e; exact absurd e (by decide)
  · rintro ⟨hhead, hn, h40⟩
    have hpos := runN_pos digit0 hhead
    unfold numN at hn; dsimp only at hn
    have hdig : ∀ i, i < runN digitB c → digitB (c.getD i 0) = true := fun i hi => runN_get hi
    have hnp : ∀ i, digitB (c.getD i 0) = true → ¬ pointB c i = true := fun i hi hp => by
      rw [(pointB_iff.1 hp).1] at hi; exact absurd hi (by decide)
    split at hn
    · rename_i hd
      have hlt : runN digitB c + 1 < c.length := by
        apply Classical.byContradiction; intro hc
        have := hd.2
        rw [getD_out (by omega), digit0] at this; cases this
      have hfull : runN digitB (c.drop (runN digitB c + 1)) = (c.drop (runN digitB c + 1)).length := by
        have := runN_le digitB (c.drop (runN digitB c + 1))
        rw [List.length_drop] at this ⊢; omega
      have hrest : ∀ j, runN digitB c < j → j < c.length → digitB (c.getD j 0) = true := fun j hj hjl => by
        have := runN_get (p := digitB) (l := c.drop (runN digitB c + 1)) (i := j - (runN digitB c + 1)) (by rw [hfull, List.length_drop]; omega)
        rwa [drop_getD, show runN digitB c + 1 + (j - (runN digitB c + 1)) = j from by omega] at this
      refine ⟨fun i hi => ?_, by omega, h40, ?_⟩
      · rcases Nat.lt_trichotomy i (runN digitB c) with h | h | h
        · exact .inr (hdig i h)
        · subst h; exact .inl (pointB_iff.2 ⟨hd.1, hpos, hlt⟩)
        · exact .inr (hrest i h hi)
      · have := cntB_one (p := pointB c) (n := runN digitB c) (k := c.length) fun j hj hp => by
          rcases Nat.lt_trichotomy j (runN digitB c) with h | h | h
          · exact absurd hp (hnp j (hdig j h))
          · exact h
          · exact absurd hp (hnp j (hrest j h hj))
        split at this <;> omega
    · refine ⟨fun i hi => .inr (hdig i (by omega)), by omega, h40, ?_⟩
      have := cntB_one (p := pointB c) (n := c.length) (k := c.length) fun j hj hp => absurd hp (hnp j (hdig j (by omega)))
      rw [if_neg (by omega)] at this; omega
/-- As the program sees a word. -/
theorem wordP_iff (c : Bs) : (c ≠ [] ∧ c.length ≤ 16 ∧ letterB (c.getD 0 0) = true ∧ c.all wordB = true) ↔ validB 1 c = true := by
  simp only [validB, Bool.and_eq_true, decide_eq_true_eq, runN_eq_all]
  constructor
  · rintro ⟨-, h1, h2, h3⟩; exact ⟨h2, h3, h1⟩
  · rintro ⟨h1, h2, h3⟩
    refine ⟨?_, h3, h1, h2⟩
    rintro rfl; exact absurd h1 (by decide)
/-- As the reference sees a word. -/
theorem wordR_iff (c : Bs) : ((∀ i, i < c.length → letterB (c.getD i 0) = true ∨ 0 < i ∧ digitB (c.getD i 0) = true) ∧ 1 ≤ c.length ∧ c.length ≤ 16) ↔ validB 1 c = true := by
  rw [← wordP_iff, all_get]
  constructor
  · rintro ⟨h, h1, h2⟩
    refine ⟨?_, h2, ?_, fun i hi => ?_⟩
    · rintro rfl; simp at h1
    · rcases h 0 (by omega) with h | h
      · exact h
      · omega
    · rw [wordB, Bool.or_eq_true]
      rcases h i hi with h | h
      · exact .inl h
      · exact .inr h.2
  · rintro ⟨h1, h2, h3, h4⟩
    have : 1 ≤ c.length := by
      cases c with
      | nil => exact absurd rfl h1
      | cons => simp
    refine ⟨fun i hi => ?_, this, h2⟩
    cases i with
    | zero => exact .inl h3
    | succ i =>
      have := h4 _ hi
      rw [wordB, Bool.or_eq_true] at this
      rcases this with h | h
      · exact .inl h
      · exact .inr ⟨by omega, h⟩
/-- " ( ) , ; : . = < <= + - * " -/
def signsS : Bs := [32, 40, 32, 41, 32, 44, 32, 59, 32, 58, 32, 46, 32, 61, 32, 60, 32, 60, 61, 32, 43, 32, 45, 32, 42, 32]
/-- As the program sees a sign: with blanks around it, it stands in the list. -/
def signAt (c : Bs) (p : Nat) : Bool := ((signsS.drop p).take (c.length + 2)) == (32 :: (c ++ [32]))
theorem sign_fin : ∀ p, p < 27 → ∀ n, n < 27 → (!((signsS.drop (p + 1)).take n).contains 32 && (!((signsS.drop (p + 1)).take n).isEmpty && signAt ((signsS.drop (p + 1)).take n) p)) = true → validB 4 ((signsS.drop (p + 1)).take n) = true := by decide +kernel
theorem signP_iff (c : Bs) : (c ≠ [] ∧ c.contains 32 = false ∧ ∃ p, signAt c p = true) ↔ validB 4 c = true := by
  constructor
  · rintro ⟨h1, h2, p, h3⟩
    have h3' := h3
    simp only [signAt, beq_iff_eq] at h3
    have hl := congrArg List.length h3
    simp only [List.length_take, List.length_drop, List.length_cons, List.length_append, List.length_nil, show signsS.length = 26 from rfl] at hl
    have hc : c = (signsS.drop (p + 1)).take c.length := by
      have h4 : (signsS.drop (p + 1)).take (c.length + 1) = c ++ [32] := by
        have h := congrArg (List.drop 1) h3
        rw [List.drop_take, List.drop_drop] at h
        exact h
      have h5 := congrArg (List.take c.length) h4
      rw [List.take_left, List.take_take, Nat.min_eq_left (Nat.le_succ _)] at h5
      exact h5.symm
    have hf := sign_fin p (by omega) c.length (by omega)
    rw [← hc] at hf
    refine hf ?_
    simp only [Bool.and_eq_true, Bool.not_eq_true', List.isEmpty_eq_false_iff]
    exact ⟨h2, h1, h3'⟩
  · intro h
    simp only [validB, Bool.or_eq_true, decide_eq_true_eq, List.any_eq_true] at h
    rcases h with rfl | ⟨b, hb, rfl⟩
    · exact ⟨by simp, by decide, 16, by decide⟩
    · simp only [signs1, List.mem_cons, List.not_mem_nil, or_false] at hb
      refine ⟨by simp, ?_, ?_⟩
      · rcases hb with rfl | rfl | rfl | rfl | rfl | rfl | rfl | rfl | rfl | rfl | rfl <;> decide
      · rcases hb with rfl | rfl | rfl | rfl | rfl | rfl | rfl | rfl | rfl | rfl | rfl
        · exact ⟨0, by decide⟩
        · exact ⟨2, by decide⟩
        · exact ⟨4, by decide⟩
        · exact ⟨6, by decide⟩
        · exact ⟨8, by decide⟩
        · exact ⟨10, by decide⟩
        · exact ⟨12, by decide⟩
        · exact ⟨14, by decide⟩
        · exact ⟨19, by decide⟩
        · exact ⟨21, by decide⟩
        · exact ⟨23, by decide⟩
end Go.Proofs.Ytnppegglggcceaa.A
