/- Plain: tokens of a beginning of a source; errors. -/
import Derived.Test.YtnppegglggcceaaV0
set_option linter.unusedVariables false
set_option linter.unusedSimpArgs false
namespace Go.Proofs.Ytnppegglggcceaa.A
theorem getD_take (l : Bs) (m i : Nat) : (l.take m).getD i 0 = if i < m then l.getD i 0 else 0 := by
  simp only [List.getD_eq_getElem?_getD, List.getElem?_take]
  split <;> rfl
theorem getD_out {l : Bs} {i : Nat} (h : l.length ≤ i) : l.getD i 0 = 0 := by
  rw [List.getD_eq_getElem?_getD, List.getElem?_eq_none h]; rfl
theorem runN_pos {p : UInt8 → Bool} {l : Bs} (h0 : p 0 = false) (h : p (l.getD 0 0) = true) : 1 ≤ runN p l := by
  cases l with
  | nil => rw [List.getD_eq_getElem?_getD] at h; simp [h0] at h
  | cons b l =>
    have : p b = true := h
    simp only [runN, if_pos this]; omega
theorem drop_getD (l : Bs) (n i : Nat) : (l.drop n).getD i 0 = l.getD (n + i) 0 := by
  simp only [List.getD_eq_getElem?_getD, List.getElem?_drop]
theorem digit0 : digitB 0 = false := by decide
theorem letter0 : letterB 0 = false := by decide
theorem numN_ge (l : Bs) : runN digitB l ≤ numN l := by
  unfold numN; dsimp only; split <;> omega
theorem numN_le (l : Bs) : numN l ≤ l.length := by
  unfold numN; dsimp only
  have h1 := runN_le digitB l
  split
  · rename_i h
    have h2 := runN_le digitB (l.drop (runN digitB l + 1))
    rw [List.length_drop] at h2
    have h3 : runN digitB l + 1 < l.length := by
      apply Classical.byContradiction; intro hc
      have := h.2
      rw [getD_out (by omega), digit0] at this; cases this
    omega
  · exact h1
theorem numN_take {l : Bs} {m : Nat} (h : numN l ≤ m) : numN (l.take m) = numN l := by
  have hr := runN_take digitB l m (Nat.le_trans (numN_ge l) h)
  unfold numN at h ⊢
  dsimp only at h ⊢
  rw [hr, getD_take, getD_take]
  split at h
  · rename_i hd
    have hp := runN_pos digit0 (l := l.drop (runN digitB l + 1)) (by rw [drop_getD]; exact hd.2)
    rw [if_pos (show runN digitB l < m by omega), if_pos (show runN digitB l + 1 < m by omega), if_pos hd, List.drop_take, runN_take _ _ _ (by omega), if_pos hd]
  · rename_i hd
    rw [if_neg hd, if_neg]
    rintro ⟨h1, h2⟩
    split at h2
    · rw [if_pos (by omega)] at h1; exact hd ⟨h1, h2⟩
    · rw [digit0] at h2; cases h2
theorem tokB_len {l : Bs} {k n : Nat} {c : Bs} (h : tokB l = some (k, c, n)) : 1 ≤ n ∧ n ≤ l.length := by
  cases l with
  | nil => cases h
  | cons b l' =>
    simp only [tokB] at h
    split at h
    · rename_i hb
      split at h
      · simp only [Option.some.injEq, Prod.mk.injEq] at h
        obtain ⟨-, -, rfl⟩ := h
        exact ⟨runN_pos (by decide) (show wordB b = true by rw [wordB, hb]; rfl), runN_le _ _⟩
      · cases h
    · split at h
      · rename_i hb
        split at h
        · cases h
        · split at h
          · simp only [Option.some.injEq, Prod.mk.injEq] at h
            obtain ⟨-, -, rfl⟩ := h
            exact ⟨Nat.le_trans (runN_pos digit0 (l := b :: l') hb) (numN_ge _), numN_le _⟩
          · cases h
      · split at h
        · split at h
          · cases h
          · rename_i x hq
            have := quoteF_le _ _ _ hq
            split at h
            · simp only [Option.some.injEq, Prod.mk.injEq] at h
              obtain ⟨-, -, rfl⟩ := h
              simp only [List.length_cons]; omega
            · cases h
        · split at h
          · rename_i hs
            simp only [Option.some.injEq, Prod.mk.injEq] at h
            obtain ⟨-, -, rfl⟩ := h
            have : 0 < l'.length := by
              apply Classical.byContradiction; intro hc
              have h2 := hs.2
              rw [getD_out (by omega)] at h2; cases h2
            simp only [List.length_cons]; omega
          · split at h
            · simp only [Option.some.injEq, Prod.mk.injEq] at h
              obtain ⟨-, -, rfl⟩ := h
              simp
            · cases h
theorem tokB_take {l : Bs} {k n m : Nat} {c : Bs} (h : tokB l = some (k, c, n)) (hm : n ≤ m) : tokB (l.take m) = some (k, c, n) := by
  have hn := tokB_len h
  cases l with
  | nil => cases h
  | cons b l' =>
    obtain ⟨m, rfl⟩ : ∃ j, m = j + 1 := ⟨m - 1, by omega⟩
    rw [List.take_succ_cons]
    simp only [tokB] at h ⊢
    split at h
    · rename_i hb
      rw [if_pos hb]
      split at h
      · rename_i hr
        simp only [Option.some.injEq, Prod.mk.injEq] at h
        obtain ⟨rfl, rfl, rfl⟩ := h
        have ht := runN_take wordB (b :: l') (m + 1) hm
        rw [List.take_succ_cons] at ht
        rw [ht, if_pos hr, ← List.take_succ_cons, List.take_take, Nat.min_eq_left hm]
      · cases h
    · rename_i hb
      rw [if_neg hb]
      split at h
      · rename_i hd
        rw [if_pos hd]
        split at h
        · cases h
        · rename_i hl
          split at h
          · rename_i h40
            simp only [Option.some.injEq, Prod.mk.injEq] at h
            obtain ⟨rfl, rfl, rfl⟩ := h
            have ht := numN_take (l := b :: l') hm
            have hg := getD_take (b :: l') (m + 1) (numN (b :: l'))
            rw [List.take_succ_cons] at ht hg
            rw [ht, hg, if_neg, if_pos h40, ← List.take_succ_cons, List.take_take, Nat.min_eq_left hm]
            split
            · exact hl
            · rw [letter0]; exact Bool.false_ne_true
          · cases h
      · rename_i hd
        rw [if_neg hd]
        split at h
        · rename_i hq
          rw [if_pos hq]
          split at h
          · cases h
          · rename_i x hx
            split at h
            · rename_i hc
              simp only [Option.some.injEq, Prod.mk.injEq] at h
              obtain ⟨rfl, rfl, rfl⟩ := h
              rw [quoteF_take _ _ m x hx (by omega)]
              simp only [if_pos hc]
            · cases h
        · rename_i hq
          rw [if_neg hq]
          split at h
          · rename_i hs
            simp only [Option.some.injEq, Prod.mk.injEq] at h
            obtain ⟨rfl, rfl, rfl⟩ := h
            rw [if_pos ⟨hs.1, by rw [getD_take, if_pos (by omega)]; exact hs.2⟩]
          · rename_i hs
            rw [if_neg (fun e => hs ⟨e.1, by
              have h2 := e.2
              rw [getD_take] at h2
              split at h2
              · exact h2
              · cases h2⟩)]
            exact h
/-- Kind, content, offset. -/
abbrev Tk := Nat × Bs × Nat
/-- The tokens from an offset on, up to an error, and its offset. -/
def lexTk : Nat → Nat → Bs → List Tk × Option Nat
  | 0, _, _ => ([], none)
  | f + 1, a, l => if l = [] then ([], none) else match tokB l with
    | none => ([], some a)
    | some x =>
      let m := skipF false (l.drop x.2.2)
      let y := lexTk f (a + x.2.2 + m) ((l.drop x.2.2).drop m)
      ((x.1, x.2.1, a) :: y.1, y.2)
def lexB (s : Bs) : List Tk × Option Nat := lexTk (s.length + 1) (skipF false s) (s.drop (skipF false s))
theorem lexTk_fuel : ∀ (f g a : Nat) (l : Bs), l.length < f → l.length < g → lexTk f a l = lexTk g a l
  | 0, _, _, _, h, _ => by omega
  | _, 0, _, _, _, h => by omega
  | f + 1, g + 1, a, l, hf, hg => by
    simp only [lexTk]
    split
    · rfl
    · cases ht : tokB l with
      | none => rfl
      | some x =>
        obtain ⟨k, c, n⟩ := x
        have hn := tokB_len ht
        simp only
        rw [lexTk_fuel f g _ _ (by simp only [List.length_drop]; omega) (by simp only [List.length_drop]; omega)]
def shiftT (d : Nat) (x : List Tk × Option Nat) : List Tk × Option Nat := (x.1.map fun t => (t.1, t.2.1, t.2.2 + d), x.2.map (· + d))
theorem lexTk_shift (d : Nat) : ∀ (f a : Nat) (l : Bs), lexTk f (a + d) l = shiftT d (lexTk f a l)
  | 0, _, _ => rfl
  | f + 1, a, l => by
    simp only [lexTk]
    split
    · rfl
    · cases ht : tokB l with
      | none => rfl
      | some x =>
        simp only
        rw [show a + d + x.2.2 + skipF false (l.drop x.2.2) = (a + x.2.2 + skipF false (l.drop x.2.2)) + d from by omega, lexTk_shift d f]
        rfl
theorem lexTk_err : ∀ (f a : Nat) (l : Bs) (p : Nat), (lexTk f a l).2 = some p → a ≤ p ∧ p < a + l.length ∧ lexTk f a (l.take (p - a)) = ((lexTk f a l).1, none)
  | 0, a, l, p, h => by simp [lexTk] at h
  | f + 1, a, l, p, h => by
    simp only [lexTk] at h ⊢
    split at h
    · simp at h
    · rename_i hl
      have hlp : 0 < l.length := by
        cases l with
        | nil => exact absurd rfl hl
        | cons => simp
      rw [if_neg hl]
      cases ht : tokB l with
      | none =>
        rw [ht] at h
        simp only [Option.some.injEq] at h
        subst h
        rw [Nat.sub_self, List.take_zero, if_pos rfl]
        exact ⟨Nat.le_refl _, by omega, rfl⟩
      | some x =>
        obtain ⟨k, c, n⟩ := x
        have hn := tokB_len ht
        rw [ht] at h
        simp only at h ⊢
        obtain ⟨h1, h2, h3⟩ := lexTk_err f _ _ p h
        have hsk := skipF_le false (l.drop n)
        simp only [List.length_drop] at h2 hsk
        refine ⟨by omega, by omega, ?_⟩
        have htk := tokB_take ht (m := p - a) (by omega)
        have hd : (l.take (p - a)).drop n = (l.drop n).take (p - a - n) := by rw [List.drop_take]
        have hs := skipF_take false (l.drop n) (p - a - n) (by omega)
        rw [if_neg (by intro e; rw [e] at htk; cases htk), htk]
        simp only
        rw [hd, hs, List.drop_take, show p - a - n - skipF false (l.drop n) = p - (a + n + skipF false (l.drop n)) from by omega, h3]
theorem lexB_err {s : Bs} {p : Nat} (h : (lexB s).2 = some p) : p < s.length ∧ lexB (s.take p) = ((lexB s).1, none) := by
  unfold lexB at h ⊢
  have hsk := skipF_le false s
  obtain ⟨h1, h2, h3⟩ := lexTk_err _ _ _ _ h
  simp only [List.length_drop] at h2
  refine ⟨by omega, ?_⟩
  rw [skipF_take false s p h1, List.drop_take, ← h3]
  have hl : (s.take p).length = p := by rw [List.length_take]; omega
  apply lexTk_fuel
  · simp only [List.length_take, List.length_drop]; omega
  · simp only [List.length_take, List.length_drop]; omega
theorem lexB_blank (s : Bs) : lexB (32 :: s) = shiftT 1 (lexB s) := by
  unfold lexB
  have h : skipF false (32 :: s) = skipF false s + 1 := by
    simp only [skipF, if_pos (show wsB 32 = true from rfl)]; omega
  rw [h, List.drop_succ_cons, ← lexTk_shift]
  apply lexTk_fuel
  · simp only [List.length_drop, List.length_cons]; omega
  · simp only [List.length_drop]; omega
end Go.Proofs.Ytnppegglggcceaa.A
