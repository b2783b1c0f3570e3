/- Plain: two sources with a line feed in between; tokens and their spellings. -/
import Derived.Test.YtnppegglggcceaaV1
set_option linter.unusedVariables false
set_option linter.unusedSimpArgs false
namespace Go.Proofs.Ytnppegglggcceaa.A
theorem getD_app (l r : Bs) (i : Nat) : (l ++ 10 :: r).getD i 0 = if i < l.length then l.getD i 0 else if i = l.length then 10 else r.getD (i - l.length - 1) 0 := by
  simp only [List.getD_eq_getElem?_getD, List.getElem?_append]
  split
  · rfl
  · split
    · rename_i e; rw [e, Nat.sub_self]; rfl
    · obtain ⟨j, hj⟩ : ∃ j, i - l.length = j + 1 := ⟨i - l.length - 1, by omega⟩
      rw [hj, List.getElem?_cons_succ, Nat.add_sub_cancel]
theorem runN_app {p : UInt8 → Bool} (h : p 10 = false) (r : Bs) : ∀ l, runN p (l ++ 10 :: r) = runN p l
  | [] => by simp [runN, h]
  | b :: l => by
    simp only [List.cons_append, runN, runN_app h r l]
theorem skipF_ap (r : Bs) : ∀ (c : Bool) (l : Bs), (skipF c l = l.length ∧ skipF c (l ++ 10 :: r) = l.length + 1 + skipF false r) ∨ (skipF c l < l.length ∧ skipF c (l ++ 10 :: r) = skipF c l)
  | true, [] => by
    left
    refine ⟨rfl, ?_⟩
    show 1 + skipF false r = _
    simp
  | false, [] => by
    left
    refine ⟨rfl, ?_⟩
    show 1 + skipF false r = _
    simp
  | true, b :: l => by
    simp only [List.cons_append, skipF, List.length_cons]
    rcases skipF_ap r (b != 10) l with ⟨h1, h2⟩ | ⟨h1, h2⟩
    · left; omega
    · right; omega
  | false, b :: l => by
    simp only [List.cons_append, skipF, List.length_cons]
    by_cases hb : wsB b = true
    · simp only [if_pos hb]
      rcases skipF_ap r false l with ⟨h1, h2⟩ | ⟨h1, h2⟩
      · left; omega
      · right; omega
    · simp only [if_neg hb]
      by_cases hc : b = 35
      · simp only [if_pos hc]
        rcases skipF_ap r true l with ⟨h1, h2⟩ | ⟨h1, h2⟩
        · left; omega
        · right; omega
      · simp only [if_neg hc]
        right; exact ⟨by omega, trivial⟩
theorem skipF_app (r : Bs) (c : Bool) (l : Bs) : skipF c (l ++ 10 :: r) = if skipF c l = l.length then l.length + 1 + skipF false r else skipF c l := by
  rcases skipF_ap r c l with ⟨h1, h2⟩ | ⟨h1, h2⟩
  · rw [if_pos h1, h2]
  · rw [if_neg (by omega), h2]
theorem quoteF_app (r : Bs) : ∀ (e : Bool) (l : Bs) (x : Bs × Nat), quoteF e l = some x → quoteF e (l ++ 10 :: r) = some x
  | _, [], x, h => by cases ‹Bool› <;> simp [quoteF] at h
  | true, b :: l, x, h => by
    simp only [quoteF, List.cons_append] at h ⊢
    split at h
    · rename_i hb
      rw [if_pos hb]
      cases hq : quoteF false l with
      | none => rw [hq] at h; simp at h
      | some y => rw [hq] at h; rw [quoteF_app r false l y hq]; exact h
    · cases h
  | false, b :: l, x, h => by
    simp only [quoteF, List.cons_append] at h ⊢
    split at h
    · rename_i hb; rw [if_pos hb]; exact h
    · rename_i hb
      rw [if_neg hb]
      split at h
      · rename_i hc
        rw [if_pos hc]
        cases hq : quoteF true l with
        | none => rw [hq] at h; simp at h
        | some y => rw [hq] at h; rw [quoteF_app r true l y hq]; exact h
      · rename_i hc
        rw [if_neg hc]
        cases hq : quoteF false l with
        | none => rw [hq] at h; simp at h
        | some y => rw [hq] at h; rw [quoteF_app r false l y hq]; exact h
theorem numN_app (l r : Bs) : numN (l ++ 10 :: r) = numN l := by
  have hr := runN_app (p := digitB) (by decide) r l
  have hle := runN_le digitB l
  unfold numN
  dsimp only
  rw [hr, getD_app, getD_app]
  by_cases hd : l.getD (runN digitB l) 0 = 46 ∧ digitB (l.getD (runN digitB l + 1) 0) = true
  · have h3 : runN digitB l + 1 < l.length := by
      apply Classical.byContradiction; intro hc
      have := hd.2
      rw [getD_out (by omega), digit0] at this; cases this
    rw [if_pos hd, if_pos (show runN digitB l < l.length by omega), if_pos h3, if_pos hd, List.drop_append_of_le_length (by omega), runN_app (by decide)]
  · rw [if_neg hd, if_neg]
    rintro ⟨h1, h2⟩
    split at h1
    · split at h2
      · exact hd ⟨h1, h2⟩
      · split at h2
        · exact absurd h2 (by decide)
        · omega
    · split at h1
      · exact absurd h1 (by decide)
      · omega
theorem tokB_app {l : Bs} {x : Nat × Bs × Nat} (r : Bs) (h : tokB l = some x) : tokB (l ++ 10 :: r) = some x := by
  cases l with
  | nil => cases h
  | cons b l' =>
    have hr := runN_app (p := wordB) (by decide) r (b :: l')
    have hn := numN_app (b :: l') r
    have hg := getD_app (b :: l') r (numN (b :: l'))
    have hrl := runN_le wordB (b :: l')
    have hnl := numN_le (b :: l')
    have hw : (b :: l' ++ 10 :: r).take (runN wordB (b :: l')) = (b :: l').take (runN wordB (b :: l')) := List.take_append_of_le_length hrl
    have hnt : (b :: l' ++ 10 :: r).take (numN (b :: l')) = (b :: l').take (numN (b :: l')) := List.take_append_of_le_length hnl
    rw [List.cons_append] at hr hn hg hw hnt ⊢
    simp only [tokB] at h ⊢
    rw [hr, hn, hw, hnt, hg]
    split at h
    · rename_i hb; rw [if_pos hb]; exact h
    · rename_i hb
      rw [if_neg hb]
      split at h
      · rename_i hd
        rw [if_pos hd]
        split at h
        · cases h
        · rename_i hl
          rw [if_neg]
          · exact h
          · split
            · exact hl
            · split
              · decide
              · omega
      · rename_i hd
        rw [if_neg hd]
        split at h
        · rename_i hq
          rw [if_pos hq]
          split at h
          · cases h
          · rename_i y hy
            rw [quoteF_app r _ _ _ hy]
            exact h
        · rename_i hq
          rw [if_neg hq]
          have hg0 := getD_app l' r 0
          split at h
          · rename_i hs
            rw [if_pos ⟨hs.1, by
              have h0 : 0 < l'.length := by
                apply Classical.byContradiction; intro hc
                have h2 := hs.2
                rw [getD_out (by omega)] at h2; cases h2
              rw [hg0, if_pos h0]; exact hs.2⟩]
            exact h
          · rename_i hs
            rw [if_neg]
            · exact h
            · rintro ⟨e1, e2⟩
              rw [hg0] at e2
              split at e2
              · exact hs ⟨e1, e2⟩
              · split at e2
                · cases e2
                · omega
/-- From an offset on, with white space ahead. -/
def lexS (f a : Nat) (l : Bs) : List Tk × Option Nat := lexTk f (a + skipF false l) (l.drop (skipF false l))
theorem lexB_S (s : Bs) : lexB s = lexS (s.length + 1) 0 s := by rw [lexB, lexS, Nat.zero_add]
theorem lexS_fuel (f g a : Nat) (l : Bs) (hf : l.length < f) (hg : l.length < g) : lexS f a l = lexS g a l :=
  lexTk_fuel _ _ _ _ (by rw [List.length_drop]; omega) (by rw [List.length_drop]; omega)
theorem lexTk_S (f a : Nat) (l : Bs) : lexTk (f + 1) a l = if l = [] then ([], none) else match tokB l with
    | none => ([], some a)
    | some x => ((x.1, x.2.1, a) :: (lexS f (a + x.2.2) (l.drop x.2.2)).1, (lexS f (a + x.2.2) (l.drop x.2.2)).2) := rfl
theorem lexS_app : ∀ (f a : Nat) (l r : Bs), l.length < f → (lexS f a l).2 = none →
    lexS (f + r.length + 1) a (l ++ 10 :: r) = ((lexS f a l).1 ++ (lexS (r.length + 1) (a + l.length + 1) r).1, (lexS (r.length + 1) (a + l.length + 1) r).2)
  | 0, _, _, _, h, _ => by omega
  | f + 1, a, l, r, hf, hn => by
    have hsk := skipF_app r false l
    have hle := skipF_le false l
    by_cases hm : skipF false l = l.length
    · rw [if_pos hm] at hsk
      have hlt : lexS (f + 1) a l = ([], none) := by
        unfold lexS
        rw [hm, List.drop_length, lexTk_S, if_pos rfl]
      rw [hlt, List.nil_append]
      have h1 : (l ++ 10 :: r).drop (skipF false (l ++ 10 :: r)) = r.drop (skipF false r) := by
        rw [hsk, List.drop_append, List.drop_eq_nil_of_le (by omega), List.nil_append, show l.length + 1 + skipF false r - l.length = skipF false r + 1 from by omega, List.drop_succ_cons]
      have h2 : lexS (f + 1 + r.length + 1) a (l ++ 10 :: r) = lexS (r.length + 1) (a + l.length + 1) r := by
        unfold lexS
        rw [h1, hsk, show a + (l.length + 1 + skipF false r) = a + l.length + 1 + skipF false r from by omega]
        exact lexTk_fuel _ _ _ _ (by rw [List.length_drop]; omega) (by rw [List.length_drop]; omega)
      rw [h2]
    · rw [if_neg hm] at hsk
      have hd : (l ++ 10 :: r).drop (skipF false l) = l.drop (skipF false l) ++ 10 :: r := List.drop_append_of_le_length hle
      have hne : l.drop (skipF false l) ≠ [] := fun e => hm (by
        have := congrArg List.length e
        rw [List.length_drop] at this; simp at this; omega)
      unfold lexS at hn ⊢
      rw [hsk, hd, show f + 1 + r.length + 1 = (f + r.length + 1) + 1 from by omega, lexTk_S, lexTk_S, if_neg hne, if_neg (by simp)]
      rw [lexTk_S, if_neg hne] at hn
      have hdl : (l.drop (skipF false l)).length = l.length - skipF false l := List.length_drop ..
      cases ht : tokB (l.drop (skipF false l)) with
      | none => rw [ht] at hn; simp at hn
      | some x =>
        rw [ht] at hn
        rw [tokB_app r ht]
        simp only at hn ⊢
        obtain ⟨k, c, n⟩ := x
        have hnl := tokB_len ht
        simp only at hn ⊢
        have hd2 : (l.drop (skipF false l) ++ 10 :: r).drop n = (l.drop (skipF false l)).drop n ++ 10 :: r := List.drop_append_of_le_length hnl.2
        have hll : ((l.drop (skipF false l)).drop n).length = l.length - skipF false l - n := by simp only [List.length_drop]
        rw [hd2, lexS_app f _ _ r (by omega) hn]
        rw [hll, show a + skipF false l + n + (l.length - skipF false l - n) + 1 = a + l.length + 1 from by omega]
        rfl
theorem lexB_app {a : Bs} (b : Bs) (h : (lexB a).2 = none) : lexB (a ++ 10 :: b) = ((lexB a).1 ++ (shiftT (a.length + 1) (lexB b)).1, (shiftT (a.length + 1) (lexB b)).2) := by
  rw [lexB_S] at h ⊢
  have h1 := lexS_app (a.length + 1) 0 a b (by omega) h
  have h2 : lexS (b.length + 1) (0 + a.length + 1) b = shiftT (a.length + 1) (lexB b) := by
    rw [lexB_S, lexS, lexS, ← lexTk_shift]
    congr 1; omega
  rw [h2] at h1
  rw [lexB_S a, ← h1]
  exact lexS_fuel _ _ _ _ (by omega) (by simp only [List.length_append, List.length_cons]; omega)
end Go.Proofs.Ytnppegglggcceaa.A
