/- Plain: numbers, as the program and as the reference see them. -/
import Derived.Test.YtnppegglggcceaaV5
set_option linter.unusedVariables false
set_option linter.unusedSimpArgs false
namespace Go.Proofs.Ytnppegglggcceaa.A
theorem runN_eq_all {p : UInt8 → Bool} : ∀ {l : Bs}, runN p l = l.length ↔ l.all p = true
  | [] => by simp [runN]
  | b :: l => by
    have ih := runN_eq_all (p := p) (l := l)
    have hle := runN_le p l
    simp only [runN, List.length_cons, List.all_cons, Bool.and_eq_true]
    split
    · rename_i hp
      rw [← ih]; constructor
      · intro h; exact ⟨hp, by omega⟩
      · intro h; omega
    · rename_i hp
      constructor
      · intro h; omega
      · intro h; exact absurd h.1 hp
theorem runN_split (p : UInt8 → Bool) (l : Bs) (h : runN p l < l.length) : p (l.getD (runN p l) 0) = false := by
  induction l with
  | nil => simp at h
  | cons b l ih =>
    simp only [runN, List.length_cons] at h ⊢
    split
    · rename_i hp
      rw [if_pos hp] at h
      rw [Nat.add_comm 1, List.getD_cons_succ]
      exact ih (by omega)
    · rename_i hp
      rw [List.getD_cons_zero]
      cases hb : p b with
      | true => exact absurd hb hp
      | false => rfl
def dotB (b : UInt8) : Bool := b != 46
/-- As the program sees a number: cut at the first point. -/
def numP (c : Bs) : Bool :=
  let p := runN dotB c
  decide (c.length ≤ 40) && (!(c.take p).isEmpty && ((c.take p).all digitB && (decide (p = c.length) || (!(c.drop (p + 1)).isEmpty && (c.drop (p + 1)).all digitB))))
theorem digit_dot {b : UInt8} (h : digitB b = true) : dotB b = true := by
  simp only [dotB, bne_iff_ne, ne_eq]
  rintro rfl
  exact absurd h (by decide)
theorem runN_mono {p q : UInt8 → Bool} (h : ∀ b, p b = true → q b = true) : ∀ l, runN p l ≤ runN q l
  | [] => Nat.le_refl _
  | b :: l => by
    have := runN_mono h l
    simp only [runN]
    split
    · rename_i hp; rw [if_pos (h b hp)]; omega
    · omega
theorem all_take_run {p : UInt8 → Bool} : ∀ (l : Bs) (n : Nat), n ≤ runN p l → (l.take n).all p = true
  | _, 0, _ => rfl
  | [], n + 1, h => by simp [runN] at h
  | b :: l, n + 1, h => by
    simp only [runN] at h
    split at h
    · rename_i hp
      simp only [List.take_succ_cons, List.all_cons, hp, Bool.true_and]
      exact all_take_run l n (by omega)
    · omega
theorem run_ge_all {p : UInt8 → Bool} : ∀ (l : Bs) (n : Nat), n ≤ l.length → (l.take n).all p = true → n ≤ runN p l
  | _, 0, _, _ => Nat.zero_le _
  | [], n + 1, h, _ => by simp at h
  | b :: l, n + 1, h, ha => by
    simp only [List.take_succ_cons, List.all_cons, Bool.and_eq_true] at ha
    have := run_ge_all l n (by simpa using h) ha.2
    simp only [runN, if_pos ha.1]; omega
theorem numP_eq (c : Bs) : numP c = validB 2 c := by
  have hmono := runN_mono (p := digitB) (q := dotB) (fun _ => digit_dot) c
  have hle := runN_le digitB c
  have hle2 := runN_le dotB c
  rw [Bool.eq_iff_iff]
  simp only [numP, validB, Bool.and_eq_true, decide_eq_true_eq, Bool.or_eq_true, Bool.not_eq_true', List.isEmpty_eq_false_iff]
  constructor
  · rintro ⟨h40, hne, hall, hcase⟩
    have hpos : 0 < runN dotB c := by
      apply Classical.byContradiction; intro hc
      exact hne (by rw [show runN dotB c = 0 from by omega]; rfl)
    have hrun : runN digitB c = runN dotB c := Nat.le_antisymm hmono (run_ge_all c _ hle2 hall)
    have hhead : digitB (c.getD 0 0) = true := by
      cases c with
      | nil => simp [runN] at hpos
      | cons b l =>
        rw [List.getD_cons_zero]
        obtain ⟨n, hn⟩ : ∃ n, runN dotB (b :: l) = n + 1 := ⟨runN dotB (b :: l) - 1, by omega⟩
        rw [hn, List.take_succ_cons, List.all_cons, Bool.and_eq_true] at hall
        exact hall.1
    refine ⟨hhead, ?_, h40⟩
    unfold numN; dsimp only
    rcases hcase with he | ⟨hne2, hall2⟩
    · rw [hrun, he, if_neg]
      rintro ⟨h1, -⟩
      rw [getD_out (Nat.le_refl _)] at h1; exact absurd h1 (by decide)
    · have hlt : runN dotB c < c.length := by
        apply Classical.byContradiction; intro hc
        exact hne2 (List.drop_eq_nil_of_le (by omega))
      have hs := runN_split dotB c hlt
      have h46 : c.getD (runN digitB c) 0 = 46 := by
        rw [hrun]; simpa [dotB] using hs
      have hr2 := runN_eq_all.2 hall2
      rw [hrun] at h46 ⊢
      have hd2 : digitB (c.getD (runN dotB c + 1) 0) = true := by
        have := drop_getD c (runN dotB c + 1) 0
        rw [Nat.add_zero] at this
        rw [← this]
        cases hd : c.drop (runN dotB c + 1) with
        | nil => exact absurd hd hne2
        | cons b l => rw [hd, List.all_cons, Bool.and_eq_true] at hall2; exact hall2.1
      rw [if_pos ⟨h46, hd2⟩, hr2, List.length_drop]; omega
  · rintro ⟨hhead, hn, h40⟩
    have hpos := runN_pos digit0 hhead
    unfold numN at hn; dsimp only at hn
    split at hn
    · rename_i hd
      have hlt : runN digitB c + 1 < c.length := by
        apply Classical.byContradiction; intro hc
        have := hd.2
        rw [getD_out (by omega), digit0] at this; cases this
      have hrun : runN dotB c = runN digitB c := by
        apply Nat.le_antisymm _ hmono
        apply Classical.byContradiction; intro hc
        have ha := all_take_run (p := dotB) c (runN digitB c + 1) (by omega)
        have hm := getD_take c (runN digitB c + 1) (runN digitB c)
        rw [if_pos (by omega), hd.1] at hm
        have hmem : (46 : UInt8) ∈ c.take (runN digitB c + 1) := by
          rw [← hm, List.getD_eq_getElem?_getD, List.getElem?_eq_getElem (by rw [List.length_take]; omega)]
          exact List.getElem_mem _
        exact absurd (List.all_eq_true.1 ha _ hmem) (by decide)
      rw [hrun]
      have hfull : runN digitB (c.drop (runN digitB c + 1)) = (c.drop (runN digitB c + 1)).length := by
        have := runN_le digitB (c.drop (runN digitB c + 1))
        rw [List.length_drop] at this ⊢; omega
      refine ⟨h40, ?_, all_take_run c _ (Nat.le_refl _), .inr ⟨?_, runN_eq_all.1 hfull⟩⟩
      · intro e
        have := congrArg List.length e
        rw [List.length_take, List.length_nil] at this; omega
      · intro e
        have := congrArg List.length e
        rw [List.length_drop, List.length_nil] at this; omega
    · have hrun : runN dotB c = c.length := by omega
      rw [hrun, List.take_length]
      refine ⟨h40, ?_, runN_eq_all.1 hn, .inl rfl⟩
      intro e; rw [e] at hpos; simp [runN] at hpos
end Go.Proofs.Ytnppegglggcceaa.A
