/- Plain: tokens with white space between them; what tokens cover. -/
import Derived.Test.YtnppegglggcceaaV4
set_option linter.unusedVariables false
set_option linter.unusedSimpArgs false
namespace Go.Proofs.Ytnppegglggcceaa.A
/-- White space that is at an end. -/
def WS (w : Bs) : Prop := ∀ r, skipF false (w ++ r) = w.length + skipF false r
theorem WS.nil : WS [] := fun r => by simp
theorem WS.app {a b : Bs} (ha : WS a) (hb : WS b) : WS (a ++ b) := fun r => by
  rw [List.append_assoc, ha, hb, List.length_append]; omega
theorem WS.one {b : UInt8} (h : wsB b = true) : WS [b] := fun r => by
  simp only [List.cons_append, List.nil_append, skipF, if_pos h, List.length_cons, List.length_nil]
theorem WS.full {w : Bs} (h : WS w) : skipF false w = w.length := by
  have := h []
  rw [List.append_nil] at this
  rw [this]; rfl
theorem head_no {b : UInt8} (h : letterB b = true ∨ digitB b = true ∨ b = 34 ∨ b ∈ signs1) : wsB b = false ∧ b ≠ 35 := by
  rcases h with h | h | rfl | h
  · simp only [letterB, Bool.and_eq_true, decide_eq_true_eq, UInt8.le_iff_toNat_le, show (97 : UInt8).toNat = 97 from rfl] at h
    constructor
    · simp only [wsB, Bool.or_eq_false_iff, beq_eq_false_iff_ne]
      refine ⟨⟨?_, ?_⟩, ?_⟩ <;> (rintro rfl; exact absurd h.1 (by decide))
    · rintro rfl; exact absurd h.1 (by decide)
  · simp only [digitB, Bool.and_eq_true, decide_eq_true_eq, UInt8.le_iff_toNat_le, show (48 : UInt8).toNat = 48 from rfl] at h
    constructor
    · simp only [wsB, Bool.or_eq_false_iff, beq_eq_false_iff_ne]
      refine ⟨⟨?_, ?_⟩, ?_⟩ <;> (rintro rfl; exact absurd h.1 (by decide))
    · rintro rfl; exact absurd h.1 (by decide)
  · decide
  · simp only [signs1, List.mem_cons, List.not_mem_nil, or_false] at h
    rcases h with rfl | rfl | rfl | rfl | rfl | rfl | rfl | rfl | rfl | rfl | rfl <;> decide
theorem spell_head {k : Nat} {c : Bs} (h : validB k c = true) : ∃ b l, spellB k c = b :: l ∧ wsB b = false ∧ b ≠ 35 := by
  unfold validB at h
  split at h
  · simp only [Bool.and_eq_true] at h
    cases c with
    | nil => exact absurd h.1 (by decide)
    | cons b l => exact ⟨b, l, rfl, head_no (.inl h.1)⟩
  · simp only [Bool.and_eq_true] at h
    cases c with
    | nil => exact absurd h.1 (by decide)
    | cons b l => exact ⟨b, l, rfl, head_no (.inr (.inl h.1))⟩
  · exact ⟨34, _, rfl, by decide⟩
  · simp only [Bool.or_eq_true, decide_eq_true_eq, List.any_eq_true] at h
    rcases h with rfl | ⟨b, hb, rfl⟩
    · exact ⟨60, _, rfl, by decide⟩
    · exact ⟨b, [], rfl, head_no (.inr (.inr (.inr hb)))⟩
  · cases h
theorem skip_spell {k : Nat} {c : Bs} (h : validB k c = true) (r : Bs) : skipF false (spellB k c ++ r) = 0 := by
  obtain ⟨b, l, e, h1, h2⟩ := spell_head h
  rw [e, List.cons_append]
  simp only [skipF, h1, if_neg Bool.false_ne_true, if_neg h2]
/-- Tokens, each with the white space ahead of it, and the last white space. -/
def lay : List (Bs × Nat × Bs) → Bs → Bs
  | [], w => w
  | x :: l, w => x.1 ++ (spellB x.2.1 x.2.2 ++ lay l w)
def Good : List (Bs × Nat × Bs) → Bs → Prop
  | [], w => WS w
  | x :: l, w => WS x.1 ∧ validB x.2.1 x.2.2 = true ∧ okR (lay l w) ∧ Good l w
theorem lex_lay : ∀ (l : List (Bs × Nat × Bs)) (w : Bs) (f a : Nat), Good l w → (lay l w).length < f → (lexS f a (lay l w)).2 = none ∧ (lexS f a (lay l w)).1.map (fun t => (t.1, t.2.1)) = l.map (·.2)
  | [], w, f, a, h, hf => by
    obtain ⟨f, rfl⟩ : ∃ j, f = j + 1 := ⟨f - 1, by omega⟩
    have : lexS (f + 1) a w = ([], none) := by
      unfold lexS
      rw [WS.full h, List.drop_length, lexTk_S, if_pos rfl]
    show (lexS (f + 1) a w).2 = none ∧ _
    simp only [lay]
    rw [this]; exact ⟨rfl, rfl⟩
  | (w0, k, c) :: l, w, f, a, h, hf => by
    obtain ⟨hw, hv, hr, hg⟩ := h
    obtain ⟨f, rfl⟩ : ∃ j, f = j + 1 := ⟨f - 1, by omega⟩
    simp only [lay, List.length_append] at hf ⊢
    have hs : skipF false (w0 ++ (spellB k c ++ lay l w)) = w0.length := by
      rw [hw, skip_spell hv, Nat.add_zero]
    obtain ⟨b, sl, e, -, -⟩ := spell_head hv
    have hne : spellB k c ++ lay l w ≠ [] := by rw [e]; simp
    have ih := lex_lay l w f (a + w0.length + (spellB k c).length) hg (by rw [e] at hf; simp only [List.length_cons] at hf; omega)
    have : lexS (f + 1) a (w0 ++ (spellB k c ++ lay l w)) = ((k, c, a + w0.length) :: (lexS f (a + w0.length + (spellB k c).length) (lay l w)).1, (lexS f (a + w0.length + (spellB k c).length) (lay l w)).2) := by
      rw [lexS, hs, List.drop_left, lexTk_S, if_neg hne, tokB_spell hv hr]
      simp only [List.drop_left]
    rw [this]
    exact ⟨ih.1, by simp only [List.map_cons, ih.2]⟩
theorem lexB_lay {l : List (Bs × Nat × Bs)} {w : Bs} (h : Good l w) : (lexB (lay l w)).2 = none ∧ (lexB (lay l w)).1.map (fun t => (t.1, t.2.1)) = l.map (·.2) := by
  rw [lexB_S]; exact lex_lay l w _ 0 h (by omega)
/-- What tokens cover from an offset on. -/
def cov (s : Bs) : Nat → List Tk → Prop
  | e, [] => skipF false (s.drop e) = s.length - e ∧ e ≤ s.length
  | e, t :: l => e ≤ t.2.2 ∧ t.2.2 + (spellB t.1 t.2.1).length ≤ s.length ∧ validB t.1 t.2.1 = true ∧ (s.drop t.2.2).take (spellB t.1 t.2.1).length = spellB t.1 t.2.1 ∧ 0 < (spellB t.1 t.2.1).length ∧
      skipF false ((s.drop e).take (t.2.2 - e)) = t.2.2 - e ∧ cov s (t.2.2 + (spellB t.1 t.2.1).length) l
theorem lexS_cov (s : Bs) : ∀ (f a : Nat), a ≤ s.length → s.length - a < f → (lexS f a (s.drop a)).2 = none → cov s a (lexS f a (s.drop a)).1
  | 0, a, _, h, _ => by omega
  | f + 1, a, ha, hf, hn => by
    have hle := skipF_le false (s.drop a)
    rw [List.length_drop] at hle
    have htk := skipF_take false (s.drop a) _ (Nat.le_refl _)
    unfold lexS at hn ⊢
    rw [lexTk_S] at hn ⊢
    have hdd : (s.drop a).drop (skipF false (s.drop a)) = s.drop (a + skipF false (s.drop a)) := List.drop_drop
    rw [hdd] at hn ⊢
    generalize hm : skipF false (s.drop a) = m at *
    split
    · rename_i he
      have : s.length ≤ a + m := by
        have := congrArg List.length he
        rw [List.length_drop] at this; simp at this; omega
      exact ⟨by omega, ha⟩
    · rename_i he
      rw [if_neg he] at hn
      cases ht : tokB (s.drop (a + m)) with
      | none => rw [ht] at hn; simp at hn
      | some x =>
        obtain ⟨k, c, n⟩ := x
        have hl := tokB_len ht
        have hv := tokB_valid ht
        rw [List.length_drop] at hl
        rw [ht] at hn
        simp only at hn ⊢
        have hsl : (spellB k c).length = n := by rw [hv.2, List.length_take, List.length_drop]; omega
        have hd2 : (s.drop (a + m)).drop n = s.drop (a + m + n) := List.drop_drop
        rw [hd2] at hn ⊢
        have ih := lexS_cov s f (a + m + n) (by omega) (by omega) hn
        refine ⟨by show a ≤ a + m; omega, by show a + m + _ ≤ _; rw [hsl]; omega, hv.1, by show (s.drop (a + m)).take _ = _; rw [hsl, ← hv.2], by show 0 < (spellB k c).length; rw [hsl]; omega, ?_, ?_⟩
        · show skipF false ((s.drop a).take (a + m - a)) = a + m - a
          rw [show a + m - a = m from by omega, htk]
        · show cov s (a + m + (spellB k c).length) _
          rw [hsl]; exact ih
theorem lexB_cov {s : Bs} (h : (lexB s).2 = none) : cov s 0 (lexB s).1 := by
  rw [lexB_S] at h ⊢
  exact lexS_cov s (s.length + 1) 0 (by omega) (by omega) h
end Go.Proofs.Ytnppegglggcceaa.A
