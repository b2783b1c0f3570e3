/- Plain: lines. -/
import Derived.Test.YtnppegglggcceaaV2
set_option linter.unusedVariables false
set_option linter.unusedSimpArgs false
namespace Go.Proofs.Ytnppegglggcceaa.A
/-- How many line feeds. -/
def feeds : Bs → Nat
  | [] => 0
  | b :: l => (if b = 10 then 1 else 0) + feeds l
/-- The offset behind the last line feed. -/
def behind : Bs → Nat
  | [] => 0
  | b :: l => if feeds l = 0 then (if b = 10 then 1 else 0) else 1 + behind l
/-- How many bytes are read till so many line feeds are behind. -/
def readN : Nat → Bs → Nat
  | 0, _ => 0
  | _, [] => 0
  | n + 1, b :: l => 1 + readN (if b = 10 then n else n + 1) l
theorem behind_zero : ∀ {l : Bs}, feeds l = 0 → behind l = 0
  | [], _ => rfl
  | b :: l, h => by
    simp only [feeds] at h
    simp only [behind]
    rw [if_pos (by omega)]
    split
    · rename_i hb; rw [if_pos hb] at h; omega
    · rfl
theorem behind_le : ∀ (l : Bs), behind l ≤ l.length
  | [] => Nat.le_refl _
  | b :: l => by
    have := behind_le l
    simp only [behind, List.length_cons]
    split
    · split <;> omega
    · omega
theorem readN_behind : ∀ (l : Bs) (i : Nat), readN (feeds (l.take i)) l = behind (l.take i)
  | [], i => by simp [feeds, behind, readN]
  | b :: l, 0 => by simp [feeds, behind, readN]
  | b :: l, i + 1 => by
    have ih := readN_behind l i
    rw [List.take_succ_cons]
    simp only [feeds, behind]
    by_cases hz : feeds (l.take i) = 0
    · rw [if_pos hz, hz]
      by_cases hb : b = 10
      · rw [if_pos hb]
        show readN (0 + 1) (b :: l) = 1
        simp only [readN, if_pos hb]
      · rw [if_neg hb]; rfl
    · rw [if_neg hz]
      by_cases hb : b = 10
      · rw [if_pos hb, Nat.add_comm 1]
        simp only [readN, if_pos hb]
        rw [ih]
      · rw [if_neg hb, Nat.zero_add]
        obtain ⟨n, hn⟩ : ∃ n, feeds (l.take i) = n + 1 := ⟨feeds (l.take i) - 1, by omega⟩
        rw [hn] at ih ⊢
        simp only [readN, if_neg hb]
        rw [ih]
/-- How many line feeds are behind when so many bytes are read. -/
theorem feeds_read : ∀ (l : Bs) (n : Nat), n ≤ feeds l → feeds (l.take (readN n l)) = n
  | [], n, h => by simp only [feeds] at h; have : n = 0 := by omega
                   subst this; rfl
  | b :: l, 0, _ => by simp [readN, feeds]
  | b :: l, n + 1, h => by
    simp only [feeds] at h
    simp only [readN]
    rw [Nat.add_comm 1, List.take_succ_cons]
    by_cases hb : b = 10
    · rw [if_pos hb] at h ⊢
      simp only [feeds, if_pos hb]
      rw [feeds_read l n (by omega)]; omega
    · rw [if_neg hb] at h ⊢
      simp only [feeds, if_neg hb]
      rw [feeds_read l (n + 1) (by omega)]; omega
theorem feeds_take : ∀ (l : Bs) (i : Nat), feeds (l.take i) ≤ feeds l
  | [], i => by simp
  | b :: l, 0 => by simp [feeds]
  | b :: l, i + 1 => by
    have := feeds_take l i
    rw [List.take_succ_cons]; simp only [feeds]; omega
end Go.Proofs.Ytnppegglggcceaa.A
