/- Plain: the library's words for strings, in those of the lexer. -/
import Derived.Test.YtnppegglggcceaaV9
import Derived.Lib.IndexMore
import Derived.Lib.LastIndexLaws
import Derived.Lib.Bytealg
import Derived.Lib.Join
set_option linter.unusedVariables false
set_option linter.unusedSimpArgs false
namespace Go.Proofs.Ytnppegglggcceaa.A
open Go.Lib
theorem contains_iff (s sub : Bs) : Go.Lib.contains s sub = true ↔ ∃ p, p ≤ s.length ∧ occAt s sub p = true := by
  rw [Go.Lib.contains, decide_eq_true_eq]
  rcases index_spec s sub with ⟨h1, h2⟩ | ⟨i, h1, h2, h3, -⟩
  · rw [h1]
    constructor
    · intro h; omega
    · rintro ⟨p, hp, ho⟩; rw [h2 p hp] at ho; cases ho
  · rw [h1]
    exact ⟨fun _ => ⟨i, h2, h3⟩, fun _ => by omega⟩
theorem occ_take {s sub : Bs} {i : Nat} : occAt s sub i = true ↔ (s.drop i).take sub.length = sub := by
  rw [occAt, List.isPrefixOf_iff_prefix]
  constructor
  · rintro ⟨t, ht⟩; rw [← ht, List.take_left]
  · intro h
    have := List.take_append_drop sub.length (s.drop i)
    rw [h] at this
    exact ⟨_, this⟩
/-- As the program asks for a sign. -/
theorem sign_lib (c : Bs) : (c ≠ [] ∧ Go.Lib.contains c [32] = false ∧ Go.Lib.contains signsS (32 :: (c ++ [32])) = true) ↔ validB 4 c = true := by
  rw [← signP_iff]
  have h1 : Go.Lib.contains c [32] = c.contains 32 := by
    rw [Bool.eq_iff_iff, contains_iff, List.contains_iff_mem]
    constructor
    · rintro ⟨p, hp, ho⟩
      rw [occ_take] at ho
      have : (32 : UInt8) ∈ (c.drop p).take 1 := by
        have e : (c.drop p).take 1 = [32] := ho
        rw [e]; exact List.mem_singleton.2 rfl
      exact List.mem_of_mem_drop (List.mem_of_mem_take this)
    · intro h
      obtain ⟨i, hi, e⟩ := List.getElem_of_mem h
      refine ⟨i, by omega, occ_take.2 ?_⟩
      rw [List.drop_eq_getElem_cons hi, e]; rfl
  rw [h1, contains_iff]
  constructor
  · rintro ⟨a, b, p, hp, ho⟩
    refine ⟨a, b, p, ?_⟩
    rw [occ_take] at ho
    simpa [signAt] using ho
  · rintro ⟨a, b, p, ho⟩
    have ho' : (signsS.drop p).take (c.length + 2) = 32 :: (c ++ [32]) := by simpa [signAt] using ho
    refine ⟨a, b, p, ?_, occ_take.2 (by simpa using ho')⟩
    apply Classical.byContradiction; intro hc
    rw [List.drop_eq_nil_of_le (by omega)] at ho'
    simp at ho'
theorem feeds_count (l : Bs) : countByte l 10 = feeds l := by
  unfold countByte
  induction l with
  | nil => rfl
  | cons b l ih =>
    rw [List.count_cons, ih, feeds]
    by_cases hb : b = 10
    · subst hb; simp; omega
    · rw [if_neg hb, if_neg (by simpa using hb)]; omega
theorem index_dot : ∀ c : Bs, (runN dotB c < c.length ∧ Go.Lib.index c [46] = (runN dotB c : Int)) ∨ (runN dotB c = c.length ∧ Go.Lib.index c [46] = -1)
  | [] => .inr ⟨rfl, rfl⟩
  | b :: l => by
    by_cases hb : b = 46
    · subst hb
      left
      have h1 : runN dotB (46 :: l) = 0 := by simp only [runN]; rw [if_neg (by decide)]
      have h2 : Go.Lib.index (46 :: l) [46] = 0 := by rw [Go.Lib.index, if_pos (by simp [List.isPrefixOf])]
      rw [h1, h2]; exact ⟨by simp, rfl⟩
    · have hd : dotB b = true := by simpa [dotB] using hb
      have h1 : runN dotB (b :: l) = 1 + runN dotB l := by simp only [runN, if_pos hd]
      have h2 : Go.Lib.index (b :: l) [46] = if Go.Lib.index l [46] == -1 then -1 else Go.Lib.index l [46] + 1 := by
        rw [Go.Lib.index, if_neg (by simpa [List.isPrefixOf] using fun e => hb e.symm)]
      rw [h1, h2, List.length_cons]
      rcases index_dot l with ⟨h3, h4⟩ | ⟨h3, h4⟩
      · left
        rw [h4, if_neg (by simp <;> omega)]
        exact ⟨by omega, by first | omega | (push_cast; omega)⟩
      · right
        rw [h4, h3]
        exact ⟨by omega, rfl⟩
/-- As the program cuts a number. -/
theorem cut_dot (c : Bs) : Go.Lib.cut c [46] = if runN dotB c < c.length then (c.take (runN dotB c), c.drop (runN dotB c + 1), true) else (c, [], false) := by
  rw [Go.Lib.cut]
  rcases index_dot c with ⟨h3, h4⟩ | ⟨h3, h4⟩
  · rw [h4, if_pos h3, if_pos (by omega), Int.toNat_natCast]; rfl
  · rw [h4, if_neg (by omega), if_neg (by omega)]
theorem joinT_lib : ∀ l : List (Nat × Bs), Go.Lib.join (l.map fun t => spellB t.1 t.2) [32] = joinT l
  | [] => rfl
  | [t] => by simp [Go.Lib.join_one, joinT]
  | t :: u :: l => by
    have ih := joinT_lib (u :: l)
    rw [List.map_cons, Go.Lib.join_cons] at ih ⊢
    simp only [List.map_cons, joinTail, List.flatten_cons, joinT] at ih ⊢
    rw [← ih]
    simp
theorem feeds_snoc (b : UInt8) : ∀ l : Bs, feeds (l ++ [b]) = feeds l + if b = 10 then 1 else 0
  | [] => by simp [feeds]
  | x :: l => by simp only [List.cons_append, feeds, feeds_snoc b l]; omega
theorem behind_snoc (b : UInt8) : ∀ l : Bs, behind (l ++ [b]) = if b = 10 then l.length + 1 else behind l
  | [] => by simp [behind, feeds]
  | x :: l => by
    have ih := behind_snoc b l
    have hf := feeds_snoc b l
    simp only [List.cons_append, behind, hf, ih, List.length_cons]
    by_cases hb : b = 10
    · simp only [if_pos hb]
      rw [if_neg (by omega)]; omega
    · simp only [if_neg hb, Nat.add_zero]
theorem occ_one {l : Bs} {k : Nat} (h : k < l.length) : occAt l [10] k = decide (l.getD k 0 = 10) := by
  rw [Bool.eq_iff_iff, occ_take, decide_eq_true_eq, List.drop_eq_getElem_cons h, List.getD_eq_getElem?_getD, List.getElem?_eq_getElem h]
  show [l[k]] = [10] ↔ l[k] = 10
  constructor
  · intro e; injection e
  · intro e; rw [e]
theorem lastOcc_behind (l : Bs) : ∀ k : Nat, k ≤ l.length → lastOcc l [10] k + 1 = (behind (l.take k) : Int)
  | 0, _ => by simp [lastOcc, behind]
  | k + 1, h => by
    have ih := lastOcc_behind l k (by omega)
    have ho := occ_one (l := l) (k := k) (by omega)
    have ht : l.take (k + 1) = l.take k ++ [l.getD k 0] := by
      rw [List.take_succ_eq_append_getElem (by omega), List.getD_eq_getElem?_getD, List.getElem?_eq_getElem (by omega)]; rfl
    rw [ht, behind_snoc]
    by_cases hb : l.getD k 0 = 10
    · rw [lastOcc_hit l [10] k (by rw [ho, hb]; rfl), if_pos hb, List.length_take]
      push_cast; omega
    · rw [lastOcc_miss l [10] k (by rw [ho]; exact decide_eq_false hb), if_neg hb, ih]
/-- The last line feed, and the offset behind it. -/
theorem last_feed (l : Bs) : Go.Lib.lastIndex l [10] + 1 = (behind l : Int) := by
  unfold Go.Lib.lastIndex
  cases l with
  | nil => rfl
  | cons b l =>
    rw [if_pos (by simp)]
    have := lastOcc_behind (b :: l) (b :: l).length (Nat.le_refl _)
    rw [List.take_length] at this
    rw [← this]; simp
end Go.Proofs.Ytnppegglggcceaa.A
