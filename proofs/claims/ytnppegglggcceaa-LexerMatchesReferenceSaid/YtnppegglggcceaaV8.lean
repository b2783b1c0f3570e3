/- Plain: the tokens and the white space that bytes describe. -/
import Derived.Test.YtnppegglggcceaaV7
set_option linter.unusedVariables false
set_option linter.unusedSimpArgs false
namespace Go.Proofs.Ytnppegglggcceaa.A
def wordsM : List Bs := [[115, 101, 116], [116], [97, 49], [105, 110, 115, 101, 114, 116], [108, 111, 110, 103, 101, 115, 116, 110, 97, 109, 101, 111, 102, 49, 54, 120], [110, 117, 108, 108]]
def numsM : List Bs := [[48], [49], [49, 50, 46, 53], [48, 48, 55], [51, 46, 49, 52, 48], [49, 48, 48, 48, 48, 48, 48, 48, 48, 48, 48, 48, 48, 48, 48, 48, 48, 48, 48, 48, 48, 48, 48, 48, 48, 48, 48, 48, 48, 48, 48, 48, 48, 48, 48, 48, 48, 48, 48, 48]]
def textsM : List Bs := [[], [97], [34], [97, 92, 98], [35, 32, 110, 111, 44, 32, 99, 111, 109, 109, 101, 110, 116, 59], [92, 34, 120, 32, 126]]
def signsM : List Bs := [[40], [41], [44], [59], [58], [46], [61], [60], [60, 61], [43], [45], [42]]
def spacesM : List Bs := [[32], [10], [9, 32], [35, 120, 10], [32, 35, 32, 34, 97, 10], [10, 10], [32, 32]]
/-- The token that two bytes describe. -/
def tokM (a k : Nat) : Nat × Bs := (1 + a % 4, if a % 4 = 0 then wordsM.getD (k % 6) [] else if a % 4 = 1 then numsM.getD (k % 6) [] else if a % 4 = 2 then textsM.getD (k % 6) [] else signsM.getD (k % 12) [])
theorem words_ok : ∀ i, i < 6 → validB 1 (wordsM.getD i []) = true ∧ validB 2 (numsM.getD i []) = true ∧ validB 3 (textsM.getD i []) = true := by decide +kernel
theorem signs_ok : ∀ i, i < 12 → validB 4 (signsM.getD i []) = true := by decide +kernel
theorem tokM_valid (a k : Nat) : validB (tokM a k).1 (tokM a k).2 = true := by
  have h6 := words_ok (k % 6) (Nat.mod_lt _ (by decide))
  have h12 := signs_ok (k % 12) (Nat.mod_lt _ (by decide))
  have h4 : a % 4 < 4 := Nat.mod_lt _ (by decide)
  simp only [tokM]
  generalize a % 4 = m at *
  match m, h4 with
  | 0, _ => exact h6.1
  | 1, _ => exact h6.2.1
  | 2, _ => exact h6.2.2
  | 3, _ => exact h12
/-- The tokens that bytes describe: one for two bytes, at most so many. -/
def madeT : Nat → List Nat → List (Nat × Bs)
  | n + 1, a :: k :: l => tokM a k :: madeT n l
  | _, _ => []
theorem madeT_valid : ∀ (n : Nat) (l : List Nat), ∀ t ∈ madeT n l, validB t.1 t.2 = true
  | n + 1, a :: k :: l, t, h => by
    simp only [madeT, List.mem_cons] at h
    rcases h with rfl | h
    · exact tokM_valid a k
    · exact madeT_valid n l t h
  | 0, l, t, h => by simp [madeT] at h
  | n + 1, [], t, h => by simp [madeT] at h
  | n + 1, [a], t, h => by simp [madeT] at h
/-- Joined tokens. -/
def joinT : List (Nat × Bs) → Bs
  | [] => []
  | [t] => spellB t.1 t.2
  | t :: l => spellB t.1 t.2 ++ (32 :: joinT l)
def layJ : List (Nat × Bs) → List (Bs × Nat × Bs)
  | [] => []
  | t :: l => ([32], t) :: layJ l
theorem layJ_snd : ∀ l, (layJ l).map (·.2) = l
  | [] => rfl
  | t :: l => by simp only [layJ, List.map_cons, layJ_snd l]
theorem lay_layJ : ∀ (t : Nat × Bs) (l : List (Nat × Bs)), lay (([], t) :: layJ l) [] = joinT (t :: l)
  | t, [] => by simp [lay, layJ, joinT]
  | t, u :: l => by
    have ih := lay_layJ u l
    simp only [lay, List.nil_append] at ih
    simp only [lay, layJ, joinT, List.nil_append, List.cons_append, ih]
theorem okR_layJ : ∀ l, okR (lay (layJ l) [])
  | [] => .inl rfl
  | t :: l => .inr (.inr (.inr (.inl rfl)))
theorem good_layJ : ∀ {l : List (Nat × Bs)}, (∀ t ∈ l, validB t.1 t.2 = true) → Good (layJ l) []
  | [], _ => WS.nil
  | t :: l, h => ⟨WS.one rfl, h t (List.mem_cons_self ..), okR_layJ l, good_layJ fun x hx => h x (List.mem_cons_of_mem _ hx)⟩
/-- Joined tokens are read as these tokens. -/
theorem lexB_join {l : List (Nat × Bs)} (h : ∀ t ∈ l, validB t.1 t.2 = true) : (lexB (joinT l)).2 = none ∧ (lexB (joinT l)).1.map (fun t => (t.1, t.2.1)) = l := by
  cases l with
  | nil => exact ⟨rfl, rfl⟩
  | cons t l =>
    have hg : Good (([], t) :: layJ l) [] := ⟨WS.nil, h t (List.mem_cons_self ..), okR_layJ l, good_layJ fun x hx => h x (List.mem_cons_of_mem _ hx)⟩
    have := lexB_lay hg
    rw [lay_layJ] at this
    refine ⟨this.1, ?_⟩
    rw [this.2, List.map_cons, layJ_snd]
theorem skip_com (r : Bs) : ∀ c : Bs, (∀ b ∈ c, b ≠ 10) → skipF true (c ++ 10 :: r) = c.length + 1 + skipF false r
  | [], _ => by show 1 + skipF false r = _; simp
  | b :: c, h => by
    have hb : (b != 10) = true := by simpa using h b (List.mem_cons_self ..)
    simp only [List.cons_append, skipF, hb, skip_com r c fun x hx => h x (List.mem_cons_of_mem _ hx), List.length_cons]
    omega
theorem WS.com {c : Bs} (h : ∀ b ∈ c, b ≠ 10) : WS (35 :: (c ++ [10])) := fun r => by
  rw [List.cons_append, List.append_assoc, List.singleton_append]
  simp only [skipF, show wsB 35 = false from rfl, if_neg Bool.false_ne_true, if_true, skip_com r c h, List.length_cons, List.length_append, List.length_nil]
  omega
def headOk (w : Bs) : Bool := match w with
  | [] => false
  | b :: _ => b == 9 || b == 10 || b == 32 || b == 35
theorem headOk.okR {w : Bs} (h : headOk w = true) (r : Bs) : okR (w ++ r) := by
  cases w with
  | nil => cases h
  | cons b w =>
    simp only [headOk, Bool.or_eq_true, beq_iff_eq] at h
    show b = 0 ∨ b = 9 ∨ b = 10 ∨ b = 32 ∨ b = 35
    rcases h with ((h | h) | h) | h <;> simp [h]
theorem spaces_ok (i : Nat) (h : i < 7) : WS (spacesM.getD i []) ∧ headOk (spacesM.getD i []) = true := by
  match i, h with
  | 0, _ => exact ⟨WS.one rfl, rfl⟩
  | 1, _ => exact ⟨WS.one rfl, rfl⟩
  | 2, _ => exact ⟨WS.app (a := [9]) (WS.one rfl) (WS.one rfl), rfl⟩
  | 3, _ => exact ⟨WS.com (c := [120]) (by decide), rfl⟩
  | 4, _ => exact ⟨WS.app (a := [32]) (WS.one rfl) (WS.com (c := [32, 34, 97]) (by decide)), rfl⟩
  | 5, _ => exact ⟨WS.app (a := [10]) (WS.one rfl) (WS.one rfl), rfl⟩
  | 6, _ => exact ⟨WS.app (a := [32]) (WS.one rfl) (WS.one rfl), rfl⟩
def spB (b : Nat) : Bs := spacesM.getD (b % 7) []
/-- The first pieces of white space ahead of a token. -/
def spTo (sp : List Nat) (i : Nat) : Nat → Bs
  | 0 => []
  | k + 1 => spTo sp i k ++ spB (sp.getD ((3 * i + k) % sp.length) 0)
theorem spTo_ok (sp : List Nat) (i : Nat) : ∀ k, WS (spTo sp i k) ∧ (k = 0 ∨ headOk (spTo sp i k) = true)
  | 0 => ⟨WS.nil, .inl rfl⟩
  | k + 1 => by
    have ih := spTo_ok sp i k
    have hs := spaces_ok (sp.getD ((3 * i + k) % sp.length) 0 % 7) (Nat.mod_lt _ (by decide))
    refine ⟨ih.1.app hs.1, .inr ?_⟩
    rcases ih.2 with h0 | hh
    · subst h0; exact hs.2
    · simp only [spTo]
      cases hq : spTo sp i k with
      | nil => rw [hq] at hh; cases hh
      | cons b l => rw [hq] at hh; exact hh
def wsAt (sp : List Nat) (i : Nat) : Bs := spTo sp i (min 3 sp.length) ++ [32]
theorem wsAt_ok (sp : List Nat) (i : Nat) : WS (wsAt sp i) ∧ headOk (wsAt sp i) = true := by
  have h := spTo_ok sp i (min 3 sp.length)
  refine ⟨h.1.app (WS.one rfl), ?_⟩
  unfold wsAt
  rcases h.2 with h0 | hh
  · rw [h0]; rfl
  · cases hq : spTo sp i (min 3 sp.length) with
    | nil => rw [hq] at hh; cases hh
    | cons b l => rw [hq] at hh; exact hh
/-- Tokens with white space that bytes describe. -/
def layS (sp : List Nat) : Nat → List (Nat × Bs) → List (Bs × Nat × Bs)
  | _, [] => []
  | i, t :: l => (wsAt sp i, t) :: layS sp (i + 1) l
theorem layS_snd (sp : List Nat) : ∀ i l, (layS sp i l).map (·.2) = l
  | _, [] => rfl
  | i, t :: l => by simp only [layS, List.map_cons, layS_snd sp (i + 1) l]
theorem good_layS (sp : List Nat) : ∀ (i : Nat) {l : List (Nat × Bs)}, (∀ t ∈ l, validB t.1 t.2 = true) → ∀ j, Good (layS sp i l) (wsAt sp j) ∧ okR (lay (layS sp i l) (wsAt sp j))
  | i, [], _, j => ⟨(wsAt_ok sp j).1, by have := headOk.okR (wsAt_ok sp j).2 []; rwa [List.append_nil] at this⟩
  | i, t :: l, h, j => by
    have ih := good_layS sp (i + 1) (l := l) (fun x hx => h x (List.mem_cons_of_mem _ hx)) j
    exact ⟨⟨(wsAt_ok sp i).1, h t (List.mem_cons_self ..), ih.2, ih.1⟩, headOk.okR (wsAt_ok sp i).2 _⟩
theorem lexB_spaces (sp : List Nat) {l : List (Nat × Bs)} (h : ∀ t ∈ l, validB t.1 t.2 = true) (j : Nat) : (lexB (lay (layS sp 0 l) (wsAt sp j))).2 = none ∧ (lexB (lay (layS sp 0 l) (wsAt sp j))).1.map (fun t => (t.1, t.2.1)) = l := by
  have := lexB_lay (good_layS sp 0 h j).1
  rwa [layS_snd] at this
end Go.Proofs.Ytnppegglggcceaa.A
