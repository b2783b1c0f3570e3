/- One operation after the other, for a walk by simp. -/
import Derived.Test.YtopigomfhggkoaaDoorJC2
set_option linter.unusedVariables false
set_option linter.unusedSimpArgs false
namespace Go.Proofs.YtopigomfhggkoaaDoor.A
open Go.RowKit
def gdL (l : List (Option Nat)) (j : Nat) : Option Nat := l.getD j none
theorem gdOf_L (l : List Oper) : gdOf l.toArray = gdL (l.map (·.dst)) := by
  funext j
  simp only [gdOf, gdL, List.getElem?_toArray, List.getD_eq_getElem?_getD, List.getElem?_map]
  cases l[j]? <;> rfl
section
variable {P : Program} {T : Tab} {gd : Nat → Option Nat}
theorem ev_nil {σ : St} {K : St → Prop} (h : K σ) : evOps P T gd [] σ K := h
theorem ev_step {o : Oper} {rest : List Oper} {σ : St} {K : St → Prop} (r : Res) (hr : stepR P T [] gd o σ = r) (hc : r.cond) (σ' : Nat → Value → St) (hσ : ∀ g u, σ.after r o.dst g u = σ' g u) (hk : ∀ g u, evOps P T gd rest (σ' g u) K) :
    evOps P T gd (o :: rest) σ K := by
  refine ⟨[], by rw [hr]; exact hc, fun g u => ?_⟩
  rw [hr, hσ]
  exact hk g u
theorem ev_step0 {o : Oper} {rest : List Oper} {σ : St} {K : St → Prop} (c : Prop) (x : AV) (hr : stepR P T [] gd o σ = R0 c x) (hc : c) (σ' : St) (hσ : σ.put o.dst x = σ') (hk : evOps P T gd rest σ' K) :
    evOps P T gd (o :: rest) σ K := by
  refine ev_step _ hr hc (fun _ _ => σ') (fun _ _ => ?_) (fun _ _ => hk)
  rw [← hσ]
  rfl
def callV (σ : St) (xs : List AV) (r : AV) : Res := ⟨True, fun _ _ => r, fun _ _ => if flat r = true then [] else frzEff σ.o (idsOfL xs)⟩
def callF (σ : St) (d : Nat) (xs : List AV) (e sz : Nat) (rows : List (List Dat)) : Res := ⟨True, fun _ u => .own d u, fun _ u => frzEff σ.o (idsOfL xs) ++ [(d, .row u e sz rows)]⟩
theorem callR_v {σ : St} {d f : Nat} {xs ys : List AV} {r : AV} : callR P [(d, ys, .v r)] σ (some d) f xs = ⟨Spec P f ys r ∧ LeL (clL σ.o xs) ys ∧ clOkL σ.o xs, fun _ _ => r, fun _ _ => if flat r = true then [] else frzEff σ.o (idsOfL xs)⟩ := by
  simp [callR, hintAt]
theorem callR_f {σ : St} {d f : Nat} {xs ys : List AV} {e sz : Nat} {rows : List (List Dat)} : callR P [(d, ys, .row e sz rows)] σ (some d) f xs = ⟨SpecF P f ys e sz rows ∧ LeL (clL σ.o xs) ys ∧ clOkL σ.o xs ∧ d < σ.o.length, fun _ u => .own d u, fun _ u => frzEff σ.o (idsOfL xs) ++ [(d, .row u e sz rows)]⟩ := by
  simp [callR, hintAt]
theorem ev_call {o : Oper} {rest : List Oper} {σ : St} {K : St → Prop} (d f : Nat) (xs ys : List AV) (r : AV) (ho : ∀ H, stepR P T H gd o σ = callR P H σ (some d) f xs) (hys : clL σ.o xs = ys) (hs : Spec P f ys r) (hok : clOkL σ.o xs)
    (σ' : St) (hσ : σ.after (callV σ xs r) o.dst 0 .nilFunc = σ') (hk : evOps P T gd rest σ' K) : evOps P T gd (o :: rest) σ K := by
  refine ⟨[(d, ys, .v r)], ?_, fun g u => ?_⟩
  · rw [ho, callR_v]
    exact ⟨hs, hys ▸ LeL.refl _, hok⟩
  · rw [ho, callR_v]
    rw [← hσ] at hk
    exact hk
def callN (r : AV) : Res := ⟨True, fun _ _ => r, fun _ _ => []⟩
theorem callR_e {σ : St} {d f : Nat} {xs ys : List AV} {r : AV} : callR P [(d, ys, .ext r)] σ (some d) f xs = R0 (SpecE P f ys r ∧ LeL xs ys) r := by
  simp [callR, hintAt]
theorem ev_callE {o : Oper} {rest : List Oper} {σ : St} {K : St → Prop} (d f : Nat) (xs ys : List AV) (r : AV) (ho : ∀ H, stepR P T H gd o σ = callR P H σ (some d) f xs) (hys : xs = ys) (hs : SpecE P f ys r)
    (σ' : St) (hσ : σ.after (R0 True r) o.dst 0 .nilFunc = σ') (hk : evOps P T gd rest σ' K) : evOps P T gd (o :: rest) σ K := by
  refine ⟨[(d, ys, .ext r)], ?_, fun g u => ?_⟩
  · rw [ho, callR_e]
    exact ⟨hs, hys ▸ LeL.refl _⟩
  · rw [ho, callR_e]
    rw [← hσ] at hk
    exact hk
theorem ev_callF {o : Oper} {rest : List Oper} {σ : St} {K : St → Prop} (d f : Nat) (xs ys : List AV) (e sz : Nat) (rows : List (List Dat)) (ho : ∀ H, stepR P T H gd o σ = callR P H σ (some d) f xs) (hys : clL σ.o xs = ys) (hs : SpecF P f ys e sz rows) (hok : clOkL σ.o xs) (hd : d < σ.o.length)
    (σ' : Value → St) (hσ : ∀ u, σ.after (callF σ d xs e sz rows) o.dst 0 u = σ' u) (hk : ∀ u, evOps P T gd rest (σ' u) K) : evOps P T gd (o :: rest) σ K := by
  refine ⟨[(d, ys, .row e sz rows)], ?_, fun g u => ?_⟩
  · rw [ho, callR_f]
    exact ⟨hs, hys ▸ LeL.refl _, hok, hd⟩
  · rw [ho, callR_f]
    have := hk u
    rw [← hσ] at this
    exact this
end
end Go.Proofs.YtopigomfhggkoaaDoor.A
