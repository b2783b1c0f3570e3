/- The steps of a walk, by the operation's head; guards. -/
import Derived.Test.YtopigomfhggkoaaDoorJD3
set_option linter.unusedVariables false
set_option linter.unusedSimpArgs false
namespace Go.Proofs.YtopigomfhggkoaaDoor.A
open Go.RowKit
section
variable {P : Program} {T : Tab} {gd : Nat → Option Nat} {rest : List Oper} {σ : St} {K : St → Prop} {dst : Option Nat} {ty : TypeId} {pos : String} {af : Array Edge} {op : Op}
variable {d f : Nat} {as : List Operand} {ts : Array TypeId}
theorem ev_call0 (ys : List AV) (r : AV) (hys : clL σ.o (as.map σ.eval) = ys) (hs : Spec P f ys r) (hok : clOkL σ.o (as.map σ.eval))
    (σ' : St) (hσ : σ.after (callV σ (as.map σ.eval) r) (some d) 0 .nilFunc = σ') (hk : evOps P T gd rest σ' K) : evOps P T gd (⟨some d, .call ⟨.value (.func f), as.toArray, ts⟩, ty, pos, af, none⟩ :: rest) σ K :=
  ev_call d f _ ys r (fun H => rfl) hys hs hok σ' hσ hk
theorem evd_call0 (rs ws : List Nat) (A : List LogH) (ys : List AV) (r : AV) (hi : idsG gd ⟨some d, .call ⟨.value (.func f), as.toArray, ts⟩, ty, pos, af, none⟩ σ = rs) (hys : clL σ.o (as.map σ.eval) = ys) (hs : Spec P f ys r) (hok : clOkL σ.o (as.map σ.eval))
    (hw : ((callV σ (as.map σ.eval) r).eff 0 .nilFunc).map (·.1) = ws) (σ' : St) (hσ : σ.after (callV σ (as.map σ.eval) r) (some d) 0 .nilFunc = σ') (hk : evD P T gd rest A σ' K) : evD P T gd (⟨some d, .call ⟨.value (.func f), as.toArray, ts⟩, ty, pos, af, none⟩ :: rest) (([(d, ys, .v r)], rs, ws) :: A) σ K :=
  evd_call d f rs ws A _ ys r (fun H => rfl) hi hys hs hok hw σ' hσ hk
theorem ev_callF0 (ys : List AV) (e sz : Nat) (rows : List (List Dat)) (hys : clL σ.o (as.map σ.eval) = ys) (hs : SpecF P f ys e sz rows) (hok : clOkL σ.o (as.map σ.eval)) (hd : d < σ.o.length)
    (σ' : Value → St) (hσ : ∀ u, σ.after (callF σ d (as.map σ.eval) e sz rows) (some d) 0 u = σ' u) (hk : ∀ u, evOps P T gd rest (σ' u) K) : evOps P T gd (⟨some d, .call ⟨.value (.func f), as.toArray, ts⟩, ty, pos, af, none⟩ :: rest) σ K :=
  ev_callF d f _ ys e sz rows (fun H => rfl) hys hs hok hd σ' hσ hk
theorem evd_callF0 (rs ws : List Nat) (A : List LogH) (ys : List AV) (e sz : Nat) (rows : List (List Dat)) (hi : idsG gd ⟨some d, .call ⟨.value (.func f), as.toArray, ts⟩, ty, pos, af, none⟩ σ = rs) (hys : clL σ.o (as.map σ.eval) = ys) (hs : SpecF P f ys e sz rows) (hok : clOkL σ.o (as.map σ.eval)) (hd : d < σ.o.length)
    (hw : ∀ u, ((callF σ d (as.map σ.eval) e sz rows).eff 0 u).map (·.1) = ws) (σ' : Value → St) (hσ : ∀ u, σ.after (callF σ d (as.map σ.eval) e sz rows) (some d) 0 u = σ' u) (hk : ∀ u, evD P T gd rest A (σ' u) K) : evD P T gd (⟨some d, .call ⟨.value (.func f), as.toArray, ts⟩, ty, pos, af, none⟩ :: rest) (([(d, ys, .row e sz rows)], rs, ws) :: A) σ K :=
  evd_callF d f rs ws A _ ys e sz rows (fun H => rfl) hi hys hs hok hd hw σ' hσ hk
theorem ev_callE0 (ys : List AV) (r : AV) (hys : as.map σ.eval = ys) (hs : SpecE P f ys r)
    (σ' : St) (hσ : σ.after (R0 True r) (some d) 0 .nilFunc = σ') (hk : evOps P T gd rest σ' K) : evOps P T gd (⟨some d, .call ⟨.value (.func f), as.toArray, ts⟩, ty, pos, af, none⟩ :: rest) σ K :=
  ev_callE d f _ ys r (fun H => rfl) hys hs σ' hσ hk
theorem ev_callC {i : Nat} {as : List Operand} {ts : Array TypeId} (f : Nat) (caps ys : List AV) (r : AV) (hf : fnOf (σ.eval (.tmp i)) = some (f, caps)) (hys : clL σ.o (as.map σ.eval ++ caps) = ys) (hs : Spec P f ys r) (hok : clOkL σ.o (as.map σ.eval ++ caps))
    (σ' : St) (hσ : σ.after (callV σ (as.map σ.eval ++ caps) r) (some d) 0 .nilFunc = σ') (hk : evOps P T gd rest σ' K) : evOps P T gd (⟨some d, .call ⟨.value (.tmp i), as.toArray, ts⟩, ty, pos, af, none⟩ :: rest) σ K :=
  ev_call d f _ ys r (fun H => by rw [e_step_none, e_callV, cloR_fnOf hf]) hys hs hok σ' hσ hk
theorem evd_callC {i : Nat} {as : List Operand} {ts : Array TypeId} (f : Nat) (rs ws : List Nat) (A : List LogH) (caps ys : List AV) (r : AV) (hf : fnOf (σ.eval (.tmp i)) = some (f, caps)) (hi : idsG gd ⟨some d, .call ⟨.value (.tmp i), as.toArray, ts⟩, ty, pos, af, none⟩ σ = rs) (hys : clL σ.o (as.map σ.eval ++ caps) = ys) (hs : Spec P f ys r) (hok : clOkL σ.o (as.map σ.eval ++ caps))
    (hw : ((callV σ (as.map σ.eval ++ caps) r).eff 0 .nilFunc).map (·.1) = ws) (σ' : St) (hσ : σ.after (callV σ (as.map σ.eval ++ caps) r) (some d) 0 .nilFunc = σ') (hk : evD P T gd rest A σ' K) : evD P T gd (⟨some d, .call ⟨.value (.tmp i), as.toArray, ts⟩, ty, pos, af, none⟩ :: rest) (([(d, ys, .v r)], rs, ws) :: A) σ K :=
  evd_call d f rs ws A _ ys r (fun H => by rw [e_step_none, e_callV, cloR_fnOf hf]) hi hys hs hok hw σ' hσ hk
end
section
variable {P : Program} {T : Tab} {gd : Nat → Option Nat} {rest : List Oper} {σ : St} {K : St → Prop} {dst : Option Nat} {ty : TypeId} {pos : String} {af : Array Edge} {op : Op}
theorem slotU_of {d : Nat} {b : Bool} (hb : slotB σ d = some b) : slotU σ d = false := by
  unfold slotU; unfold slotB at hb; split at hb <;> simp_all
theorem ev_guard {j : Nat} {want : Bool} (d : Nat) (b : Bool) (hj : gd j = some d) (hb : slotB σ d = some b) (h1 : b = want → evOps P T gd (⟨dst, op, ty, pos, af, none⟩ :: rest) σ K) (h2 : b = !want → evOps P T gd rest (σ.put dst (.tup [])) K) :
    evOps P T gd (⟨dst, op, ty, pos, af, some (j, want)⟩ :: rest) σ K := by
  have e : ∀ H, stepR P T H gd ⟨dst, op, ty, pos, af, some (j, want)⟩ σ = if b = want then stepR P T H gd ⟨dst, op, ty, pos, af, none⟩ σ else R0 True (.tup []) := fun H => by
    rw [e_step_some _ _ _ d hj, hb]
    rfl
  by_cases h : b = want
  · obtain ⟨H, k1, k2⟩ := h1 h
    refine ⟨H, ?_, ?_⟩ <;> rw [e, if_pos h]
    · exact k1
    · exact k2
  · refine ⟨[], ?_, ?_⟩ <;> rw [e, if_neg h]
    · trivial
    · intro g u
      exact h2 (by cases b <;> cases want <;> simp_all)
theorem ev_guardU {j : Nat} {want : Bool} (d : Nat) (hj : gd j = some d) (hu : slotU σ d = true) (σ' : St) (hσ : σ.put dst (.tup []) = σ') (h2 : evOps P T gd rest σ' K) :
    evOps P T gd (⟨dst, op, ty, pos, af, some (j, want)⟩ :: rest) σ K := by
  subst hσ
  have hb : slotB σ d = none := by unfold slotB; unfold slotU at hu; split at hu <;> simp_all
  have e : ∀ H, stepR P T H gd ⟨dst, op, ty, pos, af, some (j, want)⟩ σ = R0 True (.tup []) := fun H => by
    rw [e_step_some _ _ _ d hj, hb, hu]
    rfl
  refine ⟨[], ?_, ?_⟩ <;> rw [e]
  · trivial
  · intro g u
    exact h2
theorem evd_guardU {j : Nat} {want : Bool} (d : Nat) (l : LogH) (A : List LogH) (hj : gd j = some d) (hu : slotU σ d = true) (σ' : St) (hσ : σ.put dst (.tup []) = σ') (h2 : evD P T gd rest A σ' K) :
    evD P T gd (⟨dst, op, ty, pos, af, some (j, want)⟩ :: rest) (l :: A) σ K := by
  subst hσ
  have hb : slotB σ d = none := by unfold slotB; unfold slotU at hu; split at hu <;> simp_all
  have e : ∀ H, stepR P T H gd ⟨dst, op, ty, pos, af, some (j, want)⟩ σ = R0 True (.tup []) := fun H => by
    rw [e_step_some _ _ _ d hj, hb, hu]
    rfl
  have ei : idsG gd ⟨dst, op, ty, pos, af, some (j, want)⟩ σ = [] := by
    simp only [idsG, hj, hu, or_true, if_true]
  refine ⟨?_, ?_⟩
  · unfold Lg
    rw [e, ei]
    exact ⟨trivial, fun t ht => (by cases ht), fun g u x hx => (by simp [R0] at hx)⟩
  · rw [e]
    intro g u
    exact h2
theorem evd_guard {j : Nat} {want : Bool} (d : Nat) (b : Bool) (l : LogH) (A : List LogH) (hj : gd j = some d) (hb : slotB σ d = some b) (h1 : b = want → evD P T gd (⟨dst, op, ty, pos, af, none⟩ :: rest) (l :: A) σ K) (h2 : b = !want → evD P T gd rest A (σ.put dst (.tup [])) K) :
    evD P T gd (⟨dst, op, ty, pos, af, some (j, want)⟩ :: rest) (l :: A) σ K := by
  have e : ∀ H, stepR P T H gd ⟨dst, op, ty, pos, af, some (j, want)⟩ σ = if b = want then stepR P T H gd ⟨dst, op, ty, pos, af, none⟩ σ else R0 True (.tup []) := fun H => by
    rw [e_step_some _ _ _ d hj, hb]
    rfl
  have ei : idsG gd ⟨dst, op, ty, pos, af, some (j, want)⟩ σ = if b = !want then [] else idsG gd ⟨dst, op, ty, pos, af, none⟩ σ := by
    simp only [idsG, hj, hb, slotU_of hb, Option.some.injEq, Bool.false_eq_true, or_false]
    rfl
  by_cases h : b = want
  · have hn : ¬ b = !want := by cases b <;> cases want <;> simp_all
    obtain ⟨k1, k2⟩ := h1 h
    refine ⟨?_, ?_⟩
    · unfold Lg at k1 ⊢
      rw [e, if_pos h, ei, if_neg hn]
      exact k1
    · rw [e, if_pos h]
      exact k2
  · have hn : b = !want := by cases b <;> cases want <;> simp_all
    refine ⟨?_, ?_⟩
    · unfold Lg
      rw [e, if_neg h, ei, if_pos hn]
      exact ⟨trivial, fun t ht => (by cases ht), fun g u x hx => (by simp [R0] at hx)⟩
    · rw [e, if_neg h]
      intro g u
      exact h2 hn
theorem ev_guardT {j : Nat} (d : Nat) (b : Bool) (hj : gd j = some d) (hb : slotB σ d = some b) (h1 : b = true → evOps P T gd (⟨dst, op, ty, pos, af, none⟩ :: rest) σ K) (h2 : b = false → evOps P T gd rest (σ.put dst (.tup [])) K) :
    evOps P T gd (⟨dst, op, ty, pos, af, some (j, true)⟩ :: rest) σ K := ev_guard d b hj hb h1 h2
theorem ev_guardF {j : Nat} (d : Nat) (b : Bool) (hj : gd j = some d) (hb : slotB σ d = some b) (h1 : b = false → evOps P T gd (⟨dst, op, ty, pos, af, none⟩ :: rest) σ K) (h2 : b = true → evOps P T gd rest (σ.put dst (.tup [])) K) :
    evOps P T gd (⟨dst, op, ty, pos, af, some (j, false)⟩ :: rest) σ K := ev_guard d b hj hb h1 h2
theorem evd_guardT {j : Nat} (d : Nat) (b : Bool) (l : LogH) (A : List LogH) (hj : gd j = some d) (hb : slotB σ d = some b) (h1 : b = true → evD P T gd (⟨dst, op, ty, pos, af, none⟩ :: rest) (l :: A) σ K) (h2 : b = false → evD P T gd rest A (σ.put dst (.tup [])) K) :
    evD P T gd (⟨dst, op, ty, pos, af, some (j, true)⟩ :: rest) (l :: A) σ K := evd_guard d b l A hj hb h1 h2
theorem evd_guardF {j : Nat} (d : Nat) (b : Bool) (l : LogH) (A : List LogH) (hj : gd j = some d) (hb : slotB σ d = some b) (h1 : b = false → evD P T gd (⟨dst, op, ty, pos, af, none⟩ :: rest) (l :: A) σ K) (h2 : b = true → evD P T gd rest A (σ.put dst (.tup [])) K) :
    evD P T gd (⟨dst, op, ty, pos, af, some (j, false)⟩ :: rest) (l :: A) σ K := evd_guard d b l A hj hb h1 h2
theorem evd_guardU0 {j : Nat} {want : Bool} (d : Nat) (A : List LogH) (hj : gd j = some d) (hu : slotU σ d = true) (σ' : St) (hσ : σ.put dst (.tup []) = σ') (h2 : evD P T gd rest A σ' K) :
    evD P T gd (⟨dst, op, ty, pos, af, some (j, want)⟩ :: rest) (dfl :: A) σ K := evd_guardU d dfl A hj hu σ' hσ h2
theorem evd_skipT {j : Nat} (d : Nat) (l : LogH) (A : List LogH) (hj : gd j = some d) (hb : slotB σ d = some false) (σ' : St) (hσ : σ.put dst (.tup []) = σ') (h2 : evD P T gd rest A σ' K) :
    evD P T gd (⟨dst, op, ty, pos, af, some (j, true)⟩ :: rest) (l :: A) σ K := evd_guard d false l A hj hb (fun h => by cases h) (fun _ => by rw [hσ]; exact h2)
theorem evd_skipF {j : Nat} (d : Nat) (l : LogH) (A : List LogH) (hj : gd j = some d) (hb : slotB σ d = some true) (σ' : St) (hσ : σ.put dst (.tup []) = σ') (h2 : evD P T gd rest A σ' K) :
    evD P T gd (⟨dst, op, ty, pos, af, some (j, false)⟩ :: rest) (l :: A) σ K := evd_guard d true l A hj hb (fun h => by cases h) (fun _ => by rw [hσ]; exact h2)
theorem evd_skipT0 {j : Nat} (d : Nat) (A : List LogH) (hj : gd j = some d) (hb : slotB σ d = some false) (σ' : St) (hσ : σ.put dst (.tup []) = σ') (h2 : evD P T gd rest A σ' K) :
    evD P T gd (⟨dst, op, ty, pos, af, some (j, true)⟩ :: rest) (dfl :: A) σ K := evd_skipT d dfl A hj hb σ' hσ h2
theorem evd_skipF0 {j : Nat} (d : Nat) (A : List LogH) (hj : gd j = some d) (hb : slotB σ d = some true) (σ' : St) (hσ : σ.put dst (.tup []) = σ') (h2 : evD P T gd rest A σ' K) :
    evD P T gd (⟨dst, op, ty, pos, af, some (j, false)⟩ :: rest) (dfl :: A) σ K := evd_skipF d dfl A hj hb σ' hσ h2
end
end Go.Proofs.YtopigomfhggkoaaDoor.A
