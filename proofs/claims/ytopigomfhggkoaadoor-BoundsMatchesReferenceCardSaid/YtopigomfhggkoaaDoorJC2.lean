/- Regions: their operations one by one; where the order is open, each order. -/
import Derived.Test.YtopigomfhggkoaaDoorJC1
set_option linter.unusedVariables false
set_option linter.unusedSimpArgs false
namespace Go.Proofs.YtopigomfhggkoaaDoor.A
open Go.RowKit
def slotB (σ : St) (d : Nat) : Option Bool := match σ.t[d]? with
  | some (.d (.lit (.bool b))) => some b
  | _ => none
def slotU (σ : St) (d : Nat) : Bool := match σ.t[d]? with
  | some (.tup []) => true
  | _ => false
def stepR (P : Program) (T : Tab) (H : Hints) (gd : Nat → Option Nat) (o : Oper) (σ : St) : Res := match o.guard with
  | none => opRes P T H o σ
  | some (j, want) => match gd j with
    | some d => match slotB σ d with
      | some b => if b = want then opRes P T H o σ else R0 True (.tup [])
      | none => if slotU σ d = true then R0 True (.tup []) else Rno
    | none => Rno
def St.after (σ : St) (r : Res) (dst : Option Nat) (g : Nat) (u : Value) : St := St.put ⟨σ.t, applyEff (r.eff g u) σ.o⟩ dst (r.av g u)
def evOps (P : Program) (T : Tab) (gd : Nat → Option Nat) : List Oper → St → (St → Prop) → Prop
  | [], σ, K => K σ
  | o :: rest, σ, K => ∃ H, (stepR P T H gd o σ).cond ∧ ∀ g u, evOps P T gd rest (σ.after (stepR P T H gd o σ) o.dst g u) K
def gdOf (ops : Array Oper) (j : Nat) : Option Nat := (ops[j]?).bind (·.dst)
section
variable {E : Env} {σ : St} {T : Tab} {H : Hints} {ops : Array Oper}
theorem calls_in {E : Env} {f : FuncId} {args : Array Value} {w : World} {R : Ending → World → Prop} {n : Nat} (h : Calls E.P f args w R) : CallsIn E.F n E.P f args w R :=
  (callsIn_wide (n := n)).2 h
theorem wpIn_of_wp {E : Env} {o : Oper} (hd : ∀ c, o.op ≠ .defer c) {a : Act} {w : World} {K : Act → World → Prop} {Q : Exit → Act → World → Prop} (h : o.wp E.P a w K Q) : o.wpIn E.F 0 E.P a w K Q := by
  unfold Oper.wp at h
  unfold Oper.wpIn
  rw [Oper.semAt_eq _ _ _ hd]
  refine ⟨fun _ _ => trivial, ?_⟩
  generalize (execOp a.eval o).run E.P w = r at *
  cases r with
  | ok x w' =>
    cases x <;> simp only [Oper.upon, Oper.uponIn] at h ⊢ <;> first
      | exact h
      | exact ⟨fun h => (by cases h), calls_in h⟩
      | exact ⟨fun h => (by cases h), fun c cs hroom => by
          obtain ⟨v, w'', h1, h2⟩ := h c cs
          exact ⟨v, w'', h1, stepsIn_wide.2 h2⟩⟩
      | exact h.elim
  | halt x w' => cases x <;> simp only [Oper.upon, Oper.uponIn] at h ⊢ <;> exact h
theorem no_defer {P : Program} {T : Tab} {H : Hints} {o : Oper} {σ : St} (h : (opRes P T H o σ).cond) : ∀ c, o.op ≠ .defer c := by
  intro c hc
  simp [opRes, hc, Rno, R0] at h
theorem wpOp_step (hT : TabOk E.P T) {i : Nat} {o : Oper} (hi : ops[i]? = some o) (hok : opersOk o = true) {a : Act} {w : World} {Q : Exit → Act → World → Prop} (hs : Sat E σ a w) (hc : (stepR E.P T H (gdOf ops) o σ).cond)
    {K : Act → World → Prop} (hk : ∀ g u a' w', Sat E (σ.after (stepR E.P T H (gdOf ops) o σ) o.dst g u) a' w' → K a' w') : wpOpIn E.F 0 E.P ops Q i K a w := by
  unfold wpOpIn
  simp only [hi]
  have run : ∀ {r : Res}, r = opRes E.P T H o σ → stepR E.P T H (gdOf ops) o σ = r → o.wpIn E.F 0 E.P a w K Q := by
    rintro r rfl hr
    rw [hr] at hc
    refine wpIn_of_wp (no_defer hc) (Oper.wp_mono ?_ (opRes_sound hT hok hc a w Q hs))
    rintro a' w' ⟨g, u, v, rfl, h1, h2⟩
    refine hk g u _ w' ?_
    rw [hr]
    exact h1.put o.dst h2
  cases hg : o.guard with
  | none =>
    have hw : Region.wanted o (yielded ops a.tmps) = true := by simp [Region.wanted, hg]
    rw [if_pos hw]
    exact (run rfl (by simp [stepR, hg]))
  | some p =>
    obtain ⟨j, want⟩ := p
    cases hj : gdOf ops j with
    | none => simp [stepR, hg, hj, Rno, R0] at hc
    | some d =>
      cases hb : slotB σ d with
      | none =>
        by_cases hu : slotU σ d = true
        · have hy : yielded ops a.tmps j = none := by
            unfold slotU at hu
            split at hu
            · rename_i he
              obtain ⟨v, hv, hh⟩ := hs.t.get d _ he
              simp only [Has] at hh
              obtain ⟨vs, rfl, hvs⟩ := hh
              have : vs = [] := List.eq_nil_of_length_eq_zero hvs.length
              subst this
              rw [Array.getElem?_toList] at hv
              unfold yielded
              rw [show (ops[j]?).bind (·.dst) = some d from hj]
              simp [hv]
            · cases hu
          have hw : ¬ Region.wanted o (yielded ops a.tmps) = true := by simp [Region.wanted, hg, hy]
          rw [if_neg hw]
          have hr : stepR E.P T H (gdOf ops) o σ = R0 True (.tup []) := by simp [stepR, hg, hj, hb, hu]
          refine ⟨fun _ _ => trivial, hk 0 .nilFunc _ w ?_⟩
          rw [hr]
          exact hs.put o.dst (by simp only [R0, Has]; exact ⟨[], rfl, by simp only [HasL]⟩)
        · simp [stepR, hg, hj, hb, hu, Rno, R0] at hc
      | some b =>
        have hy : yielded ops a.tmps j = some b := by
          unfold slotB at hb
          split at hb
          · rename_i b' he
            cases hb
            obtain ⟨v, hv, hh⟩ := hs.t.get d _ he
            have hv' := has_lit hh
            subst hv'
            rw [Array.getElem?_toList] at hv
            unfold yielded
            rw [show (ops[j]?).bind (·.dst) = some d from hj]
            simp [hv]
          · cases hb
        by_cases hbw : b = want
        · have hw : Region.wanted o (yielded ops a.tmps) = true := by simp [Region.wanted, hg, hy, hbw]
          rw [if_pos hw]
          exact (run rfl (by simp [stepR, hg, hj, hb, hbw]))
        · have hw : ¬ Region.wanted o (yielded ops a.tmps) = true := by simp [Region.wanted, hg, hy, hbw]
          rw [if_neg hw]
          have hr : stepR E.P T H (gdOf ops) o σ = R0 True (.tup []) := by simp [stepR, hg, hj, hb, hbw]
          refine ⟨fun _ _ => trivial, hk 0 .nilFunc _ w ?_⟩
          rw [hr]
          exact hs.put o.dst (by simp only [R0, Has]; exact ⟨[], rfl, by simp only [HasL]⟩)
theorem wpOps_ev (hT : TabOk E.P T) {Q : Exit → Act → World → Prop} {K : St → Prop} (hQ : ∀ σ' a w, K σ' → Sat E σ' a w → Q .normal a w) : ∀ (rest : List Oper) (k : Nat) (σ : St), (∀ j, rest[j]? = ops[k + j]?) → (rest.all opersOk = true) → evOps E.P T (gdOf ops) rest σ K →
    ∀ a w, Sat E σ a w → wpOpsIn E.F 0 E.P ops Q (List.range' k rest.length) a w
  | [], k, σ, _, _, h, a, w, hs => hQ σ a w h hs
  | o :: rest, k, σ, hr, hok, h, a, w, hs => by
    simp only [List.length_cons, List.range'_succ]
    rw [wpOpsIn_cons]
    simp only [List.all_cons, Bool.and_eq_true] at hok
    obtain ⟨H, h⟩ := h
    refine wpOp_step hT (H := H) (by simpa using (hr 0).symm) hok.1 hs h.1 fun g u a' w' hs' => ?_
    exact wpOps_ev hT hQ rest (k + 1) _ (fun j => by have := hr (j + 1); simpa [Nat.add_assoc, Nat.add_comm 1 j] using this) hok.2 (h.2 g u) a' w' hs'
theorem awp_region (T : Tab) (hT : TabOk E.P T) {id : Nat} {Q : Exit → St → Prop} {l : List Oper} (hok : (l.all opersOk = true)) (h : ∀ K : St → Prop, (∀ s, Q .normal s → K s) → evOps E.P T (gdOf l.toArray) l σ K) : AWp E (.region id l.toArray false) Q σ := fun a w hs => by
  refine wpIn_region ?_
  have := wpOps_ev (ops := l.toArray) hT (Q := fun e a' w' => ∃ σ', Q e σ' ∧ Sat E σ' a' w') (K := fun s => Q .normal s) (fun σ' a w h1 h2 => ⟨σ', h1, h2⟩) l 0 σ (by simp) hok (h _ fun _ h => h) a w hs
  rw [List.range_eq_range']
  simpa using this
end
end Go.Proofs.YtopigomfhggkoaaDoor.A
