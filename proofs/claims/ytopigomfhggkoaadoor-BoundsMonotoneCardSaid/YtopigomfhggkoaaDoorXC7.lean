/- Facts of lengths; loops with an invariant; weaker states. -/
import Derived.Test.YtopigomfhggkoaaDoorXC6
set_option linter.unusedVariables false
set_option linter.unusedSimpArgs false
namespace Go.Proofs.YtopigomfhggkoaaDoor.A
open Go.RowKit

theorem has_len {m : Mem} {sz : Nat} {rows : List (List Dat)} {v : Value} (h : Has m (.d (.sl sz rows)) v) : rows.length ≤ 9223372036854775807 := by
  simp only [Has, Rep] at h
  obtain ⟨a, cap, _, h1, h2, _⟩ := h
  have : maxLen ≤ 9223372036854775807 := by decide
  omega

section
variable {E : Env} {Q : Exit → St → Prop} {σ : St} {c : Code}
theorem awp_pre {p : Prop} (h : ∀ a w, Sat E σ a w → p) (hk : p → AWp E c Q σ) : AWp E c Q σ := fun a w hs => hk (h a w hs) a w hs
/-- The length of a slice in a slot. -/
theorem awp_len (t : Nat) {sz : Nat} {rows : List (List Dat)} (ht : σ.t[t]? = some (.d (.sl sz rows))) (hk : rows.length ≤ 9223372036854775807 → AWp E c Q σ) : AWp E c Q σ :=
  awp_pre (fun a w hs => by
    obtain ⟨v, _, hv⟩ := hs.t.get t _ ht
    exact has_len hv) hk
/-- The length of a row of one's own. -/
theorem awp_lenO (t : Nat) {v : Value} {e : TypeId} {sz : Nat} {rows : List (List Dat)} (ht : σ.o[t]? = some (.row v e sz rows)) (hk : rows.length ≤ 9223372036854775807 → AWp E c Q σ) : AWp E c Q σ :=
  awp_pre (fun a w hs => by
    obtain ⟨xs, ⟨_, ho⟩, _⟩ := hs.o t _ ht
    have : maxLen ≤ 9223372036854775807 := by decide
    rcases ho with ⟨_, h⟩ | ⟨g, cap, cur, _, _, h1, h2, _⟩ <;> omega) hk
theorem awp_loopI {ι : Type} (I : ι → Prop) (μ : ι → Nat) (S : ι → St) (i0 : ι) (hI : I i0) (h0 : Wk E σ (S i0))
    (round : ∀ i, I i → AWp E c (thenA (fun s => ∃ j, I j ∧ μ j < μ i ∧ Wk E s (S j)) Q) (S i)) : AWp E (.loop c) Q σ :=
  awp_loop (ι := { i : ι // I i }) (fun i => μ i.1) (fun i => S i.1) ⟨i0, hI⟩ h0 fun i => awp_mono (round i.1 i.2) fun e s h => by
    cases e with
    | normal =>
      obtain ⟨j, h1, h2, h3⟩ := h
      exact ⟨⟨j, h1⟩, h2, h3⟩
    | _ => exact h
end
/-- All that the slots name is written no more. -/
theorem Wk.close {E : Env} {t : List AV} {o : List AObj} (hk : clOkL o t) : Wk E ⟨t, o⟩ ⟨clL o t, applyEff (frzEff o (idsOfL t)) o⟩ := fun a w hs => by
  obtain ⟨h1, h2⟩ := hs.close t a.tmps.toList hs.t hk
  exact ⟨h1.fr, h1.base, h2, h1.o, h1.own, h1.inj, h1.defers, h1.sh⟩
theorem LeA.eq {a b : AV} (h : a = b) : LeA a b := h ▸ LeA.refl a
theorem LeA.b {a b : Bool} (h : a = b) : LeA (.d (.lit (.bool a))) (.d (.lit (.bool b))) := h ▸ LeA.refl _
theorem LeA.i {k : IntKind} {a b : Int} (h : a = b) : LeA (.d (.lit (.int k a))) (.d (.lit (.int k b))) := h ▸ LeA.refl _
theorem LeA.s {sz : Nat} {a b : List (List Dat)} (h : a = b) : LeA (.d (.sl sz a)) (.d (.sl sz b)) := h ▸ LeA.refl _
theorem LeO.eq {a b : AObj} (h : a = b) : LeO a b := .inl h.symm
/-- A number of 64 bits is itself. -/
theorem wrap_id {n : Int} (h : -9223372036854775808 ≤ n ∧ n ≤ 9223372036854775807) : IntKind.i64.wrap n = n := by
  rw [IntKind.wrap_i64]; omega
theorem mtake {α β : Type} (f : α → β) (l : List α) (n : Nat) : (l.map f).take n = (l.take n).map f := (List.map_take ..).symm
theorem mdrop {α β : Type} (f : α → β) (l : List α) (n : Nat) : (l.map f).drop n = (l.drop n).map f := (List.map_drop ..).symm
theorem bge {a b : Int} : decide (a > b) = decide (b < a) := rfl
theorem bge' {a b : Int} : decide (a ≥ b) = decide (b ≤ a) := rfl
/-- A function value that names no object: the function, what it holds. -/
inductive IsFn : AV → Nat → List AV → Prop
  | lit (f : Nat) : IsFn (.d (.lit (.func (.func f) #[] #[]))) f []
  | clo (f : Nat) (caps : List AV) (h1 : ∀ o, clL o caps = caps) (h2 : ∀ o, clOkL o caps = True) (h3 : idsOfL caps = []) : IsFn (.clo (.func f) caps) f caps
  | dat (f : Nat) (ds : List Dat) : IsFn (.d (.fn (.func f) ds)) f (ds.map capA)
theorem IsFn.cl {v : AV} {f : Nat} {caps : List AV} (h : IsFn v f caps) (o : List AObj) : A.cl o v = v := by
  cases h with
  | lit => rfl
  | dat => rfl
  | clo f caps h1 h2 h3 => simp only [A.cl, h1]
theorem IsFn.ok {v : AV} {f : Nat} {caps : List AV} (h : IsFn v f caps) (o : List AObj) : clOk o v = True := by
  cases h with
  | lit => rfl
  | dat => rfl
  | clo f caps h1 h2 h3 => simp only [clOk, h2]
theorem IsFn.ids {v : AV} {f : Nat} {caps : List AV} (h : IsFn v f caps) : idsOf v = [] := by
  cases h with
  | lit => rfl
  | dat => rfl
  | clo f caps h1 h2 h3 => simp only [idsOf, h3]
theorem clL_append (o : List AObj) (xs ys : List AV) : clL o (xs ++ ys) = clL o xs ++ clL o ys := by
  induction xs with
  | nil => rfl
  | cons x xs ih => simp only [List.cons_append, clL, ih]
theorem clOkL_append (o : List AObj) (xs ys : List AV) : clOkL o (xs ++ ys) = (clOkL o xs ∧ clOkL o ys) := by
  induction xs with
  | nil => simp [clOkL]
  | cons x xs ih => simp only [List.cons_append, clOkL, ih, and_assoc]
section
variable {P : Program} {T : Tab} {gd : Nat → Option Nat} {rest : List Oper} {σ : St} {K : St → Prop} {ty : TypeId} {pos : String} {af : Array Edge} {d i f : Nat} {as : List Operand} {ts : Array TypeId} {fv : AV} {caps : List AV}
theorem callFn_eq (hfn : IsFn fv f caps) (hf : σ.eval (.tmp i) = fv) (H : Hints) : stepR P T H gd ⟨some d, .call ⟨.value (.tmp i), as.toArray, ts⟩, ty, pos, af, none⟩ σ = callR P H σ (some d) f (as.map σ.eval ++ caps) := by
  rw [e_step_none, e_callV, hf]
  cases hfn with
  | lit f => rw [List.append_nil]; rfl
  | clo f caps h1 h2 h3 => rfl
  | dat f ds => rfl
theorem IsFn.capsOk (h : IsFn fv f caps) : (∀ o, clL o caps = caps) ∧ (∀ o, clOkL o caps = True) ∧ idsOfL caps = [] := by
  cases h with
  | lit => exact ⟨fun _ => rfl, fun _ => rfl, rfl⟩
  | dat f ds => exact ⟨fun o => cap_cl o ds, fun o => cap_ok o ds, cap_ids ds⟩
  | clo f caps h1 h2 h3 => exact ⟨h1, h2, h3⟩
theorem callV_caps (h : IsFn fv f caps) (xs : List AV) (r : AV) : callV σ (xs ++ caps) r = callV σ xs r := by
  unfold callV
  rw [idsOfL_append, h.capsOk.2.2, List.append_nil]
theorem ev_callFn (hfn : IsFn fv f caps) (ys : List AV) (r : AV) (hf : σ.eval (.tmp i) = fv) (hys : clL σ.o (as.map σ.eval) = ys) (hs : Spec P f (ys ++ caps) r) (hok : clOkL σ.o (as.map σ.eval))
    (σ' : St) (hσ : σ.after (callV σ (as.map σ.eval) r) (some d) 0 .nilFunc = σ') (hk : evOps P T gd rest σ' K) : evOps P T gd (⟨some d, .call ⟨.value (.tmp i), as.toArray, ts⟩, ty, pos, af, none⟩ :: rest) σ K :=
  ev_call d f (as.map σ.eval ++ caps) (ys ++ caps) r (callFn_eq hfn hf) (by rw [clL_append, hys, hfn.capsOk.1]) hs (by rw [clOkL_append, hfn.capsOk.2.1]; exact ⟨hok, trivial⟩) σ' (by rw [callV_caps hfn]; exact hσ) hk
end
end Go.Proofs.YtopigomfhggkoaaDoor.A
