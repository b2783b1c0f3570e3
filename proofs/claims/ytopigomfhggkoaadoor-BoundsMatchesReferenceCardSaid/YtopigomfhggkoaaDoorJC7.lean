/- Facts of lengths; loops with an invariant; weaker states. -/
import Derived.Test.YtopigomfhggkoaaDoorJC6
set_option linter.unusedVariables false
set_option linter.unusedSimpArgs false
namespace Go.Proofs.YtopigomfhggkoaaDoor.A
open Go.RowKit
theorem has_len {m : Mem} {sz : Nat} {rows : List (List Dat)} {v : Value} (h : Has m (.d (.sl sz rows)) v) : rows.length ≤ 9223372036854775807 := by
  simp only [Has, Rep] at h
  obtain ⟨a, cap, _, h1, h2, _⟩ := h
  have : maxLen ≤ 9223372036854775807 := by decide
  omega
section
variable {E : Env} {Q : Exit → St → Prop} {σ : St} {c : Code}
theorem awp_pre {p : Prop} (h : ∀ a w, Sat E σ a w → p) (hk : p → AWp E c Q σ) : AWp E c Q σ := fun a w hs => hk (h a w hs) a w hs
theorem awp_len (t : Nat) {sz : Nat} {rows : List (List Dat)} (ht : σ.t[t]? = some (.d (.sl sz rows))) (hk : rows.length ≤ 9223372036854775807 → AWp E c Q σ) : AWp E c Q σ :=
  awp_pre (fun a w hs => by
    obtain ⟨v, _, hv⟩ := hs.t.get t _ ht
    exact has_len hv) hk
theorem awp_loopI {ι : Type} (I : ι → Prop) (μ : ι → Nat) (S : ι → St) (i0 : ι) (hI : I i0) (h0 : Wk E σ (S i0))
    (round : ∀ i, I i → AWp E c (thenA (fun s => ∃ j, I j ∧ μ j < μ i ∧ Wk E s (S j)) Q) (S i)) : AWp E (.loop c) Q σ :=
  awp_loop (ι := { i : ι // I i }) (fun i => μ i.1) (fun i => S i.1) ⟨i0, hI⟩ h0 fun i => awp_mono (round i.1 i.2) fun e s h => by
    cases e with
    | normal =>
      obtain ⟨j, h1, h2, h3⟩ := h
      exact ⟨⟨j, h1⟩, h2, h3⟩
    | _ => exact h
end
theorem Wk.close {E : Env} {t : List AV} {o : List AObj} (hk : clOkL o t) : Wk E ⟨t, o⟩ ⟨clL o t, applyEff (frzEff o (idsOfL t)) o⟩ := fun a w hs => by
  obtain ⟨h1, h2⟩ := hs.close t a.tmps.toList hs.t hk
  exact ⟨h1.fr, h1.base, h2, h1.o, h1.own, h1.inj, h1.defers, h1.sh⟩
theorem LeA.eq {a b : AV} (h : a = b) : LeA a b := h ▸ LeA.refl a
theorem LeA.b {a b : Bool} (h : a = b) : LeA (.d (.lit (.bool a))) (.d (.lit (.bool b))) := h ▸ LeA.refl _
theorem LeA.i {k : IntKind} {a b : Int} (h : a = b) : LeA (.d (.lit (.int k a))) (.d (.lit (.int k b))) := h ▸ LeA.refl _
theorem LeA.s {sz : Nat} {a b : List (List Dat)} (h : a = b) : LeA (.d (.sl sz a)) (.d (.sl sz b)) := h ▸ LeA.refl _
theorem LeO.eq {a b : AObj} (h : a = b) : LeO a b := .inl h.symm
theorem wrap_id {n : Int} (h : -9223372036854775808 ≤ n ∧ n ≤ 9223372036854775807) : IntKind.i64.wrap n = n := by
  rw [IntKind.wrap_i64]; omega
theorem mtake {α β : Type} (f : α → β) (l : List α) (n : Nat) : (l.map f).take n = (l.take n).map f := (List.map_take ..).symm
theorem mdrop {α β : Type} (f : α → β) (l : List α) (n : Nat) : (l.map f).drop n = (l.drop n).map f := (List.map_drop ..).symm
inductive IsFn : AV → Nat → List AV → Prop
  | lit (f : Nat) : IsFn (.d (.lit (.func (.func f) #[] #[]))) f []
  | clo (f : Nat) (caps : List AV) (h1 : ∀ o, clL o caps = caps) (h2 : ∀ o, clOkL o caps = True) (h3 : idsOfL caps = []) : IsFn (.clo (.func f) caps) f caps
  | dat (f : Nat) (ds : List Dat) : IsFn (.d (.fn (.func f) ds)) f (ds.map capA)
theorem IsFn.cl {v : AV} {f : Nat} {caps : List AV} (h : IsFn v f caps) (o : List AObj) : A.cl o v = v := by
  cases h with
  | lit => rfl
  | dat => rfl
  | clo f caps h1 h2 h3 => simp only [A.cl, h1]
theorem IsFn.ok {v : AV} {f : Nat} {caps : List AV} (h : IsFn v f caps) (o : List AObj) : clOk o v = True := by
  cases h with
  | lit => rfl
  | dat => rfl
  | clo f caps h1 h2 h3 => simp only [clOk, h2]
theorem IsFn.ids {v : AV} {f : Nat} {caps : List AV} (h : IsFn v f caps) : idsOf v = [] := by
  cases h with
  | lit => rfl
  | dat => rfl
  | clo f caps h1 h2 h3 => simp only [idsOf, h3]
section
variable {P : Program} {T : Tab} {gd : Nat → Option Nat} {rest : List Oper} {σ : St} {K : St → Prop} {ty : TypeId} {pos : String} {af : Array Edge} {d i f : Nat} {as : List Operand} {ts : Array TypeId} {fv : AV} {caps : List AV}
end
end Go.Proofs.YtopigomfhggkoaaDoor.A
