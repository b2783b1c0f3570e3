/- A contract of the kit's (a call answers this and leaves the world xs it was) is a Spec. -/
import Derived.Test.YtnppegglggcceaaA5
import Derived.Deep.Draws
namespace Go.Proofs.Ytnppegglggcceaa.A
open Go.RowKit
theorem hasL_eq {m : Mem} : ∀ {xs vs : List Value}, HasL m (xs.map fun a => .d (.lit a)) vs → vs = xs
  | [], [], _ => rfl
  | [], _ :: _, h => by simp only [List.map_nil, HasL] at h
  | _ :: _, [], h => by simp only [List.map_cons, HasL] at h
  | a :: xs, v :: vs, h => by
    simp only [List.map_cons, HasL] at h
    rw [has_lit h.1, hasL_eq h.2]
theorem below_drewN (w : World) (n : Nat) : Below w.heap.size w (w.drewN n) := ⟨rfl, rfl, rfl, Nat.le_refl _, fun _ _ => rfl⟩
theorem Spec.ofCalls {P : Program} {f : Nat} {xs : List Value} {v : Value} {r : AV} (hc : callable P f) (hr : ∀ m, Has m r v) (h : ∀ w, w.ShapedOpen P → Calls P f xs.toArray w fun e w' => e = .returned v ∧ ∃ n, w' = w.drewN n) : Spec P f (xs.map fun a => .d (.lit a)) r := by
  refine ⟨hc, fun w hW C hC vs hvs => ?_⟩
  have e := hasL_eq hvs
  subst e
  refine (h w hW).mono ?_
  rintro e w' ⟨rfl, n, rfl⟩
  exact ⟨v, rfl, below_drewN w n, hr _⟩
theorem Spec.ofCallsL {P : Program} {f : Nat} {xs : List Value} {v : Value} (hc : callable P f) (hv : v.oneCell' = true) (h : ∀ w, w.ShapedOpen P → Calls P f xs.toArray w fun e w' => e = .returned v ∧ ∃ n, w' = w.drewN n) : Spec P f (xs.map fun a => .d (.lit a)) (.d (.lit v)) :=
  Spec.ofCalls hc (fun m => has_lit_mk m hv) h
end Go.Proofs.Ytnppegglggcceaa.A
