/- The walk of a region whose order is open, by simp. -/
import Derived.Test.YtopigomfhggkoaaDoorJC5
import Derived.Test.YtopigomfhggkoaaDoorJD2
set_option linter.unusedVariables false
set_option linter.unusedSimpArgs false
namespace Go.Proofs.YtopigomfhggkoaaDoor.A
open Go.RowKit
section
variable {P : Program} {T : Tab} {gd : Nat → Option Nat}
theorem evd_nil {σ : St} {K : St → Prop} (h : K σ) : evD P T gd [] [] σ K := h
theorem evd_step {o : Oper} {rest : List Oper} {σ : St} {K : St → Prop} (rs ws : List Nat) (A : List LogH) (r : Res) (hr : stepR P T [] gd o σ = r) (hi : idsG gd o σ = rs) (hc : r.cond) (hw : ∀ g u, (r.eff g u).map (·.1) = ws)
    (σ' : Nat → Value → St) (hσ : ∀ g u, σ.after r o.dst g u = σ' g u) (hk : ∀ g u, evD P T gd rest A (σ' g u) K) : evD P T gd (o :: rest) (([], rs, ws) :: A) σ K := by
  refine ⟨⟨?_, fun t ht => by rw [hi] at ht; exact ht, fun g u e he => ?_⟩, fun g u => ?_⟩
  · show (stepR P T [] gd o σ).cond
    rw [hr]; exact hc
  · have he' : e ∈ (stepR P T [] gd o σ).eff g u := he
    rw [hr] at he'
    show e.1 ∈ ws
    rw [← hw g u]
    exact List.mem_map.2 ⟨e, he', rfl⟩
  · show evD P T gd rest A (σ.after (stepR P T [] gd o σ) o.dst g u) K
    rw [hr, hσ]
    exact hk g u
theorem evd_keep {o : Oper} {rest : List Oper} {σ : St} {K : St → Prop} (rs ws : List Nat) (A : List LogH) (r : Res) (hr : stepR P T keepH gd o σ = r) (hi : idsG gd o σ = rs) (hc : r.cond) (hw : ∀ g u, (r.eff g u).map (·.1) = ws)
    (σ' : Nat → Value → St) (hσ : ∀ g u, σ.after r o.dst g u = σ' g u) (hk : ∀ g u, evD P T gd rest A (σ' g u) K) : evD P T gd (o :: rest) ((keepH, rs, ws) :: A) σ K := by
  refine ⟨⟨?_, fun t ht => by rw [hi] at ht; exact ht, fun g u e he => ?_⟩, fun g u => ?_⟩
  · show (stepR P T keepH gd o σ).cond
    rw [hr]; exact hc
  · have he' : e ∈ (stepR P T keepH gd o σ).eff g u := he
    rw [hr] at he'
    show e.1 ∈ ws
    rw [← hw g u]
    exact List.mem_map.2 ⟨e, he', rfl⟩
  · show evD P T gd rest A (σ.after (stepR P T keepH gd o σ) o.dst g u) K
    rw [hr, hσ]
    exact hk g u
theorem evd_step0 {o : Oper} {rest : List Oper} {σ : St} {K : St → Prop} (rs : List Nat) (A : List LogH) (c : Prop) (x : AV) (hr : stepR P T [] gd o σ = R0 c x) (hi : idsG gd o σ = rs) (hc : c)
    (σ' : St) (hσ : σ.put o.dst x = σ') (hk : evD P T gd rest A σ' K) : evD P T gd (o :: rest) (([], rs, []) :: A) σ K := by
  refine evd_step rs [] A _ hr hi hc (fun _ _ => rfl) (fun _ _ => σ') (fun _ _ => ?_) (fun _ _ => hk)
  rw [← hσ]
  rfl
theorem evd_call {o : Oper} {rest : List Oper} {σ : St} {K : St → Prop} (d f : Nat) (rs ws : List Nat) (A : List LogH) (xs ys : List AV) (r : AV) (ho : ∀ H, stepR P T H gd o σ = callR P H σ (some d) f xs) (hi : idsG gd o σ = rs) (hys : clL σ.o xs = ys) (hs : Spec P f ys r) (hok : clOkL σ.o xs)
    (hw : ((callV σ xs r).eff 0 .nilFunc).map (·.1) = ws) (σ' : St) (hσ : σ.after (callV σ xs r) o.dst 0 .nilFunc = σ') (hk : evD P T gd rest A σ' K) : evD P T gd (o :: rest) (([(d, ys, .v r)], rs, ws) :: A) σ K := by
  refine ⟨⟨?_, fun t ht => by rw [hi] at ht; exact ht, fun g u e he => ?_⟩, fun g u => ?_⟩
  · show (stepR P T [(d, ys, .v r)] gd o σ).cond
    rw [ho, callR_v]
    exact ⟨hs, hys ▸ LeL.refl _, hok⟩
  · have he' : e ∈ (stepR P T [(d, ys, .v r)] gd o σ).eff g u := he
    rw [ho, callR_v] at he'
    show e.1 ∈ ws
    rw [← hw]
    exact List.mem_map.2 ⟨e, he', rfl⟩
  · show evD P T gd rest A (σ.after (stepR P T [(d, ys, .v r)] gd o σ) o.dst g u) K
    rw [ho, callR_v]
    rw [← hσ] at hk
    exact hk
theorem evd_callF {o : Oper} {rest : List Oper} {σ : St} {K : St → Prop} (d f : Nat) (rs ws : List Nat) (A : List LogH) (xs ys : List AV) (e sz : Nat) (rows : List (List Dat)) (ho : ∀ H, stepR P T H gd o σ = callR P H σ (some d) f xs) (hi : idsG gd o σ = rs) (hys : clL σ.o xs = ys) (hs : SpecF P f ys e sz rows) (hok : clOkL σ.o xs) (hd : d < σ.o.length)
    (hw : ∀ u, ((callF σ d xs e sz rows).eff 0 u).map (·.1) = ws) (σ' : Value → St) (hσ : ∀ u, σ.after (callF σ d xs e sz rows) o.dst 0 u = σ' u) (hk : ∀ u, evD P T gd rest A (σ' u) K) : evD P T gd (o :: rest) (([(d, ys, .row e sz rows)], rs, ws) :: A) σ K := by
  refine ⟨⟨?_, fun t ht => by rw [hi] at ht; exact ht, fun g u e' he => ?_⟩, fun g u => ?_⟩
  · show (stepR P T [(d, ys, .row e sz rows)] gd o σ).cond
    rw [ho, callR_f]
    exact ⟨hs, hys ▸ LeL.refl _, hok, hd⟩
  · have he' : e' ∈ (stepR P T [(d, ys, .row e sz rows)] gd o σ).eff g u := he
    rw [ho, callR_f] at he'
    show e'.1 ∈ ws
    rw [← hw u]
    exact List.mem_map.2 ⟨e', he', rfl⟩
  · show evD P T gd rest A (σ.after (stepR P T [(d, ys, .row e sz rows)] gd o σ) o.dst g u) K
    rw [ho, callR_f]
    have := hk u
    rw [← hσ] at this
    exact this
end
section
variable {σ : St} {dst : Option Nat} {ty : TypeId} {pos : String} {af : Array Edge} {g : Option (Nat × Bool)}
theorem e_idsG {gd : Nat → Option Nat} (op : Op) : idsG gd ⟨dst, op, ty, pos, af, none⟩ σ = idsOp ⟨dst, op, ty, pos, af, none⟩ σ := rfl
theorem e_idsOp (o : Oper) : idsOp o σ = idsOfL ((opsI o).map σ.eval) := rfl
theorem e_callV' (xs : List AV) (r : AV) : callV σ xs r = ⟨True, fun _ _ => r, fun _ _ => if flat r = true then [] else frzEff σ.o (idsOfL xs)⟩ := rfl
theorem e_callN' (r : AV) : callN r = ⟨True, fun _ _ => r, fun _ _ => []⟩ := rfl
theorem e_callF' (d : Nat) (xs : List AV) (e sz : Nat) (rows : List (List Dat)) : callF σ d xs e sz rows = ⟨True, fun _ u => .own d u, fun _ u => frzEff σ.o (idsOfL xs) ++ [(d, .row u e sz rows)]⟩ := rfl
theorem e_o_move (x : Operand) : opsI ⟨dst, .move x, ty, pos, af, g⟩ = [] := rfl
theorem e_o_assign (x : Operand) : opsI ⟨dst, .assign x, ty, pos, af, g⟩ = [x] := rfl
theorem e_o_pick (c x y : Operand) : opsI ⟨dst, .pick c x y, ty, pos, af, g⟩ = [c, x, y] := rfl
theorem e_o_unOp (op : UnOp) (t : TypeId) (x : Operand) : opsI ⟨dst, .unOp op t x, ty, pos, af, g⟩ = [x] := rfl
theorem e_o_binOp (op : BinOp) (t : TypeId) (x y : Operand) (u : TypeId) : opsI ⟨dst, .binOp op t x y u, ty, pos, af, g⟩ = [x, y] := rfl
theorem e_o_alloc (t : TypeId) : opsI ⟨dst, .alloc t, ty, pos, af, g⟩ = [] := rfl
theorem e_o_box (t : TypeId) (x : Operand) : opsI ⟨dst, .box t x, ty, pos, af, g⟩ = [x] := rfl
theorem e_o_build (t : TypeId) (ps : List (Nat × Operand)) : opsI ⟨dst, .build t ps.toArray, ty, pos, af, g⟩ = ps.map (·.2) := rfl
theorem e_o_buildSlice (t n : Nat) (ps : List (Nat × Operand)) : opsI ⟨dst, .buildSlice t n ps.toArray, ty, pos, af, g⟩ = ps.map (·.2) := rfl
theorem e_o_load (t : TypeId) (x : Operand) : opsI ⟨dst, .load t x, ty, pos, af, g⟩ = [x] := rfl
theorem e_o_store (t : TypeId) (x y : Operand) : opsI ⟨dst, .store t x y, ty, pos, af, g⟩ = [x, y] := rfl
theorem e_o_fieldAddr (s : TypeId) (x : Operand) (f : Nat) : opsI ⟨dst, .fieldAddr s x f, ty, pos, af, g⟩ = [x] := rfl
theorem e_o_field (s : TypeId) (x : Operand) (f : Nat) : opsI ⟨dst, .field s x f, ty, pos, af, g⟩ = [x] := rfl
theorem e_o_indexAddr (t : TypeId) (x i : Operand) : opsI ⟨dst, .indexAddr t x i, ty, pos, af, g⟩ = [x, i] := rfl
theorem e_o_index (t : TypeId) (x i : Operand) : opsI ⟨dst, .index t x i, ty, pos, af, g⟩ = [x, i] := rfl
theorem e_o_slice0 (t : TypeId) (x : Operand) : opsI ⟨dst, .slice t x none none none, ty, pos, af, g⟩ = [x] := rfl
theorem e_o_slice1 (t : TypeId) (x l : Operand) : opsI ⟨dst, .slice t x (some l) none none, ty, pos, af, g⟩ = [x, l] := rfl
theorem e_o_slice2 (t : TypeId) (x h : Operand) : opsI ⟨dst, .slice t x none (some h) none, ty, pos, af, g⟩ = [x, h] := rfl
theorem e_o_slice3 (t : TypeId) (x l h : Operand) : opsI ⟨dst, .slice t x (some l) (some h) none, ty, pos, af, g⟩ = [x, l, h] := rfl
theorem e_o_sliceM (t : TypeId) (x h m : Operand) : opsI ⟨dst, .slice t x none (some h) (some m), ty, pos, af, g⟩ = [x, h, m] := rfl
theorem e_o_makeSlice (t : TypeId) (l c : Operand) : opsI ⟨dst, .makeSlice t l c, ty, pos, af, g⟩ = [l, c] := rfl
theorem e_o_convert (s t : TypeId) (x : Operand) : opsI ⟨dst, .convert s t x, ty, pos, af, g⟩ = [x] := rfl
theorem e_o_extract (x : Operand) (i : Nat) : opsI ⟨dst, .extract x i, ty, pos, af, g⟩ = [x] := rfl
theorem e_o_nilCheck (x : Operand) : opsI ⟨dst, .nilCheck x, ty, pos, af, g⟩ = [x] := rfl
theorem e_o_lookup (t : TypeId) (x i : Operand) (ok : Bool) : opsI ⟨dst, .lookup t x i ok, ty, pos, af, g⟩ = [x, i] := rfl
theorem e_o_bcall (b : Builtin) (xs : List Operand) (ts : Array TypeId) : opsI ⟨dst, .call ⟨.builtin b, xs.toArray, ts⟩, ty, pos, af, g⟩ = xs := rfl
theorem e_o_vcall (f : Operand) (xs : List Operand) (ts : Array TypeId) : opsI ⟨dst, .call ⟨.value f, xs.toArray, ts⟩, ty, pos, af, g⟩ = f :: xs := rfl
end
end Go.Proofs.YtopigomfhggkoaaDoor.A
