/- Equality of structs. -/
import Derived.Test.YtopigomfhggkoaaDoorJB2
import Derived.ChangeKeysEq
set_option linter.unusedVariables false
set_option linter.unusedSimpArgs false
namespace Go.Proofs.YtopigomfhggkoaaDoor.A
open Go.RowKit
def eqL (kind : Nat) (x y : Value) : Option Bool := match x, y with
  | .int k a, .int k' b => if kind = 5 ∧ k = k' then some (a == b) else none
  | .string a, .string b => if kind = 4 then some (a.toList == b.toList) else none
  | .bool a, .bool b => if kind = 6 then some (a == b) else none
  | _, _ => none
def eq1 (kind : Nat) (xs ys : List Value) : Option Bool := match xs, ys with
  | [x], [y] => eqL kind x y
  | _, _ => none
def and2 (a b : Option Bool) : Option Bool := match a, b with
  | some a, some b => some (a && b)
  | _, _ => none
def eqFs (rec : Nat → List Value → List Value → Option Bool) (T : Tab) (xs ys : List Value) : List (Nat × Nat) → Option Bool
  | [] => some true
  | (off, ft) :: fs => if (T ft).known = true ∧ off + (T ft).size ≤ xs.length ∧ off + (T ft).size ≤ ys.length then
      and2 (rec ft ((xs.drop off).take (T ft).size) ((ys.drop off).take (T ft).size)) (eqFs rec T xs ys fs) else none
def eqV (T : Tab) : Nat → Nat → List Value → List Value → Option Bool
  | 0, _, _, _ => none
  | d + 1, t, xs, ys => if (T t).kind = 2 then (if (T t).known = true ∧ (T t).eqk = true then eqFs (eqV T d) T xs ys (T t).fields else none) else
      if (T t).known = true ∧ (T t).agg = false then eq1 (T t).kind xs ys else none
def litsA : List AV → Option (List Value)
  | [] => some []
  | .d (.lit v) :: r => match litsA r with | some vs => some (v :: vs) | none => none
  | _ :: _ => none
def eqOnes (k : Nat) : List Value → List Value → Option Bool
  | [], [] => some true
  | x :: xs, y :: ys => and2 (eqL k x y) (eqOnes k xs ys)
  | _, _ => none
def eqArr (T : Tab) (t : Nat) (xs ys : List Value) : Option Bool :=
  if (T (T t).elem).agg = false ∧ (T (T t).elem).size = 1 ∧ xs.length = (T t).alen ∧ ys.length = (T t).alen then eqOnes (T (T t).elem).kind xs ys else none
def eqR (T : Tab) (op : BinOp) (t : Nat) (xs ys : Option (List Value)) : Res := match xs, ys with
  | some xs, some ys => if (T t).kind = 3 then (match op, eqArr T t xs ys with
      | .eql, some b => R0 ((T t).known = true ∧ (T t).eqk = true ∧ (T (T t).elem).known = true) (litB b)
      | .neq, some b => R0 ((T t).known = true ∧ (T t).eqk = true ∧ (T (T t).elem).known = true) (litB (!b))
      | _, _ => Rno)
    else (match op, eqV T 4 t xs ys with
      | .eql, some b => R0 ((T t).kind = 2) (litB b)
      | .neq, some b => R0 ((T t).kind = 2) (litB (!b))
      | _, _ => Rno)
  | _, _ => Rno
def nilEqR (T : Tab) (op : BinOp) (t : Nat) (rows : List (List Dat)) : Res := match op with
  | .eql => ⟨(T t).known = true ∧ (T t).kind = 1, fun g _ => litB (rows.isEmpty && g == 0), fun _ _ => []⟩
  | .neq => ⟨(T t).known = true ∧ (T t).kind = 1, fun g _ => litB (!(rows.isEmpty && g == 0)), fun _ _ => []⟩
  | _ => Rno
def binR2 (T : Tab) (op : BinOp) (t : Nat) (x y : AV) : Res := match x, y with
  | .agg xs, .agg ys => eqR T op t (litsA xs) (litsA ys)
  | .d (.sl _ rows), .d (.lit (.slice none 0 0)) => nilEqR T op t rows
  | x, y => binR T op t x y
theorem litsA_has {m : Mem} : ∀ {cs : List AV} {vs us : List Value}, litsA cs = some us → HasL m cs vs → vs = us
  | [], [], us, h, _ => by simp only [litsA, Option.some.injEq] at h; exact h
  | [], _ :: _, _, _, h => by simp [HasL] at h
  | c :: cs, [], _, _, h => by simp [HasL] at h
  | c :: cs, v :: vs, us, h, hv => by
    unfold litsA at h
    split at h
    · cases ‹_ :: _ = []›
    · rename_i u r heq
      cases heq
      split at h
      · rename_i ws hw
        cases h
        simp only [HasL] at hv
        rw [has_lit hv.1, litsA_has hw hv.2]
      · cases h
    · cases h
section
variable {E : Env} {T : Tab}
theorem run_eqL {t : Nat} (hT : TabOk E.P T) (hk : (T t).known = true) {x y : Value} {b : Bool} (h : eqL (T t).kind x y = some b) (D : Nat) (w : World) : (Op.equalIn (D + 1) t x y).run E.P w = .ok b w := by
  obtain ⟨info, d, _, hu, _, _, _, _, _, _, _, _, _, k4, k5, k6, _⟩ := hT t hk
  unfold eqL at h
  split at h
  · split at h
    · rename_i hc
      obtain ⟨hc, rfl⟩ := hc
      cases h
      exact run_equalIn_int w D t _ _ _ _ (by rw [hu, k5 hc])
    · cases h
  · split at h
    · rename_i hc
      cases h
      exact run_equalIn_string w D t _ _ (by rw [hu, k4 hc])
    · cases h
  · split at h
    · rename_i hc
      cases h
      exact run_equalIn_bool' w D t _ _ (by rw [hu, k6 hc])
    · cases h
  · cases h
def asV (T : Tab) (t : Nat) (xs : List Value) : Value := if (T t).agg = true then .agg xs.toArray else xs.getD 0 .nilFunc
theorem run_partV (hT : TabOk E.P T) {t : Nat} (hk : (T t).known = true) {xs : List Value} {off : Nat} (hl : off + (T t).size ≤ xs.length) (h1 : (T t).agg = true ∨ (T t).size = 1) (w : World) :
    (part t xs.toArray off).run E.P w = .ok (asV T t ((xs.drop off).take (T t).size)) w := by
  unfold asV
  by_cases ha : (T t).agg = true
  · have : xs.toArray.extract off (off + (T t).size) = ((xs.drop off).take (T t).size).toArray := by
      apply Array.toList_inj.1
      simp [Array.toList_extract, List.extract_eq_take_drop]
    simp [part, run_isAgg hT hk, ha, run_sizeOf' hT hk, this]
  · have hs := h1.resolve_left ha
    have hlt : off < xs.length := by omega
    have : xs.toArray[off]? = some xs[off] := by simp [hlt]
    simp only [part, Sem.run_bind, run_isAgg hT hk, ha, Result.andThen_ok, Bool.false_eq_true, if_false, this]
    rw [hs]
    simp [hlt, List.getD_eq_getElem?_getD]
theorem eqV_size {d t : Nat} {xs ys : List Value} {b : Bool} (h : eqV T d t xs ys = some b) (hT : TabOk E.P T) : (T t).agg = true ∨ (xs.length = 1) := by
  cases d with
  | zero => simp [eqV] at h
  | succ d =>
    unfold eqV at h
    split at h
    · rename_i hk
      split at h
      · rename_i hc
        obtain ⟨info, e, _, hu, _, _, _, _, _, ha, _, k2, _⟩ := hT t hc.1
        obtain ⟨fs, rfl, _⟩ := k2 hk
        exact .inl ha.symm
      · cases h
    · split at h
      · unfold eq1 at h
        split at h
        · exact .inr rfl
        · cases h
      · cases h
theorem run_eqV (hT : TabOk E.P T) : ∀ (d D : Nat), d ≤ D → ∀ (t : Nat) (xs ys : List Value) (b : Bool), eqV T d t xs ys = some b → ∀ w, (Op.equalIn D t (asV T t xs) (asV T t ys)).run E.P w = .ok b w
  | 0, _, _, _, _, _, _, h, _ => by simp [eqV] at h
  | d + 1, 0, hD, _, _, _, _, _, _ => by omega
  | d + 1, D + 1, hD, t, xs, ys, b, h, w => by
    unfold eqV at h
    split at h
    · rename_i hk
      split at h
      · rename_i hc
        obtain ⟨info, e, _, hu, _, _, _, _, _, ha, _, k2, _, _, _, _, _, k8⟩ := hT t hc.1
        obtain ⟨fs, rfl, hfs⟩ := k2 hk
        obtain ⟨hst, _, hnm⟩ := k8 hc.2
        have hnm := hnm fs rfl
        have hagg : (T t).agg = true := ha.symm
        have hF : E.P.fieldsOf t = fs := by unfold Program.fieldsOf; rw [hu]
        simp only [asV, hagg, if_true]
        rw [run_equalIn_struct w D t xs.toArray ys.toArray (by rw [hF]; exact hu) hst, hF]
        rw [← hfs] at h
        generalize fs.toList = l at h hnm
        clear hfs hF hu
        induction l generalizing b with
        | nil => simp only [List.map_nil, eqFs, Option.some.injEq] at h; subst h; simp [Op.eqFields]
        | cons f l ih =>
          simp only [List.map_cons, eqFs] at h
          split at h
          · rename_i hb
            obtain ⟨hkf, hx, hy⟩ := hb
            unfold and2 at h
            split at h
            · rename_i a b' e1 e2
              simp only [Option.some.injEq] at h
              simp only [List.all_cons, Bool.and_eq_true] at hnm
              have hne : f.name ≠ "_" := by simpa using hnm.1
              have hsz : (T f.type).agg = true ∨ (T f.type).size = 1 := by
                rcases eqV_size e1 hT with h' | h'
                · exact .inl h'
                · refine .inr ?_
                  simp only [List.length_take, List.length_drop] at h'
                  omega
              simp only [Op.eqFields, hne, ne_eq, not_false_eq_true, if_true, Sem.run_bind, run_partV hT hkf hx hsz, run_partV hT hkf hy hsz, Result.andThen_ok, run_eqV hT d D (by omega) _ _ _ _ e1 w]
              cases a
              · simp only [Bool.not_false, if_true, Sem.run_pure]
                simp only [Bool.false_and] at h
                rw [h]
              · simp only [Bool.not_true, Bool.false_eq_true, if_false]
                simp only [Bool.true_and] at h
                exact ih b (h ▸ e2) hnm.2
            · cases h
          · cases h
      · cases h
    · split at h
      · rename_i hc
        unfold eq1 at h
        split at h
        · have hna : ¬ ((T t).agg = true) := by rw [hc.2]; simp
          simp only [asV, hna, if_false]
          exact run_eqL hT hc.1 h D w
        · cases h
      · cases h
theorem run_eqOnes (hT : TabOk E.P T) {e : Nat} (hk : (T e).known = true) (ha : (T e).agg = false) (hs : (T e).size = 1) (D : Nat) (w : World) : ∀ (m k : Nat) (xs ys as bs : List Value) (b : Bool), as.length = m → xs.drop k = as → ys.drop k = bs → eqOnes (T e).kind as bs = some b →
    (Op.eqItems (D + 1) e 1 xs.toArray ys.toArray (List.range' k m)).run E.P w = .ok b w
  | 0, k, xs, ys, [], bs, b, _, _, _, h => by
    cases bs with
    | nil =>
      simp only [eqOnes, Option.some.injEq] at h
      subst h
      simp [Op.eqItems]
    | cons y bs => simp [eqOnes] at h
  | 0, k, xs, ys, _ :: _, bs, b, hl, _, _, _ => by simp at hl
  | m + 1, k, xs, ys, [], bs, b, hl, _, _, _ => by simp at hl
  | m + 1, k, xs, ys, x :: as, bs, b, hl, hx, hy, h => by
    cases bs with
    | nil => simp [eqOnes] at h
    | cons y bs =>
      simp only [eqOnes] at h
      unfold and2 at h
      split at h
      · rename_i p q e1 e2
        simp only [Option.some.injEq] at h
        have lx : k < xs.length := by
          rcases Nat.lt_or_ge k xs.length with h' | h'
          · exact h'
          · rw [List.drop_eq_nil_of_le h'] at hx; cases hx
        have ly : k < ys.length := by
          rcases Nat.lt_or_ge k ys.length with h' | h'
          · exact h'
          · rw [List.drop_eq_nil_of_le h'] at hy; cases hy
        have px := run_partV hT hk (xs := xs) (off := k * 1) (by omega) (.inr hs) w
        have py := run_partV hT hk (xs := ys) (off := k * 1) (by omega) (.inr hs) w
        rw [Nat.mul_one, hs, hx] at px
        rw [Nat.mul_one, hs, hy] at py
        simp only [asV, ha, Bool.false_eq_true, if_false, List.take_succ_cons, List.take_zero, List.getD_cons_zero] at px py
        have hx' : xs.drop (k + 1) = as := by rw [← List.drop_drop, hx]; rfl
        have hy' : ys.drop (k + 1) = bs := by rw [← List.drop_drop, hy]; rfl
        have ih := run_eqOnes hT hk ha hs D w m (k + 1) xs ys as bs q (by simpa using hl) hx' hy' e2
        simp only [List.range'_succ, Op.eqItems, Sem.run_bind, Nat.mul_one, px, py, run_eqL hT hk e1 D w, Result.andThen_ok]
        cases p
        · simp only [Bool.not_false, if_true, Sem.run_pure]
          rw [← h]; rfl
        · simp only [Bool.not_true, Bool.false_eq_true, if_false]
          rw [← h, Bool.true_and]
          exact ih
      · cases h
theorem eqGuard_agg {PP : Program} (op : BinOp) (t : TypeId) (x y : Operand) (a b : Array Value) (w : World) (hg : PP.eqGuardType PP.depth t = false) : (eqGuard op t x y (.agg a) (.agg b)).run PP w = .ok () w := by
  unfold eqGuard; cases op <;> simp [hg]
theorem has_agg {m : Mem} {cs : List AV} {v : Value} (h : Has m (.agg cs) v) : ∃ vs : List Value, v = .agg vs.toArray ∧ HasL m cs vs := by
  simp only [Has] at h; exact h
end
section
variable {E : Env} {o : Oper} {σ : St} {T : Tab}
theorem sound_bin2 (hT : TabOk E.P T) {op : BinOp} {t yt : TypeId} {x y : Operand} (ho : o.op = .binOp op t x y yt) (hx : opOk x = true) (hy : opOk y = true) : Sound E o σ (binR2 T op t (σ.eval x) (σ.eval y)) := by
  unfold binR2
  split
  · rename_i xs ys e1 e2
    unfold eqR
    split
    · rename_i us vs f1 f2
      by_cases hk3 : (T t).kind = 3
      · rw [if_pos hk3]
        have main : ∀ b, eqArr T t us vs = some b → (T t).known = true ∧ (T t).eqk = true ∧ (T (T t).elem).known = true → ∀ a w, Sat E σ a w → E.P.eqGuardType E.P.depth t = false ∧ a.eval x = .agg us.toArray ∧ a.eval y = .agg vs.toArray ∧ ∀ w, (Op.equal t (.agg us.toArray) (.agg vs.toArray)).run E.P w = .ok b w := by
          rintro b hb ⟨hk, hq, hke⟩ a w hs
          have h1 := hs.eval x hx
          have h2 := hs.eval y hy
          rw [e1] at h1
          rw [e2] at h2
          obtain ⟨us', g1, g2⟩ := has_agg h1
          obtain ⟨vs', g3, g4⟩ := has_agg h2
          rw [litsA_has f1 g2] at g1
          rw [litsA_has f2 g4] at g3
          obtain ⟨_, _, _, _, _, _, _, _, _, _, _, _, _, _, _, _, _, k8⟩ := hT t hk
          refine ⟨(k8 hq).2.1, g1, g3, fun w => ?_⟩
          unfold eqArr at hb
          split at hb
          · rename_i hc
            obtain ⟨c1, c2, c3, c4⟩ := hc
            obtain ⟨info, i1, i2, _⟩ := ti hT hke
            have hcl : E.P.cellsOf (T t).elem = 1 := by simp [Program.cellsOf, i1, i2, c2]
            rw [equal_succ, run_equalIn_array w 9999 us.toArray vs.toArray (ti_array hT hk hk3) i1, hcl, List.range_eq_range']
            exact run_eqOnes hT hke c1 c2 9998 w (T t).alen 0 us vs us vs b c3 rfl rfl hb
          · cases hb
        split
        · rename_i b hb
          refine Sound.pure fun hc a w hs => ?_
          obtain ⟨g0, g1, g2, g3⟩ := main b hb hc a w hs
          exact ⟨.bool b, run_bin ho g1 g2 (eqGuard_agg _ _ _ _ _ _ _ g0) (by simp only [binOp, Sem.run_bind, g3, Result.andThen_ok]; rfl), has_lit_mk _ rfl⟩
        · rename_i b hb
          refine Sound.pure fun hc a w hs => ?_
          obtain ⟨g0, g1, g2, g3⟩ := main b hb hc a w hs
          exact ⟨.bool !b, run_bin ho g1 g2 (eqGuard_agg _ _ _ _ _ _ _ g0) (by simp only [binOp, Sem.run_bind, g3, Result.andThen_ok]; rfl), has_lit_mk _ rfl⟩
        · exact Sound.no
      rw [if_neg hk3]
      have main : ∀ b, eqV T 4 t us vs = some b → (T t).kind = 2 → ∀ a w, Sat E σ a w → E.P.eqGuardType E.P.depth t = false ∧ a.eval x = .agg us.toArray ∧ a.eval y = .agg vs.toArray ∧ ∀ w, (Op.equal t (.agg us.toArray) (.agg vs.toArray)).run E.P w = .ok b w := by
        intro b hb hk a w hs
        have h1 := hs.eval x hx
        have h2 := hs.eval y hy
        rw [e1] at h1
        rw [e2] at h2
        obtain ⟨us', g1, g2⟩ := has_agg h1
        obtain ⟨vs', g3, g4⟩ := has_agg h2
        rw [litsA_has f1 g2] at g1
        rw [litsA_has f2 g4] at g3
        have hgd : E.P.eqGuardType E.P.depth t = false := by
          have hb' := hb
          unfold eqV at hb'
          rw [if_pos hk] at hb'
          split at hb'
          · rename_i hc
            obtain ⟨_, _, _, _, _, _, _, _, _, _, _, _, _, _, _, _, _, k8⟩ := hT t hc.1
            exact (k8 hc.2).2.1
          · cases hb'
        refine ⟨hgd, g1, g3, fun w => ?_⟩
        have := run_eqV hT 4 10000 (by omega) t us vs b hb w
        have ha : (T t).agg = true := by
          have hb' := hb
          unfold eqV at hb'
          rw [if_pos hk] at hb'
          split at hb'
          · rename_i hc
            obtain ⟨info, e, _, hu, _, _, _, _, _, ha, _, k2, _⟩ := hT t hc.1
            obtain ⟨fs, rfl, _⟩ := k2 hk
            exact ha.symm
          · cases hb'
        simp only [asV, ha, if_true] at this
        exact this
      split
      · rename_i b hb
        refine Sound.pure fun hc a w hs => ?_
        obtain ⟨g0, g1, g2, g3⟩ := main b hb hc a w hs
        exact ⟨.bool b, run_bin ho g1 g2 (eqGuard_agg _ _ _ _ _ _ _ g0) (by simp only [binOp, Sem.run_bind, g3, Result.andThen_ok]; rfl), has_lit_mk _ rfl⟩
      · rename_i b hb
        refine Sound.pure fun hc a w hs => ?_
        obtain ⟨g0, g1, g2, g3⟩ := main b hb hc a w hs
        exact ⟨.bool !b, run_bin ho g1 g2 (eqGuard_agg _ _ _ _ _ _ _ g0) (by simp only [binOp, Sem.run_bind, g3, Result.andThen_ok]; rfl), has_lit_mk _ rfl⟩
      · exact Sound.no
    · exact Sound.no
  · rename_i sz rows e1 e2
    have main : (T t).known = true ∧ (T t).kind = 1 → ∀ a w, Sat E σ a w → ∃ (g : Nat) (A : Option Addr) (n c : Nat), a.eval x = .slice A n c ∧ a.eval y = .slice none 0 0 ∧ (∀ w, (Op.equal t (.slice A n c) (.slice none 0 0)).run E.P w = .ok (rows.isEmpty && g == 0) w) ∧ ∀ w, (eqGuard op t x y (.slice A n c) (.slice none 0 0)).run E.P w = .ok () w := by
      rintro ⟨hk, hkind⟩ a w hs
      obtain ⟨info, d, _, hu, _, _, _, _, _, _, k1, _⟩ := hT t hk
      have hu' : E.P.underlying t = some (.slice (T t).elem) := by rw [hu, k1 hkind]
      have h1 := hs.eval x hx
      have h2 := hs.eval y hy
      rw [e1] at h1
      rw [e2] at h2
      have h2 := has_lit h2
      simp only [Has, Rep] at h1
      obtain ⟨ad, cap, h1, hc1, hc2, hrep⟩ := h1
      have hg : ∀ w, (eqGuard op t x y (.slice ad rows.length cap) (.slice none 0 0)).run E.P w = .ok () w := fun w => by
        unfold eqGuard; cases op <;> simp
      cases ad with
      | none =>
        refine ⟨0, _, _, _, h1, h2, fun w => ?_, hg⟩
        have hr : rows = [] := by
          rcases hrep with hrep | ⟨b, o', hrep, _⟩
          · exact hrep
          · cases hrep
        subst hr
        rw [equal_succ, Op.equalIn]
        simp [run_underlying hu']
      | some ad =>
        refine ⟨1, _, _, _, h1, h2, fun w => ?_, hg⟩
        rw [equal_succ, Op.equalIn]
        simp [run_underlying hu']
    unfold nilEqR
    split
    · refine Sound.of ?_
      intro hc a w hs
      obtain ⟨g, A, n, c, q1, q2, h1, h2⟩ := main hc a w hs
      exact ⟨g, .nilFunc, _, w, run_bin ho q1 q2 (h2 w) (by simp only [binOp, Sem.run_bind, h1, Result.andThen_ok]; rfl), hs, has_lit_mk _ rfl⟩
    · refine Sound.of ?_
      intro hc a w hs
      obtain ⟨g, A, n, c, q1, q2, h1, h2⟩ := main hc a w hs
      exact ⟨g, .nilFunc, _, w, run_bin ho q1 q2 (h2 w) (by simp only [binOp, Sem.run_bind, h1, Result.andThen_ok]; rfl), hs, has_lit_mk _ rfl⟩
    · exact Sound.no
  · exact sound_bin hT ho hx hy
end
end Go.Proofs.YtopigomfhggkoaaDoor.A
