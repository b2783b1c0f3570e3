/- What a piece of code does to states; its rules; what a call of a function says, and how it is shown of a body. -/
import Derived.Test.YtopigomfhggkoaaDoorJA3
import Derived.Deep.LoopGhost
set_option linter.unusedVariables false
set_option linter.unusedSimpArgs false
namespace Go.Proofs.YtopigomfhggkoaaDoor.A
open Go.RowKit
def AWp (E : Env) (c : Code) (Q : Exit → St → Prop) (σ : St) : Prop :=
  ∀ a w, Sat E σ a w → c.wpIn E.F 0 E.P (fun e a' w' => ∃ σ', Q e σ' ∧ Sat E σ' a' w') a w
def thenA (K : St → Prop) (Q : Exit → St → Prop) : Exit → St → Prop
  | .normal, σ => K σ
  | e, σ => Q e σ
def blockA (id : Nat) (Q : Exit → St → Prop) : Exit → St → Prop
  | .exit i, σ => if i = id then Q .normal σ else Q (.exit i) σ
  | e, σ => Q e σ
def Wk (E : Env) (σ σ' : St) : Prop := ∀ a w, Sat E σ a w → Sat E σ' a w
theorem Wk.refl (E : Env) (σ : St) : Wk E σ σ := fun _ _ h => h
theorem Wk.trans {E : Env} {a b c : St} (h : Wk E a b) (k : Wk E b c) : Wk E a c := fun x w s => k x w (h x w s)
section
variable {E : Env} {Q Q' : Exit → St → Prop} {σ σ' : St} {c x y : Code}
theorem wpIn_loop_ghost {F : Fence} {m : Nat} {P : Program} {Q : Exit → Act → World → Prop} {a : Act} {w : World} {c : Code} (I : Nat → Act → World → Prop) (n₀ : Nat) (h₀ : I n₀ a w)
    (round : ∀ n a w, I n a w → c.wpIn F m P (Exit.then (fun a' w' => ∃ n', n' < n ∧ I n' a' w') Q) a w) : (Code.loop c).wpIn F m P Q a w := by
  refine wpIn_loop (fun a w => ∃ n, I n a w) (fun a w => leastOf (fun n => I n a w)) ⟨n₀, h₀⟩ ?_
  intro a w hI
  refine wpIn_mono (round _ a w (leastOf_spec hI).1) ?_
  intro e a' w' hq
  cases e with
  | normal =>
    obtain ⟨n', hlt, hI'⟩ := hq
    exact show (∃ n, I n a' w') ∧ leastOf (fun n => I n a' w') < leastOf (fun n => I n a w) from ⟨⟨n', hI'⟩, Nat.lt_of_le_of_lt ((leastOf_spec ⟨n', hI'⟩).2 n' hI') hlt⟩
  | _ => exact hq
theorem awp_mono (h : AWp E c Q σ) (hq : ∀ e s, Q e s → Q' e s) : AWp E c Q' σ := fun a w hs =>
  wpIn_mono (h a w hs) fun e a' w' ⟨s, q, hs'⟩ => ⟨s, hq _ _ q, hs'⟩
theorem awp_wk (hw : Wk E σ σ') (h : AWp E c Q σ') : AWp E c Q σ := fun a w hs => h a w (hw a w hs)
theorem awp_skip (h : Q .normal σ) : AWp E .skip Q σ := fun a w hs => wpIn_skip ⟨σ, h, hs⟩
theorem awp_label {l : Nat} (h : Q .normal σ) : AWp E (.label l) Q σ := fun a w hs => wpIn_label ⟨σ, h, hs⟩
theorem awp_exit {id : Nat} (h : Q (.exit id) σ) : AWp E (.exit id) Q σ := fun a w hs => wpIn_exit ⟨σ, h, hs⟩
theorem awp_ret (h : Q .ret σ) : AWp E .ret Q σ := fun a w hs => wpIn_ret ⟨σ, h, hs⟩
theorem awp_seq (h : AWp E x (thenA (fun s => AWp E y Q s) Q) σ) : AWp E (.seq x y) Q σ := fun a w hs => by
  refine wpIn_seq (wpIn_mono (h a w hs) ?_)
  rintro e a' w' ⟨s, q, hs'⟩
  cases e with
  | normal => exact q a' w' hs'
  | _ => exact ⟨s, q, hs'⟩
theorem awp_block {id : Nat} (h : AWp E c (blockA id Q) σ) : AWp E (.block id c) Q σ := fun a w hs => by
  refine wpIn_block (wpIn_mono (h a w hs) ?_)
  rintro e a' w' ⟨s, q, hs'⟩
  cases e with
  | exit i =>
    simp only [blockA] at q
    simp only [Exit.inBlock]
    split
    · rename_i hi; rw [if_pos hi] at q; exact ⟨s, q, hs'⟩
    · rename_i hi; rw [if_neg hi] at q; exact ⟨s, q, hs'⟩
  | _ => exact ⟨s, q, hs'⟩
def scopeA (Q : Exit → St → Prop) : Exit → St → Prop
  | .goto _, _ => False
  | e, s => Q e s
theorem awp_scope (hrd : E.rd = none) (h : AWp E c (scopeA Q) σ) : AWp E (.scope c) Q σ := fun a w hs => by
  have hF : E.F = Fence.wide := by simp only [Env.F, hrd]; rfl
  have h1 := h a w hs
  rw [hF] at h1 ⊢
  rw [wpIn_wide] at h1 ⊢
  refine wp_scope_straight (wp_mono h1 ?_)
  rintro e a' w' ⟨s, q, hs'⟩
  cases e with
  | goto l => exact q.elim
  | _ => exact ⟨s, q, hs'⟩
theorem awp_cond {t : Nat} (b : Bool) (hb : σ.t[t]? = some (.d (.lit (.bool b)))) (h1 : b = true → AWp E x Q σ) (h2 : b = false → AWp E y Q σ) : AWp E (.cond (.tmp t) x y) Q σ := fun a w hs => by
  obtain ⟨v, hv, hh⟩ := hs.t.get t _ hb
  simp only [Has, Rep] at hh
  have he : a.eval (.tmp t) = .bool b := by
    simp only [Act.eval]
    rw [Array.getElem?_toList] at hv
    rw [Array.getD_eq_getD_getElem?, hv]
    exact hh.1
  exact wpIn_cond_split he (fun h => h1 h a w hs) (fun h => h2 h a w hs)
theorem awp_loop {ι : Type} (μ : ι → Nat) (S : ι → St) (i0 : ι) (h0 : Wk E σ (S i0))
    (round : ∀ i, AWp E c (thenA (fun s => ∃ j, μ j < μ i ∧ Wk E s (S j)) Q) (S i)) : AWp E (.loop c) Q σ := fun a w hs => by
  refine wpIn_loop_ghost (fun n a w => ∃ i, μ i = n ∧ Sat E (S i) a w) (μ i0) ⟨i0, rfl, h0 a w hs⟩ ?_
  rintro n a w ⟨i, rfl, hi⟩
  refine wpIn_mono (round i a w hi) ?_
  rintro e a' w' ⟨s, q, hs'⟩
  cases e with
  | normal =>
    obtain ⟨j, hj, hw⟩ := q
    exact ⟨μ j, hj, j, rfl, hw a' w' hs'⟩
  | _ => exact ⟨s, q, hs'⟩
end
def LeA (a b : AV) : Prop := ∀ m v, Has m a v → Has m b v
theorem LeA.refl (a : AV) : LeA a a := fun _ _ h => h
theorem LeA.any (a : AV) : LeA a .any := fun _ _ _ => by simp only [Has]
theorem LeA.name (t t' : Nat) (v : Value) : LeA (.own t v) (.own t' v) := fun _ _ h => by simpa only [Has] using h
theorem LeA.nil (sz : Nat) : LeA (.d (.lit (.slice none 0 0))) (.d (.sl sz [])) := fun _ _ h => by
  simp only [Has, Rep] at h ⊢
  exact ⟨none, 0, h.1, by simp, by simp [maxLen], by simp⟩
theorem LeA.nilOwn (t : Nat) : LeA (.d (.lit (.slice none 0 0))) (.own t (.slice none 0 0)) := fun _ _ h => by
  simp only [Has, Rep] at h ⊢
  exact ⟨h.1, by rw [h.1]; rfl⟩
def LeL : List AV → List AV → Prop
  | [], [] => True
  | a :: as, b :: bs => LeA a b ∧ LeL as bs
  | _, _ => False
theorem LeL.refl : ∀ l, LeL l l
  | [] => trivial
  | a :: l => ⟨LeA.refl a, LeL.refl l⟩
theorem LeL.has {m : Mem} : ∀ {as bs : List AV}, LeL as bs → ∀ {vs : List Value}, HasL m as vs → HasL m bs vs
  | [], [], _, _, h => h
  | a :: as, b :: bs, h, [], hv => by simp only [HasL] at hv
  | a :: as, b :: bs, h, v :: vs, hv => by
    simp only [HasL] at hv ⊢
    exact ⟨h.1 _ _ hv.1, LeL.has h.2 hv.2⟩
  | [], _ :: _, h, _, _ => h.elim
  | _ :: _, [], h, _, _ => h.elim
theorem LeA.agg {as bs : List AV} (h : LeL as bs) : LeA (.agg as) (.agg bs) := fun _ _ hv => by
  simp only [Has] at hv ⊢
  obtain ⟨vs, e, hv⟩ := hv
  exact ⟨vs, e, h.has hv⟩
theorem LeA.tup {as bs : List AV} (h : LeL as bs) : LeA (.tup as) (.tup bs) := fun _ _ hv => by
  simp only [Has] at hv ⊢
  obtain ⟨vs, e, hv⟩ := hv
  exact ⟨vs, e, h.has hv⟩
theorem Wk.slots {E : Env} {t t' : List AV} {o : List AObj} (h : LeL t t') : Wk E ⟨t, o⟩ ⟨t', o⟩ := fun a w hs =>
  ⟨hs.fr, hs.base, h.has hs.t, hs.o, hs.own, hs.inj, hs.defers, hs.sh⟩
theorem Wk.frz {E : Env} {t : List AV} {o : List AObj} (i : Nat) : Wk E ⟨t, o⟩ ⟨t, o.set i (A.frz (objD o i))⟩ := fun a w hs => hs.frz i
def LeR (rs rs' : List (List Dat)) : Prop := rs.length = rs'.length ∧ ∀ (m : Mem) (sz : Nat) (xs : List Value), RowVals m sz rs xs → RowVals m sz rs' xs
def LeO (x x' : AObj) : Prop := x' = x ∨ x' = .no ∨ (∃ e sz, x' = .row (.slice none 0 0) e sz []) ∨ (∃ g cs cs', x = .box g cs ∧ x' = .box g cs' ∧ LeL cs cs') ∨ ∃ v e sz rs rs', x = .row v e sz rs ∧ x' = .row v e sz rs' ∧ LeR rs rs'
theorem Sat.weak1 {E : Env} {σ : St} {a : Act} {w : World} (h : Sat E σ a w) (i : Nat) {x' : AObj} (hx : LeO (objD σ.o i) x') : Sat E { σ with o := σ.o.set i x' } a w := by
  rcases Nat.lt_or_ge i σ.o.length with hl | hl
  · have hid : σ.o[i]? = some σ.o[i] := List.getElem?_eq_getElem hl
    have hd : objD σ.o i = σ.o[i] := by rw [objD, List.getD_eq_getElem?_getD, hid]; rfl
    rw [hd] at hx
    refine h.turn hid (rb := none) (grownBy_refl w _) (by simp) ?_ ?_
    · intro b hb
      rcases hx with rfl | rfl | ⟨e, sz, rfl⟩ | ⟨g, cs, cs', hx, rfl, hcs⟩ | ⟨v, e, sz, rs, rs', hx, rfl, hrs⟩
      · exact ⟨.inl hb, (h.own i _ b hid hb).2⟩
      · simp [AObj.blk] at hb
      · simp [AObj.blk, Value.ownBlock] at hb
      · have hb' : σ.o[i].blk = some b := by rw [hx]; exact hb
        exact ⟨.inl hb', (h.own i _ b hid hb').2⟩
      · have hb' : σ.o[i].blk = some b := by rw [hx]; exact hb
        exact ⟨.inl hb', (h.own i _ b hid hb').2⟩
    · intro hle
      rcases hx with rfl | rfl | ⟨e, sz, rfl⟩ | ⟨g, cs, cs', hx, rfl, hcs⟩ | ⟨v, e, sz, rs, rs', hx, rfl, hrs⟩
      · exact (h.o i _ hid).mono hle fun _ _ => rfl
      · trivial
      · exact ⟨[], ⟨by simp, .inl ⟨rfl, rfl⟩⟩, rfl⟩
      · have h0 := (h.o i _ hid).mono hle fun _ _ => rfl
        rw [hx] at h0
        obtain ⟨t, vs, k1, k2, k3⟩ := h0
        exact ⟨t, vs, k1, hcs.has k2, k3⟩
      · have h0 := (h.o i _ hid).mono hle fun _ _ => rfl
        rw [hx] at h0
        obtain ⟨xs, k1, k2⟩ := h0
        exact ⟨xs, hrs.1 ▸ k1, hrs.2 _ _ _ k2⟩
  · rw [List.set_eq_of_length_le hl]
    exact h
def LeOL : List AObj → List AObj → Prop
  | [], [] => True
  | a :: as, b :: bs => LeO a b ∧ LeOL as bs
  | _, _ => False
theorem LeO.refl (x : AObj) : LeO x x := .inl rfl
theorem LeO.no (x : AObj) : LeO x .no := .inr (.inl rfl)
theorem LeO.nil (x : AObj) (e : TypeId) (sz : Nat) : LeO x (.row (.slice none 0 0) e sz []) := .inr (.inr (.inl ⟨e, sz, rfl⟩))
theorem LeO.box {g : Nat} {cs cs' : List AV} (h : LeL cs cs') : LeO (.box g cs) (.box g cs') := .inr (.inr (.inr (.inl ⟨g, cs, cs', rfl, rfl, h⟩)))
theorem LeO.rows {v : Value} {e : TypeId} {sz : Nat} {rs rs' : List (List Dat)} (h : LeR rs rs') : LeO (.row v e sz rs) (.row v e sz rs') := .inr (.inr (.inr (.inr ⟨v, e, sz, rs, rs', rfl, rfl, h⟩)))
theorem Wk.objs_at {E : Env} {t : List AV} : ∀ (pre o o' : List AObj), LeOL o o' → Wk E ⟨t, pre ++ o⟩ ⟨t, pre ++ o'⟩
  | pre, [], [], _ => Wk.refl _ _
  | pre, x :: o, x' :: o', h => by
    have h1 : Wk E ⟨t, pre ++ x :: o⟩ ⟨t, pre ++ x' :: o⟩ := fun a w hs => by
      have := hs.weak1 pre.length (x' := x') (by
        have : objD (pre ++ x :: o) pre.length = x := by simp [objD]
        rw [this]; exact h.1)
      simpa using this
    have h2 := Wk.objs_at (E := E) (t := t) (pre ++ [x']) o o' h.2
    simp only [List.append_assoc, List.singleton_append] at h2
    exact h1.trans h2
  | _, [], _ :: _, h => h.elim
  | _, _ :: _, [], h => h.elim
theorem Wk.mk {E : Env} {t t' : List AV} {o o' : List AObj} (h : LeL t t') (ho : LeOL o o') : Wk E ⟨t, o⟩ ⟨t', o'⟩ :=
  (Wk.slots h).trans (Wk.objs_at [] o o' ho)
def callable (P : Program) (f : Nat) : Prop := ∃ fn, P.funcs[f]? = some fn ∧ (fn.name == "runtime.NumGoroutine") = false ∧ fn.body.isNone = false
def HC (w : World) (C : Nat → Prop) : Prop := (∀ b, C b → b < w.heap.size) ∧ Laid ⟨w.heap, C⟩
def Spec (P : Program) (f : Nat) (args : List AV) (r : AV) : Prop :=
  callable P f ∧ ∀ (w : World), w.ShapedOpen P → ∀ (C : Nat → Prop), HC w C → ∀ vs : List Value, HasL ⟨w.heap, C⟩ args vs →
    Calls P f vs.toArray w fun e w' => ∃ v, e = .returned v ∧ Below w.heap.size w w' ∧ Has ⟨w'.heap, fun b => C b ∨ (w.heap.size ≤ b ∧ b < w'.heap.size)⟩ r v
mutual
def flat : AV → Bool
  | .any => true
  | .d (.lit _) => true
  | .agg cs => flatL cs
  | .tup cs => flatL cs
  | _ => false
def flatL : List AV → Bool
  | [] => true
  | c :: cs => flat c && flatL cs
end
mutual
theorem Has.flat {m m' : Mem} : ∀ (x : AV) (v : Value), A.flat x = true → Has m x v → Has m' x v
  | .any, _, _, _ => by simp only [Has]
  | .d (.lit _), _, _, h => by simpa only [Has, Rep] using h
  | .d (.sl _ _), _, hf, _ => by simp [A.flat] at hf
  | .own _ _, _, hf, _ => by simp [A.flat] at hf
  | .ptr _ _ _, _, hf, _ => by simp [A.flat] at hf
  | .el _ _, _, hf, _ => by simp [A.flat] at hf
  | .elo _ _ _ _ _, _, hf, _ => by simp [A.flat] at hf
  | .clo _ _, _, hf, _ => by simp [A.flat] at hf
  | .agg cs, v, hf, h => by
    simp only [Has] at h ⊢
    obtain ⟨vs, e, h⟩ := h
    exact ⟨vs, e, HasL.flat cs vs (by simpa only [A.flat] using hf) h⟩
  | .tup cs, v, hf, h => by
    simp only [Has] at h ⊢
    obtain ⟨vs, e, h⟩ := h
    exact ⟨vs, e, HasL.flat cs vs (by simpa only [A.flat] using hf) h⟩
theorem HasL.flat {m m' : Mem} : ∀ (xs : List AV) (vs : List Value), flatL xs = true → HasL m xs vs → HasL m' xs vs
  | [], [], _, _ => by simp only [HasL]
  | x :: xs, v :: vs, hf, h => by
    simp only [flatL, Bool.and_eq_true] at hf
    simp only [HasL] at h ⊢
    exact ⟨Has.flat x v hf.1 h.1, HasL.flat xs vs hf.2 h.2⟩
  | [], _ :: _, _, h => by simp only [HasL] at h
  | _ :: _, [], _, h => by simp only [HasL] at h
end
theorem Sat.call {E : Env} {σ : St} {a : Act} {w : World} (h : Sat E σ a w) {f : Nat} {xs ys : List AV} {r : AV} {vs : List Value} (hx : HasL (E.mem σ.o w) xs vs) (hk : clOkL σ.o xs) (hle : LeL (clL σ.o xs) ys) (hs : Spec E.P f ys r) :
    Calls E.P f vs.toArray w fun e w' => ∃ v, e = .returned v ∧
      (Sat E { σ with o := applyEff (frzEff σ.o (idsOfL xs)) σ.o } a w' ∧ Has (E.mem (applyEff (frzEff σ.o (idsOfL xs)) σ.o) w') r v) ∧
      (A.flat r = true → Sat E σ a w' ∧ Has (E.mem σ.o w') r v) := by
  obtain ⟨h1, h2⟩ := h.close xs vs hx hk
  refine (hs.2 w h.shaped (E.C (applyEff (frzEff σ.o (idsOfL xs)) σ.o) w) ⟨fun b hb => h1.lt_C hb, h1.laid _⟩ vs (hle.has h2)).mono ?_
  rintro e w' ⟨v, rfl, hb, hr⟩
  have hle2 : MemLe ⟨w'.heap, fun b => E.C (applyEff (frzEff σ.o (idsOfL xs)) σ.o) w b ∨ (w.heap.size ≤ b ∧ b < w'.heap.size)⟩ (E.mem (applyEff (frzEff σ.o (idsOfL xs)) σ.o) w') := by
    refine ⟨fun b hc => ?_, fun b hc => rfl⟩
    rcases hc with hc | hc
    · rcases hc with hc | hc
      · exact .inl hc
      · exact .inr ⟨hc.1, Nat.lt_of_lt_of_le hc.2.1 hb.size, hc.2.2⟩
    · refine .inr ⟨.inl (Nat.le_trans h.fr.size hc.1), hc.2, fun x hx e => ?_⟩
      obtain ⟨j, hj⟩ := List.mem_iff_getElem?.1 hx
      have := (h1.own j x b hj e).2
      omega
  exact ⟨v, rfl, ⟨h1.grow hb, Has.mono hle2 r v hr⟩, fun hf => ⟨h.grow hb, Has.flat r v hf hr⟩⟩
def RetQ (R : St → Prop) : Exit → St → Prop
  | .normal, σ => R σ
  | .ret, σ => R σ
  | _, _ => False
def resR (P : Program) (fn : Func) (r : AV) (σ : St) : Prop :=
  ∀ (E : Env) (a : Act) (w : World), E.P = P → Sat E σ a w → ∃ v xs vs, (results fn a.tmps).run P w = .ok v w ∧ HasL (E.mem σ.o w) xs vs ∧ clOkL σ.o xs ∧
    (∀ m, HasL m (clL σ.o xs) vs → Has m r v)
theorem spec_of_awp {P : Program} {f : Nat} {fn : Func} {c : Code} {args : List AV} {r : AV} (hf : P.funcs[f]? = some fn) (hn : (fn.name == "runtime.NumGoroutine") = false) (hb : fn.body = some c)
    (h : ∀ w0 C0, AWp ⟨P, w0, C0, fun _ => False, none, []⟩ c (RetQ (resR P fn r)) ⟨args ++ List.replicate (fn.ntmps - args.length) .any, List.replicate fn.ntmps .no⟩) : Spec P f args r := by
  refine ⟨⟨fn, hf, hn, by rw [hb]; rfl⟩, ?_⟩
  intro w hW C hC vs hv
  refine calls_of_wp hf hb ?_
  have hs : Sat ⟨P, w, C, fun _ => False, none, []⟩ ⟨args ++ List.replicate (fn.ntmps - args.length) .any, List.replicate fn.ntmps .no⟩
      { tmps := vs.toArray ++ Array.replicate (fn.ntmps - vs.toArray.size) undef, defers := [] } w := by
    have hno : ∀ (i : Nat) x, (List.replicate fn.ntmps AObj.no)[i]? = some x → x = .no := by
      intro i x hx
      exact (List.mem_replicate.1 (List.mem_of_getElem? hx)).2
    refine ⟨⟨rfl, rfl, rfl, Nat.le_refl _, fun _ _ _ => rfl⟩, fun b hb => ⟨hC.1 b hb, fun h => h⟩, ?_, ?_, ?_, ?_, rfl, fun _ h => h, hW, hC.2⟩
    · simp only [Array.toList_append, Array.toList_replicate, List.size_toArray]
      rw [hv.length]
      have hle : MemLe ⟨w.heap, C⟩ (Env.mem ⟨P, w, C, fun _ => False, none, []⟩ (List.replicate fn.ntmps .no) w) := ⟨fun b hb => .inl hb, fun _ _ => rfl⟩
      exact (HasL.mono hle _ _ hv).append (HasL.replicate_any _ _)
    · intro i x hx; rw [hno i x hx]; trivial
    · intro i x b hx hb; rw [hno i x hx] at hb; simp [AObj.blk] at hb
    · intro i j x y b hx _ hb; rw [hno i x hx] at hb; simp [AObj.blk] at hb
  refine wp_mono (wpIn_wide.1 (h w C _ w hs)) ?_
  rintro e a' w' ⟨σ', q, hs'⟩
  have key : resR P fn r σ' → a'.defers = [] ∧ ∃ v, (results fn a'.tmps).run P w' = .ok v w' ∧ (∃ v', Ending.returned v = .returned v' ∧ Below w.heap.size w w' ∧ Has ⟨w'.heap, fun b => C b ∨ (w.heap.size ≤ b ∧ b < w'.heap.size)⟩ r v') := by
    intro hr
    obtain ⟨v, xs, us, h1, h2, h3, h4⟩ := hr _ a' w' rfl hs'
    obtain ⟨k1, k2⟩ := hs'.close xs us h2 h3
    refine ⟨hs'.defers, v, h1, v, rfl, ⟨hs'.fr.os, hs'.fr.tape, hs'.fr.output, hs'.fr.size, fun k hk => hs'.fr.block k hk (fun h => h)⟩, ?_⟩
    have hle : MemLe (Env.mem ⟨P, w, C, fun _ => False, none, []⟩ (applyEff (frzEff σ'.o (idsOfL xs)) σ'.o) w') ⟨w'.heap, fun b => C b ∨ (w.heap.size ≤ b ∧ b < w'.heap.size)⟩ := by
      refine ⟨fun b hb => ?_, fun _ _ => rfl⟩
      rcases hb with hb | hb
      · exact .inl hb
      · exact .inr ⟨hb.1.resolve_right (fun h => h), hb.2.1⟩
    exact Has.mono hle r v (h4 _ k2)
  cases e with
  | normal => exact key q
  | ret => exact key q
  | exit id => exact q.elim
  | goto l => exact q.elim
  | panic ch => exact q.elim
  | outgrown => exact q.elim
theorem applyEff_length (es : List (Nat × AObj)) : ∀ (o : List AObj), (applyEff es o).length = o.length := by
  induction es with
  | nil => intro o; rfl
  | cons e es ih => intro o; simp only [applyEff, List.foldl_cons] at ih ⊢; rw [ih]; simp
def SpecF (P : Program) (f : Nat) (args : List AV) (e sz : Nat) (rows : List (List Dat)) : Prop :=
  callable P f ∧ ∀ (w : World), w.ShapedOpen P → ∀ (C : Nat → Prop), HC w C → ∀ vs : List Value, HasL ⟨w.heap, C⟩ args vs →
    Calls P f vs.toArray w fun x w' => ∃ v, x = .returned v ∧ Below w.heap.size w w' ∧ (∀ b, v.ownBlock = some b → w.heap.size ≤ b ∧ b < w'.heap.size) ∧
      ObjAt ⟨w'.heap, fun b => C b ∨ (w.heap.size ≤ b ∧ b < w'.heap.size ∧ v.ownBlock ≠ some b)⟩ (.row v e sz rows)
theorem Sat.callF {E : Env} {σ : St} {a : Act} {w : World} (h : Sat E σ a w) {f : Nat} {xs ys : List AV} {e sz d : Nat} {rows : List (List Dat)} {vs : List Value} (hx : HasL (E.mem σ.o w) xs vs) (hk : clOkL σ.o xs) (hle : LeL (clL σ.o xs) ys) (hd : d < σ.o.length) (hs : SpecF E.P f ys e sz rows) :
    Calls E.P f vs.toArray w fun x w' => ∃ v, x = .returned v ∧ Sat E { σ with o := applyEff (frzEff σ.o (idsOfL xs) ++ [(d, .row v e sz rows)]) σ.o } a w' ∧ Has (E.mem (applyEff (frzEff σ.o (idsOfL xs) ++ [(d, .row v e sz rows)]) σ.o) w') (.own d v) v := by
  obtain ⟨h1, h2⟩ := h.close xs vs hx hk
  refine (hs.2 w h.shaped (E.C (applyEff (frzEff σ.o (idsOfL xs)) σ.o) w) ⟨fun b hb => h1.lt_C hb, h1.laid _⟩ vs (hle.has h2)).mono ?_
  rintro x w' ⟨v, rfl, hb, hv, hr⟩
  have hap : applyEff (frzEff σ.o (idsOfL xs) ++ [(d, .row v e sz rows)]) σ.o = (applyEff (frzEff σ.o (idsOfL xs)) σ.o).set d (.row v e sz rows) := by
    simp only [applyEff, List.foldl_append, List.foldl_cons, List.foldl_nil]
  have hlen : d < (applyEff (frzEff σ.o (idsOfL xs)) σ.o).length := by rw [applyEff_length]; exact hd
  have hid : (applyEff (frzEff σ.o (idsOfL xs)) σ.o)[d]? = some (applyEff (frzEff σ.o (idsOfL xs)) σ.o)[d] := List.getElem?_eq_getElem hlen
  refine ⟨v, rfl, ?_, ?_⟩
  · rw [hap]
    refine h1.turn (rb := none) hid ⟨hb.os, hb.tape, hb.output, hb.size, fun k hk _ => hb.block k hk⟩ (by simp) (fun b hbb => ?_) fun hle' => ?_
    · have := hv b (by simpa only [AObj.blk] using hbb)
      exact ⟨.inr this.1, this.2⟩
    · have hle3 : MemLe ⟨w'.heap, fun b => E.C (applyEff (frzEff σ.o (idsOfL xs)) σ.o) w b ∨ (w.heap.size ≤ b ∧ b < w'.heap.size ∧ v.ownBlock ≠ some b)⟩ (E.mem ((applyEff (frzEff σ.o (idsOfL xs)) σ.o).set d (.row v e sz rows)) w') := by
        refine ⟨fun b hc => ?_, fun b hc => rfl⟩
        rcases hc with hc | hc
        · exact hle'.C b hc
        refine .inr ⟨.inl (Nat.le_trans h.fr.size hc.1), hc.2.1, fun x hx ee => ?_⟩
        rcases List.mem_or_eq_of_mem_set hx with hx | hx
        · obtain ⟨j, hj⟩ := List.mem_iff_getElem?.1 hx
          have := (h1.own j x b hj ee).2
          omega
        · rw [hx] at ee
          exact hc.2.2 (by simpa only [AObj.blk] using ee)
      exact hr.mono hle3 fun _ _ => rfl
  · obtain ⟨zs, ⟨_, ho⟩, _⟩ := hr
    simp only [Has]
    refine ⟨trivial, ?_⟩
    rcases ho with ⟨rfl, _⟩ | ⟨g, cap, cur, rfl, _⟩ <;> rfl
def resF (P : Program) (fn : Func) (e sz : Nat) (rows : List (List Dat)) (σ : St) : Prop :=
  ∀ (E : Env) (a : Act) (w : World), E.P = P → Sat E σ a w → ∃ (v : Value) (d : Nat) (σ' : St), (results fn a.tmps).run P w = .ok v w ∧ Sat E σ' a w ∧ σ'.o[d]? = some (AObj.row v e sz rows)
theorem specF_of_awp {P : Program} {f : Nat} {fn : Func} {c : Code} {args : List AV} {e0 sz : Nat} {rows : List (List Dat)} (hf : P.funcs[f]? = some fn) (hn : (fn.name == "runtime.NumGoroutine") = false) (hb : fn.body = some c)
    (h : ∀ w0 C0, AWp ⟨P, w0, C0, fun _ => False, none, []⟩ c (RetQ (resF P fn e0 sz rows)) ⟨args ++ List.replicate (fn.ntmps - args.length) .any, List.replicate fn.ntmps .no⟩) : SpecF P f args e0 sz rows := by
  refine ⟨⟨fn, hf, hn, by rw [hb]; rfl⟩, ?_⟩
  intro w hW C hC vs hv
  refine calls_of_wp hf hb ?_
  have hs : Sat ⟨P, w, C, fun _ => False, none, []⟩ ⟨args ++ List.replicate (fn.ntmps - args.length) .any, List.replicate fn.ntmps .no⟩
      { tmps := vs.toArray ++ Array.replicate (fn.ntmps - vs.toArray.size) undef, defers := [] } w := by
    have hno : ∀ (i : Nat) x, (List.replicate fn.ntmps AObj.no)[i]? = some x → x = .no := by
      intro i x hx
      exact (List.mem_replicate.1 (List.mem_of_getElem? hx)).2
    refine ⟨⟨rfl, rfl, rfl, Nat.le_refl _, fun _ _ _ => rfl⟩, fun b hb => ⟨hC.1 b hb, fun h => h⟩, ?_, ?_, ?_, ?_, rfl, fun _ h => h, hW, hC.2⟩
    · simp only [Array.toList_append, Array.toList_replicate, List.size_toArray]
      rw [hv.length]
      have hle : MemLe ⟨w.heap, C⟩ (Env.mem ⟨P, w, C, fun _ => False, none, []⟩ (List.replicate fn.ntmps .no) w) := ⟨fun b hb => .inl hb, fun _ _ => rfl⟩
      exact (HasL.mono hle _ _ hv).append (HasL.replicate_any _ _)
    · intro i x hx; rw [hno i x hx]; trivial
    · intro i x b hx hb; rw [hno i x hx] at hb; simp [AObj.blk] at hb
    · intro i j x y b hx _ hb; rw [hno i x hx] at hb; simp [AObj.blk] at hb
  refine wp_mono (wpIn_wide.1 (h w C _ w hs)) ?_
  rintro e a' w' ⟨σ', q, hs'⟩
  have key : resF P fn e0 sz rows σ' → a'.defers = [] ∧ ∃ v, (results fn a'.tmps).run P w' = .ok v w' ∧ (∃ v', Ending.returned v = .returned v' ∧ Below w.heap.size w w' ∧ (∀ b, v'.ownBlock = some b → w.heap.size ≤ b ∧ b < w'.heap.size) ∧ ObjAt ⟨w'.heap, fun b => C b ∨ (w.heap.size ≤ b ∧ b < w'.heap.size ∧ v'.ownBlock ≠ some b)⟩ (.row v' e0 sz rows)) := by
    intro hr
    obtain ⟨v, d, τ, h1, h2, h3⟩ := hr _ a' w' rfl hs'
    refine ⟨hs'.defers, v, h1, v, rfl, ⟨hs'.fr.os, hs'.fr.tape, hs'.fr.output, hs'.fr.size, fun k hk => hs'.fr.block k hk (fun h => h)⟩, fun b hb => ?_, ?_⟩
    · have := h2.own d _ b h3 (by simpa only [AObj.blk] using hb)
      exact ⟨this.1.resolve_right (fun h => h), this.2⟩
    · have hle3 : MemLe (Env.mem ⟨P, w, C, fun _ => False, none, []⟩ τ.o w') ⟨w'.heap, fun b => C b ∨ (w.heap.size ≤ b ∧ b < w'.heap.size ∧ v.ownBlock ≠ some b)⟩ := by
        refine ⟨fun b hb => ?_, fun _ _ => rfl⟩
        rcases hb with hb | hb
        · exact .inl hb
        · exact .inr ⟨hb.1.resolve_right (fun h => h), hb.2.1, fun h => hb.2.2 _ (List.mem_of_getElem? h3) (by simpa only [AObj.blk] using h)⟩
      exact (h2.o d _ h3).mono hle3 (fun _ _ => rfl)
  cases e with
  | normal => exact key q
  | ret => exact key q
  | exit id => exact q.elim
  | goto l => exact q.elim
  | panic ch => exact q.elim
  | outgrown => exact q.elim
def SpecN (P : Program) (f : Nat) (args : List AV) (r : AV) : Prop :=
  callable P f ∧ ∀ (w : World), w.ShapedOpen P → ∀ (C : Nat → Prop), HC w C → ∀ vs : List Value, HasL ⟨w.heap, C⟩ args vs →
    Calls P f vs.toArray w fun e w' => ∃ v, e = .returned v ∧ Below w.heap.size w w' ∧ Has ⟨w'.heap, fun b => w.heap.size ≤ b ∧ b < w'.heap.size⟩ r v
theorem Sat.callN {E : Env} {σ : St} {a : Act} {w : World} (h : Sat E σ a w) {f : Nat} {xs ys : List AV} {r : AV} {vs : List Value} (hx : HasL (E.mem σ.o w) xs vs) (hk : clOkL σ.o xs) (hle : LeL (clL σ.o xs) ys) (hs : SpecN E.P f ys r) :
    Calls E.P f vs.toArray w fun e w' => ∃ v, e = .returned v ∧ Sat E σ a w' ∧ Has (E.mem σ.o w') r v := by
  obtain ⟨h1, h2⟩ := h.close xs vs hx hk
  refine (hs.2 w h.shaped (E.C (applyEff (frzEff σ.o (idsOfL xs)) σ.o) w) ⟨fun b hb => h1.lt_C hb, h1.laid _⟩ vs (hle.has h2)).mono ?_
  rintro e w' ⟨v, rfl, hb, hr⟩
  have hle2 : MemLe ⟨w'.heap, fun b => w.heap.size ≤ b ∧ b < w'.heap.size⟩ (E.mem σ.o w') := ?_
  · exact ⟨v, rfl, h.grow hb, Has.mono hle2 r v hr⟩
  refine ⟨fun b hc => ?_, fun _ _ => rfl⟩
  refine .inr ⟨.inl (Nat.le_trans h.fr.size hc.1), hc.2, fun x hx e => ?_⟩
  obtain ⟨j, hj⟩ := List.mem_iff_getElem?.1 hx
  have := (h.own j x b hj e).2
  have := hc.1
  omega
def litD : Dat → Bool
  | .lit _ => true
  | _ => false
def flatRows (rows : List (List Dat)) : Prop := ∀ r ∈ rows, r.all litD = true
theorem flatRows_map {α : Type} {f : α → List Dat} (h : ∀ x, (f x).all litD = true) (l : List α) : flatRows (l.map f) := fun r hr => by
  obtain ⟨x, _, rfl⟩ := List.mem_map.1 hr
  exact h x
theorem DatL.lits {m m' : Mem} : ∀ {ds : List Dat} {vs : List Value}, ds.all litD = true → DatL m ds vs → DatL m' ds vs
  | [], [], _, _ => trivial
  | .lit v :: ds, x :: vs, h, hr => by
    simp only [List.all_cons, Bool.and_eq_true] at h
    exact ⟨by have := hr.1; simpa only [Rep] using this, DatL.lits h.2 hr.2⟩
  | .sl _ _ :: _, _ :: _, h, _ => by simp [litD] at h
  | .ptr _ _ :: _, _ :: _, h, _ => by simp [litD] at h
  | .fn _ _ :: _, _ :: _, h, _ => by simp [litD] at h
  | .mp _ :: _, _ :: _, h, _ => by simp [litD] at h
  | [], _ :: _, _, h => h.elim
  | _ :: _, [], _, h => h.elim
theorem RowVals.lits {m m' : Mem} {sz : Nat} : ∀ {rows : List (List Dat)} {xs : List Value}, flatRows rows → RowVals m sz rows xs → RowVals m' sz rows xs
  | [], _, _, hr => hr
  | r :: rs, xs, h, hr => ⟨hr.1, DatL.lits (h r (List.mem_cons_self ..)) hr.2.1, RowVals.lits (fun x hx => h x (List.mem_cons_of_mem _ hx)) hr.2.2⟩
mutual
def newOk (o : List AObj) : AV → Prop
  | .own t u => match objD o t with | .row v _ _ rows => u = v ∧ flatRows rows | _ => False
  | .agg cs => newOkL o cs
  | .tup cs => newOkL o cs
  | .d (.lit _) => True
  | _ => False
def newOkL (o : List AObj) : List AV → Prop
  | [] => True
  | c :: cs => newOk o c ∧ newOkL o cs
end
mutual
theorem Has.new {E : Env} {σ : St} {a : Act} {w : World} (hs : Sat E σ a w) : ∀ (x : AV) (v : Value), newOk σ.o x → Has (E.mem σ.o w) x v → Has ⟨w.heap, fun b => (E.w0.heap.size ≤ b ∨ E.M b) ∧ b < w.heap.size⟩ (A.cl σ.o x) v
  | .any, _, h, _ => by simp only [newOk] at h
  | .d (.lit _), v, _, hv => by simpa only [A.cl, Has, Rep] using hv
  | .d (.sl _ _), _, h, _ => by simp only [newOk] at h
  | .d (.ptr _ _), _, h, _ => by simp only [newOk] at h
  | .d (.fn _ _), _, h, _ => by simp only [newOk] at h
  | .d (.mp _), _, h, _ => by simp only [newOk] at h
  | .own t u, v, h, hv => by
    simp only [newOk] at h
    simp only [A.cl]
    have ho := objAt_objD hs.o t
    have hb := fun b => hs.own t (objD σ.o t) b
    cases hd : objD σ.o t with
    | row v' e sz rows =>
      rw [hd] at h ho hb
      obtain ⟨rfl, hf⟩ := h
      simp only [Has] at hv ⊢
      obtain ⟨rfl, _⟩ := hv
      obtain ⟨xs, h1, h2⟩ := ho
      have h3 : ObjAt ⟨w.heap, fun _ => False⟩ (.row v e sz rows) := ⟨xs, h1, h2.lits hf⟩
      have hle2 : MemLe ⟨w.heap, fun _ => False⟩ ⟨w.heap, fun b => (E.w0.heap.size ≤ b ∨ E.M b) ∧ b < w.heap.size⟩ := ⟨fun b hb => hb.elim, fun _ hb => hb.elim⟩
      refine frz_rep hle2 rfl (fun b hbb => ?_) h3
      rcases Nat.lt_or_ge t σ.o.length with hl | hl
      · refine hb b ?_ (by simpa only [AObj.blk] using hbb)
        rw [← hd, objD, List.getD_eq_getElem?_getD, List.getElem?_eq_getElem hl]; rfl
      · rw [objD, List.getD_eq_getElem?_getD, List.getElem?_eq_none hl] at hd; cases hd
    | _ => rw [hd] at h; exact h.elim
  | .ptr _ _ _, _, h, _ => by simp only [newOk] at h
  | .el _ _, _, h, _ => by simp only [newOk] at h
  | .elo _ _ _ _ _, _, h, _ => by simp only [newOk] at h
  | .clo _ _, _, h, _ => by simp only [newOk] at h
  | .agg cs, v, h, hv => by
    simp only [newOk] at h
    simp only [A.cl, Has] at hv ⊢
    obtain ⟨vs, e, hv⟩ := hv
    exact ⟨vs, e, HasL.new hs cs vs h hv⟩
  | .tup cs, v, h, hv => by
    simp only [newOk] at h
    simp only [A.cl, Has] at hv ⊢
    obtain ⟨vs, e, hv⟩ := hv
    exact ⟨vs, e, HasL.new hs cs vs h hv⟩
theorem HasL.new {E : Env} {σ : St} {a : Act} {w : World} (hs : Sat E σ a w) : ∀ (xs : List AV) (vs : List Value), newOkL σ.o xs → HasL (E.mem σ.o w) xs vs → HasL ⟨w.heap, fun b => (E.w0.heap.size ≤ b ∨ E.M b) ∧ b < w.heap.size⟩ (clL σ.o xs) vs
  | [], [], _, _ => by simp only [clL, HasL]
  | x :: xs, v :: vs, h, hv => by
    simp only [newOkL] at h
    simp only [clL, HasL] at hv ⊢
    exact ⟨Has.new hs x v h.1 hv.1, HasL.new hs xs vs h.2 hv.2⟩
  | [], _ :: _, _, h => by simp only [HasL] at h
  | _ :: _, [], _, h => by simp only [HasL] at h
end
end Go.Proofs.YtopigomfhggkoaaDoor.A
