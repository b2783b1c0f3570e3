/- Maps that are read. -/
import Derived.Test.YtopigomfhggkoaaDoorJB4
set_option linter.unusedVariables false
set_option linter.unusedSimpArgs false
namespace Go.Proofs.YtopigomfhggkoaaDoor.A
open Go.RowKit
section
variable {E : Env} {o : Oper} {σ : St} {T : Tab}
def sameK : Value → Value → Option Bool
  | .int k a, .int k' b => if k = k' then some (a == b) else none
  | .bool a, .bool b => some (a == b)
  | _, _ => none
def findE (k : Value) : List (Value × Value) → Option (Option Value)
  | [] => some none
  | e :: es => match findE k es, sameK k e.1 with
    | some r, some b => some (if b = true then some e.2 else r)
    | _, _ => none
def uniqE : List (Value × Value) → Bool
  | [] => true
  | e :: es => es.all (fun e' => sameK e.1 e'.1 == some false) && uniqE es
theorem sameK_symm {a b : Value} : sameK a b = some false → sameK b a = some false := by
  cases a <;> cases b <;> simp only [sameK] <;> try (intro h; cases h; done)
  · intro h
    rename_i x y
    cases x <;> cases y <;> first | rfl | cases h
  · rename_i k n k' n'
    by_cases hk : k = k'
    · subst hk
      rw [if_pos rfl, if_pos rfl]
      intro h
      have h' : (n == n') = false := Option.some.inj h
      have : n ≠ n' := by simpa using h'
      have h2 : (n' == n) = false := by simpa using fun h => this h.symm
      rw [h2]
    · rw [if_neg hk]
      intro h; cases h
theorem sameK_trans {k a b : Value} (h1 : sameK k a = some true) (h2 : sameK k b = some true) : sameK a b = some true := by
  cases k <;> cases a <;> simp only [sameK] at h1 <;> try (cases h1; done)
  · cases b <;> simp only [sameK] at h2 <;> try (cases h2; done)
    rename_i x y z
    cases x <;> cases y <;> cases z <;> first | rfl | (exact absurd h1 (by decide)) | (exact absurd h2 (by decide))
  · rename_i k0 n k1 m
    cases b <;> simp only [sameK] at h2 <;> try (cases h2; done)
    rename_i k2 l
    split at h1
    · rename_i e1
      split at h2
      · rename_i e2
        subst e1 e2
        have g1 : n = m := by simpa using Option.some.inj h1
        have g2 : n = l := by simpa using Option.some.inj h2
        subst g1 g2
        simp [sameK]
      · cases h2
    · cases h1
theorem uniqE_pw : ∀ {es : List (Value × Value)}, uniqE es = true → es.Pairwise fun a b => sameK a.1 b.1 = some false
  | [], _ => List.Pairwise.nil
  | e :: es, h => by
    simp only [uniqE, Bool.and_eq_true, List.all_eq_true, beq_iff_eq] at h
    exact List.Pairwise.cons h.1 (uniqE_pw h.2)
theorem findE_perm {k : Value} {es en : List (Value × Value)} (hp : es.Perm en) : ∀ {r : Option Value}, (es.Pairwise fun a b => sameK a.1 b.1 = some false) → findE k es = some r → findE k en = some r := by
  induction hp with
  | nil => intro r _ h; exact h
  | cons x _ ih =>
    rename_i l1 l2 _
    intro r hu h
    simp only [findE] at h ⊢
    cases h1 : findE k l1 with
    | none => rw [h1] at h; cases h
    | some r1 => rw [h1] at h; rw [ih (List.pairwise_cons.1 hu).2 h1]; exact h
  | swap x y l =>
    intro r hu h
    simp only [findE] at h ⊢
    cases h0 : findE k l with
    | none => rw [h0] at h; cases h
    | some r0 =>
      rw [h0] at h
      cases hx : sameK k x.1 with
      | none => rw [hx] at h; cases h
      | some bx =>
        cases hy : sameK k y.1 with
        | none => rw [hx, hy] at h; cases h
        | some b_y =>
          rw [hx, hy] at h
          rw [← h]
          have hxy := (List.pairwise_cons.1 hu).1 x (List.mem_cons_self ..)
          cases bx <;> cases b_y <;> try rfl
          rw [sameK_trans hy hx] at hxy
          cases hxy
  | trans p1 _ ih1 ih2 =>
    intro r hu h
    exact ih2 (p1.pairwise hu fun h => sameK_symm h) (ih1 hu h)
def valA : Value → AV
  | .agg cs => .agg (cs.toList.map fun c => .d (.lit c))
  | v => .d (.lit v)
def valOk : Value → Bool
  | .agg cs => cs.toList.all (·.oneCell')
  | v => v.oneCell'
theorem valA_has {m : Mem} {v : Value} (h : valOk v = true) : Has m (valA v) v := by
  cases v <;> first
    | (simp only [valA, Has]; exact ⟨_, by simp, hasL_lits (by simpa [valOk] using h)⟩)
    | (simp only [valA, Has, Rep]; exact ⟨trivial, h⟩)
def keyOk (T : Tab) (k : Nat) : Value → Bool
  | .int ik _ => decide ((T k).kind = 5 ∧ (T k).ik = ik)
  | .bool _ => decide ((T k).kind = 6)
  | _ => false
def lookC (T : Tab) (t : Nat) (es : List (Value × Value)) (k : Value) : Bool :=
  (T t).known && decide ((T t).kind = 9) && (T (T t).alen).known && keyOk T (T t).alen k && uniqE es
theorem lookC_iff {T : Tab} {t : Nat} {es : List (Value × Value)} {k : Value} (h : lookC T t es k = true) : (T t).known = true ∧ (T t).kind = 9 ∧ (T (T t).alen).known = true ∧ keyOk T (T t).alen k = true ∧ uniqE es = true := by
  simp only [lookC, Bool.and_eq_true, decide_eq_true_eq] at h
  exact ⟨h.1.1.1.1, h.1.1.1.2, h.1.1.2, h.1.2, h.2⟩
def comma (ok : Bool) (x : AV) (b : Bool) : AV := if ok = true then .tup [x, litB b] else x
def lookupR (T : Tab) (t : Nat) (x i : AV) (ok : Bool) : Res := match x, i with
  | .d (.mp es), .d (.lit k) => match findE k es with
    | some (some v) => R0 (lookC T t es k = true ∧ valOk v = true) (comma ok (valA v) true)
    | some none => R0 (lookC T t es k = true ∧ (T (T t).elem).known = true) (comma ok .any false)
    | none => Rno
  | _, _ => Rno
theorem ti_map (hT : TabOk E.P T) {t : Nat} (hk : (T t).known = true) (h : (T t).kind = 9) : E.P.underlying t = some (.map (T t).alen (T t).elem) := by
  obtain ⟨info, d, h1, h2, h3, h4, h5, h6, h7, h8, k1, k2, k3, k4, k5, k6, k7⟩ := hT t hk
  rw [h2, k7.1.2 h]
theorem findNow_findE {d : TypeDesc} {k : Value} (hd : (∃ ik n, d = .int ik ∧ k = .int ik n) ∨ (∃ b, d = .bool ∧ k = .bool b)) : ∀ (en : List MapEntry) (i : Nat) (r : Option Value), findE k (en.map fun e => (e.key, e.val)) = some r → ∃ q, Instr.findNow d k en i = some q ∧ q.map (·.2) = r
  | [], i, r, h => by
    simp only [List.map_nil, findE, Option.some.injEq] at h
    subst h
    exact ⟨none, rfl, rfl⟩
  | e :: en, i, r, h => by
    simp only [List.map_cons, findE] at h
    cases hr : findE k (en.map fun e => (e.key, e.val)) with
    | none => rw [hr] at h; cases h
    | some r1 =>
    rw [hr] at h
    have hs : ∀ b, sameK k e.key = some b → Instr.sameNow d k e.key = some b := by
      intro b hb
      rcases hd with ⟨ik, n, rfl, rfl⟩ | ⟨b', rfl, rfl⟩
      · cases hk : e.key <;> rw [hk] at hb <;> simp only [sameK] at hb <;> first | exact hb | cases hb
      · cases hk : e.key <;> rw [hk] at hb <;> simp only [sameK] at hb <;> first | exact hb | cases hb
    cases hq : sameK k e.key with
    | none => rw [hq] at h; cases h
    | some b =>
      rw [hq] at h
      have h1 := hs b hq
      simp only [Option.some.injEq] at h
      cases b with
      | true =>
        rw [if_pos rfl] at h
        subst h
        exact ⟨some (i, e.val), by simp only [Instr.findNow, h1], rfl⟩
      | false =>
        rw [if_neg Bool.false_ne_true] at h
        subst h
        obtain ⟨q, h2, h3⟩ := findNow_findE hd en (i + 1) r1 hr
        exact ⟨q, by simp only [Instr.findNow, h1]; exact h2, h3⟩
theorem sound_lookup (hT : TabOk E.P T) {t : TypeId} {x i : Operand} {ok : Bool} (ho : o.op = .lookup t x i ok) (hx : opOk x = true) (hi : opOk i = true) : Sound E o σ (lookupR T t (σ.eval x) (σ.eval i) ok) := by
  unfold lookupR
  split
  case h_2 => exact Sound.no
  rename_i es k e1 e2
  have base : ∀ r, findE k es = some r → (T t).known = true → (T t).kind = 9 → (T (T t).alen).known = true → keyOk T (T t).alen k = true → uniqE es = true → ∀ a w, Sat E σ a w →
      ∀ v b, ((r = some v ∧ b = true) ∨ (r = none ∧ b = false ∧ (zeroValue (T t).elem).run E.P w = .ok v w)) → (execOp a.eval o).run E.P w = .ok (.value (if ok = true then .tuple #[v, .bool b] else v)) w := by
    intro r hr h1 h2 h3 h4 hu a w hs v b hv
    have hp := hs.eval x hx
    rw [e1] at hp
    simp only [Has, Rep] at hp
    obtain ⟨q, en, cl, hp, _, hh, hen⟩ := hp
    have hk := has_lit (by have := hs.eval i hi; rwa [e2] at this)
    have ht := run_underlying (w := w) (ti_map hT h1 h2)
    have hd : ∃ d, E.P.underlying (T t).alen = some d ∧ ((∃ ik n, d = .int ik ∧ k = .int ik n) ∨ (∃ b, d = .bool ∧ k = .bool b)) := by
      cases k <;> simp only [keyOk, decide_eq_true_eq, Bool.false_eq_true] at h4 <;> try (exact h4.elim)
      all_goals first
        | (rename_i ik n; exact ⟨_, ti_int hT h3 h4.1, .inl ⟨ik, n, by rw [h4.2], rfl⟩⟩)
        | (rename_i b; obtain ⟨info, d, g1, g2, g3, g4, g5, g6, g7, g8, k1, k2, k3, k4, k5, k6, k7⟩ := hT _ h3; exact ⟨_, by rw [g2, k6 h4], .inr ⟨b, rfl, rfl⟩⟩)
    obtain ⟨d, hu1, hd⟩ := hd
    have hu' := run_underlying (w := w) hu1
    replace hr := findE_perm hen.symm (uniqE_pw hu) hr
    obtain ⟨q2, hf, hq2⟩ := findNow_findE hd en.toList 0 r hr
    have hck : (Instr.checkKey en.isEmpty 10000 (T t).alen k).run E.P w = .ok () w := by
      rw [show (10000 : Nat) = 9999 + 1 from rfl, Instr.checkKey]
      rcases hd with ⟨ik, n, rfl, rfl⟩ | ⟨b', rfl, rfl⟩ <;> simp [hu']
    have hfk : (Instr.findKey (T t).alen k en.toList).run E.P w = .ok q2 w := by
      simp [Instr.findKey, hu', hf]
    have hgo : (getObj q).run E.P w = .ok (.map en cl) w := by
      have hh' : w.heap[q]? = some (Obj.map en cl) := hh
      simp [getObj, Sem.run, hh']
    have hl : (Instr.lookup t (.map (some q)) k ok).run E.P w = .ok (if ok = true then .tuple #[v, .bool b] else v) w := by
      rcases hv with ⟨rfl, rfl⟩ | ⟨rfl, rfl, hz⟩
      · cases q2 with
        | none => cases hq2
        | some p =>
          obtain ⟨n, pv⟩ := p
          simp only [Option.map_some, Option.some.injEq] at hq2
          subst hq2
          simp [Instr.lookup, ht, hgo, hck, hfk]
      · cases q2 with
        | some p => cases hq2
        | none => simp [Instr.lookup, ht, hgo, hck, hfk, hz]
    simp only [execOp, ho, hp, hk, Sem.run_bind, hl, Result.andThen_ok]
    rfl
  have com : ∀ {m : Mem} {y : AV} {v : Value} (b : Bool), Has m y v → Has m (comma ok y b) (if ok = true then .tuple #[v, .bool b] else v) := by
    intro m y v b h
    unfold comma
    cases ok with
    | true => simp only [if_true, Has]; exact ⟨[v, .bool b], rfl, by simp only [HasL]; exact ⟨h, has_lit_mk _ rfl, trivial⟩⟩
    | false => simpa using h
  split
  · rename_i v hv
    refine Sound.pure ?_
    rintro ⟨hc, h5⟩ a w hs
    obtain ⟨h1, h2, h3, h4, h6⟩ := lookC_iff hc
    exact ⟨_, base _ hv h1 h2 h3 h4 h6 a w hs v true (.inl ⟨rfl, rfl⟩), com _ (valA_has h5)⟩
  · rename_i hv
    refine Sound.pure ?_
    rintro ⟨hc, h5⟩ a w hs
    obtain ⟨h1, h2, h3, h4, h6⟩ := lookC_iff hc
    obtain ⟨z, hz, hz'⟩ := run_zero hT h5 w
    exact ⟨_, base _ hv h1 h2 h3 h4 h6 a w hs z false (.inr ⟨rfl, rfl, hz⟩), com _ (by simp only [Has])⟩
  · exact Sound.no
end
end Go.Proofs.YtopigomfhggkoaaDoor.A
