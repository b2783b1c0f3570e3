/- A region that calls yield; a function's contract from a walk that ends in a word on the world. -/
import Derived.Test.YtalbfikfbejnfaaC9
set_option linter.unusedVariables false
set_option linter.unusedSimpArgs false
namespace Go.Proofs.Ytalbfikfbejnfaa.A
open Go.RowKit

section
variable {E : Env} {T : Tab} {ops : Array Oper}
theorem wpOps_ev2 (hT : TabOk E.P T) {Q : Exit → Act → World → Prop} {K : St → Prop} {tail : List Nat} (hQ : ∀ σ' a w, K σ' → Sat E σ' a w → wpOpsIn E.F 0 E.P ops Q tail a w) : ∀ (rest : List Oper) (k : Nat) (σ : St), (∀ j, j < rest.length → rest[j]? = ops[k + j]?) → (rest.all opersOk = true) → evOps E.P T (gdOf ops) rest σ K →
    ∀ a w, Sat E σ a w → wpOpsIn E.F 0 E.P ops Q (List.range' k rest.length ++ tail) a w
  | [], k, σ, _, _, h, a, w, hs => hQ σ a w h hs
  | o :: rest, k, σ, hr, hok, h, a, w, hs => by
    simp only [List.length_cons, List.range'_succ, List.cons_append]
    rw [wpOpsIn_cons]
    simp only [List.all_cons, Bool.and_eq_true] at hok
    obtain ⟨H, h⟩ := h
    refine wpOp_step hT (H := H) (by simpa using (hr 0 (by simp)).symm) hok.1 hs h.1 fun g u a' w' hs' => ?_
    exact wpOps_ev2 hT hQ rest (k + 1) _ (fun j hj => by have := hr (j + 1) (by simpa using hj); simpa [Nat.add_assoc, Nat.add_comm 1 j] using this) hok.2 (h.2 g u) a' w' hs'

/-- A region in which a call of yield stands. -/
theorem awq_yield (hT : TabOk E.P T) {σ : St} {id : Nat} {pre post l : List Oper} {d i ly : Nat} {x : Operand} {ty : TypeId} {pos : String} {af : Array Edge} {ts : Array TypeId} {rest : Code} {QW : Exit → Act → World → Prop}
    (hl : l = pre ++ ⟨some d, .call ⟨.value (.tmp i), #[x], ts⟩, ty, pos, af, none⟩ :: post) (ok1 : pre.all opersOk = true) (ok2 : post.all opersOk = true)
    (h : evOps E.P T (gdOf l.toArray) pre σ fun s => s.t[i]? = some (.d (.lit (.func (.yield ly) #[] #[]))) ∧ ∀ a w, Sat E s a w → ∃ R : Ending → World → Prop, YieldAt Fence.wide 0 E.P ly #[a.eval x] w R ∧
      ∀ e w', R e w' → ∃ v E' s', e = .returned v ∧ E'.P = E.P ∧ E'.rd = E.rd ∧ Sat E' s' (a.put (some d) v) w' ∧ evOps E.P T (gdOf l.toArray) post s' (fun s'' => AWq E' rest QW s'')) :
    AWq E (.seq (.region id l.toArray false) rest) QW σ := by
  intro a w hs
  refine wpIn_seq (wpIn_region ?_)
  have hlen : l.length = pre.length + (1 + post.length) := by rw [hl]; simp; omega
  have hr : List.range l.toArray.size = List.range' 0 pre.length ++ (pre.length :: List.range' (pre.length + 1) post.length) := by
    rw [List.size_toArray, hlen, List.range_eq_range']
    have h1 := @List.range'_append_1 0 pre.length (1 + post.length)
    rw [Nat.zero_add] at h1
    rw [← h1, Nat.add_comm 1, List.range'_succ]
  rw [hr]
  have hget : ∀ k : Nat, l.toArray[k]? = l[k]? := fun k => List.getElem?_toArray ..
  refine wpOps_ev2 hT ?_ pre 0 σ (fun j hj => by rw [Nat.zero_add, hget, hl, List.getElem?_append_left hj]) ok1 h a w hs
  rintro s a w ⟨hy, hk⟩ hs
  rw [wpOpsIn_cons]
  have ho : l.toArray[pre.length]? = some ⟨some d, .call ⟨.value (.tmp i), #[x], ts⟩, ty, pos, af, none⟩ := by
    rw [hget, hl, List.getElem?_append_right (Nat.le_refl _), Nat.sub_self]; rfl
  unfold wpOpIn
  simp only [ho]
  have hw : Region.wanted (⟨some d, .call ⟨.value (.tmp i), #[x], ts⟩, ty, pos, af, none⟩ : Oper) (yielded l.toArray a.tmps) = true := by simp [Region.wanted]
  rw [if_pos hw]
  obtain ⟨v, hv, hh⟩ := hs.t.get i _ hy
  have hv' := has_lit hh
  subst hv'
  have he : a.eval (.tmp i) = .func (.yield ly) #[] #[] := by
    simp only [Act.eval]
    rw [Array.getElem?_toList] at hv
    rw [Array.getD_eq_getD_getElem?, hv]; rfl
  obtain ⟨R, ⟨fn, tmps, assign, body, hrun, hround⟩, hR⟩ := hk a w hs
  unfold Oper.wpIn
  rw [Oper.semAt_eq _ _ _ (fun c hc => by cases hc)]
  refine ⟨fun _ _ => trivial, ?_⟩
  have hex : (execOp a.eval ⟨some d, .call ⟨.value (.tmp i), #[x], ts⟩, ty, pos, af, none⟩).run E.P w = .ok (.round ly fn tmps assign body) w := by
    have e1 : (#[x].map a.eval) = #[a.eval x] := by simp
    simp only [execOp, resolve, he, e1, Deferred.ofValue, Sem.run_bind, Sem.run_pure, Result.andThen_ok, invoke, Array.empty_append, Array.append_empty, hrun]
  rw [hex, Oper.uponIn_round]
  refine ⟨(fun h => by cases h), RoundIn.mono (show RoundIn E.F (0 - 1) E.P ly fn tmps assign body w _ from hround) fun e w' he' => ?_⟩
  obtain ⟨v, E', s', rfl, hP, hrd, hs', hev⟩ := hR e w' he'
  have hF : E'.F = E.F := by simp only [Env.F, hrd]
  have hT' : TabOk E'.P T := by rw [hP]; exact hT
  have hev' : evOps E'.P T (gdOf l.toArray) post s' (fun s'' => AWq E' rest QW s'') := by rw [hP]; exact hev
  have := wpOps_ev2 (E := E') (ops := l.toArray) hT' (Q := Exit.then (rest.wpIn E.F 0 E.P QW) QW) (tail := []) (K := fun s'' => AWq E' rest QW s'') (fun s'' a w hK hs => by
      have h2 := hK a w hs
      rw [hF, hP] at h2
      exact h2) post (pre.length + 1) s' (fun j hj => by
      rw [hget, hl, List.getElem?_append_right (by omega)]
      rw [show pre.length + 1 + j - pre.length = j + 1 from by omega]; rfl) ok2 hev' _ _ hs'
  rw [hF, hP, List.append_nil] at this
  exact this
end

/-! ### Contracts -/
/-- The state in which a function begins. -/
theorem sat_start {P : Program} {args : List AV} {C M : Nat → Prop} {w : World} {vs : List Value} {n : Nat} {holds : List AObj} (hC : ∀ b, C b → b < w.heap.size ∧ ¬ M b) (hv : HasL ⟨w.heap, C⟩ args vs)
    (hH : ∀ (i : Nat) x, holds[i]? = some x → ∃ g, x.blk = some g ∧ M g ∧ g < w.heap.size ∧ ObjAt ⟨w.heap, C⟩ x) (hinj : ∀ (i j : Nat) x y g, holds[i]? = some x → holds[j]? = some y → x.blk = some g → y.blk = some g → i = j) :
    Sat ⟨P, w, C, M, none, []⟩ ⟨args ++ List.replicate (n - args.length) .any, List.replicate n .no ++ holds⟩ { tmps := vs.toArray ++ Array.replicate (n - vs.toArray.size) undef, defers := [] } w := by
  have get : ∀ (i : Nat) x, (List.replicate n AObj.no ++ holds)[i]? = some x → (x = .no) ∨ (n ≤ i ∧ holds[i - n]? = some x) := by
    intro i x hx
    rcases Nat.lt_or_ge i n with h1 | h1
    · rw [List.getElem?_append_left (by simpa using h1)] at hx
      exact .inl (List.mem_replicate.1 (List.mem_of_getElem? hx)).2
    · rw [List.getElem?_append_right (by simpa using h1)] at hx
      exact .inr ⟨h1, by simpa using hx⟩
  have hle : MemLe ⟨w.heap, C⟩ (Env.mem ⟨P, w, C, M, none, []⟩ (List.replicate n .no ++ holds) w) := ⟨fun b hb => .inl hb, fun _ _ => rfl⟩
  refine ⟨Fr.refl _ _, hC, ?_, ?_, ?_, ?_, rfl⟩
  · simp only [Array.toList_append, Array.toList_replicate, List.size_toArray]
    rw [hv.length]
    exact (HasL.mono hle _ _ hv).append (HasL.replicate_any _ _)
  · intro i x hx
    rcases get i x hx with rfl | ⟨_, h⟩
    · trivial
    · obtain ⟨g, h1, h2, h3, h4⟩ := hH _ x h
      exact h4.mono hle fun _ _ => rfl
  · intro i x b hx hb
    rcases get i x hx with rfl | ⟨_, h⟩
    · simp [AObj.blk] at hb
    · obtain ⟨g, h1, h2, h3, h4⟩ := hH _ x h
      rw [h1] at hb
      cases hb
      exact ⟨.inr h2, h3⟩
  · intro i j x y b hx hy hb hb'
    rcases get i x hx with rfl | ⟨k1, h⟩
    · simp [AObj.blk] at hb
    · rcases get j y hy with rfl | ⟨k2, h'⟩
      · simp [AObj.blk] at hb'
      · have := hinj _ _ x y b h h' hb hb'
        omega
end Go.Proofs.Ytalbfikfbejnfaa.A
