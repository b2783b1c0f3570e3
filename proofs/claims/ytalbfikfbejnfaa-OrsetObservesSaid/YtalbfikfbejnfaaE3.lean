/- Regions one operation after the other, with calls whose word is on the world. -/
import Derived.Test.YtalbfikfbejnfaaE2
set_option linter.unusedVariables false
set_option linter.unusedSimpArgs false
namespace Go.Proofs.Ytalbfikfbejnfaa.A
open Go.RowKit

/-- The operations from the k-th on. -/
def Ops (E : Env) (l : List Oper) (Q : Exit → Act → World → Prop) (k : Nat) (a : Act) (w : World) : Prop := wpOpsIn E.F 0 E.P l.toArray Q (List.range' k (l.length - k)) a w
section
variable {E : Env} {T : Tab} {l : List Oper} {Q : Exit → Act → World → Prop} {k : Nat} {a : Act} {w : World} {σ : St}
theorem awq_ops {id : Nat} {rest : Code} {QW : Exit → Act → World → Prop} (h : ∀ a w, Sat E σ a w → Ops E l (Exit.then (rest.wpIn E.F 0 E.P QW) QW) 0 a w) : AWq E (.seq (.region id l.toArray false) rest) QW σ := fun a w hs => by
  refine wpIn_seq (wpIn_region ?_)
  have := h a w hs
  unfold Ops at this
  rw [List.size_toArray, List.range_eq_range']
  exact this
theorem ops_end (hk : l.length ≤ k) (h : Q .normal a w) : Ops E l Q k a w := by
  unfold Ops
  rw [show l.length - k = 0 from by omega]
  exact h
theorem ops_step (hT : TabOk E.P T) (n : Nat) {K : St → Prop} (hs : Sat E σ a w) (hn : k + n ≤ l.length) (hok : (l.all opersOk = true)) (h : evOps E.P T (gdOf l.toArray) ((l.drop k).take n) σ K)
    (hk : ∀ s a w, K s → Sat E s a w → Ops E l Q (k + n) a w) : Ops E l Q k a w := by
  unfold Ops
  have hlen : ((l.drop k).take n).length = n := by rw [List.length_take, List.length_drop]; omega
  have e : List.range' k (l.length - k) = List.range' k ((l.drop k).take n).length ++ List.range' (k + n) (l.length - (k + n)) := by
    have := @List.range'_append_1 k n (l.length - (k + n))
    rw [hlen, this]
    congr 1
    omega
  rw [e]
  refine wpOps_ev2 hT (fun s a w hK hs => hk s a w hK hs) _ k σ (fun j hj => ?_) ?_ h a w hs
  · rw [List.getElem?_toArray, List.getElem?_take, if_pos (by omega), List.getElem?_drop]
  · refine List.all_eq_true.2 fun o ho => List.all_eq_true.1 hok o ?_
    exact List.mem_of_mem_drop (List.mem_of_mem_take ho)
theorem ops_call {d : Option Nat} {f : Nat} {xs : List Operand} {ts : Array TypeId} {ty : TypeId} {pos : String} {af : Array Edge} (ho : l[k]? = some ⟨d, .call ⟨.value (.func f), xs.toArray, ts⟩, ty, pos, af, none⟩) (hf : callable E.P f)
    (h : Calls E.P f (xs.map a.eval).toArray w fun e w' => ∃ v, e = .returned v ∧ Ops E l Q (k + 1) (a.put d v) w') : Ops E l Q k a w := by
  have hk : k < l.length := (List.getElem?_eq_some_iff.1 ho).1
  unfold Ops
  rw [show l.length - k = (l.length - (k + 1)) + 1 from by omega, List.range'_succ, wpOpsIn_cons]
  have ho' : l.toArray[k]? = some ⟨d, .call ⟨.value (.func f), xs.toArray, ts⟩, ty, pos, af, none⟩ := by rw [List.getElem?_toArray]; exact ho
  unfold wpOpIn
  simp only [ho']
  have hw : Region.wanted (⟨d, .call ⟨.value (.func f), xs.toArray, ts⟩, ty, pos, af, none⟩ : Oper) (yielded l.toArray a.tmps) = true := by simp [Region.wanted]
  rw [if_pos hw]
  unfold Oper.wpIn
  rw [Oper.semAt_eq _ _ _ (fun c hc => by cases hc)]
  refine ⟨fun _ _ => trivial, ?_⟩
  have hex : (execOp a.eval ⟨d, .call ⟨.value (.func f), xs.toArray, ts⟩, ty, pos, af, none⟩).run E.P w = .ok (.enter f (xs.map a.eval).toArray) w := by
    have e1 : (Array.map a.eval xs.toArray) = (xs.map a.eval).toArray := by simp
    have e2 : a.eval (.func f) = .func (.func f) #[] #[] := rfl
    simp only [execOp, resolve, e1, e2, Deferred.ofValue, Sem.run_bind, Sem.run_pure, Result.andThen_ok, invoke, Array.empty_append, Array.append_empty, run_callFunc hf]
  rw [hex, Oper.uponIn_enter]
  refine ⟨(fun h => by cases h), CallsIn.mono (calls_in h) ?_⟩
  rintro e w' ⟨v, rfl, h'⟩
  exact h'
/-- New blocks, and what reads through them. -/
theorem Sat.fresh (h : Sat E σ a w) {w' : World} (hb : Below w.heap.size w w') {x : AV} {v : Value} {C : Nat → Prop} (hC : ∀ b, C b → (E.C σ.o w b ∨ w.heap.size ≤ b) ∧ b < w'.heap.size) (hv : Has ⟨w'.heap, C⟩ x v) : Sat E σ a w' ∧ Has (E.mem σ.o w') x v := by
  have hle : MemLe ⟨w'.heap, C⟩ (E.mem σ.o w') := by
    refine ⟨fun b hc => ?_, fun _ _ => rfl⟩
    rcases (hC b hc).1 with h1 | h1
    · exact (h.mem_grow hb).C b h1
    · refine .inr ⟨.inl (Nat.le_trans h.fr.size h1), (hC b hc).2, fun y hy e => ?_⟩
      obtain ⟨i, hi⟩ := List.mem_iff_getElem?.1 hy
      have := (h.own i y b hi e).2
      omega
  exact ⟨h.grow hb, Has.mono hle x v hv⟩
theorem Below.of_fr {M : Nat → Prop} {w w1 w2 : World} (h : Below w.heap.size w w1) (hf : Fr M w1 w2) (hM : ∀ b, M b → w.heap.size ≤ b) : Below w.heap.size w w2 :=
  ⟨hf.os.trans h.os, hf.tape.trans h.tape, hf.output.trans h.output, Nat.le_trans h.size hf.size, fun k hk => (hf.block k (Nat.lt_of_lt_of_le hk h.size) (fun hm => by have := hM k hm; omega)).trans (h.block k hk)⟩
theorem Act.eval_of {t : List AV} {o : List AObj} (hs : Sat E ⟨t, o⟩ a w) (i : Nat) {x : AV} (hi : t[i]? = some x) : Has (E.mem o w) x (a.eval (.tmp i)) := by
  obtain ⟨v, hv, hh⟩ := hs.t.get i x hi
  have : a.eval (.tmp i) = v := by
    simp only [Act.eval]
    rw [Array.getElem?_toList] at hv
    rw [Array.getD_eq_getD_getElem?, hv]; rfl
  rw [this]
  exact hh
end
theorem Ops.env {E E' : Env} {l : List Oper} {Q : Exit → Act → World → Prop} {k : Nat} {a : Act} {w : World} (hr : E'.rd = E.rd) (hP : E'.P = E.P) (h : Ops E' l Q k a w) : Ops E l Q k a w := by
  unfold Ops at h ⊢
  have : E'.F = E.F := by simp only [Env.F, hr]
  rw [this, hP] at h
  exact h
/-- A state of which no more is told than what its slots read as. -/
theorem Sat.anew {P : Program} {t : List AV} {n : Nat} {a : Act} {w : World} {C : Nat → Prop} (hd : a.defers = []) (hC : ∀ b, C b → b < w.heap.size) (ht : HasL ⟨w.heap, C⟩ t a.tmps.toList) : Sat ⟨P, w, C, fun _ => False, none, []⟩ ⟨t, List.replicate n .no⟩ a w := by
  have hno : ∀ (i : Nat) x, (List.replicate n AObj.no)[i]? = some x → x = .no := fun i x hx => (List.mem_replicate.1 (List.mem_of_getElem? hx)).2
  have hle : MemLe ⟨w.heap, C⟩ (Env.mem ⟨P, w, C, fun _ => False, none, []⟩ (List.replicate n .no) w) := ⟨fun b hb => .inl hb, fun _ _ => rfl⟩
  refine ⟨Fr.refl _ _, fun b hb => ⟨hC b hb, fun h => h⟩, ht.mono hle, fun i x hx => ?_, fun i x b hx hb => ?_, fun i j x y b hx _ hb => ?_, hd⟩
  · rw [hno i x hx]; trivial
  · rw [hno i x hx] at hb; simp [AObj.blk] at hb
  · rw [hno i x hx] at hb; simp [AObj.blk] at hb
theorem hasL_put {m : Mem} {a : Act} {n d : Nat} {x : AV} {v : Value} (hn : a.tmps.size = n) (hv : Has m x v) : HasL m ((List.replicate n .any).set d x) (a.put (some d) v).tmps.toList := by
  show HasL m _ (a.tmps.setIfInBounds d v).toList
  rw [Array.toList_setIfInBounds]
  refine HasL.set hv ?_ d
  have : ∀ (l : List Value), HasL m (List.replicate l.length .any) l := by
    intro l
    induction l with
    | nil => simp only [List.length_nil, List.replicate_zero, HasL]
    | cons y l ih => simp only [List.length_cons, List.replicate_succ, HasL, Has]; exact ⟨trivial, ih⟩
  have h2 := this a.tmps.toList
  rwa [Array.length_toList, hn] at h2
theorem eval_put_at {a : Act} {d : Nat} {v : Value} (h : d < a.tmps.size) : (a.put (some d) v).eval (.tmp d) = v := by
  show (a.tmps.setIfInBounds d v).getD d undef = v
  rw [Array.getD_eq_getD_getElem?]
  simp [h]
theorem Sat.size {E : Env} {σ : St} {a : Act} {w : World} (h : Sat E σ a w) : a.tmps.size = σ.t.length := by
  rw [← Array.length_toList]; exact h.t.length
/-- Two new variables of another party, held behind the others. -/
theorem Sat.take_two {E : Env} {σ : St} {a : Act} {w w' : World} (h : Sat E σ a w) (hb : Below w.heap.size w w') {ga gb : Nat} {xa xb : Obj} (ha : w.heap.size ≤ ga ∧ ga < w'.heap.size) (hb' : w.heap.size ≤ gb ∧ gb < w'.heap.size) (hne : ga ≠ gb)
    (hxa : w'.heap[ga]? = some xa) (hxb : w'.heap[gb]? = some xb) : Sat E ⟨σ.t, σ.o ++ tl2 ga gb xa xb⟩ a w' ∧ ∀ b, (E.C σ.o w b ∨ w.heap.size ≤ b) → b < w'.heap.size → ¬ (b = ga ∨ b = gb) → E.C (σ.o ++ tl2 ga gb xa xb) w' b := by
  have get : ∀ (i : Nat) y, (σ.o ++ tl2 ga gb xa xb)[i]? = some y → σ.o[i]? = some y ∨ (i = σ.o.length ∧ y = .hold ga xa) ∨ (i = σ.o.length + 1 ∧ y = .hold gb xb) := by
    intro i y hy
    rcases Nat.lt_or_ge i σ.o.length with h1 | h1
    · rw [List.getElem?_append_left h1] at hy; exact .inl hy
    · rw [List.getElem?_append_right h1] at hy
      obtain ⟨k, hk⟩ : ∃ k, k = i - σ.o.length := ⟨_, rfl⟩
      rw [← hk] at hy
      match k, hy, hk with
      | 0, hy, hk => simp [tl2] at hy; exact .inr (.inl ⟨by omega, hy.symm⟩)
      | 1, hy, hk => simp [tl2] at hy; exact .inr (.inr ⟨by omega, hy.symm⟩)
      | k + 2, hy, hk => simp [tl2] at hy
  have hno : ∀ b, (E.C σ.o w b ∨ w.heap.size ≤ b) → b < w'.heap.size → ¬ (b = ga ∨ b = gb) → E.C (σ.o ++ tl2 ga gb xa xb) w' b := by
    intro b hc hlt hn
    have hown : ∀ y ∈ σ.o ++ tl2 ga gb xa xb, y.blk = some b → ∃ i : Nat, σ.o[i]? = some y := by
      intro y hy e
      obtain ⟨i, hi⟩ := List.mem_iff_getElem?.1 hy
      rcases get i y hi with h1 | ⟨_, rfl⟩ | ⟨_, rfl⟩
      · exact ⟨i, h1⟩
      · simp only [AObj.blk, Option.some.injEq] at e; exact absurd (.inl e.symm) hn
      · simp only [AObj.blk, Option.some.injEq] at e; exact absurd (.inr e.symm) hn
    rcases hc with hc | hc
    · rcases hc with hc' | hc'
      · exact .inl hc'
      · refine .inr ⟨hc'.1, hlt, fun y hy e => ?_⟩
        obtain ⟨i, hi⟩ := hown y hy e
        exact hc'.2.2 y (List.mem_of_getElem? hi) e
    · refine .inr ⟨.inl (Nat.le_trans h.fr.size hc), hlt, fun y hy e => ?_⟩
      obtain ⟨i, hi⟩ := hown y hy e
      have := (h.own i y b hi e).2; omega
  have hle : MemLe (E.mem σ.o w) (E.mem (σ.o ++ tl2 ga gb xa xb) w') := by
    refine ⟨fun b hc => hno b (.inl hc) (Nat.lt_of_lt_of_le (h.lt_C hc) hb.size) ?_, fun b hc => hb.block b (h.lt_C hc)⟩
    have := h.lt_C hc
    rintro (rfl | rfl) <;> omega
  refine ⟨⟨⟨hb.os.trans h.fr.os, hb.tape.trans h.fr.tape, hb.output.trans h.fr.output, Nat.le_trans h.fr.size hb.size, fun k hk hM => (hb.block k (Nat.lt_of_lt_of_le hk h.fr.size)).trans (h.fr.block k hk hM)⟩, h.base, h.t.mono hle, fun i y hi => ?_, fun i y b hi hbk => ?_, fun i j y z b hi hj hy hz => ?_, h.defers⟩, hno⟩
  · rcases get i y hi with h1 | ⟨_, rfl⟩ | ⟨_, rfl⟩
    · exact (h.o i y h1).mono hle fun b hbk => hb.block b (h.own i y b h1 hbk).2
    · exact hxa
    · exact hxb
  · rcases get i y hi with h1 | ⟨_, rfl⟩ | ⟨_, rfl⟩
    · have := h.own i y b h1 hbk
      exact ⟨this.1, Nat.lt_of_lt_of_le this.2 hb.size⟩
    · simp only [AObj.blk, Option.some.injEq] at hbk; subst hbk; exact ⟨.inl (Nat.le_trans h.fr.size ha.1), ha.2⟩
    · simp only [AObj.blk, Option.some.injEq] at hbk; subst hbk; exact ⟨.inl (Nat.le_trans h.fr.size hb'.1), hb'.2⟩
  · rcases get i y hi with h1 | ⟨e1, rfl⟩ | ⟨e1, rfl⟩ <;> rcases get j z hj with h2 | ⟨e2, rfl⟩ | ⟨e2, rfl⟩ <;> simp only [AObj.blk, Option.some.injEq] at hy hz
    · exact h.inj i j y z b h1 h2 hy hz
    · have := (h.own i y b h1 hy).2; omega
    · have := (h.own i y b h1 hy).2; omega
    · have := (h.own j z b h2 hz).2; omega
    · omega
    · omega
    · have := (h.own j z b h2 hz).2; omega
    · omega
    · omega
theorem Ops.wk {E : Env} {l : List Oper} {Q : Exit → Act → World → Prop} {k : Nat} {σ σ' : St} (hw : Wk E σ σ') (h : ∀ a w, Sat E σ' a w → Ops E l Q k a w) : ∀ a w, Sat E σ a w → Ops E l Q k a w := fun a w hs => h a w (hw a w hs)
end Go.Proofs.Ytalbfikfbejnfaa.A
