/- What an operation yields, all in one; calls; regions. -/
import Derived.Test.YtopigomfhggkoaaDoorJB6
set_option linter.unusedVariables false
set_option linter.unusedSimpArgs false
namespace Go.Proofs.YtopigomfhggkoaaDoor.A
open Go.RowKit
inductive HR where
  | v (r : AV)
  | row (e sz : Nat) (rows : List (List Dat))
  | ext (r : AV)
  | lent (r : AV)
  | keep
def SpecE (P : Program) (f : Nat) (ys : List AV) (r : AV) : Prop := ∀ (m : Mem) (vs : List Value), HasL m ys vs → ∃ v, (∀ w, (callFunc f vs.toArray).run P w = .ok (.value v) w) ∧ ∀ m', Has m' r v
abbrev Hints := List (Nat × List AV × HR)
def hintAt (H : Hints) (d : Option Nat) : Option (List AV × HR) := match d with
  | none => none
  | some d => (H.find? (fun h => h.1 == d)).map (·.2)
def keepAt : Hints → Bool
  | (_, _, .keep) :: _ => true
  | _ => false
abbrev keepH : Hints := [(0, [], .keep)]
def obOf (σ : St) : AV → AObj
  | .own t _ => objD σ.o t
  | .ptr t _ _ => objD σ.o t
  | .elo t _ _ _ _ => objD σ.o t
  | _ => .no
def callR (P : Program) (H : Hints) (σ : St) (dst : Option Nat) (f : Nat) (xs : List AV) : Res := match hintAt H dst, dst with
  | some (ys, .v r), _ => ⟨Spec P f ys r ∧ LeL (clL σ.o xs) ys ∧ clOkL σ.o xs, fun _ _ => r, fun _ _ => if flat r = true then [] else frzEff σ.o (idsOfL xs)⟩
  | some (ys, .row e sz rows), some d => ⟨SpecF P f ys e sz rows ∧ LeL (clL σ.o xs) ys ∧ clOkL σ.o xs ∧ d < σ.o.length, fun _ u => .own d u, fun _ u => frzEff σ.o (idsOfL xs) ++ [(d, .row u e sz rows)]⟩
  | some (ys, .lent r), _ => ⟨SpecN P f ys r ∧ LeL (clL σ.o xs) ys ∧ clOkL σ.o xs, fun _ _ => r, fun _ _ => []⟩
  | some (ys, .ext r), _ => R0 (SpecE P f ys r ∧ LeL xs ys) r
  | _, _ => Rno
def nilR (x : AV) : Res := match x with
  | .ptr t g off => R0 True (.ptr t g off)
  | .el row off => R0 True (.el row off)
  | .elo t u sz n off => R0 True (.elo t u sz n off)
  | _ => Rno
def calleeR (P : Program) (T : Tab) (H : Hints) (σ : St) (dst : Option Nat) (c : Call) : Res := match c.callee with
  | .builtin .len => match c.args.toList, c.argTypes.toList with
    | [x], [t] => lenR T t (σ.eval x) (obOf σ (σ.eval x))
    | _, _ => Rno
  | .builtin .append => match c.args.toList, c.argTypes.toList with
    | [s, x], [t, t'] => if t' = t then appendH T (keepAt H) σ.o.length dst t (σ.eval s) (obOf σ (σ.eval s)) (σ.eval x) (obOf σ (σ.eval x)) else Rno
    | _, _ => Rno
  | .builtin .max => match c.args.toList with
    | [x, y] => maxR (σ.eval x) (σ.eval y)
    | _ => Rno
  | .builtin .min => match c.args.toList with
    | [x, y] => minR (σ.eval x) (σ.eval y)
    | _ => Rno
  | .value x => match σ.eval x with
    | .d (.lit (.func (.func f) first caps)) => if (first.toList.isEmpty && caps.toList.isEmpty) = true then callR P H σ dst f (c.args.toList.map σ.eval) else Rno
    | .clo (.func f) caps => callR P H σ dst f (c.args.toList.map σ.eval ++ caps)
    | .d (.fn (.func f) ds) => callR P H σ dst f (c.args.toList.map σ.eval ++ ds.map capA)
    | _ => Rno
  | _ => Rno
def opRes (P : Program) (T : Tab) (H : Hints) (o : Oper) (σ : St) : Res := match o.op with
  | .move x => R0 True (σ.eval x)
  | .assign x => R0 True (σ.eval x)
  | .pick c x y => pickR (σ.eval c) (σ.eval x) (σ.eval y)
  | .unOp op _ x => unR op (σ.eval x)
  | .binOp op t x y _ => binR2 T op t (σ.eval x) (σ.eval y)
  | .alloc t => allocR T σ.o.length o.dst t
  | .box _ x => boxR σ.o.length o.dst (σ.eval x)
  | .build t ps => buildR T t (ps.toList.map fun p => (p.1, σ.eval p.2))
  | .buildSlice t len ps => buildSliceR T σ.o σ.o.length o.dst t len (ps.toList.map fun p => (p.1, σ.eval p.2))
  | .load t x => loadR T t (σ.eval x) (obOf σ (σ.eval x))
  | .store t x y => storeX T σ.o t (σ.eval x) (obOf σ (σ.eval x)) (σ.eval y)
  | .fieldAddr s x f => fieldAddrR T s f (σ.eval x)
  | .field s x f => fieldR T s f (σ.eval x)
  | .indexAddr t x i => indexAddrR T t (σ.eval x) (obOf σ (σ.eval x)) (σ.eval i)
  | .index t x i => indexR T t (σ.eval x) (σ.eval i)
  | .slice t x lo hi none => sliceR T σ.o.length t (σ.eval x) (obOf σ (σ.eval x)) (lo.map σ.eval) (hi.map σ.eval)
  | .slice t x none (some hi) (some mx) => sliceMR T t (σ.eval x) (some (σ.eval hi)) (some (σ.eval mx))
  | .makeSlice t l c => makeR T σ.o.length o.dst t (σ.eval l) (σ.eval c)
  | .makeFunc fn first caps => if first.toList.isEmpty = true then R0 True (.clo fn (caps.toList.map σ.eval)) else Rno
  | .convert s t x => convertR2 T s t (σ.eval x) (obOf σ (σ.eval x))
  | .extract x i => extractR i (σ.eval x)
  | .nilCheck x => nilR (σ.eval x)
  | .lookup t x i ok => lookupR T t (σ.eval x) (σ.eval i) ok
  | .call c => calleeR P T H σ o.dst c
  | _ => Rno
def opersOk (o : Oper) : Bool := match o.op with
  | .slice _ x lo hi mx => opOk x && (lo.toList.all opOk) && (hi.toList.all opOk) && (mx.toList.all opOk)
  | .build _ ps | .buildSlice _ _ ps => ps.toList.all fun p => opOk p.2
  | op => op.operands.toList.all opOk
section
variable {E : Env} {o : Oper} {σ : St} {T : Tab} {H : Hints}
theorem obOf_own {x : AV} (d : Nat) (hd : names x d) : obOf σ x = objD σ.o d := by
  cases x <;> simp only [names] at hd <;> first | exact hd.elim | (subst hd; rfl)
theorem obOf_at {m : Mem} (x : AV) (h : ∀ (i : Nat) y, σ.o[i]? = some y → ObjAt m y) : ObjAt m (obOf σ x) := by
  cases x <;> simp only [obOf] <;> first | exact objAt_objD h _ | trivial
theorem run_callFunc {f : Nat} {args : Array Value} {w : World} (h : callable E.P f) : (callFunc f args).run E.P w = .ok (.enter f args) w := by
  obtain ⟨fn, h1, h2, h3⟩ := h
  have h4 : ¬ (fn.name == "runtime.NumGoroutine") = true := by rw [h2]; simp
  have h5 : ¬ fn.body.isNone = true := by rw [h3]; simp
  unfold callFunc
  simp only [Sem.run_bind, program, Sem.run, Result.andThen_ok, h1]
  rw [if_neg h4, if_neg h5]
  rfl
theorem sound_callR {f : Nat} {xs : List AV} {vals : Act → List Value} (hev : ∀ a w, Sat E σ a w → HasL (E.mem σ.o w) xs (vals a)) (hrun : ∀ a w, Sat E σ a w → (execOp a.eval o).run E.P w = (callFunc f (vals a).toArray).run E.P w) :
    Sound E o σ (callR E.P H σ o.dst f xs) := by
  unfold callR
  split
  · rename_i ys r hh
    rintro ⟨hsp, hle, hok⟩ a w Q hs
    unfold Oper.wp
    rw [hrun a w hs, run_callFunc hsp.1]
    refine (hs.call (hev a w hs) hok hle hsp).mono ?_
    rintro e w' ⟨v, rfl, ⟨h1, h2⟩, h3⟩
    refine ⟨0, .nilFunc, v, rfl, ?_⟩
    by_cases hf : flat r = true
    · simp only [hf, if_true]
      exact h3 hf
    · simp only [hf]
      exact ⟨h1, h2⟩
  · rename_i ys e sz rows d hh hd
    rintro ⟨hsp, hle, hok, hdl⟩ a w Q hs
    unfold Oper.wp
    rw [hrun a w hs, run_callFunc hsp.1]
    refine (hs.callF (hev a w hs) hok hle hdl hsp).mono ?_
    rintro x w' ⟨v, rfl, h1, h2⟩
    exact ⟨0, v, v, by simp only [hd], h1, h2⟩
  · rename_i ys r hh
    rintro ⟨hsp, hle, hok⟩ a w Q hs
    unfold Oper.wp
    rw [hrun a w hs, run_callFunc hsp.1]
    refine (hs.callN (hev a w hs) hok hle hsp).mono ?_
    rintro e w' ⟨v, rfl, h1, h2⟩
    exact ⟨0, .nilFunc, v, rfl, h1, h2⟩
  · rename_i ys r hh
    refine Sound.pure ?_
    rintro ⟨hsp, hle⟩ a w hs
    obtain ⟨v, h1, h2⟩ := hsp _ _ (hle.has (hev a w hs))
    exact ⟨v, by rw [hrun a w hs]; exact h1 w, h2 _⟩
  · exact Sound.no
theorem sound_nil {x : Operand} (ho : o.op = .nilCheck x) (hx : opOk x = true) : Sound E o σ (nilR (σ.eval x)) := by
  unfold nilR
  split
  · rename_i t g off e
    refine Sound.pure fun _ a w hs => ?_
    have hp := hs.eval x hx
    rw [e] at hp
    have hp' := hp
    simp only [Has] at hp
    exact ⟨a.eval x, by simp [execOp, ho, hp], hp'⟩
  · rename_i row off e
    refine Sound.pure fun _ a w hs => ?_
    have hp := hs.eval x hx
    rw [e] at hp
    have hp' := hp
    simp only [Has] at hp
    obtain ⟨b, o', hp, _⟩ := hp
    exact ⟨a.eval x, by simp [execOp, ho, hp], hp'⟩
  · rename_i t u sz n off e
    refine Sound.pure fun _ a w hs => ?_
    have hp := hs.eval x hx
    rw [e] at hp
    have hp' := hp
    simp only [Has] at hp
    obtain ⟨b, l, c, _, hp⟩ := hp
    exact ⟨a.eval x, by simp [execOp, ho, hp], hp'⟩
  · exact Sound.no
theorem arr1 {α : Type} {xs : Array α} {x : α} (h : xs.toList = [x]) : xs = #[x] := by rw [← Array.toArray_toList (xs := xs), h]
theorem arr2 {α : Type} {xs : Array α} {x y : α} (h : xs.toList = [x, y]) : xs = #[x, y] := by rw [← Array.toArray_toList (xs := xs), h]
theorem sound_callC {x : Operand} {args : Array Operand} {ts : Array TypeId} {f : Nat} {caps : List AV} (ho : o.op = .call ⟨.value x, args, ts⟩) (hx : (args.toList.all opOk) = true)
    (hv : ∀ a w, Sat E σ a w → ∃ us : List Value, a.eval x = .func (.func f) #[] us.toArray ∧ HasL (E.mem σ.o w) caps us) : Sound E o σ (callR E.P H σ o.dst f (args.toList.map σ.eval ++ caps)) := by
  have hU : ∃ us : Act → List Value, ∀ a w, Sat E σ a w → a.eval x = .func (.func f) #[] (us a).toArray := by
    refine ⟨fun a => match a.eval x with | .func _ _ us => us.toList | _ => [], fun a w hs => ?_⟩
    obtain ⟨us, h1, h2⟩ := hv a w hs
    simp only [h1]
  obtain ⟨us, hus⟩ := hU
  refine sound_callR (vals := fun a => args.toList.map a.eval ++ us a) (fun a w hs => ?_) fun a w hs => ?_
  · obtain ⟨us', h1, h2⟩ := hv a w hs
    rw [hus a w hs] at h1
    have h3 : us a = us' := by injection h1 with _ _ h3; simpa using h3
    rw [h3]
    exact (evalL hs hx).append h2
  · have he : (Array.map a.eval args) = (args.toList.map a.eval).toArray := by rw [← Array.toList_map, Array.toArray_toList]
    have : (args.toList.map a.eval).toArray ++ (us a).toArray = (args.toList.map a.eval ++ us a).toArray := by simp
    simp only [execOp, ho, resolve, hus a w hs, he, Deferred.ofValue, Sem.run_bind, Sem.run_pure, Result.andThen_ok, invoke, Array.empty_append, this]
theorem sound_callee (hT : TabOk E.P T) {c : Call} (ho : o.op = .call c) (hok : opersOk o = true) : Sound E o σ (calleeR E.P T H σ o.dst c) := by
  obtain ⟨callee, args, argTypes⟩ := c
  have hall : (({ callee, args, argTypes } : Call).operands.toList.all opOk) = true := by simpa [opersOk, ho, Op.operands] using hok
  unfold calleeR
  dsimp only
  split
  · split
    · rename_i x t ea et
      have e1 := arr1 ea
      have e2 := arr1 et
      subst e1; subst e2
      have hx : opOk x = true := by simpa [Call.operands] using hall
      exact sound_len hT ho hx _ fun d hd => obOf_own d hd
    · exact Sound.no
  · split
    · rename_i s x t t' ea et
      split
      · rename_i ht
        subst ht
        have e1 := arr2 ea
        have e2 := arr2 et
        subst e1; subst e2
        have hx : opOk s = true ∧ opOk x = true := by simpa [Call.operands] using hall
        exact sound_appendH hT _ ho hx.1 hx.2 _ _ (fun d hd => obOf_own d hd) (fun m h => obOf_at _ h)
      · exact Sound.no
    · exact Sound.no
  · split
    · rename_i x y ea
      have e1 := arr2 ea
      subst e1
      have hx : opOk x = true ∧ opOk y = true := by simpa [Call.operands] using hall
      exact sound_max ho hx.1 hx.2
    · exact Sound.no
  · split
    · rename_i x y ea
      have e1 := arr2 ea
      subst e1
      have hx : opOk x = true ∧ opOk y = true := by simpa [Call.operands] using hall
      exact sound_min ho hx.1 hx.2
    · exact Sound.no
  · rename_i x
    have hx : opOk x = true ∧ (args.toList.all opOk) = true := by simpa [Call.operands] using hall
    split
    · rename_i f first caps e
      split
      case isFalse => exact Sound.no
      rename_i hfc
      have hfc' : first = #[] ∧ caps = #[] := by
        simp only [Bool.and_eq_true, List.isEmpty_iff] at hfc
        exact ⟨by rw [← Array.toArray_toList (xs := first), hfc.1], by rw [← Array.toArray_toList (xs := caps), hfc.2]⟩
      obtain ⟨rfl, rfl⟩ := hfc'
      refine sound_callR (vals := fun a => args.toList.map a.eval) (fun a w hs => evalL hs hx.2) fun a w hs => ?_
      have hv := has_lit (by have := hs.eval x hx.1; rwa [e] at this)
      have he : (Array.map a.eval args) = (args.toList.map a.eval).toArray := by rw [← Array.toList_map, Array.toArray_toList]
      simp only [execOp, ho, resolve, hv, he, Deferred.ofValue, Sem.run_bind, Sem.run_pure, Result.andThen_ok, invoke, Array.append_empty, Array.empty_append]
    · rename_i f caps e
      refine sound_callC ho hx.2 fun a w hs => ?_
      have hp := hs.eval x hx.1
      rw [e] at hp
      simp only [Has] at hp
      exact hp
    · rename_i f ds e
      refine sound_callC ho hx.2 fun a w hs => ?_
      have hp := hs.eval x hx.1
      rw [e] at hp
      simp only [Has, Rep] at hp
      obtain ⟨us, hp, hus⟩ := hp
      exact ⟨us, hp, hus.has⟩
    · exact Sound.no
  · exact Sound.no
theorem opRes_sound (hT : TabOk E.P T) (hok : opersOk o = true) : Sound E o σ (opRes E.P T H o σ) := by
  unfold opRes
  split
  · rename_i x ho; exact sound_move (.inl ho) (by simpa [opersOk, ho, Op.operands] using hok)
  · rename_i x ho; exact sound_move (.inr ho) (by simpa [opersOk, ho, Op.operands] using hok)
  · rename_i c x y ho
    have h : opOk c = true ∧ opOk x = true ∧ opOk y = true := by simpa [opersOk, ho, Op.operands] using hok
    exact sound_pick ho h.1 h.2.1 h.2.2
  · rename_i op t x ho; exact sound_un ho (by simpa [opersOk, ho, Op.operands] using hok)
  · rename_i op t x y yt ho
    have h : opOk x = true ∧ opOk y = true := by simpa [opersOk, ho, Op.operands] using hok
    exact sound_bin2 hT ho h.1 h.2
  · rename_i t ho; exact sound_alloc hT ho
  · rename_i t x ho; exact sound_box ho (by simpa [opersOk, ho, Op.operands] using hok)
  · rename_i t ps ho
    exact sound_build hT (ps := ps.toList) (by rw [ho]) (by simpa only [opersOk, ho] using hok)
  · rename_i t len ps ho
    exact sound_buildSlice hT (ps := ps.toList) (by rw [ho]) (by simpa only [opersOk, ho] using hok)
  · rename_i t x ho; exact sound_load hT ho (by simpa [opersOk, ho, Op.operands] using hok) (fun _ _ => trivial) _ (fun m h => obOf_at _ h)
  · rename_i t x y ho
    have h : opOk x = true ∧ opOk y = true := by simpa [opersOk, ho, Op.operands] using hok
    exact sound_storeX hT ho h.1 h.2 _ fun d hd => obOf_own d hd
  · rename_i s x f ho; exact sound_fieldAddr hT ho (by simpa [opersOk, ho, Op.operands] using hok)
  · rename_i s x f ho; exact sound_field hT ho (by simpa [opersOk, ho, Op.operands] using hok)
  · rename_i t x i ho
    have h : opOk x = true ∧ opOk i = true := by simpa [opersOk, ho, Op.operands] using hok
    exact sound_indexAddr hT ho h.1 h.2 _ fun d hd => obOf_own d hd
  · rename_i t x i ho
    have h : opOk x = true ∧ opOk i = true := by simpa [opersOk, ho, Op.operands] using hok
    exact sound_index hT ho h.1 h.2
  · rename_i t x lo hi ho
    have h : (opOk x = true ∧ lo.toList.all opOk = true) ∧ hi.toList.all opOk = true := by
      have h0 : ((opOk x = true ∧ lo.toList.all opOk = true) ∧ hi.toList.all opOk = true) ∧ (none : Option Operand).toList.all opOk = true := by simpa only [opersOk, ho, Bool.and_eq_true] using hok
      exact h0.1
    refine sound_slice hT ho h.1.1 (fun y hy => ?_) (fun y hy => ?_) _ fun d hd => obOf_own d hd
    · subst hy; simpa using h.1.2
    · subst hy; simpa using h.2
  · rename_i t x hi mx ho
    have h : ((opOk x = true ∧ (none : Option Operand).toList.all opOk = true) ∧ (some hi).toList.all opOk = true) ∧ (some mx).toList.all opOk = true := by simpa only [opersOk, ho, Bool.and_eq_true] using hok
    exact sound_sliceM hT ho h.1.1.1 (by simpa using h.1.2) (by simpa using h.2)
  · rename_i t l c ho
    have h : opOk l = true ∧ opOk c = true := by simpa [opersOk, ho, Op.operands] using hok
    exact sound_make hT ho h.1 h.2
  · rename_i fn first caps ho
    split
    · rename_i hf
      have hfe : first = #[] := by
        have : first.toList = [] := by simpa using hf
        rw [← Array.toArray_toList (xs := first), this]
      subst hfe
      exact sound_makeFunc (caps := caps.toList) (by rw [ho]) (by simpa [opersOk, ho, Op.operands] using hok)
    · exact Sound.no
  · rename_i s t x ho; exact sound_convert2 hT ho (by simpa [opersOk, ho, Op.operands] using hok) _ (fun m h => obOf_at _ h)
  · rename_i x i ho; exact sound_extract ho (by simpa [opersOk, ho, Op.operands] using hok)
  · rename_i x ho; exact sound_nil ho (by simpa [opersOk, ho, Op.operands] using hok)
  · rename_i t x i ok ho
    have h : opOk x = true ∧ opOk i = true := by simpa [opersOk, ho, Op.operands] using hok
    exact sound_lookup hT ho h.1 h.2
  · rename_i c ho; exact sound_callee hT ho hok
  · exact Sound.no
end
end Go.Proofs.YtopigomfhggkoaaDoor.A
