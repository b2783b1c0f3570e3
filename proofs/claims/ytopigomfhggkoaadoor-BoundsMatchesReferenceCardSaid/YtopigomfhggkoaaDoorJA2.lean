/- States of a function's own: what its slots hold, which objects are its own; and that steps keep this. -/
import Derived.Test.YtopigomfhggkoaaDoorJG0
import Derived.ChangeAgain
set_option linter.unusedVariables false
set_option linter.unusedSimpArgs false
namespace Go.Proofs.YtopigomfhggkoaaDoor.A
open Go.RowKit
inductive AObj where
  | no
  | box (g : Nat) (cs : List AV)
  | row (v : Value) (e : TypeId) (sz : Nat) (rows : List (List Dat))
  | fz (v : Value) (sz : Nat) (rows : List (List Dat))
  | fzb (g : Nat) (ds : List Dat)
  | hold (g : Nat) (x : Obj)
  | room (v : Value) (e : TypeId) (sz : Nat) (rows ys : List (List Dat))
def AObj.blk : AObj → Option Nat
  | .box g _ => some g
  | .row v _ _ _ => v.ownBlock
  | .hold g _ => some g
  | _ => none
def ownsH (h : Array Obj) (e : TypeId) (sz : Nat) (v : Value) (n : Nat) (xs : List Value) : Prop :=
  xs.length = n * sz ∧
  ((v = .slice none 0 0 ∧ n = 0) ∨
   ∃ g cap cur, v = .slice (some ⟨g, 0, none⟩) n cap ∧ h[g]? = some (.cells cur e (0, 0)) ∧ n ≤ cap ∧ cap ≤ maxLen ∧ cur.size = cap * sz ∧ cur.toList.take (n * sz) = xs)
theorem ownsH_row {w : World} {e : TypeId} {sz n : Nat} {v : Value} {xs : List Value} : ownsH w.heap e sz v n xs ↔ w.ownsRow 0 e sz v n xs := by
  simp [ownsH, World.ownsRow]
def ObjAt (m : Mem) : AObj → Prop
  | .no => True
  | .box g cs => ∃ t vs, m.heap[g]? = some (.cells (List.toArray vs) t (0, 0)) ∧ HasL m cs vs ∧ ∀ x ∈ vs, x.oneCell' = true
  | .row v e sz rows => ∃ xs, ownsH m.heap e sz v rows.length xs ∧ RowVals m sz rows xs
  | .fz v sz rows => Rep m (.sl sz rows) v
  | .fzb g ds => RepCells m g 0 ds
  | .hold g x => m.heap[g]? = some x
  | .room v e sz rows ys => ∃ A c, v = .slice A rows.length c ∧ (∀ b, v.ownBlock = some b → m.C b) ∧
      ((rows.length + ys.length ≤ c ∧ ∃ xs, ownsH m.heap e sz (.slice A (rows.length + ys.length) c) (rows.length + ys.length) xs ∧ RowVals m sz (rows ++ ys) xs) ∨ (c < rows.length + ys.length ∧ ∃ xs, ownsH m.heap e sz v rows.length xs ∧ RowVals m sz rows xs))
theorem ownsH_mono {m m' : Mem} (h : MemLe m m') {e : TypeId} {sz n : Nat} {v : Value} {xs : List Value} (hC : ∀ b, v.ownBlock = some b → m.C b) (ho : ownsH m.heap e sz v n xs) : ownsH m'.heap e sz v n xs := by
  refine ⟨ho.1, ho.2.imp (fun h => h) ?_⟩
  rintro ⟨g, cap, cur, rfl, hg, rest⟩
  exact ⟨g, cap, cur, rfl, (h.same g (hC g rfl)).trans hg, rest⟩
theorem ObjAt.mono {m m' : Mem} (h : MemLe m m') : ∀ {x : AObj}, (∀ b, x.blk = some b → m'.heap[b]? = m.heap[b]?) → ObjAt m x → ObjAt m' x
  | .no, _, _ => trivial
  | .box g cs, hb, hx => by
    obtain ⟨t, vs, h1, h2, h3⟩ := hx
    exact ⟨t, vs, (hb g rfl).trans h1, h2.mono h, h3⟩
  | .row v e sz rows, hb, hx => by
    obtain ⟨xs, ⟨h0, h1⟩, h2⟩ := hx
    refine ⟨xs, ⟨h0, ?_⟩, h2.mono h⟩
    rcases h1 with h1 | ⟨g, cap, cur, rfl, hg, rest⟩
    · exact .inl h1
    · exact .inr ⟨g, cap, cur, rfl, (hb g rfl).trans hg, rest⟩
  | .fz v sz rows, _, hx => Rep.mono h _ _ hx
  | .fzb g ds, _, hx => RepCells.mono h _ _ _ hx
  | .hold g x, hb, hx => (hb g rfl).trans hx
  | .room v e sz rows ys, _, hx => by
    obtain ⟨A, c, rfl, hC, h2⟩ := hx
    refine ⟨A, c, rfl, fun b hb => h.C b (hC b hb), h2.imp (fun h2 => ⟨h2.1, ?_⟩) (fun h2 => ⟨h2.1, ?_⟩)⟩
    · obtain ⟨_, xs, h3, h4⟩ := h2
      exact ⟨xs, ownsH_mono h (fun b hb => hC b (by cases A with | none => simp [Value.ownBlock] at hb | some a => simpa [Value.ownBlock] using hb)) h3, h4.mono h⟩
    · obtain ⟨_, xs, h3, h4⟩ := h2
      exact ⟨xs, ownsH_mono h hC h3, h4.mono h⟩
structure St where
  t : List AV
  o : List AObj
structure Env where
  P : Program
  w0 : World
  C0 : Nat → Prop
  M : Nat → Prop
  rd : Option Nat := none
  df : List Deferred := []
def Env.F (E : Env) : Fence := { Fence.wide with round := E.rd }
structure Fr (M : Nat → Prop) (w0 w : World) : Prop where
  os : w.os = w0.os
  tape : w.tape = w0.tape
  output : w.output = w0.output
  size : w0.heap.size ≤ w.heap.size
  block : ∀ k, k < w0.heap.size → ¬ M k → w.heap[k]? = w0.heap[k]?
def Env.C (E : Env) (o : List AObj) (w : World) (b : Nat) : Prop := E.C0 b ∨ ((E.w0.heap.size ≤ b ∨ E.M b) ∧ b < w.heap.size ∧ ∀ x ∈ o, x.blk ≠ some b)
def Env.mem (E : Env) (o : List AObj) (w : World) : Mem := ⟨w.heap, E.C o w⟩
def Laid (m : Mem) : Prop := ∀ p ∈ globs, RepCells m p.1 0 p.2
theorem Laid.mono {m m' : Mem} (h : MemLe m m') (hl : Laid m) : Laid m' := fun p hp => RepCells.mono h _ _ _ (hl p hp)
structure Sat (E : Env) (σ : St) (a : Act) (w : World) : Prop where
  fr : Fr E.M E.w0 w
  base : ∀ b, E.C0 b → b < E.w0.heap.size ∧ ¬ E.M b
  t : HasL (E.mem σ.o w) σ.t a.tmps.toList
  o : ∀ (i : Nat) x, σ.o[i]? = some x → ObjAt (E.mem σ.o w) x
  own : ∀ (i : Nat) x b, σ.o[i]? = some x → x.blk = some b → (E.w0.heap.size ≤ b ∨ E.M b) ∧ b < w.heap.size
  inj : ∀ (i j : Nat) x y b, σ.o[i]? = some x → σ.o[j]? = some y → x.blk = some b → y.blk = some b → i = j
  defers : a.defers = E.df
  sh : (∀ b, ¬ E.M b) ∧ E.w0.ShapedOpen E.P ∧ Laid ⟨E.w0.heap, E.C0⟩
theorem shaped_below {P : Program} {w w' : World} (h : w.ShapedOpen P) (hb : Below w.heap.size w w') : w'.ShapedOpen P := by
  refine h.keptBut (may := fun _ => False) ⟨hb.os, hb.output, fun i hi => ?_⟩ fun _ hp => hp.elim
  rw [hb.block i hi]
  split
  · rename_i h1 h2
    rw [h1] at h2; injection h2 with h2; injection h2 with a b c
    subst a; subst b; subst c
    exact ⟨rfl, rfl, rfl, fun _ _ => rfl⟩
  · rename_i h1 h2
    rw [h1] at h2; injection h2 with h2; injection h2 with a b
    subst a; subst b
    exact .inr ⟨rfl, rfl⟩
  · rfl
section
variable {E : Env} {σ : St} {a : Act} {w w' : World}
theorem Sat.shaped (h : Sat E σ a w) : w.ShapedOpen E.P :=
  shaped_below h.sh.2.1 ⟨h.fr.os, h.fr.tape, h.fr.output, h.fr.size, fun k hk => h.fr.block k hk (h.sh.1 k)⟩
theorem Sat.laid (h : Sat E σ a w) (o : List AObj) : Laid (E.mem o w) :=
  Laid.mono (m := ⟨E.w0.heap, E.C0⟩) ⟨fun b hb => .inl hb, fun b hb => h.fr.block b (h.base b hb).1 (h.base b hb).2⟩ h.sh.2.2
theorem Sat.lt_C (h : Sat E σ a w) {b : Nat} (hb : E.C σ.o w b) : b < w.heap.size := by
  rcases hb with hb | hb
  · exact Nat.lt_of_lt_of_le (h.base b hb).1 h.fr.size
  · exact hb.2.1
theorem Sat.not_own (h : Sat E σ a w) {b : Nat} (hb : E.C σ.o w b) {i : Nat} {x : AObj} (hi : σ.o[i]? = some x) : x.blk ≠ some b := by
  intro hx
  rcases hb with hb | hb
  · have h1 := h.base b hb
    rcases (h.own i x b hi hx).1 with h2 | h2
    · omega
    · exact h1.2 h2
  · exact hb.2.2 x (List.mem_of_getElem? hi) hx
theorem Sat.turn_le (h : Sat E σ a w) {id : Nat} {old new : AObj} (hid : σ.o[id]? = some old) {rb : Option Nat} (hg : w.grownBy w' rb) (hrb : ∀ b, rb = some b → old.blk = some b)
    (hnew : ∀ b, new.blk = some b → (old.blk = some b ∨ w.heap.size ≤ b) ∧ b < w'.heap.size) : MemLe (E.mem σ.o w) (E.mem (σ.o.set id new) w') := by
  have hC : ∀ b, E.C σ.o w b → b < w.heap.size ∧ some b ≠ rb := fun b hb =>
    ⟨h.lt_C hb, fun e => h.not_own hb hid (hrb b e.symm)⟩
  refine ⟨fun b hb => ?_, fun b hb => hg.block b (hC b hb).1 (hC b hb).2⟩
  have hb' := hC b hb
  have hno := fun i x hi => h.not_own (i := i) (x := x) hb hi
  rcases hb with hb | hb
  · exact .inl hb
  · refine .inr ⟨hb.1, Nat.lt_of_lt_of_le hb.2.1 hg.size, fun x hx e => ?_⟩
    rcases List.mem_or_eq_of_mem_set hx with hx | rfl
    · exact hb.2.2 x hx e
    · rcases (hnew b e).1 with h1 | h1
      · exact hno id old hid h1
      · omega
theorem Sat.turn (h : Sat E σ a w) {id : Nat} {old new : AObj} (hid : σ.o[id]? = some old) {rb : Option Nat} (hg : w.grownBy w' rb) (hrb : ∀ b, rb = some b → old.blk = some b)
    (hnew : ∀ b, new.blk = some b → (old.blk = some b ∨ w.heap.size ≤ b) ∧ b < w'.heap.size)
    (hobj : MemLe (E.mem σ.o w) (E.mem (σ.o.set id new) w') → ObjAt (E.mem (σ.o.set id new) w') new) : Sat E { σ with o := σ.o.set id new } a w' := by
  have hle := h.turn_le (new := new) hid hg hrb hnew
  have hlt : id < σ.o.length := (List.getElem?_eq_some_iff.1 hid).1
  refine ⟨⟨hg.os.trans h.fr.os, hg.tape.trans h.fr.tape, hg.output.trans h.fr.output, Nat.le_trans h.fr.size hg.size, fun k hk hM => ?_⟩, h.base, h.t.mono hle, fun i x hi => ?_, fun i x b hi hx => ?_, fun i j x y b hi hj hx hy => ?_, h.defers, h.sh⟩
  · refine (hg.block k (Nat.lt_of_lt_of_le hk h.fr.size) fun e => ?_).trans (h.fr.block k hk hM)
    rcases (h.own id old k hid (hrb k e.symm)).1 with h1 | h1
    · omega
    · exact hM h1
  · simp only [List.getElem?_set, hlt] at hi
    by_cases hi' : id = i
    · simp [hi'] at hi
      obtain ⟨_, rfl⟩ := hi
      exact hobj hle
    · rw [if_neg hi'] at hi
      refine (h.o i x hi).mono hle fun b hb => hg.block b (h.own i x b hi hb).2 fun e => ?_
      exact hi' (h.inj id i old x b hid hi (hrb b e.symm) hb)
  · simp only [List.getElem?_set, hlt] at hi
    by_cases hi' : id = i
    · simp [hi'] at hi
      obtain ⟨_, rfl⟩ := hi
      have h1 := hnew b hx
      refine ⟨?_, h1.2⟩
      rcases h1.1 with h2 | h2
      · exact (h.own id old b hid h2).1
      · exact .inl (Nat.le_trans h.fr.size h2)
    · rw [if_neg hi'] at hi
      have := h.own i x b hi hx
      exact ⟨this.1, Nat.lt_of_lt_of_le this.2 hg.size⟩
  · simp only [List.getElem?_set, hlt] at hi hj
    by_cases hi' : id = i
    · by_cases hj' : id = j
      · omega
      · simp [hi'] at hi
        obtain ⟨_, rfl⟩ := hi
        rw [if_neg hj'] at hj
        rcases (hnew b hx).1 with h2 | h2
        · exact absurd (h.inj id j old y b hid hj h2 hy) hj'
        · have := (h.own j y b hj hy).2; omega
    · rw [if_neg hi'] at hi
      by_cases hj' : id = j
      · simp [hj'] at hj
        obtain ⟨_, rfl⟩ := hj
        rcases (hnew b hy).1 with h2 | h2
        · exact absurd (h.inj id i old x b hid hi h2 hx) hi'
        · have := (h.own i x b hi hx).2; omega
      · rw [if_neg hj'] at hj
        exact h.inj i j x y b hi hj hx hy
theorem Sat.grow (h : Sat E σ a w) (hg : Below w.heap.size w w') : Sat E σ a w' := by
  have hle : MemLe (E.mem σ.o w) (E.mem σ.o w') := by
    refine ⟨fun b hb => ?_, fun b hb => hg.block b (h.lt_C hb)⟩
    rcases hb with hb | hb
    · exact .inl hb
    · exact .inr ⟨hb.1, Nat.lt_of_lt_of_le hb.2.1 hg.size, hb.2.2⟩
  refine ⟨⟨hg.os.trans h.fr.os, hg.tape.trans h.fr.tape, hg.output.trans h.fr.output, Nat.le_trans h.fr.size hg.size, fun k hk hM => ?_⟩, h.base, h.t.mono hle, fun i x hi => ?_, fun i x b hi hx => ?_, h.inj, h.defers, h.sh⟩
  · exact (hg.block k (Nat.lt_of_lt_of_le hk h.fr.size)).trans (h.fr.block k hk hM)
  · exact (h.o i x hi).mono hle fun b hb => hg.block b (h.own i x b hi hb).2
  · have := h.own i x b hi hx
    exact ⟨this.1, Nat.lt_of_lt_of_le this.2 hg.size⟩
theorem Sat.drew (h : Sat E σ a w) : Sat E σ a w.drew := h.grow ((Below.refl _ _).drew)
def St.put (σ : St) (dst : Option Nat) (av : AV) : St := match dst with | some d => { σ with t := σ.t.set d av } | none => σ
theorem Sat.put (h : Sat E σ a w) (dst : Option Nat) {av : AV} {v : Value} (hv : Has (E.mem σ.o w) av v) : Sat E (σ.put dst av) (a.put dst v) w := by
  cases dst with
  | none => exact h
  | some d =>
    refine ⟨h.fr, h.base, ?_, h.o, h.own, h.inj, h.defers, h.sh⟩
    show HasL _ (σ.t.set d av) (a.tmps.setIfInBounds d v).toList
    rw [Array.toList_setIfInBounds]
    exact h.t.set hv d
def St.eval (σ : St) : Operand → AV
  | .tmp t => σ.t.getD t .any
  | .const v => match v with
    | .agg cs => .agg (cs.toList.map fun c => .d (.lit c))
    | .tuple _ => .any
    | v => .d (.lit v)
  | .global g => globA g
  | .func f => .d (.lit (.func (.func f) #[] #[]))
def opOk : Operand → Bool
  | .const (.agg cs) => cs.toList.all (·.oneCell')
  | _ => true
theorem hasL_lits {m : Mem} : ∀ {cs : List Value}, cs.all (·.oneCell') = true → HasL m (cs.map fun c => .d (.lit c)) cs
  | [], _ => by simp only [List.map_nil, HasL]
  | c :: cs, h => by
    simp only [List.all_cons, Bool.and_eq_true] at h
    simp only [List.map_cons, HasL, Has, Rep]
    exact ⟨⟨trivial, h.1⟩, hasL_lits h.2⟩
theorem Sat.eval (h : Sat E σ a w) (x : Operand) (hx : opOk x = true) : Has (E.mem σ.o w) (σ.eval x) (a.eval x) := by
  cases x with
  | tmp t =>
    simp only [St.eval, Act.eval]
    rcases Nat.lt_or_ge t σ.t.length with hl | hl
    · obtain ⟨v, hv, hh⟩ := h.t.get t σ.t[t] (List.getElem?_eq_getElem hl)
      rw [List.getD_eq_getElem?_getD, List.getElem?_eq_getElem hl]
      have : a.tmps.getD t undef = v := by
        rw [Array.getD_eq_getD_getElem?]
        rw [Array.getElem?_toList] at hv
        rw [hv]; rfl
      rw [this]
      exact hh
    · rw [List.getD_eq_getElem?_getD, List.getElem?_eq_none hl]
      simp only [Option.getD_none, Has]
  | const v =>
    cases v with
    | agg cs =>
      simp only [St.eval, Act.eval, Has]
      exact ⟨cs.toList, by simp, hasL_lits (by simpa [opOk] using hx)⟩
    | tuple vs => simp only [St.eval, Has]
    | _ => simp only [St.eval, Act.eval, Has, Rep]; exact ⟨trivial, rfl⟩
  | global g => exact globA_has g (h.laid σ.o)
  | func f => simp only [St.eval, Act.eval, Has, Rep]; exact ⟨trivial, rfl⟩
end
end Go.Proofs.YtopigomfhggkoaaDoor.A
