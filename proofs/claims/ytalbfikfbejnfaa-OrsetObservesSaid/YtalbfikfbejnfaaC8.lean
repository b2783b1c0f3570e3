/- Walks that end in a word on the world; other parties' steps; a range over a function. -/
import Derived.Test.YtalbfikfbejnfaaC7
import Derived.RangeFuncFrom
import Derived.RangeFuncBound
set_option linter.unusedVariables false
set_option linter.unusedSimpArgs false
namespace Go.Proofs.Ytalbfikfbejnfaa.A
open Go.RowKit

/-- From a state c comes to its end, of which QW is told of the world. -/
def AWq (E : Env) (c : Code) (QW : Exit → Act → World → Prop) (σ : St) : Prop := ∀ a w, Sat E σ a w → c.wpIn E.F 0 E.P QW a w
section
variable {E : Env} {Q : Exit → St → Prop} {QW QW' : Exit → Act → World → Prop} {σ σ' : St} {c x y : Code}
theorem awq_of (h : AWp E c Q σ) (hq : ∀ e s a w, Q e s → Sat E s a w → QW e a w) : AWq E c QW σ := fun a w hs =>
  wpIn_mono (h a w hs) fun e a' w' ⟨s, q, hs'⟩ => hq e s a' w' q hs'
theorem awq_mono (h : AWq E c QW σ) (hq : ∀ e a w, QW e a w → QW' e a w) : AWq E c QW' σ := fun a w hs => wpIn_mono (h a w hs) hq
theorem awq_wk (hw : Wk E σ σ') (h : AWq E c QW σ') : AWq E c QW σ := fun a w hs => h a w (hw a w hs)
/-- What a state owes at an end. -/
def Ends (E : Env) (QW : Exit → Act → World → Prop) (e : Exit) (s : St) : Prop := ∀ a w, Sat E s a w → QW e a w
theorem awq_seq (h : AWp E x (thenA (fun s => AWq E y QW s) (Ends E QW)) σ) : AWq E (.seq x y) QW σ := fun a w hs => by
  refine wpIn_seq (wpIn_mono (h a w hs) ?_)
  rintro e a' w' ⟨s, q, hs'⟩
  cases e with
  | normal => exact q a' w' hs'
  | _ => exact q a' w' hs'
theorem awq_seqq (h : AWq E x (Exit.then (y.wpIn E.F 0 E.P QW) QW) σ) : AWq E (.seq x y) QW σ := fun a w hs => wpIn_seq (h a w hs)
theorem awq_block {id : Nat} (h : AWq E c (Exit.inBlock id QW) σ) : AWq E (.block id c) QW σ := fun a w hs => wpIn_block (h a w hs)
theorem awq_pre {p : Prop} (h : ∀ a w, Sat E σ a w → p) (hk : p → AWq E c QW σ) : AWq E c QW σ := fun a w hs => hk (h a w hs) a w hs
end

/-! ### Blocks that another party turns -/
def ownOf (o : List AObj) (b : Nat) : Prop := ∃ x ∈ o, x.blk = some b
theorem Fr.refl (M : Nat → Prop) (w : World) : Fr M w w := ⟨rfl, rfl, rfl, Nat.le_refl _, fun _ _ _ => rfl⟩
theorem Fr.trans {M : Nat → Prop} {a b c : World} (h : Fr M a b) (k : Fr M b c) : Fr M a c :=
  ⟨k.os.trans h.os, k.tape.trans h.tape, k.output.trans h.output, Nat.le_trans h.size k.size, fun i hi hm => (k.block i (Nat.lt_of_lt_of_le hi h.size) hm).trans (h.block i hi hm)⟩
theorem Fr.mono {M M' : Nat → Prop} {a b : World} (h : Fr M a b) (hm : ∀ k, k < a.heap.size → M k → M' k) : Fr M' a b :=
  ⟨h.os, h.tape, h.output, h.size, fun i hi hn => h.block i hi fun hM => hn (hm i hi hM)⟩
theorem Fr.below {a b : World} (h : Below a.heap.size a b) : Fr (fun _ => False) a b := ⟨h.os, h.tape, h.output, h.size, fun k hk _ => h.block k hk⟩
theorem Fr.putObj {w : World} {l : Nat} {o : Obj} : Fr (fun b => b = l) w (w.putObj l o) :=
  ⟨rfl, rfl, rfl, by simp, fun k _ hk => World.putObj_heap_other hk⟩
theorem Fr.alloc {w : World} (o : Obj) : Fr (fun _ => False) w (w.alloc o) := Fr.below ((Below.refl _ w).alloc (Nat.le_refl _) o)

/-- Where a state stands, as the ground of a walk of its own. -/
def Env.at (E : Env) (o : List AObj) (w w' : World) (rd : Option Nat) (df : List Deferred) : Env := ⟨E.P, w', E.C o w, ownOf o, rd, df⟩
section
variable {E : Env} {σ : St} {a : Act} {w w' : World}
theorem Sat.mine (h : Sat E σ a w) {b : Nat} (hb : ownOf σ.o b) : (E.w0.heap.size ≤ b ∨ E.M b) ∧ b < w.heap.size := by
  obtain ⟨x, hx, hb⟩ := hb
  obtain ⟨i, hi⟩ := List.mem_iff_getElem?.1 hx
  exact h.own i x b hi hb
/-- Another party, of whom nothing here is told, has made steps. -/
theorem Sat.foreign (h : Sat E σ a w) {O : Nat → Prop} (hO : ∀ b, O b → b < E.w0.heap.size ∧ ¬ E.M b ∧ ¬ E.C0 b) (hf : Fr O w w') (rd : Option Nat) {df : List Deferred} (hd : df = E.df) : Sat (E.at σ.o w w' rd df) σ a w' := by
  have hno : ∀ b, E.C σ.o w b → ¬ O b := by
    rintro b (hb | hb) ho
    · exact (hO b ho).2.2 hb
    · rcases hb.1 with h1 | h1
      · have := (hO b ho).1; omega
      · exact (hO b ho).2.1 h1
  have hown : ∀ (i : Nat) x b, σ.o[i]? = some x → x.blk = some b → ¬ O b := by
    intro i x b hi hb ho
    rcases (h.own i x b hi hb).1 with h1 | h1
    · have := (hO b ho).1; omega
    · exact (hO b ho).2.1 h1
  have hle : MemLe (E.mem σ.o w) ((E.at σ.o w w' rd df).mem σ.o w') :=
    ⟨fun b hb => .inl hb, fun b hb => hf.block b (h.lt_C hb) (hno b hb)⟩
  refine ⟨Fr.refl _ _, fun b hb => ⟨Nat.lt_of_lt_of_le (h.lt_C hb) hf.size, ?_⟩, h.t.mono hle, fun i x hi => (h.o i x hi).mono hle fun b hb => hf.block b (h.own i x b hi hb).2 (hown i x b hi hb), fun i x b hi hb => ⟨.inr ⟨x, List.mem_of_getElem? hi, hb⟩, Nat.lt_of_lt_of_le (h.own i x b hi hb).2 hf.size⟩, h.inj, by rw [h.defers, ← hd]; rfl⟩
  rintro ⟨x, hx, hb'⟩
  obtain ⟨i, hi⟩ := List.mem_iff_getElem?.1 hx
  exact h.not_own hb hi hb'
theorem Sat.rebase (h : Sat E σ a w) (rd : Option Nat) : Sat (E.at σ.o w w rd E.df) σ a w :=
  h.foreign (O := fun _ => False) (fun _ h => h.elim) (Fr.refl _ _) rd rfl
/-- Back to the elder ground. -/
theorem Sat.unbase (h : Sat E σ a w) {rd : Option Nat} {df : List Deferred} {σ' : St} {a' : Act} (hs : Sat (E.at σ.o w w rd df) σ' a' w') (hd : a'.defers = E.df) : Sat E σ' a' w' := by
  have hsz := hs.fr.size
  have hown : ∀ (i : Nat) x b, σ'.o[i]? = some x → x.blk = some b → w.heap.size ≤ b ∨ ownOf σ.o b := fun i x b hi hb => (hs.own i x b hi hb).1
  have hC : ∀ b, (E.at σ.o w w rd df).C σ'.o w' b → E.C σ'.o w' b := by
    rintro b (hb | hb)
    · rcases hb with hb | hb
      · exact .inl hb
      · refine .inr ⟨hb.1, Nat.lt_of_lt_of_le hb.2.1 hsz, fun x hx e => ?_⟩
        obtain ⟨i, hi⟩ := List.mem_iff_getElem?.1 hx
        rcases hown i x b hi e with h1 | ⟨y, hy, h1⟩
        · have := hb.2.1; omega
        · exact hb.2.2 y hy h1
    · refine .inr ⟨?_, hb.2⟩
      rcases hb.1 with h1 | h1
      · exact .inl (Nat.le_trans h.fr.size h1)
      · exact (h.mine h1).1
  have hle : MemLe ((E.at σ.o w w rd df).mem σ'.o w') (E.mem σ'.o w') := ⟨hC, fun _ _ => rfl⟩
  refine ⟨⟨hs.fr.os.trans h.fr.os, hs.fr.tape.trans h.fr.tape, hs.fr.output.trans h.fr.output, Nat.le_trans h.fr.size hsz, fun k hk hM => ?_⟩, h.base, hs.t.mono hle, fun i x hi => (hs.o i x hi).mono hle fun _ _ => rfl, fun i x b hi hb => ⟨?_, (hs.own i x b hi hb).2⟩, hs.inj, hd⟩
  · refine (hs.fr.block k (Nat.lt_of_lt_of_le hk h.fr.size) fun ho => ?_).trans (h.fr.block k hk hM)
    rcases (h.mine ho).1 with h1 | h1
    · omega
    · exact hM h1
  · rcases hown i x b hi hb with h1 | h1
    · exact .inl (Nat.le_trans h.fr.size h1)
    · exact (h.mine h1).1
/-- Other slots, known since the ground. -/
theorem Sat.slots (h : Sat E σ a w) {t : List AV} {b : Act} (hb : b.defers = E.df) (ht : HasL (E.mem σ.o w) t b.tmps.toList) : Sat E ⟨t, σ.o⟩ b w :=
  ⟨h.fr, h.base, ht, h.o, h.own, h.inj, hb⟩
theorem Sat.base_le (h : Sat E σ a w) (o : List AObj) : MemLe ⟨E.w0.heap, E.C0⟩ (E.mem σ.o w) :=
  ⟨fun b hb => .inl hb, fun b hb => h.fr.block b (h.base b hb).1 (h.base b hb).2⟩
/-- The deferred calls are others. -/
theorem Sat.dfs (h : Sat E σ a w) (df : List Deferred) : Sat { E with df := df } σ { a with defers := df } w :=
  ⟨h.fr, h.base, h.t, h.o, h.own, h.inj, rfl⟩
theorem Sat.rds (h : Sat E σ a w) (rd : Option Nat) : Sat { E with rd := rd } σ a w := ⟨h.fr, h.base, h.t, h.o, h.own, h.inj, h.defers⟩
/-- A held block is turned. -/
theorem Sat.put_hold (h : Sat E σ a w) {i l : Nat} {x : Obj} (hi : σ.o[i]? = some (.hold l x)) (y : Obj) : Sat E ⟨σ.t, σ.o.set i (.hold l y)⟩ a (w.putObj l y) := by
  have hl : l < w.heap.size := (h.own i _ l hi rfl).2
  refine h.turn (rb := some l) hi (grownBy_putObj' w l y) (fun b hb => by cases hb; rfl) (fun b hb => ⟨.inl hb, by cases hb; simpa using hl⟩) fun hle => ?_
  exact World.putObj_heap_same hl
/-- Held blocks are turned by another party: each holds what it holds then. -/
theorem Sat.held (h : Sat E σ a w) {M : Nat → Prop} (hf : Fr M w w') (hM : ∀ b, M b → ∃ (i : Nat) (x : Obj), σ.o[i]? = some (.hold b x)) {o' : List AObj} (hl : o'.length = σ.o.length)
    (ho : ∀ (i : Nat) (x : AObj), σ.o[i]? = some x → o'[i]? = some x ∨ ∃ b z y, x = .hold b z ∧ o'[i]? = some (.hold b y) ∧ w'.heap[b]? = some y) (hn : ∀ (i : Nat) (x : AObj), σ.o[i]? = some x → o'[i]? = some x → ∀ b, x.blk = some b → w'.heap[b]? = w.heap[b]?) : Sat E ⟨σ.t, o'⟩ a w' := by
  -- each object of o' has the block of the one before
  have back : ∀ (i : Nat) y, o'[i]? = some y → ∃ x, σ.o[i]? = some x ∧ x.blk = y.blk ∧ (y = x ∨ ∃ b z u, x = .hold b z ∧ y = .hold b u ∧ w'.heap[b]? = some u) := by
    intro i y hy
    have hlt : i < σ.o.length := by rw [← hl]; exact (List.getElem?_eq_some_iff.1 hy).1
    have hx : σ.o[i]? = some σ.o[i] := List.getElem?_eq_getElem hlt
    rcases ho i _ hx with h1 | ⟨b, z, u, h1, h2, h3⟩
    · rw [hy] at h1
      cases h1
      exact ⟨_, hx, rfl, .inl rfl⟩
    · rw [hy] at h2
      cases h2
      exact ⟨_, hx, by rw [h1]; rfl, .inr ⟨b, z, u, h1, rfl, h3⟩⟩
  have hC : ∀ b, E.C σ.o w b → E.C o' w' b := by
    rintro b (hb | hb)
    · exact .inl hb
    · refine .inr ⟨hb.1, Nat.lt_of_lt_of_le hb.2.1 hf.size, fun y hy e => ?_⟩
      obtain ⟨i, hi⟩ := List.mem_iff_getElem?.1 hy
      obtain ⟨x, hx, he, _⟩ := back i y hi
      exact hb.2.2 x (List.mem_of_getElem? hx) (he.trans e)
  have hno : ∀ b, E.C σ.o w b → ¬ M b := by
    intro b hb hm
    obtain ⟨i, x, hi⟩ := hM b hm
    exact h.not_own hb hi rfl
  have hle : MemLe (E.mem σ.o w) (E.mem o' w') := ⟨hC, fun b hb => hf.block b (h.lt_C hb) (hno b hb)⟩
  refine ⟨⟨hf.os.trans h.fr.os, hf.tape.trans h.fr.tape, hf.output.trans h.fr.output, Nat.le_trans h.fr.size hf.size, fun k hk hm => ?_⟩, h.base, h.t.mono hle, fun i y hi => ?_, fun i y b hi hb => ?_, fun i j y z b hi hj hy hz => ?_, h.defers⟩
  · refine (hf.block k (Nat.lt_of_lt_of_le hk h.fr.size) fun hmk => ?_).trans (h.fr.block k hk hm)
    obtain ⟨i, x, hi⟩ := hM k hmk
    rcases (h.own i _ k hi rfl).1 with h1 | h1
    · omega
    · exact hm h1
  · obtain ⟨x, hx, he, hh⟩ := back i y hi
    rcases hh with rfl | ⟨b, z, u, rfl, rfl, h3⟩
    · exact (h.o i y hx).mono hle fun b hb => hn i y hx hi b hb
    · exact h3
  · obtain ⟨x, hx, he, _⟩ := back i y hi
    have := h.own i x b hx (he.trans hb)
    exact ⟨this.1, Nat.lt_of_lt_of_le this.2 hf.size⟩
  · obtain ⟨x, hx, he, _⟩ := back i y hi
    obtain ⟨x', hx', he', _⟩ := back j z hj
    exact h.inj i j x x' b hx hx' (he.trans hy) (he'.trans hz)
/-- A new block of one's own, behind the others. -/
theorem Sat.snoc (h : Sat E σ a w) (x : Obj) : Sat E ⟨σ.t, σ.o ++ [.hold w.heap.size x]⟩ a (w.alloc x) := by
  have hg : Below w.heap.size w (w.alloc x) := (Below.refl _ w).alloc (Nat.le_refl _) x
  have hlt : ∀ b, E.C σ.o w b → b ≠ w.heap.size := fun b hb => Nat.ne_of_lt (h.lt_C hb)
  have hle : MemLe (E.mem σ.o w) (E.mem (σ.o ++ [.hold w.heap.size x]) (w.alloc x)) := by
    refine ⟨fun b hb => ?_, fun b hb => hg.block b (h.lt_C hb)⟩
    have hne := hlt b hb
    rcases hb with hb | hb
    · exact .inl hb
    · refine .inr ⟨hb.1, Nat.lt_of_lt_of_le hb.2.1 hg.size, fun y hy e => ?_⟩
      rcases List.mem_append.1 hy with hy | hy
      · exact hb.2.2 y hy e
      · simp only [List.mem_singleton] at hy
        subst hy
        simp only [AObj.blk, Option.some.injEq] at e
        exact hne e.symm
  have get : ∀ (i : Nat) y, (σ.o ++ [AObj.hold w.heap.size x])[i]? = some y → σ.o[i]? = some y ∨ (i = σ.o.length ∧ y = .hold w.heap.size x) := by
    intro i y hy
    rcases Nat.lt_or_ge i σ.o.length with h1 | h1
    · rw [List.getElem?_append_left h1] at hy; exact .inl hy
    · rw [List.getElem?_append_right h1] at hy
      have : i - σ.o.length = 0 := by
        have := (List.getElem?_eq_some_iff.1 hy).1
        simp at this; omega
      rw [this] at hy
      simp at hy
      exact .inr ⟨by omega, hy.symm⟩
  refine ⟨⟨hg.os.trans h.fr.os, hg.tape.trans h.fr.tape, hg.output.trans h.fr.output, Nat.le_trans h.fr.size hg.size, fun k hk hM => ?_⟩, h.base, h.t.mono hle, fun i y hi => ?_, fun i y b hi hb => ?_, fun i j y z b hi hj hy hz => ?_, h.defers⟩
  · exact (hg.block k (Nat.lt_of_lt_of_le hk h.fr.size)).trans (h.fr.block k hk hM)
  · rcases get i y hi with h1 | ⟨_, rfl⟩
    · exact (h.o i y h1).mono hle fun b hb => hg.block b (h.own i y b h1 hb).2
    · exact World.alloc_heap_new w x
  · rcases get i y hi with h1 | ⟨_, rfl⟩
    · have := h.own i y b h1 hb
      exact ⟨this.1, Nat.lt_of_lt_of_le this.2 hg.size⟩
    · simp only [AObj.blk, Option.some.injEq] at hb
      subst hb
      exact ⟨.inl h.fr.size, by simp⟩
  · rcases get i y hi with h1 | ⟨e1, rfl⟩ <;> rcases get j z hj with h2 | ⟨e2, rfl⟩
    · exact h.inj i j y z b h1 h2 hy hz
    · simp only [AObj.blk, Option.some.injEq] at hz
      subst hz
      have := (h.own i y _ h1 hy).2; omega
    · simp only [AObj.blk, Option.some.injEq] at hy
      subst hy
      have := (h.own j z _ h2 hz).2; omega
    · omega
end
end Go.Proofs.Ytalbfikfbejnfaa.A
