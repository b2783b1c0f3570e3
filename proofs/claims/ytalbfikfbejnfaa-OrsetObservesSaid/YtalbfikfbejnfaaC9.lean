/- A range over a function, its caller and the function ranged over each by a walk. -/
import Derived.Test.YtalbfikfbejnfaaC8
set_option linter.unusedVariables false
set_option linter.unusedSimpArgs false
namespace Go.Proofs.Ytalbfikfbejnfaa.A
open Go.RowKit

/-- What a function that is ranged over says: it yields xs, one after the other, and turns the blocks of M alone; C: what it leans on. -/
def IterC {α : Type} (P : Program) (gf : Nat) (lb : Array Value) (M C : Nat → Prop) (enc : α → Value) (xs : List α) (w : World) : Prop :=
  ∀ (l : Nat) (J : List α → (Nat → Prop) → World → Prop) (W : World) (O : Nat → Prop),
    Fr (fun b => ¬ C b ∧ ¬ M b) w W →
    (∀ pre O A B, J pre O A → Fr M A B → J pre O B) →
    (∀ pre O A, J pre O A → ∀ b, O b → b < A.heap.size ∧ ¬ M b ∧ ¬ C b) →
    (∀ pre x O A, J pre O A → (pre ++ [x]) <+: xs → YieldAt Fence.wide 0 P l #[enc x] A fun e B => e = .returned (.bool true) ∧ ∃ O', J (pre ++ [x]) O' B ∧ Fr O A B ∧ ∀ b, O' b → O b ∨ A.heap.size ≤ b) →
    J [] O W →
    CallsIn Fence.wide 0 P gf (#[.func (.yield l) #[] #[]] ++ lb) W fun e B => ∃ v O', e = .returned v ∧ J xs O' B

def ddObj : Obj := .deferred (some [])
def tl2 (ga gb : Nat) (xa xb : Obj) : List AObj := [.hold ga xa, .hold gb xb]
def tl4 (ga gb : Nat) (xa xb : Obj) (D l : Nat) (L : Obj) : List AObj := [.hold ga xa, .hold gb xb, .hold D ddObj, .hold l L]
theorem tl4_0 (base : List AObj) (ga gb : Nat) (xa xb : Obj) (D l : Nat) (L : Obj) : (base ++ tl4 ga gb xa xb D l L)[base.length]? = some (.hold ga xa) := by simp [tl4]
theorem tl4_1 (base : List AObj) (ga gb : Nat) (xa xb : Obj) (D l : Nat) (L : Obj) : (base ++ tl4 ga gb xa xb D l L)[base.length + 1]? = some (.hold gb xb) := by simp [tl4]
theorem tl4_2 (base : List AObj) (ga gb : Nat) (xa xb : Obj) (D l : Nat) (L : Obj) : (base ++ tl4 ga gb xa xb D l L)[base.length + 2]? = some (.hold D ddObj) := by simp [tl4]
theorem tl4_3 (base : List AObj) (ga gb : Nat) (xa xb : Obj) (D l : Nat) (L : Obj) : (base ++ tl4 ga gb xa xb D l L)[base.length + 3]? = some (.hold l L) := by simp [tl4]
theorem at_base (base t : List AObj) (k : Nat) : (base ++ t)[base.length + k]? = t[k]? := by
  rw [List.getElem?_append_right (Nat.le_add_right ..), Nat.add_sub_cancel_left]
theorem tl4_cases {base : List AObj} {ga gb D l : Nat} {xa xb L : Obj} {i : Nat} {x : AObj} (h : (base ++ tl4 ga gb xa xb D l L)[i]? = some x) :
    (i < base.length ∧ base[i]? = some x) ∨ (i = base.length ∧ x = .hold ga xa) ∨ (i = base.length + 1 ∧ x = .hold gb xb) ∨ (i = base.length + 2 ∧ x = .hold D ddObj) ∨ (i = base.length + 3 ∧ x = .hold l L) := by
  rcases Nat.lt_or_ge i base.length with h1 | h1
  · rw [List.getElem?_append_left h1] at h; exact .inl ⟨h1, h⟩
  · obtain ⟨k, rfl⟩ : ∃ k, i = base.length + k := ⟨i - base.length, by omega⟩
    rw [at_base] at h
    match k, h with
    | 0, h => simp [tl4] at h; exact .inr (.inl ⟨rfl, h.symm⟩)
    | 1, h => simp [tl4] at h; exact .inr (.inr (.inl ⟨rfl, h.symm⟩))
    | 2, h => simp [tl4] at h; exact .inr (.inr (.inr (.inl ⟨rfl, h.symm⟩)))
    | 3, h => simp [tl4] at h; exact .inr (.inr (.inr (.inr ⟨rfl, h.symm⟩)))
    | k + 4, h => simp [tl4] at h
def mineOf (base : List AObj) (D l : Nat) (b : Nat) : Prop := ownOf base b ∨ b = D ∨ b = l
section
variable {E : Env} {t : List AV} {base : List AObj} {a : Act} {w w' : World} {ga gb D l : Nat} {xa xb L : Obj}
theorem Sat.mine_ne (h : Sat E ⟨t, base ++ tl4 ga gb xa xb D l L⟩ a w) {b : Nat} (hb : mineOf base D l b) : b < w.heap.size ∧ ¬ (b = ga ∨ b = gb) := by
  have ga' := h.inj base.length
  have hga : (base ++ tl4 ga gb xa xb D l L)[base.length]? = some (.hold ga xa) := tl4_0 ..
  have hgb : (base ++ tl4 ga gb xa xb D l L)[base.length + 1]? = some (.hold gb xb) := tl4_1 ..
  have hD : (base ++ tl4 ga gb xa xb D l L)[base.length + 2]? = some (.hold D ddObj) := tl4_2 ..
  have hl : (base ++ tl4 ga gb xa xb D l L)[base.length + 3]? = some (.hold l L) := tl4_3 ..
  rcases hb with ⟨x, hx, hb⟩ | rfl | rfl
  · obtain ⟨i, hi⟩ := List.mem_iff_getElem?.1 hx
    have hil : i < base.length := (List.getElem?_eq_some_iff.1 hi).1
    have hi' : (base ++ tl4 ga gb xa xb D l L)[i]? = some x := by rw [List.getElem?_append_left hil]; exact hi
    refine ⟨(h.own i x b hi' hb).2, ?_⟩
    rintro (rfl | rfl)
    · have := h.inj i _ x _ _ hi' hga hb rfl; omega
    · have := h.inj i _ x _ _ hi' hgb hb rfl; omega
  · refine ⟨(h.own _ _ _ hD rfl).2, ?_⟩
    rintro (rfl | rfl)
    · have := h.inj _ _ _ _ _ hD hga rfl rfl; omega
    · have := h.inj _ _ _ _ _ hD hgb rfl rfl; omega
  · refine ⟨(h.own _ _ _ hl rfl).2, ?_⟩
    rintro (rfl | rfl)
    · have := h.inj _ _ _ _ _ hl hga rfl rfl; omega
    · have := h.inj _ _ _ _ _ hl hgb rfl rfl; omega
theorem own_tl4 {b : Nat} (hb : ownOf (base ++ tl4 ga gb xa xb D l L) b) : mineOf base D l b ∨ b = ga ∨ b = gb := by
  obtain ⟨x, hx, hb⟩ := hb
  rcases List.mem_append.1 hx with hx | hx
  · exact .inl (.inl ⟨x, hx, hb⟩)
  · simp only [tl4, List.mem_cons, List.not_mem_nil, or_false] at hx
    rcases hx with rfl | rfl | rfl | rfl <;> simp only [AObj.blk, Option.some.injEq] at hb <;> subst hb
    · exact .inr (.inl rfl)
    · exact .inr (.inr rfl)
    · exact .inl (.inr (.inl rfl))
    · exact .inl (.inr (.inr rfl))
theorem Sat.iter (h : Sat E ⟨t, base ++ tl4 ga gb xa xb D l L⟩ a w) (hf : Fr (fun b => b = ga ∨ b = gb) w w') : ∃ xa' xb', Sat E ⟨t, base ++ tl4 ga gb xa' xb' D l L⟩ a w' := by
  have hga : (base ++ tl4 ga gb xa xb D l L)[base.length]? = some (.hold ga xa) := tl4_0 ..
  have hgb : (base ++ tl4 ga gb xa xb D l L)[base.length + 1]? = some (.hold gb xb) := tl4_1 ..
  have h1 := (h.own _ _ _ hga rfl).2
  have h2 := (h.own _ _ _ hgb rfl).2
  have hsz := hf.size
  refine ⟨w'.heap[ga]'(by omega), w'.heap[gb]'(by omega), ?_⟩
  have e1 : w'.heap[ga]? = some (w'.heap[ga]'(by omega)) := Array.getElem?_eq_getElem (by omega)
  have e2 : w'.heap[gb]? = some (w'.heap[gb]'(by omega)) := Array.getElem?_eq_getElem (by omega)
  generalize w'.heap[ga]'(by omega) = ya at *
  generalize w'.heap[gb]'(by omega) = yb at *
  refine h.held hf ?_ (o' := base ++ tl4 ga gb ya yb D l L) (by simp [tl4]) ?_ ?_
  · rintro b (rfl | rfl)
    · exact ⟨_, _, hga⟩
    · exact ⟨_, _, hgb⟩
  · intro i x hx
    rcases tl4_cases hx with ⟨k1, k2⟩ | ⟨rfl, rfl⟩ | ⟨rfl, rfl⟩ | ⟨rfl, rfl⟩ | ⟨rfl, rfl⟩
    · exact .inl (by rw [List.getElem?_append_left k1]; exact k2)
    · exact .inr ⟨ga, xa, ya, rfl, tl4_0 .., e1⟩
    · exact .inr ⟨gb, xb, yb, rfl, tl4_1 .., e2⟩
    · exact .inl (tl4_2 ..)
    · exact .inl (tl4_3 ..)
  · intro i x hx hx' b hb
    by_cases hab : b = ga ∨ b = gb
    · rcases hab with rfl | rfl
      · have hi := h.inj _ _ _ _ _ hx hga hb rfl
        subst hi
        rw [hga] at hx
        cases hx
        have := at_base base (tl4 b gb ya yb D l L) 0
        simp only [Nat.add_zero] at this
        rw [this] at hx'
        simp only [tl4, List.getElem?_cons_zero, Option.some.injEq, AObj.hold.injEq, true_and] at hx'
        rw [e1, hx']
        exact (h.o _ _ hga).symm
      · have hi := h.inj _ _ _ _ _ hx hgb hb rfl
        subst hi
        rw [hgb] at hx
        cases hx
        have := at_base base (tl4 ga b ya yb D l L) 1
        rw [this] at hx'
        simp only [tl4, List.getElem?_cons_succ, List.getElem?_cons_zero, Option.some.injEq, AObj.hold.injEq, true_and] at hx'
        rw [e2, hx']
        exact (h.o _ _ hgb).symm
    · exact hf.block b (h.own i x b hx hb).2 hab
theorem Sat.put_loop (h : Sat E ⟨t, base ++ tl4 ga gb xa xb D l L⟩ a w) (L' : Obj) : Sat E ⟨t, base ++ tl4 ga gb xa xb D l L'⟩ a (w.putObj l L') := by
  have hl : (base ++ tl4 ga gb xa xb D l L)[base.length + 3]? = some (.hold l L) := tl4_3 ..
  have := h.put_hold hl L'
  have e : (base ++ tl4 ga gb xa xb D l L).set (base.length + 3) (.hold l L') = base ++ tl4 ga gb xa xb D l L' := by
    rw [List.set_append_right _ _ (Nat.le_add_right ..), Nat.add_sub_cancel_left]; rfl
  rwa [e] at this
theorem Sat.at_loop (h : Sat E ⟨t, base ++ tl4 ga gb xa xb D l L⟩ a w) : w.heap[l]? = some L :=
  h.o (base.length + 3) _ (tl4_3 ..)
theorem Sat.at_def (h : Sat E ⟨t, base ++ tl4 ga gb xa xb D l L⟩ a w) : w.heap[D]? = some ddObj :=
  h.o (base.length + 2) _ (tl4_2 ..)
theorem Sat.at_gs (h : Sat E ⟨t, base ++ tl4 ga gb xa xb D l L⟩ a w) : w.heap[ga]? = some xa ∧ w.heap[gb]? = some xb :=
  ⟨h.o base.length _ (tl4_0 ..), h.o (base.length + 1) _ (tl4_1 ..)⟩
end

theorem wp_rangeFunc {α : Type} {enc : α → Value} {av : α → AV} (henc : ∀ m x, Has m (av x) (enc x)) {xs : List α} {E : Env} {g : Operand} {p : Tmp} {assign body : Code} {QW : Exit → Act → World → Prop} {gf : Nat} {lb : Array Value}
    {t0 : List AV} {base0 : List AObj} {ga gb : Nat} {xa0 xb0 : Obj} (hE : E.rd = none) (hdf : E.df = [])
    {a : Act} {w : World} (hs : Sat E ⟨t0, base0 ++ tl2 ga gb xa0 xb0⟩ a w) (hg : a.eval g = .func (.func gf) #[] lb)
    (eg : ∀ args w, (callFunc gf args).run E.P w = .ok (.enter gf args) w)
    (hiter : IterC E.P gf lb (fun b => b = ga ∨ b = gb) (E.C (base0 ++ tl2 ga gb xa0 xb0) w) enc xs w)
    (SI : List α → List AObj → Prop) (h0 : SI [] base0)
    (hbody : ∀ (E' : Env) (l D : Nat) (xa xb L L' : Obj) (pre : List α) (x : α) (base : List AObj), E'.P = E.P → E'.rd = some l → SI pre base → (pre ++ [x]) <+: xs →
      AWp E' assign (thenA (fun s => ∃ t1 base1, s = ⟨t1, base1 ++ tl4 ga gb xa xb D l L⟩ ∧ AWp E' body (fun e s => e = .normal ∧ ∃ t' base', SI (pre ++ [x]) base' ∧ Wk E' s ⟨t', base' ++ tl4 ga gb xa xb D l L'⟩) ⟨t1, base1 ++ tl4 ga gb xa xb D l L'⟩) (fun _ _ => False))
        ⟨t0.set p (av x), base ++ tl4 ga gb xa xb D l L⟩)
    (hdone : ∀ (l D : Nat) (xa xb L : Obj) (base : List AObj), SI xs base → ∀ a w, Sat { E with df := [{ target := .collected D, args := #[] }] } ⟨t0, base ++ tl4 ga gb xa xb D l L⟩ a w → QW .normal a w) :
    (Code.rangeFunc g #[p] assign body).wpIn E.F 0 E.P QW a w := by
  have hF : E.F = Fence.wide := by simp [Env.F, hE]; rfl
  rw [hF]
  refine wpIn_rangeFunc ?_
  intro fn _
  obtain ⟨rec, hrec⟩ : ∃ rec : LoopState → Option Code → Loop, rec = fun st pe => { state := st, pending := pe, fn, tmps := a.tmps, params := #[p], assign, body, defers := w.heap.size } := ⟨_, rfl⟩
  obtain ⟨W1, hW1⟩ : ∃ W1, (w.alloc (.deferred (some []))).alloc (.loop (rec .ready none)) = W1 := ⟨_, rfl⟩
  have had : a.defers = [] := hs.defers.trans hdf
  have hsz1 : (w.alloc ddObj).heap.size = w.heap.size + 1 := by simp
  have hs1 : Sat E ⟨t0, base0 ++ tl4 ga gb xa0 xb0 w.heap.size (w.heap.size + 1) (.loop (rec .ready none))⟩ a W1 := by
    have := (hs.snoc ddObj).snoc (.loop (rec .ready none))
    rw [hsz1] at this
    rw [← hW1]
    simpa [tl2, tl4, ddObj] using this
  have hfr1 : Fr (fun _ => False) w W1 := by
    rw [← hW1]; exact (Fr.alloc _).trans (Fr.alloc _)
  refine ⟨w.heap.size + 1, [{ target := .collected w.heap.size, args := #[] }], W1, { target := .fn (.func gf) lb, args := #[.func (.yield (w.heap.size + 1)) #[] #[]] }, W1, gf,
    #[.func (.yield (w.heap.size + 1)) #[] #[]] ++ lb, W1, ?_, ?_, fun _ _ => trivial, ?_, (fun h => by cases h), ?_⟩
  · rw [← hW1, hrec]; exact run_enterLoop_outer _ _ _ _ _
  · simp only [resolve, hg]
    simp [go_sem]
  · simp [invoke, go_sem, eg]
  generalize hl : w.heap.size + 1 = l at *
  generalize hD : w.heap.size = D at *
  have hC' : ∀ b, E.C (base0 ++ tl2 ga gb xa0 xb0) w b → b < D := fun b hb => by rw [← hD]; exact hs.lt_C hb
  refine (hiter l (fun pre O A => ∃ base xa xb, SI pre base ∧ Sat E ⟨t0, base ++ tl4 ga gb xa xb D l (.loop (rec .ready none))⟩ a A ∧ D ≤ A.heap.size ∧ O = mineOf base D l ∧ ∀ b, O b → ¬ E.C (base0 ++ tl2 ga gb xa0 xb0) w b)
    W1 (mineOf base0 D l) (hfr1.mono fun _ _ h => h.elim) ?_ ?_ ?_ ?_).mono ?_
  · -- the iterator's own steps
    rintro pre O A B ⟨base, xa, xb, h1, h2, hz, h3, h4⟩ hf
    obtain ⟨xa', xb', h5⟩ := h2.iter hf
    exact ⟨base, xa', xb', h1, h5, Nat.le_trans hz hf.size, h3, h4⟩
  · rintro pre O A ⟨base, xa, xb, h1, h2, hz, rfl, h4⟩ b hb
    have := h2.mine_ne hb
    exact ⟨this.1, this.2, h4 b hb⟩
  · -- one round
    rintro pre x O A ⟨base, xa, xb, h1, h2, hz, rfl, h4⟩ hpre
    have hl0 := h2.at_loop
    have hy := run_yield (P := E.P) (args := #[enc x]) hl0 (by rw [hrec]; rfl)
    refine ⟨_, _, _, _, hy, roundIn_of_wpIn trivial ?_⟩
    have hE' : Sat (E.at (base ++ tl4 ga gb xa xb D l (.loop (rec .ready none))) A A (some l) []) ⟨t0.set p (av x), base ++ tl4 ga gb xa xb D l (.loop (rec .ready none))⟩ { tmps := a.tmps.setIfInBounds p (enc x), defers := [] } A := by
      have h5 := h2.rebase (some l)
      rw [hdf] at h5
      refine h5.slots rfl ?_
      rw [Array.toList_setIfInBounds]
      exact HasL.set (henc _ x) h5.t p
    have hbd := hbody (E.at (base ++ tl4 ga gb xa xb D l (.loop (rec .ready none))) A A (some l) []) l D xa xb (.loop (rec .ready none)) (.loop (rec .busy none)) pre x base rfl rfl h1 hpre
    have hw := hbd _ _ hE'
    have hFF : (E.at (base ++ tl4 ga gb xa xb D l (.loop (rec .ready none))) A A (some l) []).F = Fence.wide.inRound l := rfl
    rw [hFF] at hw
    have htm : ((rec .ready none).params.zip #[enc x]).foldl (fun tmps (t, a) => tmps.setIfInBounds t a) (rec .ready none).tmps = a.tmps.setIfInBounds p (enc x) := by rw [hrec]; simp
    have has : (rec .ready none).assign = assign ∧ (rec .ready none).body = body := by rw [hrec]; exact ⟨rfl, rfl⟩
    rw [has.1, has.2, htm]
    refine wpIn_mono hw ?_
    rintro e a1 A1 ⟨s, hq, hsat⟩
    cases e with
    | normal =>
      obtain ⟨t1, base1, rfl, hb⟩ := hq
      have hl1 := hsat.at_loop
      refine ⟨_, run_beginRound hl1 (by rw [hrec]), ?_⟩
      have hbusy : ({ (rec .ready none) with state := .busy } : Loop) = rec .busy none := by rw [hrec]
      rw [hbusy]
      have hsat2 := hsat.put_loop (.loop (rec .busy none))
      have hw2 := hb _ _ hsat2
      rw [hFF] at hw2
      refine wpIn_mono hw2 ?_
      rintro e a3 A3 ⟨s3, ⟨rfl, t', base', hSI, hwk⟩, hsat3⟩
      have hsat4 := hwk a3 A3 hsat3
      have hl3 := hsat4.at_loop
      have hend := run_endRound (P := E.P) none hl3
      refine ⟨_, _, hend, rfl, mineOf base' D l, ?_⟩
      have hready : ({ (rec .busy none) with state := if (none : Option Code).isNone then .ready else .done, pending := none } : Loop) = rec .ready none := by rw [hrec]; rfl
      rw [hready]
      have hsat5 := hsat4.put_loop (.loop (rec .ready none))
      -- the slots as they were where the loop began
      have hle : MemLe (E.mem (base ++ tl4 ga gb xa xb D l (.loop (rec .ready none))) A) _ := hsat5.base_le (base' ++ tl4 ga gb xa xb D l (.loop (rec .ready none)))
      have hsat6 := hsat5.slots (t := t0) (b := a) (by rw [had]; rfl) (h2.t.mono hle)
      have hsat7 := h2.unbase hsat6 hs.defers
      have hsz7 := hsat5.fr.size
      have hM : ∀ b, b < A.heap.size → (E.at (base ++ tl4 ga gb xa xb D l (.loop (rec .ready none))) A A (some l) []).M b → mineOf base D l b ∨ b = ga ∨ b = gb := fun b _ hb => own_tl4 hb
      have hown : ∀ b, mineOf base' D l b → mineOf base D l b ∨ A.heap.size ≤ b := by
        intro b hb
        have hne := (hsat5.mine_ne hb).2
        have hob : ownOf (base' ++ tl4 ga gb xa xb D l (.loop (rec .ready none))) b := by
          rcases hb with ⟨x, hx, hb⟩ | rfl | rfl
          · exact ⟨x, List.mem_append_left _ hx, hb⟩
          · exact ⟨.hold b ddObj, List.mem_append_right _ (by simp [tl4]), rfl⟩
          · exact ⟨.hold b (.loop (rec .ready none)), List.mem_append_right _ (by simp [tl4]), rfl⟩
        rcases (hsat5.mine hob).1 with h6 | h6
        · exact .inr h6
        · rcases own_tl4 h6 with h7 | h7
          · exact .inl h7
          · exact (hne h7).elim
      refine ⟨⟨base', xa, xb, hSI, hsat7, Nat.le_trans hz hsz7, rfl, fun b hb hc => ?_⟩, ?_, hown⟩
      · rcases hown b hb with h6 | h6
        · exact h4 b h6 hc
        · have := hC' b hc; omega
      · refine ⟨hsat5.fr.os, hsat5.fr.tape, hsat5.fr.output, hsz7, fun k hk hn => ?_⟩
        by_cases hab : k = ga ∨ k = gb
        · have g1 := h2.at_gs
          have g2 := hsat5.at_gs
          rcases hab with rfl | rfl
          · rw [g1.1, g2.1]
          · rw [g1.2, g2.2]
        · refine hsat5.fr.block k hk fun hm => ?_
          rcases hM k hk hm with h6 | h6
          · exact hn h6
          · exact hab h6
    | _ => exact hq.elim
  · refine ⟨base0, xa0, xb0, h0, hs1, by have := hfr1.size; omega, rfl, fun b hb hc => ?_⟩
    have h5 := hC' b hc
    rcases hb with ⟨x, hx, hb⟩ | rfl | rfl
    · obtain ⟨i, hi⟩ := List.mem_iff_getElem?.1 hx
      have hil : i < base0.length := (List.getElem?_eq_some_iff.1 hi).1
      exact hs.not_own hc (i := i) (x := x) (by rw [List.getElem?_append_left hil]; exact hi) hb
    · omega
    · omega
  · -- behind the loop
    rintro e B ⟨v, O', rfl, base, xa, xb, h1, h2, hz, rfl, h4⟩
    have hl2 := h2.at_loop
    have hpe : (rec .ready none).pending = none := by rw [hrec]
    have hrun := run_endLoop (P := E.P) hl2 (by rw [hrec]; simp)
    have h5 := (h2.put_loop (.loop { (rec .ready none) with state := .exhausted })).dfs [{ target := .collected D, args := #[] }]
    generalize B.putObj l (.loop { (rec .ready none) with state := .exhausted }) = W4 at *
    rw [hpe] at hrun
    refine ⟨none, W4, hrun, ?_⟩
    rw [had]
    exact hdone l D xa xb _ base h1 _ _ h5
theorem awq_rangeFunc {α : Type} {enc : α → Value} {av : α → AV} (henc : ∀ m x, Has m (av x) (enc x)) {xs : List α} {E : Env} {g : Operand} {p : Tmp} {assign body : Code} {QW : Exit → Act → World → Prop} {gf : Nat} {lb : Array Value}
    {t0 : List AV} {base0 : List AObj} {ga gb : Nat} {xa0 xb0 : Obj} (hE : E.rd = none) (hdf : E.df = [])
    (hg : ∀ a w, Sat E ⟨t0, base0 ++ tl2 ga gb xa0 xb0⟩ a w → a.eval g = .func (.func gf) #[] lb)
    (eg : ∀ args w, (callFunc gf args).run E.P w = .ok (.enter gf args) w)
    (hiter : ∀ a w, Sat E ⟨t0, base0 ++ tl2 ga gb xa0 xb0⟩ a w → IterC E.P gf lb (fun b => b = ga ∨ b = gb) (E.C (base0 ++ tl2 ga gb xa0 xb0) w) enc xs w)
    (SI : List α → List AObj → Prop) (h0 : SI [] base0)
    (hbody : ∀ (E' : Env) (l D : Nat) (xa xb L L' : Obj) (pre : List α) (x : α) (base : List AObj), E'.P = E.P → E'.rd = some l → SI pre base → (pre ++ [x]) <+: xs →
      AWp E' assign (thenA (fun s => ∃ t1 base1, s = ⟨t1, base1 ++ tl4 ga gb xa xb D l L⟩ ∧ AWp E' body (fun e s => e = .normal ∧ ∃ t' base', SI (pre ++ [x]) base' ∧ Wk E' s ⟨t', base' ++ tl4 ga gb xa xb D l L'⟩) ⟨t1, base1 ++ tl4 ga gb xa xb D l L'⟩) (fun _ _ => False))
        ⟨t0.set p (av x), base ++ tl4 ga gb xa xb D l L⟩)
    (hdone : ∀ (l D : Nat) (xa xb L : Obj) (base : List AObj), SI xs base → ∀ a w, Sat { E with df := [{ target := .collected D, args := #[] }] } ⟨t0, base ++ tl4 ga gb xa xb D l L⟩ a w → QW .normal a w) :
    AWq E (.rangeFunc g #[p] assign body) QW ⟨t0, base0 ++ tl2 ga gb xa0 xb0⟩ := by
  intro a w hs
  exact wp_rangeFunc henc hE hdf hs (hg a w hs) eg (hiter a w hs) SI h0 hbody hdone
end Go.Proofs.Ytalbfikfbejnfaa.A
