/- Contracts of functions that range over a function. -/
import Derived.Test.YtalbfikfbejnfaaE1
set_option linter.unusedVariables false
set_option linter.unusedSimpArgs false
namespace Go.Proofs.Ytalbfikfbejnfaa.A
open Go.RowKit

theorem IterC.later {α : Type} {P : Program} {gf : Nat} {lb : Array Value} {M C : Nat → Prop} {enc : α → Value} {xs : List α} {w W : World} (h : IterC P gf lb M C enc xs w) (hf : Fr (fun b => ¬ C b ∧ ¬ M b) w W) : IterC P gf lb M C enc xs W :=
  fun l J W2 O hfr => h l J W2 O ⟨hfr.os.trans hf.os, hfr.tape.trans hf.tape, hfr.output.trans hf.output, Nat.le_trans hf.size hfr.size, fun k hk hn => (hfr.block k (Nat.lt_of_lt_of_le hk hf.size) hn).trans (hf.block k hk hn)⟩
theorem IterC.of_le {α : Type} {P : Program} {gf : Nat} {lb : Array Value} {M C C' : Nat → Prop} {enc : α → Value} {xs : List α} {w : World} (h : IterC P gf lb M C enc xs w) (hC : ∀ b, C b → C' b) : IterC P gf lb M C' enc xs w :=
  fun l J W O hfr h1 h2 h3 h4 => h l J W O (hfr.mono fun k _ hk => ⟨fun hc => hk.1 (hC k hc), hk.2⟩) h1 (fun pre O A hJ b hb => ⟨(h2 pre O A hJ b hb).1, (h2 pre O A hJ b hb).2.1, fun hc => (h2 pre O A hJ b hb).2.2 (hC b hc)⟩) h3 h4
theorem LeA.lit_own (v : Value) (t : Nat) : LeA (.d (.lit v)) (.own t v) := fun m x h => by
  simp only [Has, Rep] at h ⊢
  exact ⟨h.1, by rw [h.1]; exact h.2⟩

/-- Of a variable's cells less is told. -/
theorem Wk.box {E : Env} {t : List AV} {o : List AObj} (i : Nat) {g : Nat} {cs cs' : List AV} (hi : o[i]? = some (.box g cs)) (h : LeL cs cs') : Wk E ⟨t, o⟩ ⟨t, o.set i (.box g cs')⟩ := fun a w hs => by
  refine hs.turn (rb := none) hi (grownBy_refl w _) (by simp) (fun b hb => ⟨.inl hb, (hs.own i _ b hi hb).2⟩) fun hle => ?_
  obtain ⟨t', vs, h1, h2, h3⟩ := hs.o i _ hi
  exact ⟨t', vs, h1, (h.has h2).mono hle, h3⟩

/-- What a function hands back, its objects being written no more. -/
theorem Sat.result {E : Env} {σ : St} {a : Act} {w : World} {fn : Func} {r : AV} (hs : Sat E σ a w) (hres : resR E.P fn r σ) :
    ∃ v, (results fn a.tmps).run E.P w = .ok v w ∧ Has ⟨w.heap, fun b => E.C0 b ∨ ((E.w0.heap.size ≤ b ∨ E.M b) ∧ b < w.heap.size)⟩ r v := by
  obtain ⟨v, xs, vs, h1, h2, h3, h4⟩ := hres E a w rfl hs
  obtain ⟨k1, k2⟩ := hs.close xs vs h2 h3
  have hle : MemLe (E.mem (applyEff (frzEff σ.o (idsOfL xs)) σ.o) w) ⟨w.heap, fun b => E.C0 b ∨ ((E.w0.heap.size ≤ b ∨ E.M b) ∧ b < w.heap.size)⟩ := by
    refine ⟨fun b hb => ?_, fun _ _ => rfl⟩
    rcases hb with hb | hb
    · exact .inl hb
    · exact .inr ⟨hb.1, hb.2.1⟩
  exact ⟨v, h1, Has.mono hle r v (h4 _ k2)⟩
theorem leaves_marks {E : Env} {fn : Func} {r : AV} {t : List AV} {o : List AObj} {D i : Nat} {a : Act} {w : World} {R : Ending → World → Prop} (hdf : E.df = [{ target := .collected D, args := #[] }]) (hi : o[i]? = some (.hold D ddObj))
    (hs : Sat E ⟨t, o⟩ a w) (hres : resR E.P fn r ⟨t, o.set i (.hold D (.deferred none))⟩)
    (hR : ∀ v w', Fr E.M E.w0 w' → Has ⟨w'.heap, fun b => E.C0 b ∨ ((E.w0.heap.size ≤ b ∨ E.M b) ∧ b < w'.heap.size)⟩ r v → R (.returned v) w') :
    LeavesInM Fence.wide 0 E.P fn a.tmps R a.defers .returning w := by
  rw [hs.defers, hdf]
  have hs2 := hs.put_hold hi (.deferred none)
  obtain ⟨v, h1, h2⟩ := hs2.result hres
  exact ⟨by simp, .inl ⟨D, _, rfl, run_takeDeferred (hs.o i _ hi), v, h1, hR v _ hs2.fr h2⟩⟩
theorem awq_ret {E : Env} {QW : Exit → Act → World → Prop} {σ : St} (h : Ends E QW .ret σ) : AWq E .ret QW σ := fun a w hs => wpIn_ret (h a w hs)
theorem awq_skip {E : Env} {QW : Exit → Act → World → Prop} {σ : St} (h : Ends E QW .normal σ) : AWq E .skip QW σ := fun a w hs => wpIn_skip (h a w hs)
/-- The state in which a function begins that is handed two variables of another party. -/
theorem sat_start2 {P : Program} {args : List AV} {C : Nat → Prop} {w : World} {vs : List Value} (n : Nat) {ga gb : Nat} {xa xb : Obj} (hC : ∀ b, C b → b < w.heap.size ∧ ¬ (b = ga ∨ b = gb)) (hv : HasL ⟨w.heap, C⟩ args vs) (hne : ga ≠ gb) (ha : w.heap[ga]? = some xa) (hb : w.heap[gb]? = some xb) :
    Sat ⟨P, w, C, fun b => b = ga ∨ b = gb, none, []⟩ ⟨args ++ List.replicate (n - args.length) .any, List.replicate n .no ++ tl2 ga gb xa xb⟩ { tmps := vs.toArray ++ Array.replicate (n - vs.toArray.size) undef, defers := [] } w := by
  refine sat_start hC hv ?_ ?_
  · intro i x hx
    match i, hx with
    | 0, hx => simp [tl2] at hx; subst hx; exact ⟨ga, rfl, .inl rfl, (Array.getElem?_eq_some_iff.1 ha).1, ha⟩
    | 1, hx => simp [tl2] at hx; subst hx; exact ⟨gb, rfl, .inr rfl, (Array.getElem?_eq_some_iff.1 hb).1, hb⟩
    | i + 2, hx => simp [tl2] at hx
  · intro i j x y g hx hy h1 h2
    match i, j, hx, hy with
    | 0, 0, _, _ => rfl
    | 1, 1, _, _ => rfl
    | 0, 1, hx, hy => simp [tl2] at hx hy; subst hx; subst hy; simp [AObj.blk] at h1 h2; omega
    | 1, 0, hx, hy => simp [tl2] at hx hy; subst hx; subst hy; simp [AObj.blk] at h1 h2; omega
    | i + 2, _, hx, _ => simp [tl2] at hx
    | 0, j + 2, _, hy => simp [tl2] at hy
    | 1, j + 2, _, hy => simp [tl2] at hy
/-- The two variables lie as they lay. -/
theorem Sat.two_same {E : Env} {t : List AV} {o : List AObj} {a : Act} {w : World} {ga gb i : Nat} {xa xb : Obj} {C : Nat → Prop} (hs : Sat E ⟨t, o⟩ a w) (hM : ∀ k, E.M k → k = ga ∨ k = gb) (h1 : o[i]? = some (.hold ga xa)) (h2 : o[i + 1]? = some (.hold gb xb)) (ha : E.w0.heap[ga]? = some xa) (hb : E.w0.heap[gb]? = some xb) :
    Fr (fun b => ¬ C b ∧ ¬ (b = ga ∨ b = gb)) E.w0 w := by
  refine ⟨hs.fr.os, hs.fr.tape, hs.fr.output, hs.fr.size, fun k hk hn => ?_⟩
  by_cases h3 : k = ga ∨ k = gb
  · rcases h3 with rfl | rfl
    · exact (hs.o _ _ h1).trans ha.symm
    · exact (hs.o _ _ h2).trans hb.symm
  · exact hs.fr.block k hk fun hm => h3 (hM k hm)
theorem split_base {t : List AV} {o tail : List AObj} (n : Nat) (h : o.drop n = tail) : (⟨t, o⟩ : St) = ⟨t, o.take n ++ tail⟩ := by
  subst h; rw [List.take_append_drop]
end Go.Proofs.Ytalbfikfbejnfaa.A
