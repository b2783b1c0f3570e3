/- Raw operations; clear of a tail of a row of pairs of numbers. -/
import Derived.Test.YtalbfikfbejnfaaE3
set_option linter.unusedVariables false
set_option linter.unusedSimpArgs false
namespace Go.Proofs.Ytalbfikfbejnfaa.A
open Go.RowKit

section
variable {E : Env} {T : Tab} {l : List Oper} {Q : Exit → Act → World → Prop} {k : Nat} {a : Act} {w : World}
theorem ops_raw {o : Oper} {v : Value} {w' : World} (ho : l[k]? = some o) (hg : o.guard = none) (hd : ∀ c, o.op ≠ .defer c) (hrun : (execOp a.eval o).run E.P w = .ok (.value v) w') (h : Ops E l Q (k + 1) (a.put o.dst v) w') : Ops E l Q k a w := by
  have hk : k < l.length := (List.getElem?_eq_some_iff.1 ho).1
  unfold Ops
  rw [show l.length - k = (l.length - (k + 1)) + 1 from by omega, List.range'_succ, wpOpsIn_cons]
  have ho' : l.toArray[k]? = some o := by rw [List.getElem?_toArray]; exact ho
  unfold wpOpIn
  simp only [ho']
  have hw : Region.wanted o (yielded l.toArray a.tmps) = true := by simp [Region.wanted, hg]
  rw [if_pos hw]
  unfold Oper.wpIn
  rw [Oper.semAt_eq _ _ _ hd]
  refine ⟨fun _ _ => trivial, ?_⟩
  rw [hrun, Oper.uponIn_value]
  exact h
theorem HasL.upd {m : Mem} : ∀ {t : List AV} {vs : List Value}, HasL m t vs → ∀ (i : Nat) {x : AV} {v : Value}, vs[i]? = some v → Has m x v → HasL m (t.set i x) vs
  | [], [], h, i, x, v, hi, _ => by simp at hi
  | y :: t, u :: vs, h, 0, x, v, hi, hx => by
    simp only [HasL] at h
    simp only [List.getElem?_cons_zero, Option.some.injEq] at hi
    subst hi
    simp only [List.set_cons_zero, HasL]
    exact ⟨hx, h.2⟩
  | y :: t, u :: vs, h, i + 1, x, v, hi, hx => by
    simp only [HasL] at h
    simp only [List.set_cons_succ, HasL]
    exact ⟨h.1, HasL.upd h.2 i (by simpa using hi) hx⟩
  | [], _ :: _, h, _, _, _, _, _ => by simp only [HasL] at h
  | _ :: _, [], h, _, _, _, _, _ => by simp only [HasL] at h
theorem hasL_any {m : Mem} (vs : List Value) : HasL m (List.replicate vs.length .any) vs := by
  induction vs with
  | nil => simp only [List.length_nil, List.replicate_zero, HasL]
  | cons y vs ih => simp only [List.length_cons, List.replicate_succ, HasL, Has]; exact ⟨trivial, ih⟩

/-! ### Rows of pairs of numbers -/
def valsN (L : List (Int × Int)) : List Value := L.flatMap fun n => [.int .i64 n.1, .int .i64 n.2]
theorem valsN_length (L : List (Int × Int)) : (valsN L).length = L.length * 2 := by
  induction L with
  | nil => rfl
  | cons n L ih => simp only [valsN, List.flatMap_cons, List.length_append, List.length_cons, List.length_nil] at ih ⊢; omega
theorem valsN_append (L M : List (Int × Int)) : valsN (L ++ M) = valsN L ++ valsN M := by simp [valsN]
theorem valsN_zero (n : Nat) : valsN (List.replicate n (0, 0)) = List.replicate (n * 2) (.int .i64 0) := by
  induction n with
  | zero => rfl
  | succ n ih =>
    rw [List.replicate_succ]
    have : valsN ((0, 0) :: List.replicate n (0, 0)) = [.int .i64 0, .int .i64 0] ++ valsN (List.replicate n (0, 0)) := rfl
    rw [this, ih, show (n + 1) * 2 = n * 2 + 1 + 1 from by omega, List.replicate_succ, List.replicate_succ]; rfl
abbrev rowsN (L : List (Int × Int)) : List (List Dat) := L.map fun n => [.lit (.int .i64 n.1), .lit (.int .i64 n.2)]
theorem rowVals_N {m : Mem} : ∀ {L : List (Int × Int)} {xs : List Value}, RowVals m 2 (rowsN L) xs → xs = valsN L
  | [], xs, h => h
  | n :: L, xs, h => by
    obtain ⟨_, h2, h3⟩ := h
    have h4 := rowVals_N h3
    rw [← List.take_append_drop 2 xs, h4]
    have h5 : xs.take 2 = [.int .i64 n.1, .int .i64 n.2] := by
      match hx : xs.take 2, h2 with
      | [u, v], h2 =>
        simp only [DatL, Rep] at h2
        rw [h2.1.1, h2.2.1.1]
      | [], h2 => exact h2.elim
      | [_], h2 => exact h2.2.elim
      | _ :: _ :: _ :: _, h2 => exact h2.2.2.elim
    rw [h5]; rfl
theorem rowVals_N' {m : Mem} : ∀ (L : List (Int × Int)), RowVals m 2 (rowsN L) (valsN L)
  | [] => rfl
  | n :: L => ⟨rfl, ⟨by simp only [Rep]; exact ⟨trivial, rfl⟩, by simp only [Rep]; exact ⟨trivial, rfl⟩, trivial⟩, rowVals_N' L⟩
theorem rowN_obj {m : Mem} {v : Value} {e : TypeId} {g : Nat} {L : List (Int × Int)} (h : ObjAt m (.row v e 2 (rowsN L))) (hb : v.ownBlock = some g) :
    ∃ cap cur, v = .slice (some ⟨g, 0, none⟩) L.length cap ∧ m.heap[g]? = some (.cells cur e (0, 0)) ∧ L.length ≤ cap ∧ cap ≤ maxLen ∧ cur.size = cap * 2 ∧ cur.toList.take (L.length * 2) = valsN L := by
  obtain ⟨xs, ⟨h1, h2⟩, h3⟩ := h
  have hx := rowVals_N h3
  rcases h2 with ⟨rfl, _⟩ | ⟨g', cap, cur, rfl, h4, h5, h6, h7, h8⟩
  · simp [Value.ownBlock] at hb
  · simp only [Value.ownBlock, Option.some.injEq] at hb
    subst hb
    refine ⟨cap, cur, by simp, h4, by simpa using h5, h6, h7, ?_⟩
    rw [← hx, ← h8]; simp
theorem rowN_mk {m : Mem} {e : TypeId} {g cap : Nat} {cur : Array Value} {L : List (Int × Int)} (h1 : m.heap[g]? = some (.cells cur e (0, 0))) (h2 : L.length ≤ cap) (h3 : cap ≤ maxLen) (h4 : cur.size = cap * 2) (h5 : cur.toList.take (L.length * 2) = valsN L) :
    ObjAt m (.row (.slice (some ⟨g, 0, none⟩) L.length cap) e 2 (rowsN L)) :=
  ⟨valsN L, ⟨by simp [valsN_length], .inr ⟨g, cap, cur, by simp, h1, by simpa using h2, h3, h4, by simpa using h5⟩⟩, rowVals_N' L⟩

/-! ### clear -/
theorem zeroCells_pair (n : Nat) : (Builtin.zeroCells (#[.int .i64 0, .int .i64 0] : Array Value) n).toList = List.replicate (n * 2) (Value.int .i64 0) := by
  rw [List.eq_replicate_iff]
  refine ⟨by simp [Builtin.zeroCells], fun b hb => ?_⟩
  simp only [Builtin.zeroCells, Array.toList_map, List.mem_map] at hb
  obtain ⟨i, _, rfl⟩ := hb
  have : i % 2 = 0 ∨ i % 2 = 1 := by omega
  rcases this with h | h <;> simp [h]
theorem run_clear (hT : TabOk E.P T) {t ty : Nat} (h1 : (T t).known = true) (h2 : (T t).kind = 1) (h3 : (T (T t).elem).known = true) (hz : (T (T t).elem).zero = [.int .i64 0, .int .i64 0]) {g off n c : Nat} {cur : Array Value} {et : TypeId} (hg : w.heap[g]? = some (.cells cur et (0, 0))) (hf : off + n * 2 ≤ cur.size) (A : Option Addr) (hA : 0 < n → A = some ⟨g, off, none⟩) :
    ∃ w', (Builtin.clear_ #[t] ty #[.slice A n c]).run E.P w = .ok (.tuple #[]) w' ∧ Fr (fun b => b = g) w w' ∧ w'.heap[g]? = some (.cells (setMany cur.toList off (List.replicate (n * 2) (.int .i64 0))).toArray et (0, 0)) := by
  have h4 := run_underlying (w := w) (ti_slice hT h1 h2)
  by_cases hn : n = 0
  · subst hn
    refine ⟨w, ?_, Fr.refl _ _, ?_⟩
    · cases A <;> simp [Builtin.clear_, h4]
    · rw [hg]
      congr 2
      simp [setMany]
  · have hA' := hA (by omega)
    subst hA'
    obtain ⟨z, hz1, hz2⟩ := run_zero (w := w) hT h3
    rw [hz] at hz2
    have hzc : z.cells = #[.int .i64 0, .int .i64 0] := by rw [← Array.toArray_toList (xs := z.cells), hz2]
    have hst := run_storeCells_at E.P g off et (List.replicate (n * 2) (.int .i64 0)) 0 cur w hg (by simpa using hf) (by intro v hv; rw [(List.mem_replicate.1 hv).2]; rfl)
    simp only [Nat.add_zero] at hst
    refine ⟨w.setRow g (setMany cur.toList off (List.replicate (n * 2) (.int .i64 0))).toArray, ?_, ?_, ?_⟩
    · have e1 : setMany cur.toList off (List.replicate (n * 2) (.int .i64 0)) = cur.toList.take off ++ List.replicate (n * 2) (.int .i64 0) ++ cur.toList.drop (off + (List.replicate (n * 2) (Value.int .i64 0)).length) := rfl
      rw [e1]
      obtain ⟨n', rfl⟩ : ∃ n', n = n' + 1 := ⟨n - 1, by omega⟩
      have hz3 := zeroCells_pair (n' + 1)
      rw [← hzc] at hz3
      rw [← hz3] at hst ⊢
      simp only [Builtin.clear_, Sem.run_bind, h4, Result.andThen_ok, hz1]
      simp [h4, hz1, hst]
    · have hgb := grownBy_setRow w g (setMany cur.toList off (List.replicate (n * 2) (.int .i64 0))).toArray
      exact ⟨hgb.os, hgb.tape, hgb.output, hgb.size, fun k hk hn => hgb.block k hk (fun e => hn (Option.some.inj e))⟩
    · exact setRow_heap w g cur _ et (0, 0) hg
end
end Go.Proofs.Ytalbfikfbejnfaa.A
