/- Bounds: valid, contained, merged: the walks. (Written by mk8.py.) Bounds: contained, merged: the walks. (Written by mk9.py.) Ranges: small functions: the walks. Ranges of expressions: the walk of rangeOf. (Written by mk11.py.) Ranges of expressions: operator 3. (Written by mk11.py.) Ranges of expressions: operator 4. (Written by mk11.py.) Made expressions; conjuncts; Truths and Never: the walks. Examples: what they compute. -/
import Derived.Test.YtopigomfhggkoaaDoorXY0
namespace Go.Proofs.YtopigomfhggkoaaDoor.A
section
set_option linter.unusedVariables false
set_option linter.unusedSimpArgs false
open Go.RowKit
attribute [local irreducible] Spec SpecF SpecN
attribute [local irreducible] AWp evOps evD
abbrev got (x : Bd × Int) : List AV := [litI .i64 x.1.nulls, litB x.1.has, litI .i64 x.1.lo.k, litI .i64 x.1.lo.i, litS x.1.lo.s, litI .i64 x.1.hi.k, litI .i64 x.1.hi.i, litS x.1.hi.s, litI .i64 x.1.sum, litI .i64 x.2]
theorem f12_spec (l : List Vl) (hb : ∀ v ∈ l, VlOk v) (hl : l.length ≤ 16777216) : Spec Tryd.prog 12 [.d (vls l)] (.agg (got (ofM l))) := by
  have h35 := f35_spec l hb hl
  refine spec_of_awp (fn := Tryd.f12) Tryd.func12 (by kernel_rfl) rfl ?_
  intro w0 C0
  simp only [Tryd.ntmps12, litI, litB, litS, List.length_cons, List.length_nil, Nat.reduceAdd, Nat.reduceSub, List.replicate_succ, List.replicate_zero, List.cons_append, List.nil_append]
  repeat' first
    | refine awp_seq ?_
    | (refine reg _ (by (simp only [List.map_cons, List.map_nil]; rfl)) rfl ?_; intro K hK)
    | (refine awp_ret ?_; simp only [thenA, blockA, scopeA, RetQ])
    | (refine ev_nil (hK _ ?_); clear hK K)
    | (apply ev_call0; (case hys => (simp only [go_sem]; try rfl)); (case hs => first | exact h35 ..); (case hok | hσ => (simp only [go_sem]; try rfl)))
    | (apply ev_step0; (case hr | hσ => (simp only [go_sem]; try rfl)); (case hc => exact hcA))
    | (apply ev_step; (case hr => (simp only [go_sem]; try rfl)); (case hσ => (intro g u; simp only [go_sem]; try rfl)); (case hc => exact hcA); intro g u; (try clear u); (try clear g))
    | fail
  all_goals (refine resR_oneA ?_; simp only [go_sem])
  exact LeA.refl _
/-- Whether bounds are of no values. -/
def bareB (b : Bd) : Bool := ((b.lo.k == 0) && ((b.lo.i == 0) && noS b.lo.s)) && (((b.hi.k == 0) && ((b.hi.i == 0) && noS b.hi.s)) && (b.sum == 0))
def validB (b : Bd) : Bool :=
  if decide (b.nulls < 0) = true then false else if decide (b.nulls > 4000000000000000000) = true then false else if decide (b.sum > 4000000000000000000) = true then false else if decide (b.sum < -4000000000000000000) = true then false
  else if b.has = false then bareB b
  else if wideV b.lo = false then false else if wideV b.hi = false then false else if isNull b.lo = true then false else if (b.lo.k == b.hi.k) = false then false else if decide (cmpV b.lo b.hi ≤ 0) = false then false
  else if (b.lo.k == 2) = true then true else (b.sum == 0)
set_option maxHeartbeats 8000000 in
theorem f16_spec (b : Bd) (hlo : b.lo.s.size ≤ 4611686018427387904) (hhi : b.hi.s.size ≤ 4611686018427387904) : Spec Tryd.prog 16 [.agg (bd b)] (litB (validB b)) := by
  have a1 := f40_spec b.lo hlo
  have a2 := f40_spec b.hi hhi
  have a3 := f41_spec b.lo b.hi
  have hq : ((b.lo.k == 0) && ((b.lo.i == 0) && (b.lo.s.toList == (⟨#[]⟩ : ByteArray).toList))) = isNull b.lo := rfl
  unfold validB bareB
  cases d1 : (decide (b.nulls < 0)) with
  | true =>
    simp only [d1, if_true, if_false, Bool.false_eq_true, reduceCtorEq]
    refine spec_of_awp (fn := Tryd.f16) Tryd.func16 (by kernel_rfl) rfl ?_
    intro w0 C0
    simp only [Tryd.ntmps16, litI, litB, litS, List.length_cons, List.length_nil, Nat.reduceAdd, Nat.reduceSub, List.replicate_succ, List.replicate_zero, List.cons_append, List.nil_append]
    repeat' first
      | refine awp_seq ?_
      | refine awp_block ?_
      | refine awp_skip ?_
      | (refine reg _ (by (simp only [List.map_cons, List.map_nil]; rfl)) rfl ?_; intro K hK)
      | (apply ev_guardU; (case hj | hu | hσ => (simp only [go_sem, d1, beq_self_eq_true]; try rfl)))
      | ((first | refine awp_cond _ (by rfl) ?_ ?_ | refine ev_guardT _ _ (by (simp only [go_sem, d1, beq_self_eq_true]; rfl)) (by (simp only [go_sem, d1, beq_self_eq_true]; rfl)) ?_ ?_ | refine ev_guardF _ _ (by (simp only [go_sem, d1, beq_self_eq_true]; rfl)) (by (simp only [go_sem, d1, beq_self_eq_true]; rfl)) ?_ ?_) <;> (intro hb; first | (cases hb; done) | (have ht : true = true := hb; clear ht hb) | (have ht : false = false := hb; clear ht hb) | (simp only [hb]) | skip))
      | (refine awp_exit ?_; simp only [thenA, blockA, scopeA, reduceIte, RetQ, Nat.reduceEqDiff])
      | (refine awp_ret ?_; simp only [thenA, blockA, scopeA, RetQ])
      | (refine ev_nil (hK _ ?_); clear hK K)
      | (apply ev_step0; (case hr | hσ => (simp only [go_sem, d1, beq_self_eq_true]; try rfl)); (case hc => exact hcA))
      | (apply ev_step; (case hr => (simp only [go_sem, d1, beq_self_eq_true]; try rfl)); (case hσ => (intro g u; simp only [go_sem, d1, beq_self_eq_true]; try rfl)); (case hc => exact hcA); intro g u; (try clear u); (try clear g))
      | fail
    all_goals (refine resR_oneA ?_; simp only [go_sem])
    first | exact LeA.refl _ | (refine LeA.b ?_; simp)
  | false =>
  cases d2 : (decide (b.nulls > 4000000000000000000)) with
  | true =>
    simp only [d1, d2, if_true, if_false, Bool.false_eq_true, reduceCtorEq]
    refine spec_of_awp (fn := Tryd.f16) Tryd.func16 (by kernel_rfl) rfl ?_
    intro w0 C0
    simp only [Tryd.ntmps16, litI, litB, litS, List.length_cons, List.length_nil, Nat.reduceAdd, Nat.reduceSub, List.replicate_succ, List.replicate_zero, List.cons_append, List.nil_append]
    repeat' first
      | refine awp_seq ?_
      | refine awp_block ?_
      | refine awp_skip ?_
      | (refine reg _ (by (simp only [List.map_cons, List.map_nil]; rfl)) rfl ?_; intro K hK)
      | (apply ev_guardU; (case hj | hu | hσ => (simp only [go_sem, d1, d2, beq_self_eq_true]; try rfl)))
      | ((first | refine awp_cond _ (by rfl) ?_ ?_ | refine ev_guardT _ _ (by (simp only [go_sem, d1, d2, beq_self_eq_true]; rfl)) (by (simp only [go_sem, d1, d2, beq_self_eq_true]; rfl)) ?_ ?_ | refine ev_guardF _ _ (by (simp only [go_sem, d1, d2, beq_self_eq_true]; rfl)) (by (simp only [go_sem, d1, d2, beq_self_eq_true]; rfl)) ?_ ?_) <;> (intro hb; first | (cases hb; done) | (have ht : true = true := hb; clear ht hb) | (have ht : false = false := hb; clear ht hb) | (simp only [hb]) | skip))
      | (refine awp_exit ?_; simp only [thenA, blockA, scopeA, reduceIte, RetQ, Nat.reduceEqDiff])
      | (refine awp_ret ?_; simp only [thenA, blockA, scopeA, RetQ])
      | (refine ev_nil (hK _ ?_); clear hK K)
      | (apply ev_step0; (case hr | hσ => (simp only [go_sem, d1, d2, beq_self_eq_true]; try rfl)); (case hc => exact hcA))
      | (apply ev_step; (case hr => (simp only [go_sem, d1, d2, beq_self_eq_true]; try rfl)); (case hσ => (intro g u; simp only [go_sem, d1, d2, beq_self_eq_true]; try rfl)); (case hc => exact hcA); intro g u; (try clear u); (try clear g))
      | fail
    all_goals (refine resR_oneA ?_; simp only [go_sem])
    first | exact LeA.refl _ | (refine LeA.b ?_; simp)
  | false =>
  cases d3 : (decide (b.sum > 4000000000000000000)) with
  | true =>
    simp only [d1, d2, d3, if_true, if_false, Bool.false_eq_true, reduceCtorEq]
    refine spec_of_awp (fn := Tryd.f16) Tryd.func16 (by kernel_rfl) rfl ?_
    intro w0 C0
    simp only [Tryd.ntmps16, litI, litB, litS, List.length_cons, List.length_nil, Nat.reduceAdd, Nat.reduceSub, List.replicate_succ, List.replicate_zero, List.cons_append, List.nil_append]
    repeat' first
      | refine awp_seq ?_
      | refine awp_block ?_
      | refine awp_skip ?_
      | (refine reg _ (by (simp only [List.map_cons, List.map_nil]; rfl)) rfl ?_; intro K hK)
      | (apply ev_guardU; (case hj | hu | hσ => (simp only [go_sem, d1, d2, d3, beq_self_eq_true]; try rfl)))
      | ((first | refine awp_cond _ (by rfl) ?_ ?_ | refine ev_guardT _ _ (by (simp only [go_sem, d1, d2, d3, beq_self_eq_true]; rfl)) (by (simp only [go_sem, d1, d2, d3, beq_self_eq_true]; rfl)) ?_ ?_ | refine ev_guardF _ _ (by (simp only [go_sem, d1, d2, d3, beq_self_eq_true]; rfl)) (by (simp only [go_sem, d1, d2, d3, beq_self_eq_true]; rfl)) ?_ ?_) <;> (intro hb; first | (cases hb; done) | (have ht : true = true := hb; clear ht hb) | (have ht : false = false := hb; clear ht hb) | (simp only [hb]) | skip))
      | (refine awp_exit ?_; simp only [thenA, blockA, scopeA, reduceIte, RetQ, Nat.reduceEqDiff])
      | (refine awp_ret ?_; simp only [thenA, blockA, scopeA, RetQ])
      | (refine ev_nil (hK _ ?_); clear hK K)
      | (apply ev_step0; (case hr | hσ => (simp only [go_sem, d1, d2, d3, beq_self_eq_true]; try rfl)); (case hc => exact hcA))
      | (apply ev_step; (case hr => (simp only [go_sem, d1, d2, d3, beq_self_eq_true]; try rfl)); (case hσ => (intro g u; simp only [go_sem, d1, d2, d3, beq_self_eq_true]; try rfl)); (case hc => exact hcA); intro g u; (try clear u); (try clear g))
      | fail
    all_goals (refine resR_oneA ?_; simp only [go_sem])
    first | exact LeA.refl _ | (refine LeA.b ?_; simp)
  | false =>
  cases d4 : (decide (b.sum < -4000000000000000000)) with
  | true =>
    simp only [d1, d2, d3, d4, if_true, if_false, Bool.false_eq_true, reduceCtorEq]
    refine spec_of_awp (fn := Tryd.f16) Tryd.func16 (by kernel_rfl) rfl ?_
    intro w0 C0
    simp only [Tryd.ntmps16, litI, litB, litS, List.length_cons, List.length_nil, Nat.reduceAdd, Nat.reduceSub, List.replicate_succ, List.replicate_zero, List.cons_append, List.nil_append]
    repeat' first
      | refine awp_seq ?_
      | refine awp_block ?_
      | refine awp_skip ?_
      | (refine reg _ (by (simp only [List.map_cons, List.map_nil]; rfl)) rfl ?_; intro K hK)
      | (apply ev_guardU; (case hj | hu | hσ => (simp only [go_sem, d1, d2, d3, d4, beq_self_eq_true]; try rfl)))
      | ((first | refine awp_cond _ (by rfl) ?_ ?_ | refine ev_guardT _ _ (by (simp only [go_sem, d1, d2, d3, d4, beq_self_eq_true]; rfl)) (by (simp only [go_sem, d1, d2, d3, d4, beq_self_eq_true]; rfl)) ?_ ?_ | refine ev_guardF _ _ (by (simp only [go_sem, d1, d2, d3, d4, beq_self_eq_true]; rfl)) (by (simp only [go_sem, d1, d2, d3, d4, beq_self_eq_true]; rfl)) ?_ ?_) <;> (intro hb; first | (cases hb; done) | (have ht : true = true := hb; clear ht hb) | (have ht : false = false := hb; clear ht hb) | (simp only [hb]) | skip))
      | (refine awp_exit ?_; simp only [thenA, blockA, scopeA, reduceIte, RetQ, Nat.reduceEqDiff])
      | (refine awp_ret ?_; simp only [thenA, blockA, scopeA, RetQ])
      | (refine ev_nil (hK _ ?_); clear hK K)
      | (apply ev_step0; (case hr | hσ => (simp only [go_sem, d1, d2, d3, d4, beq_self_eq_true]; try rfl)); (case hc => exact hcA))
      | (apply ev_step; (case hr => (simp only [go_sem, d1, d2, d3, d4, beq_self_eq_true]; try rfl)); (case hσ => (intro g u; simp only [go_sem, d1, d2, d3, d4, beq_self_eq_true]; try rfl)); (case hc => exact hcA); intro g u; (try clear u); (try clear g))
      | fail
    all_goals (refine resR_oneA ?_; simp only [go_sem])
    first | exact LeA.refl _ | (refine LeA.b ?_; simp)
  | false =>
  cases hh : (b.has) with
  | false =>
    simp only [d1, d2, d3, d4, hh, if_true, if_false, Bool.false_eq_true, reduceCtorEq]
    refine spec_of_awp (fn := Tryd.f16) Tryd.func16 (by kernel_rfl) rfl ?_
    intro w0 C0
    simp only [Tryd.ntmps16, litI, litB, litS, List.length_cons, List.length_nil, Nat.reduceAdd, Nat.reduceSub, List.replicate_succ, List.replicate_zero, List.cons_append, List.nil_append]
    repeat' first
      | refine awp_seq ?_
      | refine awp_block ?_
      | refine awp_skip ?_
      | (refine reg _ (by (simp only [List.map_cons, List.map_nil]; rfl)) rfl ?_; intro K hK)
      | (apply ev_guardU; (case hj | hu | hσ => (simp only [go_sem, d1, d2, d3, d4, hh, beq_self_eq_true]; try rfl)))
      | ((first | refine awp_cond _ (by rfl) ?_ ?_ | refine ev_guardT _ _ (by (simp only [go_sem, d1, d2, d3, d4, hh, beq_self_eq_true]; rfl)) (by (simp only [go_sem, d1, d2, d3, d4, hh, beq_self_eq_true]; rfl)) ?_ ?_ | refine ev_guardF _ _ (by (simp only [go_sem, d1, d2, d3, d4, hh, beq_self_eq_true]; rfl)) (by (simp only [go_sem, d1, d2, d3, d4, hh, beq_self_eq_true]; rfl)) ?_ ?_) <;> (intro hb; first | (cases hb; done) | (have ht : true = true := hb; clear ht hb) | (have ht : false = false := hb; clear ht hb) | (simp only [hb]) | skip))
      | (refine awp_exit ?_; simp only [thenA, blockA, scopeA, reduceIte, RetQ, Nat.reduceEqDiff])
      | (refine awp_ret ?_; simp only [thenA, blockA, scopeA, RetQ])
      | (refine ev_nil (hK _ ?_); clear hK K)
      | (apply ev_step0; (case hr | hσ => (simp only [go_sem, d1, d2, d3, d4, hh, beq_self_eq_true]; try rfl)); (case hc => exact hcA))
      | (apply ev_step; (case hr => (simp only [go_sem, d1, d2, d3, d4, hh, beq_self_eq_true]; try rfl)); (case hσ => (intro g u; simp only [go_sem, d1, d2, d3, d4, hh, beq_self_eq_true]; try rfl)); (case hc => exact hcA); intro g u; (try clear u); (try clear g))
      | fail
    all_goals (refine resR_oneA ?_; simp only [go_sem])
    refine LeA.b ?_
    first | rfl | (simp only [Bool.and_assoc]; done)
  | true =>
  cases w1 : (wideV b.lo) with
  | false =>
    rw [w1] at a1
    simp only [d1, d2, d3, d4, hh, w1, if_true, if_false, Bool.false_eq_true, reduceCtorEq]
    refine spec_of_awp (fn := Tryd.f16) Tryd.func16 (by kernel_rfl) rfl ?_
    intro w0 C0
    simp only [Tryd.ntmps16, litI, litB, litS, List.length_cons, List.length_nil, Nat.reduceAdd, Nat.reduceSub, List.replicate_succ, List.replicate_zero, List.cons_append, List.nil_append]
    repeat' first
      | refine awp_seq ?_
      | refine awp_block ?_
      | refine awp_skip ?_
      | (refine reg _ (by (simp only [List.map_cons, List.map_nil]; rfl)) rfl ?_; intro K hK)
      | (apply ev_guardU; (case hj | hu | hσ => (simp only [go_sem, d1, d2, d3, d4, hh, beq_self_eq_true]; try rfl)))
      | ((first | refine awp_cond _ (by rfl) ?_ ?_ | refine ev_guardT _ _ (by (simp only [go_sem, d1, d2, d3, d4, hh, beq_self_eq_true]; rfl)) (by (simp only [go_sem, d1, d2, d3, d4, hh, beq_self_eq_true]; rfl)) ?_ ?_ | refine ev_guardF _ _ (by (simp only [go_sem, d1, d2, d3, d4, hh, beq_self_eq_true]; rfl)) (by (simp only [go_sem, d1, d2, d3, d4, hh, beq_self_eq_true]; rfl)) ?_ ?_) <;> (intro hb; first | (cases hb; done) | (have ht : true = true := hb; clear ht hb) | (have ht : false = false := hb; clear ht hb) | (simp only [hb]) | skip))
      | (refine awp_exit ?_; simp only [thenA, blockA, scopeA, reduceIte, RetQ, Nat.reduceEqDiff])
      | (refine awp_ret ?_; simp only [thenA, blockA, scopeA, RetQ])
      | (refine ev_nil (hK _ ?_); clear hK K)
      | (apply ev_call0; (case hys => (simp only [go_sem, d1, d2, d3, d4, hh, beq_self_eq_true]; try rfl)); (case hs => first | exact a1 ..); (case hok | hσ => (simp only [go_sem, d1, d2, d3, d4, hh, beq_self_eq_true]; try rfl)))
      | (apply ev_step0; (case hr | hσ => (simp only [go_sem, d1, d2, d3, d4, hh, beq_self_eq_true]; try rfl)); (case hc => exact hcA))
      | (apply ev_step; (case hr => (simp only [go_sem, d1, d2, d3, d4, hh, beq_self_eq_true]; try rfl)); (case hσ => (intro g u; simp only [go_sem, d1, d2, d3, d4, hh, beq_self_eq_true]; try rfl)); (case hc => exact hcA); intro g u; (try clear u); (try clear g))
      | fail
    all_goals (refine resR_oneA ?_; simp only [go_sem])
    first | exact LeA.refl _ | (refine LeA.b ?_; simp)
  | true =>
  cases w2 : (wideV b.hi) with
  | false =>
    rw [w1] at a1
    rw [w2] at a2
    simp only [d1, d2, d3, d4, hh, w1, w2, if_true, if_false, Bool.false_eq_true, reduceCtorEq]
    refine spec_of_awp (fn := Tryd.f16) Tryd.func16 (by kernel_rfl) rfl ?_
    intro w0 C0
    simp only [Tryd.ntmps16, litI, litB, litS, List.length_cons, List.length_nil, Nat.reduceAdd, Nat.reduceSub, List.replicate_succ, List.replicate_zero, List.cons_append, List.nil_append]
    repeat' first
      | refine awp_seq ?_
      | refine awp_block ?_
      | refine awp_skip ?_
      | (refine reg _ (by (simp only [List.map_cons, List.map_nil]; rfl)) rfl ?_; intro K hK)
      | (apply ev_guardU; (case hj | hu | hσ => (simp only [go_sem, d1, d2, d3, d4, hh, beq_self_eq_true]; try rfl)))
      | ((first | refine awp_cond _ (by rfl) ?_ ?_ | refine ev_guardT _ _ (by (simp only [go_sem, d1, d2, d3, d4, hh, beq_self_eq_true]; rfl)) (by (simp only [go_sem, d1, d2, d3, d4, hh, beq_self_eq_true]; rfl)) ?_ ?_ | refine ev_guardF _ _ (by (simp only [go_sem, d1, d2, d3, d4, hh, beq_self_eq_true]; rfl)) (by (simp only [go_sem, d1, d2, d3, d4, hh, beq_self_eq_true]; rfl)) ?_ ?_) <;> (intro hb; first | (cases hb; done) | (have ht : true = true := hb; clear ht hb) | (have ht : false = false := hb; clear ht hb) | (simp only [hb]) | skip))
      | (refine awp_exit ?_; simp only [thenA, blockA, scopeA, reduceIte, RetQ, Nat.reduceEqDiff])
      | (refine awp_ret ?_; simp only [thenA, blockA, scopeA, RetQ])
      | (refine ev_nil (hK _ ?_); clear hK K)
      | (apply ev_call0; (case hys => (simp only [go_sem, d1, d2, d3, d4, hh, beq_self_eq_true]; try rfl)); (case hs => first | exact a1 .. | exact a2 ..); (case hok | hσ => (simp only [go_sem, d1, d2, d3, d4, hh, beq_self_eq_true]; try rfl)))
      | (apply ev_step0; (case hr | hσ => (simp only [go_sem, d1, d2, d3, d4, hh, beq_self_eq_true]; try rfl)); (case hc => exact hcA))
      | (apply ev_step; (case hr => (simp only [go_sem, d1, d2, d3, d4, hh, beq_self_eq_true]; try rfl)); (case hσ => (intro g u; simp only [go_sem, d1, d2, d3, d4, hh, beq_self_eq_true]; try rfl)); (case hc => exact hcA); intro g u; (try clear u); (try clear g))
      | fail
    all_goals (refine resR_oneA ?_; simp only [go_sem])
    first | exact LeA.refl _ | (refine LeA.b ?_; simp)
  | true =>
  cases nl : (isNull b.lo) with
  | true =>
    rw [w1] at a1
    rw [w2] at a2
    rw [nl] at hq
    simp only [d1, d2, d3, d4, hh, w1, w2, nl, if_true, if_false, Bool.false_eq_true, reduceCtorEq]
    refine spec_of_awp (fn := Tryd.f16) Tryd.func16 (by kernel_rfl) rfl ?_
    intro w0 C0
    simp only [Tryd.ntmps16, litI, litB, litS, List.length_cons, List.length_nil, Nat.reduceAdd, Nat.reduceSub, List.replicate_succ, List.replicate_zero, List.cons_append, List.nil_append]
    repeat' first
      | refine awp_seq ?_
      | refine awp_block ?_
      | refine awp_skip ?_
      | (refine reg _ (by (simp only [List.map_cons, List.map_nil]; rfl)) rfl ?_; intro K hK)
      | (apply ev_guardU; (case hj | hu | hσ => (simp only [go_sem, d1, d2, d3, d4, hh, hq, beq_self_eq_true]; try rfl)))
      | ((first | refine awp_cond _ (by rfl) ?_ ?_ | refine ev_guardT _ _ (by (simp only [go_sem, d1, d2, d3, d4, hh, hq, beq_self_eq_true]; rfl)) (by (simp only [go_sem, d1, d2, d3, d4, hh, hq, beq_self_eq_true]; rfl)) ?_ ?_ | refine ev_guardF _ _ (by (simp only [go_sem, d1, d2, d3, d4, hh, hq, beq_self_eq_true]; rfl)) (by (simp only [go_sem, d1, d2, d3, d4, hh, hq, beq_self_eq_true]; rfl)) ?_ ?_) <;> (intro hb; first | (cases hb; done) | (have ht : true = true := hb; clear ht hb) | (have ht : false = false := hb; clear ht hb) | (simp only [hb]) | skip))
      | (refine awp_exit ?_; simp only [thenA, blockA, scopeA, reduceIte, RetQ, Nat.reduceEqDiff])
      | (refine awp_ret ?_; simp only [thenA, blockA, scopeA, RetQ])
      | (refine ev_nil (hK _ ?_); clear hK K)
      | (apply ev_call0; (case hys => (simp only [go_sem, d1, d2, d3, d4, hh, hq, beq_self_eq_true]; try rfl)); (case hs => first | exact a1 .. | exact a2 ..); (case hok | hσ => (simp only [go_sem, d1, d2, d3, d4, hh, hq, beq_self_eq_true]; try rfl)))
      | (apply ev_step0; (case hr | hσ => (simp only [go_sem, d1, d2, d3, d4, hh, hq, beq_self_eq_true]; try rfl)); (case hc => exact hcA))
      | (apply ev_step; (case hr => (simp only [go_sem, d1, d2, d3, d4, hh, hq, beq_self_eq_true]; try rfl)); (case hσ => (intro g u; simp only [go_sem, d1, d2, d3, d4, hh, hq, beq_self_eq_true]; try rfl)); (case hc => exact hcA); intro g u; (try clear u); (try clear g))
      | fail
    all_goals (refine resR_oneA ?_; simp only [go_sem])
    first | exact LeA.refl _ | (refine LeA.b ?_; simp)
  | false =>
  cases kk : (b.lo.k == b.hi.k) with
  | false =>
    rw [w1] at a1
    rw [w2] at a2
    rw [nl] at hq
    simp only [d1, d2, d3, d4, hh, w1, w2, nl, kk, if_true, if_false, Bool.false_eq_true, reduceCtorEq]
    refine spec_of_awp (fn := Tryd.f16) Tryd.func16 (by kernel_rfl) rfl ?_
    intro w0 C0
    simp only [Tryd.ntmps16, litI, litB, litS, List.length_cons, List.length_nil, Nat.reduceAdd, Nat.reduceSub, List.replicate_succ, List.replicate_zero, List.cons_append, List.nil_append]
    repeat' first
      | refine awp_seq ?_
      | refine awp_block ?_
      | refine awp_skip ?_
      | (refine reg _ (by (simp only [List.map_cons, List.map_nil]; rfl)) rfl ?_; intro K hK)
      | (apply ev_guardU; (case hj | hu | hσ => (simp only [go_sem, d1, d2, d3, d4, hh, kk, hq, beq_self_eq_true]; try rfl)))
      | ((first | refine awp_cond _ (by rfl) ?_ ?_ | refine ev_guardT _ _ (by (simp only [go_sem, d1, d2, d3, d4, hh, kk, hq, beq_self_eq_true]; rfl)) (by (simp only [go_sem, d1, d2, d3, d4, hh, kk, hq, beq_self_eq_true]; rfl)) ?_ ?_ | refine ev_guardF _ _ (by (simp only [go_sem, d1, d2, d3, d4, hh, kk, hq, beq_self_eq_true]; rfl)) (by (simp only [go_sem, d1, d2, d3, d4, hh, kk, hq, beq_self_eq_true]; rfl)) ?_ ?_) <;> (intro hb; first | (cases hb; done) | (have ht : true = true := hb; clear ht hb) | (have ht : false = false := hb; clear ht hb) | (simp only [hb]) | skip))
      | (refine awp_exit ?_; simp only [thenA, blockA, scopeA, reduceIte, RetQ, Nat.reduceEqDiff])
      | (refine awp_ret ?_; simp only [thenA, blockA, scopeA, RetQ])
      | (refine ev_nil (hK _ ?_); clear hK K)
      | (apply ev_call0; (case hys => (simp only [go_sem, d1, d2, d3, d4, hh, kk, hq, beq_self_eq_true]; try rfl)); (case hs => first | exact a1 .. | exact a2 ..); (case hok | hσ => (simp only [go_sem, d1, d2, d3, d4, hh, kk, hq, beq_self_eq_true]; try rfl)))
      | (apply ev_step0; (case hr | hσ => (simp only [go_sem, d1, d2, d3, d4, hh, kk, hq, beq_self_eq_true]; try rfl)); (case hc => exact hcA))
      | (apply ev_step; (case hr => (simp only [go_sem, d1, d2, d3, d4, hh, kk, hq, beq_self_eq_true]; try rfl)); (case hσ => (intro g u; simp only [go_sem, d1, d2, d3, d4, hh, kk, hq, beq_self_eq_true]; try rfl)); (case hc => exact hcA); intro g u; (try clear u); (try clear g))
      | fail
    all_goals (refine resR_oneA ?_; simp only [go_sem])
    first | exact LeA.refl _ | (refine LeA.b ?_; simp)
  | true =>
  cases cc : (decide (cmpV b.lo b.hi ≤ 0)) with
  | false =>
    rw [w1] at a1
    rw [w2] at a2
    rw [nl] at hq
    simp only [d1, d2, d3, d4, hh, w1, w2, nl, kk, cc, if_true, if_false, Bool.false_eq_true, reduceCtorEq]
    refine spec_of_awp (fn := Tryd.f16) Tryd.func16 (by kernel_rfl) rfl ?_
    intro w0 C0
    simp only [Tryd.ntmps16, litI, litB, litS, List.length_cons, List.length_nil, Nat.reduceAdd, Nat.reduceSub, List.replicate_succ, List.replicate_zero, List.cons_append, List.nil_append]
    repeat' first
      | refine awp_seq ?_
      | refine awp_block ?_
      | refine awp_skip ?_
      | (refine reg _ (by (simp only [List.map_cons, List.map_nil]; rfl)) rfl ?_; intro K hK)
      | (apply ev_guardU; (case hj | hu | hσ => (simp only [go_sem, d1, d2, d3, d4, hh, kk, cc, hq, beq_self_eq_true]; try rfl)))
      | ((first | refine awp_cond _ (by rfl) ?_ ?_ | refine ev_guardT _ _ (by (simp only [go_sem, d1, d2, d3, d4, hh, kk, cc, hq, beq_self_eq_true]; rfl)) (by (simp only [go_sem, d1, d2, d3, d4, hh, kk, cc, hq, beq_self_eq_true]; rfl)) ?_ ?_ | refine ev_guardF _ _ (by (simp only [go_sem, d1, d2, d3, d4, hh, kk, cc, hq, beq_self_eq_true]; rfl)) (by (simp only [go_sem, d1, d2, d3, d4, hh, kk, cc, hq, beq_self_eq_true]; rfl)) ?_ ?_) <;> (intro hb; first | (cases hb; done) | (have ht : true = true := hb; clear ht hb) | (have ht : false = false := hb; clear ht hb) | (simp only [hb]) | skip))
      | (refine awp_exit ?_; simp only [thenA, blockA, scopeA, reduceIte, RetQ, Nat.reduceEqDiff])
      | (refine awp_ret ?_; simp only [thenA, blockA, scopeA, RetQ])
      | (refine ev_nil (hK _ ?_); clear hK K)
      | (apply ev_call0; (case hys => (simp only [go_sem, d1, d2, d3, d4, hh, kk, cc, hq, beq_self_eq_true]; try rfl)); (case hs => first | exact a1 .. | exact a2 .. | exact a3 ..); (case hok | hσ => (simp only [go_sem, d1, d2, d3, d4, hh, kk, cc, hq, beq_self_eq_true]; try rfl)))
      | (apply ev_step0; (case hr | hσ => (simp only [go_sem, d1, d2, d3, d4, hh, kk, cc, hq, beq_self_eq_true]; try rfl)); (case hc => exact hcA))
      | (apply ev_step; (case hr => (simp only [go_sem, d1, d2, d3, d4, hh, kk, cc, hq, beq_self_eq_true]; try rfl)); (case hσ => (intro g u; simp only [go_sem, d1, d2, d3, d4, hh, kk, cc, hq, beq_self_eq_true]; try rfl)); (case hc => exact hcA); intro g u; (try clear u); (try clear g))
      | fail
    all_goals (refine resR_oneA ?_; simp only [go_sem])
    first | exact LeA.refl _ | (refine LeA.b ?_; simp)
  | true =>
  cases k2 : (b.lo.k == 2) with
  | true =>
    cases s0 : (b.sum == 0) with
    | true =>
      rw [w1] at a1
      rw [w2] at a2
      rw [nl] at hq
      simp only [d1, d2, d3, d4, hh, w1, w2, nl, kk, cc, k2, s0, if_true, if_false, Bool.false_eq_true, reduceCtorEq]
      refine spec_of_awp (fn := Tryd.f16) Tryd.func16 (by kernel_rfl) rfl ?_
      intro w0 C0
      simp only [Tryd.ntmps16, litI, litB, litS, List.length_cons, List.length_nil, Nat.reduceAdd, Nat.reduceSub, List.replicate_succ, List.replicate_zero, List.cons_append, List.nil_append]
      repeat' first
        | refine awp_seq ?_
        | refine awp_block ?_
        | refine awp_skip ?_
        | (refine reg _ (by (simp only [List.map_cons, List.map_nil]; rfl)) rfl ?_; intro K hK)
        | (apply ev_guardU; (case hj | hu | hσ => (simp only [go_sem, d1, d2, d3, d4, hh, kk, cc, k2, s0, hq, beq_self_eq_true]; try rfl)))
        | ((first | refine awp_cond _ (by rfl) ?_ ?_ | refine ev_guardT _ _ (by (simp only [go_sem, d1, d2, d3, d4, hh, kk, cc, k2, s0, hq, beq_self_eq_true]; rfl)) (by (simp only [go_sem, d1, d2, d3, d4, hh, kk, cc, k2, s0, hq, beq_self_eq_true]; rfl)) ?_ ?_ | refine ev_guardF _ _ (by (simp only [go_sem, d1, d2, d3, d4, hh, kk, cc, k2, s0, hq, beq_self_eq_true]; rfl)) (by (simp only [go_sem, d1, d2, d3, d4, hh, kk, cc, k2, s0, hq, beq_self_eq_true]; rfl)) ?_ ?_) <;> (intro hb; first | (cases hb; done) | (have ht : true = true := hb; clear ht hb) | (have ht : false = false := hb; clear ht hb) | (simp only [hb]) | skip))
        | (refine awp_exit ?_; simp only [thenA, blockA, scopeA, reduceIte, RetQ, Nat.reduceEqDiff])
        | (refine awp_ret ?_; simp only [thenA, blockA, scopeA, RetQ])
        | (refine ev_nil (hK _ ?_); clear hK K)
        | (apply ev_call0; (case hys => (simp only [go_sem, d1, d2, d3, d4, hh, kk, cc, k2, s0, hq, beq_self_eq_true]; try rfl)); (case hs => first | exact a1 .. | exact a2 .. | exact a3 ..); (case hok | hσ => (simp only [go_sem, d1, d2, d3, d4, hh, kk, cc, k2, s0, hq, beq_self_eq_true]; try rfl)))
        | (apply ev_step0; (case hr | hσ => (simp only [go_sem, d1, d2, d3, d4, hh, kk, cc, k2, s0, hq, beq_self_eq_true]; try rfl)); (case hc => exact hcA))
        | (apply ev_step; (case hr => (simp only [go_sem, d1, d2, d3, d4, hh, kk, cc, k2, s0, hq, beq_self_eq_true]; try rfl)); (case hσ => (intro g u; simp only [go_sem, d1, d2, d3, d4, hh, kk, cc, k2, s0, hq, beq_self_eq_true]; try rfl)); (case hc => exact hcA); intro g u; (try clear u); (try clear g))
        | fail
      all_goals (refine resR_oneA ?_; simp only [go_sem])
      first | exact LeA.refl _ | (refine LeA.b ?_; simp)
    | false =>
      rw [w1] at a1
      rw [w2] at a2
      rw [nl] at hq
      simp only [d1, d2, d3, d4, hh, w1, w2, nl, kk, cc, k2, s0, if_true, if_false, Bool.false_eq_true, reduceCtorEq]
      refine spec_of_awp (fn := Tryd.f16) Tryd.func16 (by kernel_rfl) rfl ?_
      intro w0 C0
      simp only [Tryd.ntmps16, litI, litB, litS, List.length_cons, List.length_nil, Nat.reduceAdd, Nat.reduceSub, List.replicate_succ, List.replicate_zero, List.cons_append, List.nil_append]
      repeat' first
        | refine awp_seq ?_
        | refine awp_block ?_
        | refine awp_skip ?_
        | (refine reg _ (by (simp only [List.map_cons, List.map_nil]; rfl)) rfl ?_; intro K hK)
        | (apply ev_guardU; (case hj | hu | hσ => (simp only [go_sem, d1, d2, d3, d4, hh, kk, cc, k2, s0, hq, beq_self_eq_true]; try rfl)))
        | ((first | refine awp_cond _ (by rfl) ?_ ?_ | refine ev_guardT _ _ (by (simp only [go_sem, d1, d2, d3, d4, hh, kk, cc, k2, s0, hq, beq_self_eq_true]; rfl)) (by (simp only [go_sem, d1, d2, d3, d4, hh, kk, cc, k2, s0, hq, beq_self_eq_true]; rfl)) ?_ ?_ | refine ev_guardF _ _ (by (simp only [go_sem, d1, d2, d3, d4, hh, kk, cc, k2, s0, hq, beq_self_eq_true]; rfl)) (by (simp only [go_sem, d1, d2, d3, d4, hh, kk, cc, k2, s0, hq, beq_self_eq_true]; rfl)) ?_ ?_) <;> (intro hb; first | (cases hb; done) | (have ht : true = true := hb; clear ht hb) | (have ht : false = false := hb; clear ht hb) | (simp only [hb]) | skip))
        | (refine awp_exit ?_; simp only [thenA, blockA, scopeA, reduceIte, RetQ, Nat.reduceEqDiff])
        | (refine awp_ret ?_; simp only [thenA, blockA, scopeA, RetQ])
        | (refine ev_nil (hK _ ?_); clear hK K)
        | (apply ev_call0; (case hys => (simp only [go_sem, d1, d2, d3, d4, hh, kk, cc, k2, s0, hq, beq_self_eq_true]; try rfl)); (case hs => first | exact a1 .. | exact a2 .. | exact a3 ..); (case hok | hσ => (simp only [go_sem, d1, d2, d3, d4, hh, kk, cc, k2, s0, hq, beq_self_eq_true]; try rfl)))
        | (apply ev_step0; (case hr | hσ => (simp only [go_sem, d1, d2, d3, d4, hh, kk, cc, k2, s0, hq, beq_self_eq_true]; try rfl)); (case hc => exact hcA))
        | (apply ev_step; (case hr => (simp only [go_sem, d1, d2, d3, d4, hh, kk, cc, k2, s0, hq, beq_self_eq_true]; try rfl)); (case hσ => (intro g u; simp only [go_sem, d1, d2, d3, d4, hh, kk, cc, k2, s0, hq, beq_self_eq_true]; try rfl)); (case hc => exact hcA); intro g u; (try clear u); (try clear g))
        | fail
      all_goals (refine resR_oneA ?_; simp only [go_sem])
      first | exact LeA.refl _ | (refine LeA.b ?_; simp)
  | false =>
    cases s0 : (b.sum == 0) with
    | true =>
      rw [w1] at a1
      rw [w2] at a2
      rw [nl] at hq
      simp only [d1, d2, d3, d4, hh, w1, w2, nl, kk, cc, k2, s0, if_true, if_false, Bool.false_eq_true, reduceCtorEq]
      refine spec_of_awp (fn := Tryd.f16) Tryd.func16 (by kernel_rfl) rfl ?_
      intro w0 C0
      simp only [Tryd.ntmps16, litI, litB, litS, List.length_cons, List.length_nil, Nat.reduceAdd, Nat.reduceSub, List.replicate_succ, List.replicate_zero, List.cons_append, List.nil_append]
      repeat' first
        | refine awp_seq ?_
        | refine awp_block ?_
        | refine awp_skip ?_
        | (refine reg _ (by (simp only [List.map_cons, List.map_nil]; rfl)) rfl ?_; intro K hK)
        | (apply ev_guardU; (case hj | hu | hσ => (simp only [go_sem, d1, d2, d3, d4, hh, kk, cc, k2, s0, hq, beq_self_eq_true]; try rfl)))
        | ((first | refine awp_cond _ (by rfl) ?_ ?_ | refine ev_guardT _ _ (by (simp only [go_sem, d1, d2, d3, d4, hh, kk, cc, k2, s0, hq, beq_self_eq_true]; rfl)) (by (simp only [go_sem, d1, d2, d3, d4, hh, kk, cc, k2, s0, hq, beq_self_eq_true]; rfl)) ?_ ?_ | refine ev_guardF _ _ (by (simp only [go_sem, d1, d2, d3, d4, hh, kk, cc, k2, s0, hq, beq_self_eq_true]; rfl)) (by (simp only [go_sem, d1, d2, d3, d4, hh, kk, cc, k2, s0, hq, beq_self_eq_true]; rfl)) ?_ ?_) <;> (intro hb; first | (cases hb; done) | (have ht : true = true := hb; clear ht hb) | (have ht : false = false := hb; clear ht hb) | (simp only [hb]) | skip))
        | (refine awp_exit ?_; simp only [thenA, blockA, scopeA, reduceIte, RetQ, Nat.reduceEqDiff])
        | (refine awp_ret ?_; simp only [thenA, blockA, scopeA, RetQ])
        | (refine ev_nil (hK _ ?_); clear hK K)
        | (apply ev_call0; (case hys => (simp only [go_sem, d1, d2, d3, d4, hh, kk, cc, k2, s0, hq, beq_self_eq_true]; try rfl)); (case hs => first | exact a1 .. | exact a2 .. | exact a3 ..); (case hok | hσ => (simp only [go_sem, d1, d2, d3, d4, hh, kk, cc, k2, s0, hq, beq_self_eq_true]; try rfl)))
        | (apply ev_step0; (case hr | hσ => (simp only [go_sem, d1, d2, d3, d4, hh, kk, cc, k2, s0, hq, beq_self_eq_true]; try rfl)); (case hc => exact hcA))
        | (apply ev_step; (case hr => (simp only [go_sem, d1, d2, d3, d4, hh, kk, cc, k2, s0, hq, beq_self_eq_true]; try rfl)); (case hσ => (intro g u; simp only [go_sem, d1, d2, d3, d4, hh, kk, cc, k2, s0, hq, beq_self_eq_true]; try rfl)); (case hc => exact hcA); intro g u; (try clear u); (try clear g))
        | fail
      all_goals (refine resR_oneA ?_; simp only [go_sem])
      first | exact LeA.refl _ | (refine LeA.b ?_; simp)
    | false =>
      rw [w1] at a1
      rw [w2] at a2
      rw [nl] at hq
      simp only [d1, d2, d3, d4, hh, w1, w2, nl, kk, cc, k2, s0, if_true, if_false, Bool.false_eq_true, reduceCtorEq]
      refine spec_of_awp (fn := Tryd.f16) Tryd.func16 (by kernel_rfl) rfl ?_
      intro w0 C0
      simp only [Tryd.ntmps16, litI, litB, litS, List.length_cons, List.length_nil, Nat.reduceAdd, Nat.reduceSub, List.replicate_succ, List.replicate_zero, List.cons_append, List.nil_append]
      repeat' first
        | refine awp_seq ?_
        | refine awp_block ?_
        | refine awp_skip ?_
        | (refine reg _ (by (simp only [List.map_cons, List.map_nil]; rfl)) rfl ?_; intro K hK)
        | (apply ev_guardU; (case hj | hu | hσ => (simp only [go_sem, d1, d2, d3, d4, hh, kk, cc, k2, s0, hq, beq_self_eq_true]; try rfl)))
        | ((first | refine awp_cond _ (by rfl) ?_ ?_ | refine ev_guardT _ _ (by (simp only [go_sem, d1, d2, d3, d4, hh, kk, cc, k2, s0, hq, beq_self_eq_true]; rfl)) (by (simp only [go_sem, d1, d2, d3, d4, hh, kk, cc, k2, s0, hq, beq_self_eq_true]; rfl)) ?_ ?_ | refine ev_guardF _ _ (by (simp only [go_sem, d1, d2, d3, d4, hh, kk, cc, k2, s0, hq, beq_self_eq_true]; rfl)) (by (simp only [go_sem, d1, d2, d3, d4, hh, kk, cc, k2, s0, hq, beq_self_eq_true]; rfl)) ?_ ?_) <;> (intro hb; first | (cases hb; done) | (have ht : true = true := hb; clear ht hb) | (have ht : false = false := hb; clear ht hb) | (simp only [hb]) | skip))
        | (refine awp_exit ?_; simp only [thenA, blockA, scopeA, reduceIte, RetQ, Nat.reduceEqDiff])
        | (refine awp_ret ?_; simp only [thenA, blockA, scopeA, RetQ])
        | (refine ev_nil (hK _ ?_); clear hK K)
        | (apply ev_call0; (case hys => (simp only [go_sem, d1, d2, d3, d4, hh, kk, cc, k2, s0, hq, beq_self_eq_true]; try rfl)); (case hs => first | exact a1 .. | exact a2 .. | exact a3 ..); (case hok | hσ => (simp only [go_sem, d1, d2, d3, d4, hh, kk, cc, k2, s0, hq, beq_self_eq_true]; try rfl)))
        | (apply ev_step0; (case hr | hσ => (simp only [go_sem, d1, d2, d3, d4, hh, kk, cc, k2, s0, hq, beq_self_eq_true]; try rfl)); (case hc => exact hcA))
        | (apply ev_step; (case hr => (simp only [go_sem, d1, d2, d3, d4, hh, kk, cc, k2, s0, hq, beq_self_eq_true]; try rfl)); (case hσ => (intro g u; simp only [go_sem, d1, d2, d3, d4, hh, kk, cc, k2, s0, hq, beq_self_eq_true]; try rfl)); (case hc => exact hcA); intro g u; (try clear u); (try clear g))
        | fail
      all_goals (refine resR_oneA ?_; simp only [go_sem])
      first | exact LeA.refl _ | (refine LeA.b ?_; simp)
end
section
set_option linter.unusedVariables false
set_option linter.unusedSimpArgs false
open Go.RowKit
attribute [local irreducible] Spec SpecF SpecN
attribute [local irreducible] AWp evOps evD
def containsB (b : Bd) (v : Vl) : Bool :=
  if validB b = false then false else if wideV v = false then false else if isNull v = true then decide (b.nulls > 0)
  else if b.has = false then false else if (v.k == b.lo.k) = false then false else if decide (cmpV b.lo v ≤ 0) = false then false else decide (cmpV v b.hi ≤ 0)
structure BdOk (b : Bd) : Prop where
  lo : VlOk b.lo
  hi : VlOk b.hi
  sum : -9223372036854775808 ≤ b.sum ∧ b.sum ≤ 9223372036854775807
set_option maxHeartbeats 8000000 in
theorem f18_spec (b : Bd) (v : Vl) (hb : BdOk b) (hv : v.s.size ≤ 4611686018427387904) : Spec Tryd.prog 18 [.agg (bd b), .agg (vl v)] (litB (containsB b v)) := by
  have a1 := f16_spec b hb.lo.s hb.hi.s
  have a2 := f40_spec v hv
  have a3 := f41_spec b.lo v
  have a4 := f41_spec v b.hi
  have hq : ((v.k == 0) && ((v.i == 0) && (v.s.toList == (⟨#[]⟩ : ByteArray).toList))) = isNull v := rfl
  obtain ⟨bn, bh, bl, bi, bm⟩ := b
  unfold containsB
  simp only at a1 a2 a3 a4 hq ⊢
  cases bh with
  | false =>
    cases vb : (validB ⟨bn, false, bl, bi, bm⟩) with
    | false =>
      rw [vb] at a1
      simp only [vb, if_true, if_false, Bool.false_eq_true, reduceCtorEq]
      refine spec_of_awp (fn := Tryd.f18) Tryd.func18 (by kernel_rfl) rfl ?_
      intro w0 C0
      simp only [Tryd.ntmps18, litI, litB, litS, List.length_cons, List.length_nil, Nat.reduceAdd, Nat.reduceSub, List.replicate_succ, List.replicate_zero, List.cons_append, List.nil_append]
      repeat' first
        | refine awp_seq ?_
        | refine awp_block ?_
        | refine awp_skip ?_
        | (refine reg _ (by (simp only [List.map_cons, List.map_nil]; rfl)) rfl ?_; intro K hK)
        | (apply ev_guardU; (case hj | hu | hσ => (simp only [go_sem]; try rfl)))
        | ((first | refine awp_cond _ (by rfl) ?_ ?_ | refine ev_guardT _ _ (by (simp only [go_sem]; rfl)) (by (simp only [go_sem]; rfl)) ?_ ?_ | refine ev_guardF _ _ (by (simp only [go_sem]; rfl)) (by (simp only [go_sem]; rfl)) ?_ ?_) <;> (intro hb; first | (cases hb; done) | (have ht : true = true := hb; clear ht hb) | (have ht : false = false := hb; clear ht hb) | (simp only [hb]) | skip))
        | (refine awp_exit ?_; simp only [thenA, blockA, scopeA, reduceIte, RetQ, Nat.reduceEqDiff])
        | (refine awp_ret ?_; simp only [thenA, blockA, scopeA, RetQ])
        | (refine ev_nil (hK _ ?_); clear hK K)
        | (apply ev_call0; (case hys => (simp only [go_sem]; try rfl)); (case hs => first | exact a1 ..); (case hok | hσ => (simp only [go_sem]; try rfl)))
        | (apply ev_step0; (case hr | hσ => (simp only [go_sem]; try rfl)); (case hc => exact hcA))
        | (apply ev_step; (case hr => (simp only [go_sem]; try rfl)); (case hσ => (intro g u; simp only [go_sem]; try rfl)); (case hc => exact hcA); intro g u; (try clear u); (try clear g))
        | fail
      all_goals (refine resR_oneA ?_; simp only [go_sem])
      exact LeA.refl _
    | true =>
    cases wv : (wideV v) with
    | false =>
      rw [vb] at a1
      rw [wv] at a2
      simp only [vb, wv, if_true, if_false, Bool.false_eq_true, reduceCtorEq]
      refine spec_of_awp (fn := Tryd.f18) Tryd.func18 (by kernel_rfl) rfl ?_
      intro w0 C0
      simp only [Tryd.ntmps18, litI, litB, litS, List.length_cons, List.length_nil, Nat.reduceAdd, Nat.reduceSub, List.replicate_succ, List.replicate_zero, List.cons_append, List.nil_append]
      repeat' first
        | refine awp_seq ?_
        | refine awp_block ?_
        | refine awp_skip ?_
        | (refine reg _ (by (simp only [List.map_cons, List.map_nil]; rfl)) rfl ?_; intro K hK)
        | (apply ev_guardU; (case hj | hu | hσ => (simp only [go_sem]; try rfl)))
        | ((first | refine awp_cond _ (by rfl) ?_ ?_ | refine ev_guardT _ _ (by (simp only [go_sem]; rfl)) (by (simp only [go_sem]; rfl)) ?_ ?_ | refine ev_guardF _ _ (by (simp only [go_sem]; rfl)) (by (simp only [go_sem]; rfl)) ?_ ?_) <;> (intro hb; first | (cases hb; done) | (have ht : true = true := hb; clear ht hb) | (have ht : false = false := hb; clear ht hb) | (simp only [hb]) | skip))
        | (refine awp_exit ?_; simp only [thenA, blockA, scopeA, reduceIte, RetQ, Nat.reduceEqDiff])
        | (refine awp_ret ?_; simp only [thenA, blockA, scopeA, RetQ])
        | (refine ev_nil (hK _ ?_); clear hK K)
        | (apply ev_call0; (case hys => (simp only [go_sem]; try rfl)); (case hs => first | exact a1 .. | exact a2 ..); (case hok | hσ => (simp only [go_sem]; try rfl)))
        | (apply ev_step0; (case hr | hσ => (simp only [go_sem]; try rfl)); (case hc => exact hcA))
        | (apply ev_step; (case hr => (simp only [go_sem]; try rfl)); (case hσ => (intro g u; simp only [go_sem]; try rfl)); (case hc => exact hcA); intro g u; (try clear u); (try clear g))
        | fail
      all_goals (refine resR_oneA ?_; simp only [go_sem])
      exact LeA.refl _
    | true =>
    cases nl : (isNull v) with
    | true =>
      rw [vb] at a1
      rw [wv] at a2
      rw [nl] at hq
      simp only [vb, wv, nl, if_true, if_false, Bool.false_eq_true, reduceCtorEq]
      refine spec_of_awp (fn := Tryd.f18) Tryd.func18 (by kernel_rfl) rfl ?_
      intro w0 C0
      simp only [Tryd.ntmps18, litI, litB, litS, List.length_cons, List.length_nil, Nat.reduceAdd, Nat.reduceSub, List.replicate_succ, List.replicate_zero, List.cons_append, List.nil_append]
      repeat' first
        | refine awp_seq ?_
        | refine awp_block ?_
        | refine awp_skip ?_
        | (refine reg _ (by (simp only [List.map_cons, List.map_nil]; rfl)) rfl ?_; intro K hK)
        | (apply ev_guardU; (case hj | hu | hσ => (simp only [go_sem, hq]; try rfl)))
        | ((first | refine awp_cond _ (by rfl) ?_ ?_ | refine ev_guardT _ _ (by (simp only [go_sem, hq]; rfl)) (by (simp only [go_sem, hq]; rfl)) ?_ ?_ | refine ev_guardF _ _ (by (simp only [go_sem, hq]; rfl)) (by (simp only [go_sem, hq]; rfl)) ?_ ?_) <;> (intro hb; first | (cases hb; done) | (have ht : true = true := hb; clear ht hb) | (have ht : false = false := hb; clear ht hb) | (simp only [hb]) | skip))
        | (refine awp_exit ?_; simp only [thenA, blockA, scopeA, reduceIte, RetQ, Nat.reduceEqDiff])
        | (refine awp_ret ?_; simp only [thenA, blockA, scopeA, RetQ])
        | (refine ev_nil (hK _ ?_); clear hK K)
        | (apply ev_call0; (case hys => (simp only [go_sem, hq]; try rfl)); (case hs => first | exact a1 .. | exact a2 ..); (case hok | hσ => (simp only [go_sem, hq]; try rfl)))
        | (apply ev_step0; (case hr | hσ => (simp only [go_sem, hq]; try rfl)); (case hc => exact hcA))
        | (apply ev_step; (case hr => (simp only [go_sem, hq]; try rfl)); (case hσ => (intro g u; simp only [go_sem, hq]; try rfl)); (case hc => exact hcA); intro g u; (try clear u); (try clear g))
        | fail
      all_goals (refine resR_oneA ?_; simp only [go_sem])
      exact LeA.refl _
    | false =>
    rw [vb] at a1
    rw [wv] at a2
    rw [nl] at hq
    simp only [vb, wv, nl, if_true, if_false, Bool.false_eq_true, reduceCtorEq]
    refine spec_of_awp (fn := Tryd.f18) Tryd.func18 (by kernel_rfl) rfl ?_
    intro w0 C0
    simp only [Tryd.ntmps18, litI, litB, litS, List.length_cons, List.length_nil, Nat.reduceAdd, Nat.reduceSub, List.replicate_succ, List.replicate_zero, List.cons_append, List.nil_append]
    repeat' first
      | refine awp_seq ?_
      | refine awp_block ?_
      | refine awp_skip ?_
      | (refine reg _ (by (simp only [List.map_cons, List.map_nil]; rfl)) rfl ?_; intro K hK)
      | (apply ev_guardU; (case hj | hu | hσ => (simp only [go_sem, hq]; try rfl)))
      | ((first | refine awp_cond _ (by rfl) ?_ ?_ | refine ev_guardT _ _ (by (simp only [go_sem, hq]; rfl)) (by (simp only [go_sem, hq]; rfl)) ?_ ?_ | refine ev_guardF _ _ (by (simp only [go_sem, hq]; rfl)) (by (simp only [go_sem, hq]; rfl)) ?_ ?_) <;> (intro hb; first | (cases hb; done) | (have ht : true = true := hb; clear ht hb) | (have ht : false = false := hb; clear ht hb) | (simp only [hb]) | skip))
      | (refine awp_exit ?_; simp only [thenA, blockA, scopeA, reduceIte, RetQ, Nat.reduceEqDiff])
      | (refine awp_ret ?_; simp only [thenA, blockA, scopeA, RetQ])
      | (refine ev_nil (hK _ ?_); clear hK K)
      | (apply ev_call0; (case hys => (simp only [go_sem, hq]; try rfl)); (case hs => first | exact a1 .. | exact a2 ..); (case hok | hσ => (simp only [go_sem, hq]; try rfl)))
      | (apply ev_step0; (case hr | hσ => (simp only [go_sem, hq]; try rfl)); (case hc => exact hcA))
      | (apply ev_step; (case hr => (simp only [go_sem, hq]; try rfl)); (case hσ => (intro g u; simp only [go_sem, hq]; try rfl)); (case hc => exact hcA); intro g u; (try clear u); (try clear g))
      | fail
    all_goals (refine resR_oneA ?_; simp only [go_sem])
    exact LeA.refl _
  | true =>
    cases vb : (validB ⟨bn, true, bl, bi, bm⟩) with
    | false =>
      rw [vb] at a1
      simp only [vb, if_true, if_false, Bool.false_eq_true, reduceCtorEq]
      refine spec_of_awp (fn := Tryd.f18) Tryd.func18 (by kernel_rfl) rfl ?_
      intro w0 C0
      simp only [Tryd.ntmps18, litI, litB, litS, List.length_cons, List.length_nil, Nat.reduceAdd, Nat.reduceSub, List.replicate_succ, List.replicate_zero, List.cons_append, List.nil_append]
      repeat' first
        | refine awp_seq ?_
        | refine awp_block ?_
        | refine awp_skip ?_
        | (refine reg _ (by (simp only [List.map_cons, List.map_nil]; rfl)) rfl ?_; intro K hK)
        | (apply ev_guardU; (case hj | hu | hσ => (simp only [go_sem]; try rfl)))
        | ((first | refine awp_cond _ (by rfl) ?_ ?_ | refine ev_guardT _ _ (by (simp only [go_sem]; rfl)) (by (simp only [go_sem]; rfl)) ?_ ?_ | refine ev_guardF _ _ (by (simp only [go_sem]; rfl)) (by (simp only [go_sem]; rfl)) ?_ ?_) <;> (intro hb; first | (cases hb; done) | (have ht : true = true := hb; clear ht hb) | (have ht : false = false := hb; clear ht hb) | (simp only [hb]) | skip))
        | (refine awp_exit ?_; simp only [thenA, blockA, scopeA, reduceIte, RetQ, Nat.reduceEqDiff])
        | (refine awp_ret ?_; simp only [thenA, blockA, scopeA, RetQ])
        | (refine ev_nil (hK _ ?_); clear hK K)
        | (apply ev_call0; (case hys => (simp only [go_sem]; try rfl)); (case hs => first | exact a1 ..); (case hok | hσ => (simp only [go_sem]; try rfl)))
        | (apply ev_step0; (case hr | hσ => (simp only [go_sem]; try rfl)); (case hc => exact hcA))
        | (apply ev_step; (case hr => (simp only [go_sem]; try rfl)); (case hσ => (intro g u; simp only [go_sem]; try rfl)); (case hc => exact hcA); intro g u; (try clear u); (try clear g))
        | fail
      all_goals (refine resR_oneA ?_; simp only [go_sem])
      exact LeA.refl _
    | true =>
    cases wv : (wideV v) with
    | false =>
      rw [vb] at a1
      rw [wv] at a2
      simp only [vb, wv, if_true, if_false, Bool.false_eq_true, reduceCtorEq]
      refine spec_of_awp (fn := Tryd.f18) Tryd.func18 (by kernel_rfl) rfl ?_
      intro w0 C0
      simp only [Tryd.ntmps18, litI, litB, litS, List.length_cons, List.length_nil, Nat.reduceAdd, Nat.reduceSub, List.replicate_succ, List.replicate_zero, List.cons_append, List.nil_append]
      repeat' first
        | refine awp_seq ?_
        | refine awp_block ?_
        | refine awp_skip ?_
        | (refine reg _ (by (simp only [List.map_cons, List.map_nil]; rfl)) rfl ?_; intro K hK)
        | (apply ev_guardU; (case hj | hu | hσ => (simp only [go_sem]; try rfl)))
        | ((first | refine awp_cond _ (by rfl) ?_ ?_ | refine ev_guardT _ _ (by (simp only [go_sem]; rfl)) (by (simp only [go_sem]; rfl)) ?_ ?_ | refine ev_guardF _ _ (by (simp only [go_sem]; rfl)) (by (simp only [go_sem]; rfl)) ?_ ?_) <;> (intro hb; first | (cases hb; done) | (have ht : true = true := hb; clear ht hb) | (have ht : false = false := hb; clear ht hb) | (simp only [hb]) | skip))
        | (refine awp_exit ?_; simp only [thenA, blockA, scopeA, reduceIte, RetQ, Nat.reduceEqDiff])
        | (refine awp_ret ?_; simp only [thenA, blockA, scopeA, RetQ])
        | (refine ev_nil (hK _ ?_); clear hK K)
        | (apply ev_call0; (case hys => (simp only [go_sem]; try rfl)); (case hs => first | exact a1 .. | exact a2 ..); (case hok | hσ => (simp only [go_sem]; try rfl)))
        | (apply ev_step0; (case hr | hσ => (simp only [go_sem]; try rfl)); (case hc => exact hcA))
        | (apply ev_step; (case hr => (simp only [go_sem]; try rfl)); (case hσ => (intro g u; simp only [go_sem]; try rfl)); (case hc => exact hcA); intro g u; (try clear u); (try clear g))
        | fail
      all_goals (refine resR_oneA ?_; simp only [go_sem])
      exact LeA.refl _
    | true =>
    cases nl : (isNull v) with
    | true =>
      rw [vb] at a1
      rw [wv] at a2
      rw [nl] at hq
      simp only [vb, wv, nl, if_true, if_false, Bool.false_eq_true, reduceCtorEq]
      refine spec_of_awp (fn := Tryd.f18) Tryd.func18 (by kernel_rfl) rfl ?_
      intro w0 C0
      simp only [Tryd.ntmps18, litI, litB, litS, List.length_cons, List.length_nil, Nat.reduceAdd, Nat.reduceSub, List.replicate_succ, List.replicate_zero, List.cons_append, List.nil_append]
      repeat' first
        | refine awp_seq ?_
        | refine awp_block ?_
        | refine awp_skip ?_
        | (refine reg _ (by (simp only [List.map_cons, List.map_nil]; rfl)) rfl ?_; intro K hK)
        | (apply ev_guardU; (case hj | hu | hσ => (simp only [go_sem, hq]; try rfl)))
        | ((first | refine awp_cond _ (by rfl) ?_ ?_ | refine ev_guardT _ _ (by (simp only [go_sem, hq]; rfl)) (by (simp only [go_sem, hq]; rfl)) ?_ ?_ | refine ev_guardF _ _ (by (simp only [go_sem, hq]; rfl)) (by (simp only [go_sem, hq]; rfl)) ?_ ?_) <;> (intro hb; first | (cases hb; done) | (have ht : true = true := hb; clear ht hb) | (have ht : false = false := hb; clear ht hb) | (simp only [hb]) | skip))
        | (refine awp_exit ?_; simp only [thenA, blockA, scopeA, reduceIte, RetQ, Nat.reduceEqDiff])
        | (refine awp_ret ?_; simp only [thenA, blockA, scopeA, RetQ])
        | (refine ev_nil (hK _ ?_); clear hK K)
        | (apply ev_call0; (case hys => (simp only [go_sem, hq]; try rfl)); (case hs => first | exact a1 .. | exact a2 ..); (case hok | hσ => (simp only [go_sem, hq]; try rfl)))
        | (apply ev_step0; (case hr | hσ => (simp only [go_sem, hq]; try rfl)); (case hc => exact hcA))
        | (apply ev_step; (case hr => (simp only [go_sem, hq]; try rfl)); (case hσ => (intro g u; simp only [go_sem, hq]; try rfl)); (case hc => exact hcA); intro g u; (try clear u); (try clear g))
        | fail
      all_goals (refine resR_oneA ?_; simp only [go_sem])
      exact LeA.refl _
    | false =>
    cases kk : (v.k == bl.k) with
    | false =>
      rw [vb] at a1
      rw [wv] at a2
      rw [nl] at hq
      simp only [vb, wv, nl, kk, if_true, if_false, Bool.false_eq_true, reduceCtorEq]
      refine spec_of_awp (fn := Tryd.f18) Tryd.func18 (by kernel_rfl) rfl ?_
      intro w0 C0
      simp only [Tryd.ntmps18, litI, litB, litS, List.length_cons, List.length_nil, Nat.reduceAdd, Nat.reduceSub, List.replicate_succ, List.replicate_zero, List.cons_append, List.nil_append]
      repeat' first
        | refine awp_seq ?_
        | refine awp_block ?_
        | refine awp_skip ?_
        | (refine reg _ (by (simp only [List.map_cons, List.map_nil]; rfl)) rfl ?_; intro K hK)
        | (apply ev_guardU; (case hj | hu | hσ => (simp only [go_sem, kk, hq]; try rfl)))
        | ((first | refine awp_cond _ (by rfl) ?_ ?_ | refine ev_guardT _ _ (by (simp only [go_sem, kk, hq]; rfl)) (by (simp only [go_sem, kk, hq]; rfl)) ?_ ?_ | refine ev_guardF _ _ (by (simp only [go_sem, kk, hq]; rfl)) (by (simp only [go_sem, kk, hq]; rfl)) ?_ ?_) <;> (intro hb; first | (cases hb; done) | (have ht : true = true := hb; clear ht hb) | (have ht : false = false := hb; clear ht hb) | (simp only [hb]) | skip))
        | (refine awp_exit ?_; simp only [thenA, blockA, scopeA, reduceIte, RetQ, Nat.reduceEqDiff])
        | (refine awp_ret ?_; simp only [thenA, blockA, scopeA, RetQ])
        | (refine ev_nil (hK _ ?_); clear hK K)
        | (apply ev_call0; (case hys => (simp only [go_sem, kk, hq]; try rfl)); (case hs => first | exact a1 .. | exact a2 ..); (case hok | hσ => (simp only [go_sem, kk, hq]; try rfl)))
        | (apply ev_step0; (case hr | hσ => (simp only [go_sem, kk, hq]; try rfl)); (case hc => exact hcA))
        | (apply ev_step; (case hr => (simp only [go_sem, kk, hq]; try rfl)); (case hσ => (intro g u; simp only [go_sem, kk, hq]; try rfl)); (case hc => exact hcA); intro g u; (try clear u); (try clear g))
        | fail
      all_goals (refine resR_oneA ?_; simp only [go_sem])
      exact LeA.refl _
    | true =>
    cases c1 : (decide (cmpV bl v ≤ 0)) with
    | false =>
      rw [vb] at a1
      rw [wv] at a2
      rw [nl] at hq
      simp only [vb, wv, nl, kk, c1, if_true, if_false, Bool.false_eq_true, reduceCtorEq]
      refine spec_of_awp (fn := Tryd.f18) Tryd.func18 (by kernel_rfl) rfl ?_
      intro w0 C0
      simp only [Tryd.ntmps18, litI, litB, litS, List.length_cons, List.length_nil, Nat.reduceAdd, Nat.reduceSub, List.replicate_succ, List.replicate_zero, List.cons_append, List.nil_append]
      repeat' first
        | refine awp_seq ?_
        | refine awp_block ?_
        | refine awp_skip ?_
        | (refine reg _ (by (simp only [List.map_cons, List.map_nil]; rfl)) rfl ?_; intro K hK)
        | (apply ev_guardU; (case hj | hu | hσ => (simp only [go_sem, kk, c1, hq]; try rfl)))
        | ((first | refine awp_cond _ (by rfl) ?_ ?_ | refine ev_guardT _ _ (by (simp only [go_sem, kk, c1, hq]; rfl)) (by (simp only [go_sem, kk, c1, hq]; rfl)) ?_ ?_ | refine ev_guardF _ _ (by (simp only [go_sem, kk, c1, hq]; rfl)) (by (simp only [go_sem, kk, c1, hq]; rfl)) ?_ ?_) <;> (intro hb; first | (cases hb; done) | (have ht : true = true := hb; clear ht hb) | (have ht : false = false := hb; clear ht hb) | (simp only [hb]) | skip))
        | (refine awp_exit ?_; simp only [thenA, blockA, scopeA, reduceIte, RetQ, Nat.reduceEqDiff])
        | (refine awp_ret ?_; simp only [thenA, blockA, scopeA, RetQ])
        | (refine ev_nil (hK _ ?_); clear hK K)
        | (apply ev_call0; (case hys => (simp only [go_sem, kk, c1, hq]; try rfl)); (case hs => first | exact a1 .. | exact a2 .. | exact a3 ..); (case hok | hσ => (simp only [go_sem, kk, c1, hq]; try rfl)))
        | (apply ev_step0; (case hr | hσ => (simp only [go_sem, kk, c1, hq]; try rfl)); (case hc => exact hcA))
        | (apply ev_step; (case hr => (simp only [go_sem, kk, c1, hq]; try rfl)); (case hσ => (intro g u; simp only [go_sem, kk, c1, hq]; try rfl)); (case hc => exact hcA); intro g u; (try clear u); (try clear g))
        | fail
      all_goals (refine resR_oneA ?_; simp only [go_sem])
      exact LeA.refl _
    | true =>
    rw [vb] at a1
    rw [wv] at a2
    rw [nl] at hq
    simp only [vb, wv, nl, kk, c1, if_true, if_false, Bool.false_eq_true, reduceCtorEq]
    refine spec_of_awp (fn := Tryd.f18) Tryd.func18 (by kernel_rfl) rfl ?_
    intro w0 C0
    simp only [Tryd.ntmps18, litI, litB, litS, List.length_cons, List.length_nil, Nat.reduceAdd, Nat.reduceSub, List.replicate_succ, List.replicate_zero, List.cons_append, List.nil_append]
    repeat' first
      | refine awp_seq ?_
      | refine awp_block ?_
      | refine awp_skip ?_
      | (refine reg _ (by (simp only [List.map_cons, List.map_nil]; rfl)) rfl ?_; intro K hK)
      | (apply ev_guardU; (case hj | hu | hσ => (simp only [go_sem, kk, c1, hq]; try rfl)))
      | ((first | refine awp_cond _ (by rfl) ?_ ?_ | refine ev_guardT _ _ (by (simp only [go_sem, kk, c1, hq]; rfl)) (by (simp only [go_sem, kk, c1, hq]; rfl)) ?_ ?_ | refine ev_guardF _ _ (by (simp only [go_sem, kk, c1, hq]; rfl)) (by (simp only [go_sem, kk, c1, hq]; rfl)) ?_ ?_) <;> (intro hb; first | (cases hb; done) | (have ht : true = true := hb; clear ht hb) | (have ht : false = false := hb; clear ht hb) | (simp only [hb]) | skip))
      | (refine awp_exit ?_; simp only [thenA, blockA, scopeA, reduceIte, RetQ, Nat.reduceEqDiff])
      | (refine awp_ret ?_; simp only [thenA, blockA, scopeA, RetQ])
      | (refine ev_nil (hK _ ?_); clear hK K)
      | (apply ev_call0; (case hys => (simp only [go_sem, kk, c1, hq]; try rfl)); (case hs => first | exact a1 .. | exact a2 .. | exact a3 .. | exact a4 ..); (case hok | hσ => (simp only [go_sem, kk, c1, hq]; try rfl)))
      | (apply ev_step0; (case hr | hσ => (simp only [go_sem, kk, c1, hq]; try rfl)); (case hc => exact hcA))
      | (apply ev_step; (case hr => (simp only [go_sem, kk, c1, hq]; try rfl)); (case hσ => (intro g u; simp only [go_sem, kk, c1, hq]; try rfl)); (case hc => exact hcA); intro g u; (try clear u); (try clear g))
      | fail
    all_goals (refine resR_oneA ?_; simp only [go_sem])
    exact LeA.refl _
theorem validB_bd {b : Bd} (h : validB b = true) : (0 ≤ b.nulls ∧ b.nulls ≤ 4000000000000000000) ∧ (-4000000000000000000 ≤ b.sum ∧ b.sum ≤ 4000000000000000000) := by
  unfold validB at h
  split at h
  · cases h
  rename_i h1
  split at h
  · cases h
  rename_i h2
  split at h
  · cases h
  rename_i h3
  split at h
  · cases h
  rename_i h4
  simp only [decide_eq_true_eq] at h1 h2 h3 h4
  omega
def mergeM (a b : Bd) : Bd × Int :=
  if validB a = false then (zeroBd, 6) else if validB b = false then (zeroBd, 6) else if (a.has && b.has && (a.lo.k != b.lo.k)) = true then (zeroBd, 6)
  else if small (a.sum + b.sum) = false then (zeroBd, 2) else if decide (a.nulls + b.nulls > 4000000000000000000) = true then (zeroBd, 2)
  else (⟨a.nulls + b.nulls, a.has || b.has, if (!a.has || (b.has && decide (cmpV b.lo a.lo < 0))) = true then b.lo else a.lo, if (!a.has || (b.has && decide (cmpV b.hi a.hi > 0))) = true then b.hi else a.hi, a.sum + b.sum⟩, 0)
set_option maxHeartbeats 16000000 in
theorem f39_spec (a b : Bd) (ha : BdOk a) (hb : BdOk b) : Spec Tryd.prog 39 [.agg (bd a), .agg (bd b)] (.tup [.agg (bd (mergeM a b).1), litI .i64 (mergeM a b).2]) := by
  have a1 := f16_spec a ha.lo.s ha.hi.s
  have a2 := f16_spec b hb.lo.s hb.hi.s
  have a3 := f55_spec [a.sum, b.sum] (by
    intro x hx
    simp only [List.mem_cons, List.not_mem_nil, or_false] at hx
    rcases hx with rfl | rfl
    · exact ha.sum
    · exact hb.sum) (by simp)
  simp only [ints, List.map_cons, List.map_nil] at a3
  have a4 := f41_spec b.lo a.lo
  have a5 := f41_spec b.hi a.hi
  obtain ⟨an, ah, al, ai, am⟩ := a
  obtain ⟨bn, bh, bl, bi, bm⟩ := b
  unfold mergeM
  simp only at a1 a2 a3 a4 a5 ⊢
  cases ah with
  | true =>
    cases bh with
    | true =>
      cases va : (validB ⟨an, true, al, ai, am⟩) with
      | false =>
        rw [va] at a1
        simp only [va, if_true, if_false, Bool.false_eq_true, reduceCtorEq, Bool.and_true, Bool.and_false, Bool.true_and, Bool.false_and, Bool.not_true, Bool.not_false, Bool.true_or, Bool.false_or, Bool.or_true, Bool.or_false, Bool.and_self]
        refine spec_of_awp (fn := Tryd.f39) Tryd.func39 (by kernel_rfl) rfl ?_
        intro w0 C0
        simp only [Tryd.ntmps39, litI, litB, litS, List.length_cons, List.length_nil, Nat.reduceAdd, Nat.reduceSub, List.replicate_succ, List.replicate_zero, List.cons_append, List.nil_append]
        repeat' first
          | refine awp_seq ?_
          | refine awp_block ?_
          | refine awp_skip ?_
          | (refine reg _ (by (simp only [List.map_cons, List.map_nil]; rfl)) rfl ?_; intro K hK)
          | (apply ev_guardU; (case hj | hu | hσ => (simp only [go_sem]; try rfl)))
          | ((first | refine awp_cond _ (by rfl) ?_ ?_ | refine ev_guardT _ _ (by (simp only [go_sem]; rfl)) (by (simp only [go_sem]; rfl)) ?_ ?_ | refine ev_guardF _ _ (by (simp only [go_sem]; rfl)) (by (simp only [go_sem]; rfl)) ?_ ?_) <;> (intro hb; first | (cases hb; done) | (have ht : true = true := hb; clear ht hb) | (have ht : false = false := hb; clear ht hb) | (simp only [hb]) | skip))
          | (refine awp_exit ?_; simp only [thenA, blockA, scopeA, reduceIte, RetQ, Nat.reduceEqDiff])
          | (refine awp_ret ?_; simp only [thenA, blockA, scopeA, RetQ])
          | (refine ev_nil (hK _ ?_); clear hK K)
          | (apply ev_call0; (case hys => (simp only [go_sem]; try rfl)); (case hs => first | exact a1 ..); (case hok | hσ => (simp only [go_sem]; try rfl)))
          | (apply ev_step0; (case hr | hσ => (simp only [go_sem]; try rfl)); (case hc => exact hcA))
          | (apply ev_step; (case hr => (simp only [go_sem]; try rfl)); (case hσ => (intro g u; simp only [go_sem]; try rfl)); (case hc => exact hcA); intro g u; (try clear u); (try clear g))
          | fail
        all_goals (refine resR_more T_ok rfl (by decide) _ (by (simp only [go_sem, resA]; rfl)) (by (intro rv hrv; simp only [List.mem_cons, List.not_mem_nil, or_false] at hrv; rcases hrv with rfl | rfl <;> first | trivial | simp only [go_sem, resA])) (by first | trivial | (simp only [go_sem])) ?_; simp only [go_sem])
        refine ⟨LeA.refl _, LeA.refl _, trivial⟩
      | true =>
      cases vb : (validB ⟨bn, true, bl, bi, bm⟩) with
      | false =>
        rw [va] at a1
        rw [vb] at a2
        simp only [va, vb, if_true, if_false, Bool.false_eq_true, reduceCtorEq, Bool.and_true, Bool.and_false, Bool.true_and, Bool.false_and, Bool.not_true, Bool.not_false, Bool.true_or, Bool.false_or, Bool.or_true, Bool.or_false, Bool.and_self]
        refine spec_of_awp (fn := Tryd.f39) Tryd.func39 (by kernel_rfl) rfl ?_
        intro w0 C0
        simp only [Tryd.ntmps39, litI, litB, litS, List.length_cons, List.length_nil, Nat.reduceAdd, Nat.reduceSub, List.replicate_succ, List.replicate_zero, List.cons_append, List.nil_append]
        repeat' first
          | refine awp_seq ?_
          | refine awp_block ?_
          | refine awp_skip ?_
          | (refine reg _ (by (simp only [List.map_cons, List.map_nil]; rfl)) rfl ?_; intro K hK)
          | (apply ev_guardU; (case hj | hu | hσ => (simp only [go_sem]; try rfl)))
          | ((first | refine awp_cond _ (by rfl) ?_ ?_ | refine ev_guardT _ _ (by (simp only [go_sem]; rfl)) (by (simp only [go_sem]; rfl)) ?_ ?_ | refine ev_guardF _ _ (by (simp only [go_sem]; rfl)) (by (simp only [go_sem]; rfl)) ?_ ?_) <;> (intro hb; first | (cases hb; done) | (have ht : true = true := hb; clear ht hb) | (have ht : false = false := hb; clear ht hb) | (simp only [hb]) | skip))
          | (refine awp_exit ?_; simp only [thenA, blockA, scopeA, reduceIte, RetQ, Nat.reduceEqDiff])
          | (refine awp_ret ?_; simp only [thenA, blockA, scopeA, RetQ])
          | (refine ev_nil (hK _ ?_); clear hK K)
          | (apply ev_call0; (case hys => (simp only [go_sem]; try rfl)); (case hs => first | exact a1 .. | exact a2 ..); (case hok | hσ => (simp only [go_sem]; try rfl)))
          | (apply ev_step0; (case hr | hσ => (simp only [go_sem]; try rfl)); (case hc => exact hcA))
          | (apply ev_step; (case hr => (simp only [go_sem]; try rfl)); (case hσ => (intro g u; simp only [go_sem]; try rfl)); (case hc => exact hcA); intro g u; (try clear u); (try clear g))
          | fail
        all_goals (refine resR_more T_ok rfl (by decide) _ (by (simp only [go_sem, resA]; rfl)) (by (intro rv hrv; simp only [List.mem_cons, List.not_mem_nil, or_false] at hrv; rcases hrv with rfl | rfl <;> first | trivial | simp only [go_sem, resA])) (by first | trivial | (simp only [go_sem])) ?_; simp only [go_sem])
        refine ⟨LeA.refl _, LeA.refl _, trivial⟩
      | true =>
      have b1 := validB_bd va
      have b2 := validB_bd vb
      simp only at b1 b2
      have wn : IntKind.i64.wrap (an + bn) = an + bn := wrap_id (by omega)
      have hsd : sumD [am, bm] = if small (am + bm) = true then (am + bm, 0) else (0, 2) := by
        have e1 : small am = true := small_iff.2 b1.2
        have e2 : small bm = true := small_iff.2 b2.2
        simp only [sumD, List.all_cons, List.all_nil, e1, e2, Bool.and_self, Bool.true_and, sumL, List.foldr_cons, List.foldr_nil, Int.add_zero]
      cases ks : (al.k != bl.k) with
      | true =>
        rw [va] at a1
        rw [vb] at a2
        simp only [va, vb, ks, if_true, if_false, Bool.false_eq_true, reduceCtorEq, Bool.and_true, Bool.and_false, Bool.true_and, Bool.false_and, Bool.not_true, Bool.not_false, Bool.true_or, Bool.false_or, Bool.or_true, Bool.or_false, Bool.and_self]
        refine spec_of_awp (fn := Tryd.f39) Tryd.func39 (by kernel_rfl) rfl ?_
        intro w0 C0
        simp only [Tryd.ntmps39, litI, litB, litS, List.length_cons, List.length_nil, Nat.reduceAdd, Nat.reduceSub, List.replicate_succ, List.replicate_zero, List.cons_append, List.nil_append]
        repeat' first
          | refine awp_seq ?_
          | refine awp_block ?_
          | refine awp_skip ?_
          | (refine reg _ (by (simp only [List.map_cons, List.map_nil]; rfl)) rfl ?_; intro K hK)
          | (apply ev_guardU; (case hj | hu | hσ => (simp only [go_sem, ks]; try rfl)))
          | ((first | refine awp_cond _ (by rfl) ?_ ?_ | refine ev_guardT _ _ (by (simp only [go_sem, ks]; rfl)) (by (simp only [go_sem, ks]; rfl)) ?_ ?_ | refine ev_guardF _ _ (by (simp only [go_sem, ks]; rfl)) (by (simp only [go_sem, ks]; rfl)) ?_ ?_) <;> (intro hb; first | (cases hb; done) | (have ht : true = true := hb; clear ht hb) | (have ht : false = false := hb; clear ht hb) | (simp only [hb]) | skip))
          | (refine awp_exit ?_; simp only [thenA, blockA, scopeA, reduceIte, RetQ, Nat.reduceEqDiff])
          | (refine awp_ret ?_; simp only [thenA, blockA, scopeA, RetQ])
          | (refine ev_nil (hK _ ?_); clear hK K)
          | (apply ev_call0; (case hys => (simp only [go_sem, ks]; try rfl)); (case hs => first | exact a1 .. | exact a2 ..); (case hok | hσ => (simp only [go_sem, ks]; try rfl)))
          | (apply ev_step0; (case hr | hσ => (simp only [go_sem, ks]; try rfl)); (case hc => exact hcA))
          | (apply ev_step; (case hr => (simp only [go_sem, ks]; try rfl)); (case hσ => (intro g u; simp only [go_sem, ks]; try rfl)); (case hc => exact hcA); intro g u; (try clear u); (try clear g))
          | fail
        all_goals (refine resR_more T_ok rfl (by decide) _ (by (simp only [go_sem, resA]; rfl)) (by (intro rv hrv; simp only [List.mem_cons, List.not_mem_nil, or_false] at hrv; rcases hrv with rfl | rfl <;> first | trivial | simp only [go_sem, resA])) (by first | trivial | (simp only [go_sem])) ?_; simp only [go_sem])
        refine ⟨LeA.refl _, LeA.refl _, trivial⟩
      | false =>
      cases sm : (small (am + bm)) with
      | false =>
        rw [va] at a1
        rw [vb] at a2
        rw [sm, if_neg Bool.false_ne_true] at hsd
        rw [hsd] at a3
        simp only [va, vb, ks, sm, if_true, if_false, Bool.false_eq_true, reduceCtorEq, Bool.and_true, Bool.and_false, Bool.true_and, Bool.false_and, Bool.not_true, Bool.not_false, Bool.true_or, Bool.false_or, Bool.or_true, Bool.or_false, Bool.and_self]
        refine spec_of_awp (fn := Tryd.f39) Tryd.func39 (by kernel_rfl) rfl ?_
        intro w0 C0
        simp only [Tryd.ntmps39, litI, litB, litS, List.length_cons, List.length_nil, Nat.reduceAdd, Nat.reduceSub, List.replicate_succ, List.replicate_zero, List.cons_append, List.nil_append]
        repeat' first
          | refine awp_seq ?_
          | refine awp_block ?_
          | refine awp_skip ?_
          | (refine reg _ (by (simp only [List.map_cons, List.map_nil]; rfl)) rfl ?_; intro K hK)
          | (apply ev_guardU; (case hj | hu | hσ => (simp only [go_sem, ks]; try rfl)))
          | ((first | refine awp_cond _ (by rfl) ?_ ?_ | refine ev_guardT _ _ (by (simp only [go_sem, ks]; rfl)) (by (simp only [go_sem, ks]; rfl)) ?_ ?_ | refine ev_guardF _ _ (by (simp only [go_sem, ks]; rfl)) (by (simp only [go_sem, ks]; rfl)) ?_ ?_) <;> (intro hb; first | (cases hb; done) | (have ht : true = true := hb; clear ht hb) | (have ht : false = false := hb; clear ht hb) | (simp only [hb]) | skip))
          | (refine awp_exit ?_; simp only [thenA, blockA, scopeA, reduceIte, RetQ, Nat.reduceEqDiff])
          | (refine awp_ret ?_; simp only [thenA, blockA, scopeA, RetQ])
          | (refine ev_nil (hK _ ?_); clear hK K)
          | (apply ev_call0; (case hys => (simp only [go_sem, ks]; try rfl)); (case hs => first | exact a1 .. | exact a2 .. | exact a3 ..); (case hok | hσ => (simp only [go_sem, ks]; try rfl)))
          | (apply ev_step0; (case hr | hσ => (simp only [go_sem, ks]; try rfl)); (case hc => exact hcA))
          | (apply ev_step; (case hr => (simp only [go_sem, ks]; try rfl)); (case hσ => (intro g u; simp only [go_sem, ks]; try rfl)); (case hc => exact hcA); intro g u; (try clear u); (try clear g))
          | fail
        all_goals (refine resR_more T_ok rfl (by decide) _ (by (simp only [go_sem, resA]; rfl)) (by (intro rv hrv; simp only [List.mem_cons, List.not_mem_nil, or_false] at hrv; rcases hrv with rfl | rfl <;> first | trivial | simp only [go_sem, resA])) (by first | trivial | (simp only [go_sem])) ?_; simp only [go_sem])
        refine ⟨LeA.refl _, LeA.refl _, trivial⟩
      | true =>
      cases ov : (decide (an + bn > 4000000000000000000)) with
      | true =>
        rw [va] at a1
        rw [vb] at a2
        rw [sm, if_pos rfl] at hsd
        rw [hsd] at a3
        simp only [va, vb, ks, sm, ov, if_true, if_false, Bool.false_eq_true, reduceCtorEq, Bool.and_true, Bool.and_false, Bool.true_and, Bool.false_and, Bool.not_true, Bool.not_false, Bool.true_or, Bool.false_or, Bool.or_true, Bool.or_false, Bool.and_self]
        refine spec_of_awp (fn := Tryd.f39) Tryd.func39 (by kernel_rfl) rfl ?_
        intro w0 C0
        simp only [Tryd.ntmps39, litI, litB, litS, List.length_cons, List.length_nil, Nat.reduceAdd, Nat.reduceSub, List.replicate_succ, List.replicate_zero, List.cons_append, List.nil_append]
        repeat' first
          | refine awp_seq ?_
          | refine awp_block ?_
          | refine awp_skip ?_
          | (refine reg _ (by (simp only [List.map_cons, List.map_nil]; rfl)) rfl ?_; intro K hK)
          | (apply ev_guardU; (case hj | hu | hσ => (simp only [go_sem, ks, ov, wn]; try rfl)))
          | ((first | refine awp_cond _ (by rfl) ?_ ?_ | refine ev_guardT _ _ (by (simp only [go_sem, ks, ov, wn]; rfl)) (by (simp only [go_sem, ks, ov, wn]; rfl)) ?_ ?_ | refine ev_guardF _ _ (by (simp only [go_sem, ks, ov, wn]; rfl)) (by (simp only [go_sem, ks, ov, wn]; rfl)) ?_ ?_) <;> (intro hb; first | (cases hb; done) | (have ht : true = true := hb; clear ht hb) | (have ht : false = false := hb; clear ht hb) | (simp only [hb]) | skip))
          | (refine awp_exit ?_; simp only [thenA, blockA, scopeA, reduceIte, RetQ, Nat.reduceEqDiff])
          | (refine awp_ret ?_; simp only [thenA, blockA, scopeA, RetQ])
          | (refine ev_nil (hK _ ?_); clear hK K)
          | (apply ev_call0; (case hys => (simp only [go_sem, ks, ov, wn]; try rfl)); (case hs => first | exact a1 .. | exact a2 .. | exact a3 ..); (case hok | hσ => (simp only [go_sem, ks, ov, wn]; try rfl)))
          | (apply ev_step0; (case hr | hσ => (simp only [go_sem, ks, ov, wn]; try rfl)); (case hc => exact hcA))
          | (apply ev_step; (case hr => (simp only [go_sem, ks, ov, wn]; try rfl)); (case hσ => (intro g u; simp only [go_sem, ks, ov, wn]; try rfl)); (case hc => exact hcA); intro g u; (try clear u); (try clear g))
          | fail
        all_goals (refine resR_more T_ok rfl (by decide) _ (by (simp only [go_sem, resA]; rfl)) (by (intro rv hrv; simp only [List.mem_cons, List.not_mem_nil, or_false] at hrv; rcases hrv with rfl | rfl <;> first | trivial | simp only [go_sem, resA])) (by first | trivial | (simp only [go_sem])) ?_; simp only [go_sem])
        refine ⟨LeA.refl _, LeA.refl _, trivial⟩
      | false =>
      cases c1 : (decide (cmpV bl al < 0)) with
      | true =>
        cases c2 : (decide (cmpV bi ai > 0)) with
        | true =>
          rw [va] at a1
          rw [vb] at a2
          rw [sm, if_pos rfl] at hsd
          rw [hsd] at a3
          simp only [va, vb, ks, sm, ov, c1, c2, if_true, if_false, Bool.false_eq_true, reduceCtorEq, Bool.and_true, Bool.and_false, Bool.true_and, Bool.false_and, Bool.not_true, Bool.not_false, Bool.true_or, Bool.false_or, Bool.or_true, Bool.or_false, Bool.and_self]
          refine spec_of_awp (fn := Tryd.f39) Tryd.func39 (by kernel_rfl) rfl ?_
          intro w0 C0
          simp only [Tryd.ntmps39, litI, litB, litS, List.length_cons, List.length_nil, Nat.reduceAdd, Nat.reduceSub, List.replicate_succ, List.replicate_zero, List.cons_append, List.nil_append]
          repeat' first
            | refine awp_seq ?_
            | refine awp_block ?_
            | refine awp_skip ?_
            | (refine reg _ (by (simp only [List.map_cons, List.map_nil]; rfl)) rfl ?_; intro K hK)
            | (apply ev_guardU; (case hj | hu | hσ => (simp only [go_sem, ks, ov, c1, c2, wn]; try rfl)))
            | ((first | refine awp_cond _ (by rfl) ?_ ?_ | refine ev_guardT _ _ (by (simp only [go_sem, ks, ov, c1, c2, wn]; rfl)) (by (simp only [go_sem, ks, ov, c1, c2, wn]; rfl)) ?_ ?_ | refine ev_guardF _ _ (by (simp only [go_sem, ks, ov, c1, c2, wn]; rfl)) (by (simp only [go_sem, ks, ov, c1, c2, wn]; rfl)) ?_ ?_) <;> (intro hb; first | (cases hb; done) | (have ht : true = true := hb; clear ht hb) | (have ht : false = false := hb; clear ht hb) | (simp only [hb]) | skip))
            | (refine awp_exit ?_; simp only [thenA, blockA, scopeA, reduceIte, RetQ, Nat.reduceEqDiff])
            | (refine awp_ret ?_; simp only [thenA, blockA, scopeA, RetQ])
            | (refine ev_nil (hK _ ?_); clear hK K)
            | (apply ev_call0; (case hys => (simp only [go_sem, ks, ov, c1, c2, wn]; try rfl)); (case hs => first | exact a1 .. | exact a2 .. | exact a3 .. | exact a4 .. | exact a5 ..); (case hok | hσ => (simp only [go_sem, ks, ov, c1, c2, wn]; try rfl)))
            | (apply ev_step0; (case hr | hσ => (simp only [go_sem, ks, ov, c1, c2, wn]; try rfl)); (case hc => exact hcA))
            | (apply ev_step; (case hr => (simp only [go_sem, ks, ov, c1, c2, wn]; try rfl)); (case hσ => (intro g u; simp only [go_sem, ks, ov, c1, c2, wn]; try rfl)); (case hc => exact hcA); intro g u; (try clear u); (try clear g))
            | fail
          all_goals (refine resR_more T_ok rfl (by decide) _ (by (simp only [go_sem, resA]; rfl)) (by (intro rv hrv; simp only [List.mem_cons, List.not_mem_nil, or_false] at hrv; rcases hrv with rfl | rfl <;> first | trivial | simp only [go_sem, resA])) (by first | trivial | (simp only [go_sem])) ?_; simp only [go_sem])
          refine ⟨LeA.refl _, LeA.refl _, trivial⟩
        | false =>
          rw [va] at a1
          rw [vb] at a2
          rw [sm, if_pos rfl] at hsd
          rw [hsd] at a3
          simp only [va, vb, ks, sm, ov, c1, c2, if_true, if_false, Bool.false_eq_true, reduceCtorEq, Bool.and_true, Bool.and_false, Bool.true_and, Bool.false_and, Bool.not_true, Bool.not_false, Bool.true_or, Bool.false_or, Bool.or_true, Bool.or_false, Bool.and_self]
          refine spec_of_awp (fn := Tryd.f39) Tryd.func39 (by kernel_rfl) rfl ?_
          intro w0 C0
          simp only [Tryd.ntmps39, litI, litB, litS, List.length_cons, List.length_nil, Nat.reduceAdd, Nat.reduceSub, List.replicate_succ, List.replicate_zero, List.cons_append, List.nil_append]
          repeat' first
            | refine awp_seq ?_
            | refine awp_block ?_
            | refine awp_skip ?_
            | (refine reg _ (by (simp only [List.map_cons, List.map_nil]; rfl)) rfl ?_; intro K hK)
            | (apply ev_guardU; (case hj | hu | hσ => (simp only [go_sem, ks, ov, c1, c2, wn]; try rfl)))
            | ((first | refine awp_cond _ (by rfl) ?_ ?_ | refine ev_guardT _ _ (by (simp only [go_sem, ks, ov, c1, c2, wn]; rfl)) (by (simp only [go_sem, ks, ov, c1, c2, wn]; rfl)) ?_ ?_ | refine ev_guardF _ _ (by (simp only [go_sem, ks, ov, c1, c2, wn]; rfl)) (by (simp only [go_sem, ks, ov, c1, c2, wn]; rfl)) ?_ ?_) <;> (intro hb; first | (cases hb; done) | (have ht : true = true := hb; clear ht hb) | (have ht : false = false := hb; clear ht hb) | (simp only [hb]) | skip))
            | (refine awp_exit ?_; simp only [thenA, blockA, scopeA, reduceIte, RetQ, Nat.reduceEqDiff])
            | (refine awp_ret ?_; simp only [thenA, blockA, scopeA, RetQ])
            | (refine ev_nil (hK _ ?_); clear hK K)
            | (apply ev_call0; (case hys => (simp only [go_sem, ks, ov, c1, c2, wn]; try rfl)); (case hs => first | exact a1 .. | exact a2 .. | exact a3 .. | exact a4 .. | exact a5 ..); (case hok | hσ => (simp only [go_sem, ks, ov, c1, c2, wn]; try rfl)))
            | (apply ev_step0; (case hr | hσ => (simp only [go_sem, ks, ov, c1, c2, wn]; try rfl)); (case hc => exact hcA))
            | (apply ev_step; (case hr => (simp only [go_sem, ks, ov, c1, c2, wn]; try rfl)); (case hσ => (intro g u; simp only [go_sem, ks, ov, c1, c2, wn]; try rfl)); (case hc => exact hcA); intro g u; (try clear u); (try clear g))
            | fail
          all_goals (refine resR_more T_ok rfl (by decide) _ (by (simp only [go_sem, resA]; rfl)) (by (intro rv hrv; simp only [List.mem_cons, List.not_mem_nil, or_false] at hrv; rcases hrv with rfl | rfl <;> first | trivial | simp only [go_sem, resA])) (by first | trivial | (simp only [go_sem])) ?_; simp only [go_sem])
          refine ⟨LeA.refl _, LeA.refl _, trivial⟩
      | false =>
        cases c2 : (decide (cmpV bi ai > 0)) with
        | true =>
          rw [va] at a1
          rw [vb] at a2
          rw [sm, if_pos rfl] at hsd
          rw [hsd] at a3
          simp only [va, vb, ks, sm, ov, c1, c2, if_true, if_false, Bool.false_eq_true, reduceCtorEq, Bool.and_true, Bool.and_false, Bool.true_and, Bool.false_and, Bool.not_true, Bool.not_false, Bool.true_or, Bool.false_or, Bool.or_true, Bool.or_false, Bool.and_self]
          refine spec_of_awp (fn := Tryd.f39) Tryd.func39 (by kernel_rfl) rfl ?_
          intro w0 C0
          simp only [Tryd.ntmps39, litI, litB, litS, List.length_cons, List.length_nil, Nat.reduceAdd, Nat.reduceSub, List.replicate_succ, List.replicate_zero, List.cons_append, List.nil_append]
          repeat' first
            | refine awp_seq ?_
            | refine awp_block ?_
            | refine awp_skip ?_
            | (refine reg _ (by (simp only [List.map_cons, List.map_nil]; rfl)) rfl ?_; intro K hK)
            | (apply ev_guardU; (case hj | hu | hσ => (simp only [go_sem, ks, ov, c1, c2, wn]; try rfl)))
            | ((first | refine awp_cond _ (by rfl) ?_ ?_ | refine ev_guardT _ _ (by (simp only [go_sem, ks, ov, c1, c2, wn]; rfl)) (by (simp only [go_sem, ks, ov, c1, c2, wn]; rfl)) ?_ ?_ | refine ev_guardF _ _ (by (simp only [go_sem, ks, ov, c1, c2, wn]; rfl)) (by (simp only [go_sem, ks, ov, c1, c2, wn]; rfl)) ?_ ?_) <;> (intro hb; first | (cases hb; done) | (have ht : true = true := hb; clear ht hb) | (have ht : false = false := hb; clear ht hb) | (simp only [hb]) | skip))
            | (refine awp_exit ?_; simp only [thenA, blockA, scopeA, reduceIte, RetQ, Nat.reduceEqDiff])
            | (refine awp_ret ?_; simp only [thenA, blockA, scopeA, RetQ])
            | (refine ev_nil (hK _ ?_); clear hK K)
            | (apply ev_call0; (case hys => (simp only [go_sem, ks, ov, c1, c2, wn]; try rfl)); (case hs => first | exact a1 .. | exact a2 .. | exact a3 .. | exact a4 .. | exact a5 ..); (case hok | hσ => (simp only [go_sem, ks, ov, c1, c2, wn]; try rfl)))
            | (apply ev_step0; (case hr | hσ => (simp only [go_sem, ks, ov, c1, c2, wn]; try rfl)); (case hc => exact hcA))
            | (apply ev_step; (case hr => (simp only [go_sem, ks, ov, c1, c2, wn]; try rfl)); (case hσ => (intro g u; simp only [go_sem, ks, ov, c1, c2, wn]; try rfl)); (case hc => exact hcA); intro g u; (try clear u); (try clear g))
            | fail
          all_goals (refine resR_more T_ok rfl (by decide) _ (by (simp only [go_sem, resA]; rfl)) (by (intro rv hrv; simp only [List.mem_cons, List.not_mem_nil, or_false] at hrv; rcases hrv with rfl | rfl <;> first | trivial | simp only [go_sem, resA])) (by first | trivial | (simp only [go_sem])) ?_; simp only [go_sem])
          refine ⟨LeA.refl _, LeA.refl _, trivial⟩
        | false =>
          rw [va] at a1
          rw [vb] at a2
          rw [sm, if_pos rfl] at hsd
          rw [hsd] at a3
          simp only [va, vb, ks, sm, ov, c1, c2, if_true, if_false, Bool.false_eq_true, reduceCtorEq, Bool.and_true, Bool.and_false, Bool.true_and, Bool.false_and, Bool.not_true, Bool.not_false, Bool.true_or, Bool.false_or, Bool.or_true, Bool.or_false, Bool.and_self]
          refine spec_of_awp (fn := Tryd.f39) Tryd.func39 (by kernel_rfl) rfl ?_
          intro w0 C0
          simp only [Tryd.ntmps39, litI, litB, litS, List.length_cons, List.length_nil, Nat.reduceAdd, Nat.reduceSub, List.replicate_succ, List.replicate_zero, List.cons_append, List.nil_append]
          repeat' first
            | refine awp_seq ?_
            | refine awp_block ?_
            | refine awp_skip ?_
            | (refine reg _ (by (simp only [List.map_cons, List.map_nil]; rfl)) rfl ?_; intro K hK)
            | (apply ev_guardU; (case hj | hu | hσ => (simp only [go_sem, ks, ov, c1, c2, wn]; try rfl)))
            | ((first | refine awp_cond _ (by rfl) ?_ ?_ | refine ev_guardT _ _ (by (simp only [go_sem, ks, ov, c1, c2, wn]; rfl)) (by (simp only [go_sem, ks, ov, c1, c2, wn]; rfl)) ?_ ?_ | refine ev_guardF _ _ (by (simp only [go_sem, ks, ov, c1, c2, wn]; rfl)) (by (simp only [go_sem, ks, ov, c1, c2, wn]; rfl)) ?_ ?_) <;> (intro hb; first | (cases hb; done) | (have ht : true = true := hb; clear ht hb) | (have ht : false = false := hb; clear ht hb) | (simp only [hb]) | skip))
            | (refine awp_exit ?_; simp only [thenA, blockA, scopeA, reduceIte, RetQ, Nat.reduceEqDiff])
            | (refine awp_ret ?_; simp only [thenA, blockA, scopeA, RetQ])
            | (refine ev_nil (hK _ ?_); clear hK K)
            | (apply ev_call0; (case hys => (simp only [go_sem, ks, ov, c1, c2, wn]; try rfl)); (case hs => first | exact a1 .. | exact a2 .. | exact a3 .. | exact a4 .. | exact a5 ..); (case hok | hσ => (simp only [go_sem, ks, ov, c1, c2, wn]; try rfl)))
            | (apply ev_step0; (case hr | hσ => (simp only [go_sem, ks, ov, c1, c2, wn]; try rfl)); (case hc => exact hcA))
            | (apply ev_step; (case hr => (simp only [go_sem, ks, ov, c1, c2, wn]; try rfl)); (case hσ => (intro g u; simp only [go_sem, ks, ov, c1, c2, wn]; try rfl)); (case hc => exact hcA); intro g u; (try clear u); (try clear g))
            | fail
          all_goals (refine resR_more T_ok rfl (by decide) _ (by (simp only [go_sem, resA]; rfl)) (by (intro rv hrv; simp only [List.mem_cons, List.not_mem_nil, or_false] at hrv; rcases hrv with rfl | rfl <;> first | trivial | simp only [go_sem, resA])) (by first | trivial | (simp only [go_sem])) ?_; simp only [go_sem])
          refine ⟨LeA.refl _, LeA.refl _, trivial⟩
    | false =>
      cases va : (validB ⟨an, true, al, ai, am⟩) with
      | false =>
        rw [va] at a1
        simp only [va, if_true, if_false, Bool.false_eq_true, reduceCtorEq, Bool.and_true, Bool.and_false, Bool.true_and, Bool.false_and, Bool.not_true, Bool.not_false, Bool.true_or, Bool.false_or, Bool.or_true, Bool.or_false, Bool.and_self]
        refine spec_of_awp (fn := Tryd.f39) Tryd.func39 (by kernel_rfl) rfl ?_
        intro w0 C0
        simp only [Tryd.ntmps39, litI, litB, litS, List.length_cons, List.length_nil, Nat.reduceAdd, Nat.reduceSub, List.replicate_succ, List.replicate_zero, List.cons_append, List.nil_append]
        repeat' first
          | refine awp_seq ?_
          | refine awp_block ?_
          | refine awp_skip ?_
          | (refine reg _ (by (simp only [List.map_cons, List.map_nil]; rfl)) rfl ?_; intro K hK)
          | (apply ev_guardU; (case hj | hu | hσ => (simp only [go_sem]; try rfl)))
          | ((first | refine awp_cond _ (by rfl) ?_ ?_ | refine ev_guardT _ _ (by (simp only [go_sem]; rfl)) (by (simp only [go_sem]; rfl)) ?_ ?_ | refine ev_guardF _ _ (by (simp only [go_sem]; rfl)) (by (simp only [go_sem]; rfl)) ?_ ?_) <;> (intro hb; first | (cases hb; done) | (have ht : true = true := hb; clear ht hb) | (have ht : false = false := hb; clear ht hb) | (simp only [hb]) | skip))
          | (refine awp_exit ?_; simp only [thenA, blockA, scopeA, reduceIte, RetQ, Nat.reduceEqDiff])
          | (refine awp_ret ?_; simp only [thenA, blockA, scopeA, RetQ])
          | (refine ev_nil (hK _ ?_); clear hK K)
          | (apply ev_call0; (case hys => (simp only [go_sem]; try rfl)); (case hs => first | exact a1 ..); (case hok | hσ => (simp only [go_sem]; try rfl)))
          | (apply ev_step0; (case hr | hσ => (simp only [go_sem]; try rfl)); (case hc => exact hcA))
          | (apply ev_step; (case hr => (simp only [go_sem]; try rfl)); (case hσ => (intro g u; simp only [go_sem]; try rfl)); (case hc => exact hcA); intro g u; (try clear u); (try clear g))
          | fail
        all_goals (refine resR_more T_ok rfl (by decide) _ (by (simp only [go_sem, resA]; rfl)) (by (intro rv hrv; simp only [List.mem_cons, List.not_mem_nil, or_false] at hrv; rcases hrv with rfl | rfl <;> first | trivial | simp only [go_sem, resA])) (by first | trivial | (simp only [go_sem])) ?_; simp only [go_sem])
        refine ⟨LeA.refl _, LeA.refl _, trivial⟩
      | true =>
      cases vb : (validB ⟨bn, false, bl, bi, bm⟩) with
      | false =>
        rw [va] at a1
        rw [vb] at a2
        simp only [va, vb, if_true, if_false, Bool.false_eq_true, reduceCtorEq, Bool.and_true, Bool.and_false, Bool.true_and, Bool.false_and, Bool.not_true, Bool.not_false, Bool.true_or, Bool.false_or, Bool.or_true, Bool.or_false, Bool.and_self]
        refine spec_of_awp (fn := Tryd.f39) Tryd.func39 (by kernel_rfl) rfl ?_
        intro w0 C0
        simp only [Tryd.ntmps39, litI, litB, litS, List.length_cons, List.length_nil, Nat.reduceAdd, Nat.reduceSub, List.replicate_succ, List.replicate_zero, List.cons_append, List.nil_append]
        repeat' first
          | refine awp_seq ?_
          | refine awp_block ?_
          | refine awp_skip ?_
          | (refine reg _ (by (simp only [List.map_cons, List.map_nil]; rfl)) rfl ?_; intro K hK)
          | (apply ev_guardU; (case hj | hu | hσ => (simp only [go_sem]; try rfl)))
          | ((first | refine awp_cond _ (by rfl) ?_ ?_ | refine ev_guardT _ _ (by (simp only [go_sem]; rfl)) (by (simp only [go_sem]; rfl)) ?_ ?_ | refine ev_guardF _ _ (by (simp only [go_sem]; rfl)) (by (simp only [go_sem]; rfl)) ?_ ?_) <;> (intro hb; first | (cases hb; done) | (have ht : true = true := hb; clear ht hb) | (have ht : false = false := hb; clear ht hb) | (simp only [hb]) | skip))
          | (refine awp_exit ?_; simp only [thenA, blockA, scopeA, reduceIte, RetQ, Nat.reduceEqDiff])
          | (refine awp_ret ?_; simp only [thenA, blockA, scopeA, RetQ])
          | (refine ev_nil (hK _ ?_); clear hK K)
          | (apply ev_call0; (case hys => (simp only [go_sem]; try rfl)); (case hs => first | exact a1 .. | exact a2 ..); (case hok | hσ => (simp only [go_sem]; try rfl)))
          | (apply ev_step0; (case hr | hσ => (simp only [go_sem]; try rfl)); (case hc => exact hcA))
          | (apply ev_step; (case hr => (simp only [go_sem]; try rfl)); (case hσ => (intro g u; simp only [go_sem]; try rfl)); (case hc => exact hcA); intro g u; (try clear u); (try clear g))
          | fail
        all_goals (refine resR_more T_ok rfl (by decide) _ (by (simp only [go_sem, resA]; rfl)) (by (intro rv hrv; simp only [List.mem_cons, List.not_mem_nil, or_false] at hrv; rcases hrv with rfl | rfl <;> first | trivial | simp only [go_sem, resA])) (by first | trivial | (simp only [go_sem])) ?_; simp only [go_sem])
        refine ⟨LeA.refl _, LeA.refl _, trivial⟩
      | true =>
      have b1 := validB_bd va
      have b2 := validB_bd vb
      simp only at b1 b2
      have wn : IntKind.i64.wrap (an + bn) = an + bn := wrap_id (by omega)
      have hsd : sumD [am, bm] = if small (am + bm) = true then (am + bm, 0) else (0, 2) := by
        have e1 : small am = true := small_iff.2 b1.2
        have e2 : small bm = true := small_iff.2 b2.2
        simp only [sumD, List.all_cons, List.all_nil, e1, e2, Bool.and_self, Bool.true_and, sumL, List.foldr_cons, List.foldr_nil, Int.add_zero]
      cases sm : (small (am + bm)) with
      | false =>
        rw [va] at a1
        rw [vb] at a2
        rw [sm, if_neg Bool.false_ne_true] at hsd
        rw [hsd] at a3
        simp only [va, vb, sm, if_true, if_false, Bool.false_eq_true, reduceCtorEq, Bool.and_true, Bool.and_false, Bool.true_and, Bool.false_and, Bool.not_true, Bool.not_false, Bool.true_or, Bool.false_or, Bool.or_true, Bool.or_false, Bool.and_self]
        refine spec_of_awp (fn := Tryd.f39) Tryd.func39 (by kernel_rfl) rfl ?_
        intro w0 C0
        simp only [Tryd.ntmps39, litI, litB, litS, List.length_cons, List.length_nil, Nat.reduceAdd, Nat.reduceSub, List.replicate_succ, List.replicate_zero, List.cons_append, List.nil_append]
        repeat' first
          | refine awp_seq ?_
          | refine awp_block ?_
          | refine awp_skip ?_
          | (refine reg _ (by (simp only [List.map_cons, List.map_nil]; rfl)) rfl ?_; intro K hK)
          | (apply ev_guardU; (case hj | hu | hσ => (simp only [go_sem]; try rfl)))
          | ((first | refine awp_cond _ (by rfl) ?_ ?_ | refine ev_guardT _ _ (by (simp only [go_sem]; rfl)) (by (simp only [go_sem]; rfl)) ?_ ?_ | refine ev_guardF _ _ (by (simp only [go_sem]; rfl)) (by (simp only [go_sem]; rfl)) ?_ ?_) <;> (intro hb; first | (cases hb; done) | (have ht : true = true := hb; clear ht hb) | (have ht : false = false := hb; clear ht hb) | (simp only [hb]) | skip))
          | (refine awp_exit ?_; simp only [thenA, blockA, scopeA, reduceIte, RetQ, Nat.reduceEqDiff])
          | (refine awp_ret ?_; simp only [thenA, blockA, scopeA, RetQ])
          | (refine ev_nil (hK _ ?_); clear hK K)
          | (apply ev_call0; (case hys => (simp only [go_sem]; try rfl)); (case hs => first | exact a1 .. | exact a2 .. | exact a3 ..); (case hok | hσ => (simp only [go_sem]; try rfl)))
          | (apply ev_step0; (case hr | hσ => (simp only [go_sem]; try rfl)); (case hc => exact hcA))
          | (apply ev_step; (case hr => (simp only [go_sem]; try rfl)); (case hσ => (intro g u; simp only [go_sem]; try rfl)); (case hc => exact hcA); intro g u; (try clear u); (try clear g))
          | fail
        all_goals (refine resR_more T_ok rfl (by decide) _ (by (simp only [go_sem, resA]; rfl)) (by (intro rv hrv; simp only [List.mem_cons, List.not_mem_nil, or_false] at hrv; rcases hrv with rfl | rfl <;> first | trivial | simp only [go_sem, resA])) (by first | trivial | (simp only [go_sem])) ?_; simp only [go_sem])
        refine ⟨LeA.refl _, LeA.refl _, trivial⟩
      | true =>
      cases ov : (decide (an + bn > 4000000000000000000)) with
      | true =>
        rw [va] at a1
        rw [vb] at a2
        rw [sm, if_pos rfl] at hsd
        rw [hsd] at a3
        simp only [va, vb, sm, ov, if_true, if_false, Bool.false_eq_true, reduceCtorEq, Bool.and_true, Bool.and_false, Bool.true_and, Bool.false_and, Bool.not_true, Bool.not_false, Bool.true_or, Bool.false_or, Bool.or_true, Bool.or_false, Bool.and_self]
        refine spec_of_awp (fn := Tryd.f39) Tryd.func39 (by kernel_rfl) rfl ?_
        intro w0 C0
        simp only [Tryd.ntmps39, litI, litB, litS, List.length_cons, List.length_nil, Nat.reduceAdd, Nat.reduceSub, List.replicate_succ, List.replicate_zero, List.cons_append, List.nil_append]
        repeat' first
          | refine awp_seq ?_
          | refine awp_block ?_
          | refine awp_skip ?_
          | (refine reg _ (by (simp only [List.map_cons, List.map_nil]; rfl)) rfl ?_; intro K hK)
          | (apply ev_guardU; (case hj | hu | hσ => (simp only [go_sem, ov, wn]; try rfl)))
          | ((first | refine awp_cond _ (by rfl) ?_ ?_ | refine ev_guardT _ _ (by (simp only [go_sem, ov, wn]; rfl)) (by (simp only [go_sem, ov, wn]; rfl)) ?_ ?_ | refine ev_guardF _ _ (by (simp only [go_sem, ov, wn]; rfl)) (by (simp only [go_sem, ov, wn]; rfl)) ?_ ?_) <;> (intro hb; first | (cases hb; done) | (have ht : true = true := hb; clear ht hb) | (have ht : false = false := hb; clear ht hb) | (simp only [hb]) | skip))
          | (refine awp_exit ?_; simp only [thenA, blockA, scopeA, reduceIte, RetQ, Nat.reduceEqDiff])
          | (refine awp_ret ?_; simp only [thenA, blockA, scopeA, RetQ])
          | (refine ev_nil (hK _ ?_); clear hK K)
          | (apply ev_call0; (case hys => (simp only [go_sem, ov, wn]; try rfl)); (case hs => first | exact a1 .. | exact a2 .. | exact a3 ..); (case hok | hσ => (simp only [go_sem, ov, wn]; try rfl)))
          | (apply ev_step0; (case hr | hσ => (simp only [go_sem, ov, wn]; try rfl)); (case hc => exact hcA))
          | (apply ev_step; (case hr => (simp only [go_sem, ov, wn]; try rfl)); (case hσ => (intro g u; simp only [go_sem, ov, wn]; try rfl)); (case hc => exact hcA); intro g u; (try clear u); (try clear g))
          | fail
        all_goals (refine resR_more T_ok rfl (by decide) _ (by (simp only [go_sem, resA]; rfl)) (by (intro rv hrv; simp only [List.mem_cons, List.not_mem_nil, or_false] at hrv; rcases hrv with rfl | rfl <;> first | trivial | simp only [go_sem, resA])) (by first | trivial | (simp only [go_sem])) ?_; simp only [go_sem])
        refine ⟨LeA.refl _, LeA.refl _, trivial⟩
      | false =>
      rw [va] at a1
      rw [vb] at a2
      rw [sm, if_pos rfl] at hsd
      rw [hsd] at a3
      simp only [va, vb, sm, ov, if_true, if_false, Bool.false_eq_true, reduceCtorEq, Bool.and_true, Bool.and_false, Bool.true_and, Bool.false_and, Bool.not_true, Bool.not_false, Bool.true_or, Bool.false_or, Bool.or_true, Bool.or_false, Bool.and_self]
      refine spec_of_awp (fn := Tryd.f39) Tryd.func39 (by kernel_rfl) rfl ?_
      intro w0 C0
      simp only [Tryd.ntmps39, litI, litB, litS, List.length_cons, List.length_nil, Nat.reduceAdd, Nat.reduceSub, List.replicate_succ, List.replicate_zero, List.cons_append, List.nil_append]
      repeat' first
        | refine awp_seq ?_
        | refine awp_block ?_
        | refine awp_skip ?_
        | (refine reg _ (by (simp only [List.map_cons, List.map_nil]; rfl)) rfl ?_; intro K hK)
        | (apply ev_guardU; (case hj | hu | hσ => (simp only [go_sem, ov, wn]; try rfl)))
        | ((first | refine awp_cond _ (by rfl) ?_ ?_ | refine ev_guardT _ _ (by (simp only [go_sem, ov, wn]; rfl)) (by (simp only [go_sem, ov, wn]; rfl)) ?_ ?_ | refine ev_guardF _ _ (by (simp only [go_sem, ov, wn]; rfl)) (by (simp only [go_sem, ov, wn]; rfl)) ?_ ?_) <;> (intro hb; first | (cases hb; done) | (have ht : true = true := hb; clear ht hb) | (have ht : false = false := hb; clear ht hb) | (simp only [hb]) | skip))
        | (refine awp_exit ?_; simp only [thenA, blockA, scopeA, reduceIte, RetQ, Nat.reduceEqDiff])
        | (refine awp_ret ?_; simp only [thenA, blockA, scopeA, RetQ])
        | (refine ev_nil (hK _ ?_); clear hK K)
        | (apply ev_call0; (case hys => (simp only [go_sem, ov, wn]; try rfl)); (case hs => first | exact a1 .. | exact a2 .. | exact a3 ..); (case hok | hσ => (simp only [go_sem, ov, wn]; try rfl)))
        | (apply ev_step0; (case hr | hσ => (simp only [go_sem, ov, wn]; try rfl)); (case hc => exact hcA))
        | (apply ev_step; (case hr => (simp only [go_sem, ov, wn]; try rfl)); (case hσ => (intro g u; simp only [go_sem, ov, wn]; try rfl)); (case hc => exact hcA); intro g u; (try clear u); (try clear g))
        | fail
      all_goals (refine resR_more T_ok rfl (by decide) _ (by (simp only [go_sem, resA]; rfl)) (by (intro rv hrv; simp only [List.mem_cons, List.not_mem_nil, or_false] at hrv; rcases hrv with rfl | rfl <;> first | trivial | simp only [go_sem, resA])) (by first | trivial | (simp only [go_sem])) ?_; simp only [go_sem])
      refine ⟨LeA.refl _, LeA.refl _, trivial⟩
  | false =>
    cases bh with
    | true =>
      cases va : (validB ⟨an, false, al, ai, am⟩) with
      | false =>
        rw [va] at a1
        simp only [va, if_true, if_false, Bool.false_eq_true, reduceCtorEq, Bool.and_true, Bool.and_false, Bool.true_and, Bool.false_and, Bool.not_true, Bool.not_false, Bool.true_or, Bool.false_or, Bool.or_true, Bool.or_false, Bool.and_self]
        refine spec_of_awp (fn := Tryd.f39) Tryd.func39 (by kernel_rfl) rfl ?_
        intro w0 C0
        simp only [Tryd.ntmps39, litI, litB, litS, List.length_cons, List.length_nil, Nat.reduceAdd, Nat.reduceSub, List.replicate_succ, List.replicate_zero, List.cons_append, List.nil_append]
        repeat' first
          | refine awp_seq ?_
          | refine awp_block ?_
          | refine awp_skip ?_
          | (refine reg _ (by (simp only [List.map_cons, List.map_nil]; rfl)) rfl ?_; intro K hK)
          | (apply ev_guardU; (case hj | hu | hσ => (simp only [go_sem]; try rfl)))
          | ((first | refine awp_cond _ (by rfl) ?_ ?_ | refine ev_guardT _ _ (by (simp only [go_sem]; rfl)) (by (simp only [go_sem]; rfl)) ?_ ?_ | refine ev_guardF _ _ (by (simp only [go_sem]; rfl)) (by (simp only [go_sem]; rfl)) ?_ ?_) <;> (intro hb; first | (cases hb; done) | (have ht : true = true := hb; clear ht hb) | (have ht : false = false := hb; clear ht hb) | (simp only [hb]) | skip))
          | (refine awp_exit ?_; simp only [thenA, blockA, scopeA, reduceIte, RetQ, Nat.reduceEqDiff])
          | (refine awp_ret ?_; simp only [thenA, blockA, scopeA, RetQ])
          | (refine ev_nil (hK _ ?_); clear hK K)
          | (apply ev_call0; (case hys => (simp only [go_sem]; try rfl)); (case hs => first | exact a1 ..); (case hok | hσ => (simp only [go_sem]; try rfl)))
          | (apply ev_step0; (case hr | hσ => (simp only [go_sem]; try rfl)); (case hc => exact hcA))
          | (apply ev_step; (case hr => (simp only [go_sem]; try rfl)); (case hσ => (intro g u; simp only [go_sem]; try rfl)); (case hc => exact hcA); intro g u; (try clear u); (try clear g))
          | fail
        all_goals (refine resR_more T_ok rfl (by decide) _ (by (simp only [go_sem, resA]; rfl)) (by (intro rv hrv; simp only [List.mem_cons, List.not_mem_nil, or_false] at hrv; rcases hrv with rfl | rfl <;> first | trivial | simp only [go_sem, resA])) (by first | trivial | (simp only [go_sem])) ?_; simp only [go_sem])
        refine ⟨LeA.refl _, LeA.refl _, trivial⟩
      | true =>
      cases vb : (validB ⟨bn, true, bl, bi, bm⟩) with
      | false =>
        rw [va] at a1
        rw [vb] at a2
        simp only [va, vb, if_true, if_false, Bool.false_eq_true, reduceCtorEq, Bool.and_true, Bool.and_false, Bool.true_and, Bool.false_and, Bool.not_true, Bool.not_false, Bool.true_or, Bool.false_or, Bool.or_true, Bool.or_false, Bool.and_self]
        refine spec_of_awp (fn := Tryd.f39) Tryd.func39 (by kernel_rfl) rfl ?_
        intro w0 C0
        simp only [Tryd.ntmps39, litI, litB, litS, List.length_cons, List.length_nil, Nat.reduceAdd, Nat.reduceSub, List.replicate_succ, List.replicate_zero, List.cons_append, List.nil_append]
        repeat' first
          | refine awp_seq ?_
          | refine awp_block ?_
          | refine awp_skip ?_
          | (refine reg _ (by (simp only [List.map_cons, List.map_nil]; rfl)) rfl ?_; intro K hK)
          | (apply ev_guardU; (case hj | hu | hσ => (simp only [go_sem]; try rfl)))
          | ((first | refine awp_cond _ (by rfl) ?_ ?_ | refine ev_guardT _ _ (by (simp only [go_sem]; rfl)) (by (simp only [go_sem]; rfl)) ?_ ?_ | refine ev_guardF _ _ (by (simp only [go_sem]; rfl)) (by (simp only [go_sem]; rfl)) ?_ ?_) <;> (intro hb; first | (cases hb; done) | (have ht : true = true := hb; clear ht hb) | (have ht : false = false := hb; clear ht hb) | (simp only [hb]) | skip))
          | (refine awp_exit ?_; simp only [thenA, blockA, scopeA, reduceIte, RetQ, Nat.reduceEqDiff])
          | (refine awp_ret ?_; simp only [thenA, blockA, scopeA, RetQ])
          | (refine ev_nil (hK _ ?_); clear hK K)
          | (apply ev_call0; (case hys => (simp only [go_sem]; try rfl)); (case hs => first | exact a1 .. | exact a2 ..); (case hok | hσ => (simp only [go_sem]; try rfl)))
          | (apply ev_step0; (case hr | hσ => (simp only [go_sem]; try rfl)); (case hc => exact hcA))
          | (apply ev_step; (case hr => (simp only [go_sem]; try rfl)); (case hσ => (intro g u; simp only [go_sem]; try rfl)); (case hc => exact hcA); intro g u; (try clear u); (try clear g))
          | fail
        all_goals (refine resR_more T_ok rfl (by decide) _ (by (simp only [go_sem, resA]; rfl)) (by (intro rv hrv; simp only [List.mem_cons, List.not_mem_nil, or_false] at hrv; rcases hrv with rfl | rfl <;> first | trivial | simp only [go_sem, resA])) (by first | trivial | (simp only [go_sem])) ?_; simp only [go_sem])
        refine ⟨LeA.refl _, LeA.refl _, trivial⟩
      | true =>
      have b1 := validB_bd va
      have b2 := validB_bd vb
      simp only at b1 b2
      have wn : IntKind.i64.wrap (an + bn) = an + bn := wrap_id (by omega)
      have hsd : sumD [am, bm] = if small (am + bm) = true then (am + bm, 0) else (0, 2) := by
        have e1 : small am = true := small_iff.2 b1.2
        have e2 : small bm = true := small_iff.2 b2.2
        simp only [sumD, List.all_cons, List.all_nil, e1, e2, Bool.and_self, Bool.true_and, sumL, List.foldr_cons, List.foldr_nil, Int.add_zero]
      cases sm : (small (am + bm)) with
      | false =>
        rw [va] at a1
        rw [vb] at a2
        rw [sm, if_neg Bool.false_ne_true] at hsd
        rw [hsd] at a3
        simp only [va, vb, sm, if_true, if_false, Bool.false_eq_true, reduceCtorEq, Bool.and_true, Bool.and_false, Bool.true_and, Bool.false_and, Bool.not_true, Bool.not_false, Bool.true_or, Bool.false_or, Bool.or_true, Bool.or_false, Bool.and_self]
        refine spec_of_awp (fn := Tryd.f39) Tryd.func39 (by kernel_rfl) rfl ?_
        intro w0 C0
        simp only [Tryd.ntmps39, litI, litB, litS, List.length_cons, List.length_nil, Nat.reduceAdd, Nat.reduceSub, List.replicate_succ, List.replicate_zero, List.cons_append, List.nil_append]
        repeat' first
          | refine awp_seq ?_
          | refine awp_block ?_
          | refine awp_skip ?_
          | (refine reg _ (by (simp only [List.map_cons, List.map_nil]; rfl)) rfl ?_; intro K hK)
          | (apply ev_guardU; (case hj | hu | hσ => (simp only [go_sem]; try rfl)))
          | ((first | refine awp_cond _ (by rfl) ?_ ?_ | refine ev_guardT _ _ (by (simp only [go_sem]; rfl)) (by (simp only [go_sem]; rfl)) ?_ ?_ | refine ev_guardF _ _ (by (simp only [go_sem]; rfl)) (by (simp only [go_sem]; rfl)) ?_ ?_) <;> (intro hb; first | (cases hb; done) | (have ht : true = true := hb; clear ht hb) | (have ht : false = false := hb; clear ht hb) | (simp only [hb]) | skip))
          | (refine awp_exit ?_; simp only [thenA, blockA, scopeA, reduceIte, RetQ, Nat.reduceEqDiff])
          | (refine awp_ret ?_; simp only [thenA, blockA, scopeA, RetQ])
          | (refine ev_nil (hK _ ?_); clear hK K)
          | (apply ev_call0; (case hys => (simp only [go_sem]; try rfl)); (case hs => first | exact a1 .. | exact a2 .. | exact a3 ..); (case hok | hσ => (simp only [go_sem]; try rfl)))
          | (apply ev_step0; (case hr | hσ => (simp only [go_sem]; try rfl)); (case hc => exact hcA))
          | (apply ev_step; (case hr => (simp only [go_sem]; try rfl)); (case hσ => (intro g u; simp only [go_sem]; try rfl)); (case hc => exact hcA); intro g u; (try clear u); (try clear g))
          | fail
        all_goals (refine resR_more T_ok rfl (by decide) _ (by (simp only [go_sem, resA]; rfl)) (by (intro rv hrv; simp only [List.mem_cons, List.not_mem_nil, or_false] at hrv; rcases hrv with rfl | rfl <;> first | trivial | simp only [go_sem, resA])) (by first | trivial | (simp only [go_sem])) ?_; simp only [go_sem])
        refine ⟨LeA.refl _, LeA.refl _, trivial⟩
      | true =>
      cases ov : (decide (an + bn > 4000000000000000000)) with
      | true =>
        rw [va] at a1
        rw [vb] at a2
        rw [sm, if_pos rfl] at hsd
        rw [hsd] at a3
        simp only [va, vb, sm, ov, if_true, if_false, Bool.false_eq_true, reduceCtorEq, Bool.and_true, Bool.and_false, Bool.true_and, Bool.false_and, Bool.not_true, Bool.not_false, Bool.true_or, Bool.false_or, Bool.or_true, Bool.or_false, Bool.and_self]
        refine spec_of_awp (fn := Tryd.f39) Tryd.func39 (by kernel_rfl) rfl ?_
        intro w0 C0
        simp only [Tryd.ntmps39, litI, litB, litS, List.length_cons, List.length_nil, Nat.reduceAdd, Nat.reduceSub, List.replicate_succ, List.replicate_zero, List.cons_append, List.nil_append]
        repeat' first
          | refine awp_seq ?_
          | refine awp_block ?_
          | refine awp_skip ?_
          | (refine reg _ (by (simp only [List.map_cons, List.map_nil]; rfl)) rfl ?_; intro K hK)
          | (apply ev_guardU; (case hj | hu | hσ => (simp only [go_sem, ov, wn]; try rfl)))
          | ((first | refine awp_cond _ (by rfl) ?_ ?_ | refine ev_guardT _ _ (by (simp only [go_sem, ov, wn]; rfl)) (by (simp only [go_sem, ov, wn]; rfl)) ?_ ?_ | refine ev_guardF _ _ (by (simp only [go_sem, ov, wn]; rfl)) (by (simp only [go_sem, ov, wn]; rfl)) ?_ ?_) <;> (intro hb; first | (cases hb; done) | (have ht : true = true := hb; clear ht hb) | (have ht : false = false := hb; clear ht hb) | (simp only [hb]) | skip))
          | (refine awp_exit ?_; simp only [thenA, blockA, scopeA, reduceIte, RetQ, Nat.reduceEqDiff])
          | (refine awp_ret ?_; simp only [thenA, blockA, scopeA, RetQ])
          | (refine ev_nil (hK _ ?_); clear hK K)
          | (apply ev_call0; (case hys => (simp only [go_sem, ov, wn]; try rfl)); (case hs => first | exact a1 .. | exact a2 .. | exact a3 ..); (case hok | hσ => (simp only [go_sem, ov, wn]; try rfl)))
          | (apply ev_step0; (case hr | hσ => (simp only [go_sem, ov, wn]; try rfl)); (case hc => exact hcA))
          | (apply ev_step; (case hr => (simp only [go_sem, ov, wn]; try rfl)); (case hσ => (intro g u; simp only [go_sem, ov, wn]; try rfl)); (case hc => exact hcA); intro g u; (try clear u); (try clear g))
          | fail
        all_goals (refine resR_more T_ok rfl (by decide) _ (by (simp only [go_sem, resA]; rfl)) (by (intro rv hrv; simp only [List.mem_cons, List.not_mem_nil, or_false] at hrv; rcases hrv with rfl | rfl <;> first | trivial | simp only [go_sem, resA])) (by first | trivial | (simp only [go_sem])) ?_; simp only [go_sem])
        refine ⟨LeA.refl _, LeA.refl _, trivial⟩
      | false =>
      rw [va] at a1
      rw [vb] at a2
      rw [sm, if_pos rfl] at hsd
      rw [hsd] at a3
      simp only [va, vb, sm, ov, if_true, if_false, Bool.false_eq_true, reduceCtorEq, Bool.and_true, Bool.and_false, Bool.true_and, Bool.false_and, Bool.not_true, Bool.not_false, Bool.true_or, Bool.false_or, Bool.or_true, Bool.or_false, Bool.and_self]
      refine spec_of_awp (fn := Tryd.f39) Tryd.func39 (by kernel_rfl) rfl ?_
      intro w0 C0
      simp only [Tryd.ntmps39, litI, litB, litS, List.length_cons, List.length_nil, Nat.reduceAdd, Nat.reduceSub, List.replicate_succ, List.replicate_zero, List.cons_append, List.nil_append]
      repeat' first
        | refine awp_seq ?_
        | refine awp_block ?_
        | refine awp_skip ?_
        | (refine reg _ (by (simp only [List.map_cons, List.map_nil]; rfl)) rfl ?_; intro K hK)
        | (apply ev_guardU; (case hj | hu | hσ => (simp only [go_sem, ov, wn]; try rfl)))
        | ((first | refine awp_cond _ (by rfl) ?_ ?_ | refine ev_guardT _ _ (by (simp only [go_sem, ov, wn]; rfl)) (by (simp only [go_sem, ov, wn]; rfl)) ?_ ?_ | refine ev_guardF _ _ (by (simp only [go_sem, ov, wn]; rfl)) (by (simp only [go_sem, ov, wn]; rfl)) ?_ ?_) <;> (intro hb; first | (cases hb; done) | (have ht : true = true := hb; clear ht hb) | (have ht : false = false := hb; clear ht hb) | (simp only [hb]) | skip))
        | (refine awp_exit ?_; simp only [thenA, blockA, scopeA, reduceIte, RetQ, Nat.reduceEqDiff])
        | (refine awp_ret ?_; simp only [thenA, blockA, scopeA, RetQ])
        | (refine ev_nil (hK _ ?_); clear hK K)
        | (apply ev_call0; (case hys => (simp only [go_sem, ov, wn]; try rfl)); (case hs => first | exact a1 .. | exact a2 .. | exact a3 ..); (case hok | hσ => (simp only [go_sem, ov, wn]; try rfl)))
        | (apply ev_step0; (case hr | hσ => (simp only [go_sem, ov, wn]; try rfl)); (case hc => exact hcA))
        | (apply ev_step; (case hr => (simp only [go_sem, ov, wn]; try rfl)); (case hσ => (intro g u; simp only [go_sem, ov, wn]; try rfl)); (case hc => exact hcA); intro g u; (try clear u); (try clear g))
        | fail
      all_goals (refine resR_more T_ok rfl (by decide) _ (by (simp only [go_sem, resA]; rfl)) (by (intro rv hrv; simp only [List.mem_cons, List.not_mem_nil, or_false] at hrv; rcases hrv with rfl | rfl <;> first | trivial | simp only [go_sem, resA])) (by first | trivial | (simp only [go_sem])) ?_; simp only [go_sem])
      refine ⟨LeA.refl _, LeA.refl _, trivial⟩
    | false =>
      cases va : (validB ⟨an, false, al, ai, am⟩) with
      | false =>
        rw [va] at a1
        simp only [va, if_true, if_false, Bool.false_eq_true, reduceCtorEq, Bool.and_true, Bool.and_false, Bool.true_and, Bool.false_and, Bool.not_true, Bool.not_false, Bool.true_or, Bool.false_or, Bool.or_true, Bool.or_false, Bool.and_self]
        refine spec_of_awp (fn := Tryd.f39) Tryd.func39 (by kernel_rfl) rfl ?_
        intro w0 C0
        simp only [Tryd.ntmps39, litI, litB, litS, List.length_cons, List.length_nil, Nat.reduceAdd, Nat.reduceSub, List.replicate_succ, List.replicate_zero, List.cons_append, List.nil_append]
        repeat' first
          | refine awp_seq ?_
          | refine awp_block ?_
          | refine awp_skip ?_
          | (refine reg _ (by (simp only [List.map_cons, List.map_nil]; rfl)) rfl ?_; intro K hK)
          | (apply ev_guardU; (case hj | hu | hσ => (simp only [go_sem]; try rfl)))
          | ((first | refine awp_cond _ (by rfl) ?_ ?_ | refine ev_guardT _ _ (by (simp only [go_sem]; rfl)) (by (simp only [go_sem]; rfl)) ?_ ?_ | refine ev_guardF _ _ (by (simp only [go_sem]; rfl)) (by (simp only [go_sem]; rfl)) ?_ ?_) <;> (intro hb; first | (cases hb; done) | (have ht : true = true := hb; clear ht hb) | (have ht : false = false := hb; clear ht hb) | (simp only [hb]) | skip))
          | (refine awp_exit ?_; simp only [thenA, blockA, scopeA, reduceIte, RetQ, Nat.reduceEqDiff])
          | (refine awp_ret ?_; simp only [thenA, blockA, scopeA, RetQ])
          | (refine ev_nil (hK _ ?_); clear hK K)
          | (apply ev_call0; (case hys => (simp only [go_sem]; try rfl)); (case hs => first | exact a1 ..); (case hok | hσ => (simp only [go_sem]; try rfl)))
          | (apply ev_step0; (case hr | hσ => (simp only [go_sem]; try rfl)); (case hc => exact hcA))
          | (apply ev_step; (case hr => (simp only [go_sem]; try rfl)); (case hσ => (intro g u; simp only [go_sem]; try rfl)); (case hc => exact hcA); intro g u; (try clear u); (try clear g))
          | fail
        all_goals (refine resR_more T_ok rfl (by decide) _ (by (simp only [go_sem, resA]; rfl)) (by (intro rv hrv; simp only [List.mem_cons, List.not_mem_nil, or_false] at hrv; rcases hrv with rfl | rfl <;> first | trivial | simp only [go_sem, resA])) (by first | trivial | (simp only [go_sem])) ?_; simp only [go_sem])
        refine ⟨LeA.refl _, LeA.refl _, trivial⟩
      | true =>
      cases vb : (validB ⟨bn, false, bl, bi, bm⟩) with
      | false =>
        rw [va] at a1
        rw [vb] at a2
        simp only [va, vb, if_true, if_false, Bool.false_eq_true, reduceCtorEq, Bool.and_true, Bool.and_false, Bool.true_and, Bool.false_and, Bool.not_true, Bool.not_false, Bool.true_or, Bool.false_or, Bool.or_true, Bool.or_false, Bool.and_self]
        refine spec_of_awp (fn := Tryd.f39) Tryd.func39 (by kernel_rfl) rfl ?_
        intro w0 C0
        simp only [Tryd.ntmps39, litI, litB, litS, List.length_cons, List.length_nil, Nat.reduceAdd, Nat.reduceSub, List.replicate_succ, List.replicate_zero, List.cons_append, List.nil_append]
        repeat' first
          | refine awp_seq ?_
          | refine awp_block ?_
          | refine awp_skip ?_
          | (refine reg _ (by (simp only [List.map_cons, List.map_nil]; rfl)) rfl ?_; intro K hK)
          | (apply ev_guardU; (case hj | hu | hσ => (simp only [go_sem]; try rfl)))
          | ((first | refine awp_cond _ (by rfl) ?_ ?_ | refine ev_guardT _ _ (by (simp only [go_sem]; rfl)) (by (simp only [go_sem]; rfl)) ?_ ?_ | refine ev_guardF _ _ (by (simp only [go_sem]; rfl)) (by (simp only [go_sem]; rfl)) ?_ ?_) <;> (intro hb; first | (cases hb; done) | (have ht : true = true := hb; clear ht hb) | (have ht : false = false := hb; clear ht hb) | (simp only [hb]) | skip))
          | (refine awp_exit ?_; simp only [thenA, blockA, scopeA, reduceIte, RetQ, Nat.reduceEqDiff])
          | (refine awp_ret ?_; simp only [thenA, blockA, scopeA, RetQ])
          | (refine ev_nil (hK _ ?_); clear hK K)
          | (apply ev_call0; (case hys => (simp only [go_sem]; try rfl)); (case hs => first | exact a1 .. | exact a2 ..); (case hok | hσ => (simp only [go_sem]; try rfl)))
          | (apply ev_step0; (case hr | hσ => (simp only [go_sem]; try rfl)); (case hc => exact hcA))
          | (apply ev_step; (case hr => (simp only [go_sem]; try rfl)); (case hσ => (intro g u; simp only [go_sem]; try rfl)); (case hc => exact hcA); intro g u; (try clear u); (try clear g))
          | fail
        all_goals (refine resR_more T_ok rfl (by decide) _ (by (simp only [go_sem, resA]; rfl)) (by (intro rv hrv; simp only [List.mem_cons, List.not_mem_nil, or_false] at hrv; rcases hrv with rfl | rfl <;> first | trivial | simp only [go_sem, resA])) (by first | trivial | (simp only [go_sem])) ?_; simp only [go_sem])
        refine ⟨LeA.refl _, LeA.refl _, trivial⟩
      | true =>
      have b1 := validB_bd va
      have b2 := validB_bd vb
      simp only at b1 b2
      have wn : IntKind.i64.wrap (an + bn) = an + bn := wrap_id (by omega)
      have hsd : sumD [am, bm] = if small (am + bm) = true then (am + bm, 0) else (0, 2) := by
        have e1 : small am = true := small_iff.2 b1.2
        have e2 : small bm = true := small_iff.2 b2.2
        simp only [sumD, List.all_cons, List.all_nil, e1, e2, Bool.and_self, Bool.true_and, sumL, List.foldr_cons, List.foldr_nil, Int.add_zero]
      cases sm : (small (am + bm)) with
      | false =>
        rw [va] at a1
        rw [vb] at a2
        rw [sm, if_neg Bool.false_ne_true] at hsd
        rw [hsd] at a3
        simp only [va, vb, sm, if_true, if_false, Bool.false_eq_true, reduceCtorEq, Bool.and_true, Bool.and_false, Bool.true_and, Bool.false_and, Bool.not_true, Bool.not_false, Bool.true_or, Bool.false_or, Bool.or_true, Bool.or_false, Bool.and_self]
        refine spec_of_awp (fn := Tryd.f39) Tryd.func39 (by kernel_rfl) rfl ?_
        intro w0 C0
        simp only [Tryd.ntmps39, litI, litB, litS, List.length_cons, List.length_nil, Nat.reduceAdd, Nat.reduceSub, List.replicate_succ, List.replicate_zero, List.cons_append, List.nil_append]
        repeat' first
          | refine awp_seq ?_
          | refine awp_block ?_
          | refine awp_skip ?_
          | (refine reg _ (by (simp only [List.map_cons, List.map_nil]; rfl)) rfl ?_; intro K hK)
          | (apply ev_guardU; (case hj | hu | hσ => (simp only [go_sem]; try rfl)))
          | ((first | refine awp_cond _ (by rfl) ?_ ?_ | refine ev_guardT _ _ (by (simp only [go_sem]; rfl)) (by (simp only [go_sem]; rfl)) ?_ ?_ | refine ev_guardF _ _ (by (simp only [go_sem]; rfl)) (by (simp only [go_sem]; rfl)) ?_ ?_) <;> (intro hb; first | (cases hb; done) | (have ht : true = true := hb; clear ht hb) | (have ht : false = false := hb; clear ht hb) | (simp only [hb]) | skip))
          | (refine awp_exit ?_; simp only [thenA, blockA, scopeA, reduceIte, RetQ, Nat.reduceEqDiff])
          | (refine awp_ret ?_; simp only [thenA, blockA, scopeA, RetQ])
          | (refine ev_nil (hK _ ?_); clear hK K)
          | (apply ev_call0; (case hys => (simp only [go_sem]; try rfl)); (case hs => first | exact a1 .. | exact a2 .. | exact a3 ..); (case hok | hσ => (simp only [go_sem]; try rfl)))
          | (apply ev_step0; (case hr | hσ => (simp only [go_sem]; try rfl)); (case hc => exact hcA))
          | (apply ev_step; (case hr => (simp only [go_sem]; try rfl)); (case hσ => (intro g u; simp only [go_sem]; try rfl)); (case hc => exact hcA); intro g u; (try clear u); (try clear g))
          | fail
        all_goals (refine resR_more T_ok rfl (by decide) _ (by (simp only [go_sem, resA]; rfl)) (by (intro rv hrv; simp only [List.mem_cons, List.not_mem_nil, or_false] at hrv; rcases hrv with rfl | rfl <;> first | trivial | simp only [go_sem, resA])) (by first | trivial | (simp only [go_sem])) ?_; simp only [go_sem])
        refine ⟨LeA.refl _, LeA.refl _, trivial⟩
      | true =>
      cases ov : (decide (an + bn > 4000000000000000000)) with
      | true =>
        rw [va] at a1
        rw [vb] at a2
        rw [sm, if_pos rfl] at hsd
        rw [hsd] at a3
        simp only [va, vb, sm, ov, if_true, if_false, Bool.false_eq_true, reduceCtorEq, Bool.and_true, Bool.and_false, Bool.true_and, Bool.false_and, Bool.not_true, Bool.not_false, Bool.true_or, Bool.false_or, Bool.or_true, Bool.or_false, Bool.and_self]
        refine spec_of_awp (fn := Tryd.f39) Tryd.func39 (by kernel_rfl) rfl ?_
        intro w0 C0
        simp only [Tryd.ntmps39, litI, litB, litS, List.length_cons, List.length_nil, Nat.reduceAdd, Nat.reduceSub, List.replicate_succ, List.replicate_zero, List.cons_append, List.nil_append]
        repeat' first
          | refine awp_seq ?_
          | refine awp_block ?_
          | refine awp_skip ?_
          | (refine reg _ (by (simp only [List.map_cons, List.map_nil]; rfl)) rfl ?_; intro K hK)
          | (apply ev_guardU; (case hj | hu | hσ => (simp only [go_sem, ov, wn]; try rfl)))
          | ((first | refine awp_cond _ (by rfl) ?_ ?_ | refine ev_guardT _ _ (by (simp only [go_sem, ov, wn]; rfl)) (by (simp only [go_sem, ov, wn]; rfl)) ?_ ?_ | refine ev_guardF _ _ (by (simp only [go_sem, ov, wn]; rfl)) (by (simp only [go_sem, ov, wn]; rfl)) ?_ ?_) <;> (intro hb; first | (cases hb; done) | (have ht : true = true := hb; clear ht hb) | (have ht : false = false := hb; clear ht hb) | (simp only [hb]) | skip))
          | (refine awp_exit ?_; simp only [thenA, blockA, scopeA, reduceIte, RetQ, Nat.reduceEqDiff])
          | (refine awp_ret ?_; simp only [thenA, blockA, scopeA, RetQ])
          | (refine ev_nil (hK _ ?_); clear hK K)
          | (apply ev_call0; (case hys => (simp only [go_sem, ov, wn]; try rfl)); (case hs => first | exact a1 .. | exact a2 .. | exact a3 ..); (case hok | hσ => (simp only [go_sem, ov, wn]; try rfl)))
          | (apply ev_step0; (case hr | hσ => (simp only [go_sem, ov, wn]; try rfl)); (case hc => exact hcA))
          | (apply ev_step; (case hr => (simp only [go_sem, ov, wn]; try rfl)); (case hσ => (intro g u; simp only [go_sem, ov, wn]; try rfl)); (case hc => exact hcA); intro g u; (try clear u); (try clear g))
          | fail
        all_goals (refine resR_more T_ok rfl (by decide) _ (by (simp only [go_sem, resA]; rfl)) (by (intro rv hrv; simp only [List.mem_cons, List.not_mem_nil, or_false] at hrv; rcases hrv with rfl | rfl <;> first | trivial | simp only [go_sem, resA])) (by first | trivial | (simp only [go_sem])) ?_; simp only [go_sem])
        refine ⟨LeA.refl _, LeA.refl _, trivial⟩
      | false =>
      rw [va] at a1
      rw [vb] at a2
      rw [sm, if_pos rfl] at hsd
      rw [hsd] at a3
      simp only [va, vb, sm, ov, if_true, if_false, Bool.false_eq_true, reduceCtorEq, Bool.and_true, Bool.and_false, Bool.true_and, Bool.false_and, Bool.not_true, Bool.not_false, Bool.true_or, Bool.false_or, Bool.or_true, Bool.or_false, Bool.and_self]
      refine spec_of_awp (fn := Tryd.f39) Tryd.func39 (by kernel_rfl) rfl ?_
      intro w0 C0
      simp only [Tryd.ntmps39, litI, litB, litS, List.length_cons, List.length_nil, Nat.reduceAdd, Nat.reduceSub, List.replicate_succ, List.replicate_zero, List.cons_append, List.nil_append]
      repeat' first
        | refine awp_seq ?_
        | refine awp_block ?_
        | refine awp_skip ?_
        | (refine reg _ (by (simp only [List.map_cons, List.map_nil]; rfl)) rfl ?_; intro K hK)
        | (apply ev_guardU; (case hj | hu | hσ => (simp only [go_sem, ov, wn]; try rfl)))
        | ((first | refine awp_cond _ (by rfl) ?_ ?_ | refine ev_guardT _ _ (by (simp only [go_sem, ov, wn]; rfl)) (by (simp only [go_sem, ov, wn]; rfl)) ?_ ?_ | refine ev_guardF _ _ (by (simp only [go_sem, ov, wn]; rfl)) (by (simp only [go_sem, ov, wn]; rfl)) ?_ ?_) <;> (intro hb; first | (cases hb; done) | (have ht : true = true := hb; clear ht hb) | (have ht : false = false := hb; clear ht hb) | (simp only [hb]) | skip))
        | (refine awp_exit ?_; simp only [thenA, blockA, scopeA, reduceIte, RetQ, Nat.reduceEqDiff])
        | (refine awp_ret ?_; simp only [thenA, blockA, scopeA, RetQ])
        | (refine ev_nil (hK _ ?_); clear hK K)
        | (apply ev_call0; (case hys => (simp only [go_sem, ov, wn]; try rfl)); (case hs => first | exact a1 .. | exact a2 .. | exact a3 ..); (case hok | hσ => (simp only [go_sem, ov, wn]; try rfl)))
        | (apply ev_step0; (case hr | hσ => (simp only [go_sem, ov, wn]; try rfl)); (case hc => exact hcA))
        | (apply ev_step; (case hr => (simp only [go_sem, ov, wn]; try rfl)); (case hσ => (intro g u; simp only [go_sem, ov, wn]; try rfl)); (case hc => exact hcA); intro g u; (try clear u); (try clear g))
        | fail
      all_goals (refine resR_more T_ok rfl (by decide) _ (by (simp only [go_sem, resA]; rfl)) (by (intro rv hrv; simp only [List.mem_cons, List.not_mem_nil, or_false] at hrv; rcases hrv with rfl | rfl <;> first | trivial | simp only [go_sem, resA])) (by first | trivial | (simp only [go_sem])) ?_; simp only [go_sem])
      refine ⟨LeA.refl _, LeA.refl _, trivial⟩
theorem f14_spec (a b : Bd) (ha : BdOk a) (hb : BdOk b) : Spec Tryd.prog 14 [.agg (bd a), .agg (bd b)] (.agg (got (mergeM a b))) := by
  have h39 := f39_spec a b ha hb
  refine spec_of_awp (fn := Tryd.f14) Tryd.func14 (by kernel_rfl) rfl ?_
  intro w0 C0
  simp only [Tryd.ntmps14, litI, litB, litS, List.length_cons, List.length_nil, Nat.reduceAdd, Nat.reduceSub, List.replicate_succ, List.replicate_zero, List.cons_append, List.nil_append]
  repeat' first
    | refine awp_seq ?_
    | (refine reg _ (by (simp only [List.map_cons, List.map_nil]; rfl)) rfl ?_; intro K hK)
    | (refine awp_ret ?_; simp only [thenA, blockA, scopeA, RetQ])
    | (refine ev_nil (hK _ ?_); clear hK K)
    | (apply ev_call0; (case hys => (simp only [go_sem]; try rfl)); (case hs => first | exact h39 ..); (case hok | hσ => (simp only [go_sem]; try rfl)))
    | (apply ev_step0; (case hr | hσ => (simp only [go_sem]; try rfl)); (case hc => exact hcA))
    | (apply ev_step; (case hr => (simp only [go_sem]; try rfl)); (case hσ => (intro g u; simp only [go_sem]; try rfl)); (case hc => exact hcA); intro g u; (try clear u); (try clear g))
    | fail
  all_goals (refine resR_oneA ?_; simp only [go_sem])
  exact LeA.refl _
end
section
set_option linter.unusedVariables false
set_option linter.unusedSimpArgs false
open Go.RowKit
attribute [local irreducible] Spec SpecF SpecN
attribute [local irreducible] AWp evOps evD
/-- The range of an expression. -/
structure Sp where
  null : Bool
  has : Bool
  lo : Vl
  hi : Vl
abbrev sp (s : Sp) : List AV := [litB s.null, litB s.has, litI .i64 s.lo.k, litI .i64 s.lo.i, litS s.lo.s, litI .i64 s.hi.k, litI .i64 s.hi.i, litS s.hi.s]
abbrev zeroSp : Sp := ⟨false, false, nullV, nullV⟩
def eqVl (a b : Vl) : Bool := (a.k == b.k) && ((a.i == b.i) && (a.s.toList == b.s.toList))
def isBool (b : Bool) (v : Vl) : Bool := eqVl v (boolV b)
def noM (s : Sp) : Bool := s.has && isBool false s.lo
def yesM (s : Sp) : Bool := s.has && isBool true s.hi
def truthM (no yes un : Bool) : Sp := if (no || yes) = true then ⟨un, true, boolV (!no), boolV yes⟩ else ⟨un, false, nullV, nullV⟩
theorem f116_spec (s : Sp) : Spec Tryd.prog 116 [.agg (sp s)] (litB (eqVl s.lo s.hi)) := by
  refine spec_of_awp (fn := Tryd.f116) Tryd.func116 (by kernel_rfl) rfl ?_
  intro w0 C0
  simp only [Tryd.ntmps116, litI, litB, litS, List.length_cons, List.length_nil, Nat.reduceAdd, Nat.reduceSub, List.replicate_succ, List.replicate_zero, List.cons_append, List.nil_append]
  repeat' first
    | refine awp_seq ?_
    | (refine reg _ (by (simp only [List.map_cons, List.map_nil]; rfl)) rfl ?_; intro K hK)
    | (refine awp_ret ?_; simp only [thenA, blockA, scopeA, RetQ])
    | (refine ev_nil (hK _ ?_); clear hK K)
    | (apply ev_step0; (case hr | hσ => (simp only [go_sem]; try rfl)); (case hc => exact hcA))
    | (apply ev_step; (case hr => (simp only [go_sem]; try rfl)); (case hσ => (intro g u; simp only [go_sem]; try rfl)); (case hc => exact hcA); intro g u; (try clear u); (try clear g))
    | fail
  all_goals (refine resR_oneA ?_; simp only [go_sem])
  exact LeA.refl _
theorem f44_spec (s : Sp) : Spec Tryd.prog 44 [.agg (sp s)] (litB (noM s)) := by
  obtain ⟨n, h, lo, hi⟩ := s
  cases h
  · refine spec_of_awp (fn := Tryd.f44) Tryd.func44 (by kernel_rfl) rfl ?_
    intro w0 C0
    simp only [Tryd.ntmps44, litI, litB, litS, List.length_cons, List.length_nil, Nat.reduceAdd, Nat.reduceSub, List.replicate_succ, List.replicate_zero, List.cons_append, List.nil_append]
    repeat' first
      | refine awp_seq ?_
      | (refine reg _ (by (simp only [List.map_cons, List.map_nil]; rfl)) rfl ?_; intro K hK)
      | (apply ev_guardU; (case hj | hu | hσ => (simp only [go_sem]; try rfl)))
      | ((first | refine ev_guardT _ _ (by (simp only [go_sem]; rfl)) (by (simp only [go_sem]; rfl)) ?_ ?_ | refine ev_guardF _ _ (by (simp only [go_sem]; rfl)) (by (simp only [go_sem]; rfl)) ?_ ?_) <;> (intro hb; first | (cases hb; done) | (have ht : true = true := hb; clear ht hb) | (have ht : false = false := hb; clear ht hb) | (simp only [hb]) | skip))
      | (refine awp_ret ?_; simp only [thenA, blockA, scopeA, RetQ])
      | (refine ev_nil (hK _ ?_); clear hK K)
      | (apply ev_step0; (case hr | hσ => (simp only [go_sem]; try rfl)); (case hc => exact hcA))
      | (apply ev_step; (case hr => (simp only [go_sem]; try rfl)); (case hσ => (intro g u; simp only [go_sem]; try rfl)); (case hc => exact hcA); intro g u; (try clear u); (try clear g))
      | fail
    all_goals (refine resR_oneA ?_; simp only [go_sem])
    exact LeA.refl _
  · refine spec_of_awp (fn := Tryd.f44) Tryd.func44 (by kernel_rfl) rfl ?_
    intro w0 C0
    simp only [Tryd.ntmps44, litI, litB, litS, List.length_cons, List.length_nil, Nat.reduceAdd, Nat.reduceSub, List.replicate_succ, List.replicate_zero, List.cons_append, List.nil_append]
    repeat' first
      | refine awp_seq ?_
      | (refine reg _ (by (simp only [List.map_cons, List.map_nil]; rfl)) rfl ?_; intro K hK)
      | (apply ev_guardU; (case hj | hu | hσ => (simp only [go_sem]; try rfl)))
      | ((first | refine ev_guardT _ _ (by (simp only [go_sem]; rfl)) (by (simp only [go_sem]; rfl)) ?_ ?_ | refine ev_guardF _ _ (by (simp only [go_sem]; rfl)) (by (simp only [go_sem]; rfl)) ?_ ?_) <;> (intro hb; first | (cases hb; done) | (have ht : true = true := hb; clear ht hb) | (have ht : false = false := hb; clear ht hb) | (simp only [hb]) | skip))
      | (refine awp_ret ?_; simp only [thenA, blockA, scopeA, RetQ])
      | (refine ev_nil (hK _ ?_); clear hK K)
      | (apply ev_step0; (case hr | hσ => (simp only [go_sem]; try rfl)); (case hc => exact hcA))
      | (apply ev_step; (case hr => (simp only [go_sem]; try rfl)); (case hσ => (intro g u; simp only [go_sem]; try rfl)); (case hc => exact hcA); intro g u; (try clear u); (try clear g))
      | fail
    all_goals (refine resR_oneA ?_; simp only [go_sem])
    exact LeA.refl _
theorem f45_spec (s : Sp) : Spec Tryd.prog 45 [.agg (sp s)] (litB (yesM s)) := by
  obtain ⟨n, h, lo, hi⟩ := s
  cases h
  · refine spec_of_awp (fn := Tryd.f45) Tryd.func45 (by kernel_rfl) rfl ?_
    intro w0 C0
    simp only [Tryd.ntmps45, litI, litB, litS, List.length_cons, List.length_nil, Nat.reduceAdd, Nat.reduceSub, List.replicate_succ, List.replicate_zero, List.cons_append, List.nil_append]
    repeat' first
      | refine awp_seq ?_
      | (refine reg _ (by (simp only [List.map_cons, List.map_nil]; rfl)) rfl ?_; intro K hK)
      | (apply ev_guardU; (case hj | hu | hσ => (simp only [go_sem]; try rfl)))
      | ((first | refine ev_guardT _ _ (by (simp only [go_sem]; rfl)) (by (simp only [go_sem]; rfl)) ?_ ?_ | refine ev_guardF _ _ (by (simp only [go_sem]; rfl)) (by (simp only [go_sem]; rfl)) ?_ ?_) <;> (intro hb; first | (cases hb; done) | (have ht : true = true := hb; clear ht hb) | (have ht : false = false := hb; clear ht hb) | (simp only [hb]) | skip))
      | (refine awp_ret ?_; simp only [thenA, blockA, scopeA, RetQ])
      | (refine ev_nil (hK _ ?_); clear hK K)
      | (apply ev_step0; (case hr | hσ => (simp only [go_sem]; try rfl)); (case hc => exact hcA))
      | (apply ev_step; (case hr => (simp only [go_sem]; try rfl)); (case hσ => (intro g u; simp only [go_sem]; try rfl)); (case hc => exact hcA); intro g u; (try clear u); (try clear g))
      | fail
    all_goals (refine resR_oneA ?_; simp only [go_sem])
    exact LeA.refl _
  · refine spec_of_awp (fn := Tryd.f45) Tryd.func45 (by kernel_rfl) rfl ?_
    intro w0 C0
    simp only [Tryd.ntmps45, litI, litB, litS, List.length_cons, List.length_nil, Nat.reduceAdd, Nat.reduceSub, List.replicate_succ, List.replicate_zero, List.cons_append, List.nil_append]
    repeat' first
      | refine awp_seq ?_
      | (refine reg _ (by (simp only [List.map_cons, List.map_nil]; rfl)) rfl ?_; intro K hK)
      | (apply ev_guardU; (case hj | hu | hσ => (simp only [go_sem]; try rfl)))
      | ((first | refine ev_guardT _ _ (by (simp only [go_sem]; rfl)) (by (simp only [go_sem]; rfl)) ?_ ?_ | refine ev_guardF _ _ (by (simp only [go_sem]; rfl)) (by (simp only [go_sem]; rfl)) ?_ ?_) <;> (intro hb; first | (cases hb; done) | (have ht : true = true := hb; clear ht hb) | (have ht : false = false := hb; clear ht hb) | (simp only [hb]) | skip))
      | (refine awp_ret ?_; simp only [thenA, blockA, scopeA, RetQ])
      | (refine ev_nil (hK _ ?_); clear hK K)
      | (apply ev_step0; (case hr | hσ => (simp only [go_sem]; try rfl)); (case hc => exact hcA))
      | (apply ev_step; (case hr => (simp only [go_sem]; try rfl)); (case hσ => (intro g u; simp only [go_sem]; try rfl)); (case hc => exact hcA); intro g u; (try clear u); (try clear g))
      | fail
    all_goals (refine resR_oneA ?_; simp only [go_sem])
    exact LeA.refl _
theorem f109_spec (no yes un : Bool) : Spec Tryd.prog 109 [litB no, litB yes, litB un] (.agg (sp (truthM no yes un))) := by
  cases no <;> cases yes
  all_goals
    refine spec_of_awp (fn := Tryd.f109) Tryd.func109 (by kernel_rfl) rfl ?_
    intro w0 C0
    simp only [Tryd.ntmps109, litI, litB, litS, List.length_cons, List.length_nil, Nat.reduceAdd, Nat.reduceSub, List.replicate_succ, List.replicate_zero, List.cons_append, List.nil_append]
    repeat' first
      | refine awp_seq ?_
      | refine awp_block ?_
      | refine awp_skip ?_
      | (refine reg _ (by (simp only [List.map_cons, List.map_nil]; rfl)) rfl ?_; intro K hK)
      | (apply ev_guardU; (case hj | hu | hσ => (simp only [go_sem]; try rfl)))
      | ((first | refine awp_cond _ (by rfl) ?_ ?_ | refine ev_guardT _ _ (by (simp only [go_sem]; rfl)) (by (simp only [go_sem]; rfl)) ?_ ?_ | refine ev_guardF _ _ (by (simp only [go_sem]; rfl)) (by (simp only [go_sem]; rfl)) ?_ ?_) <;> (intro hb; first | (cases hb; done) | (have ht : true = true := hb; clear ht hb) | (have ht : false = false := hb; clear ht hb) | (simp only [hb]) | skip))
      | (refine awp_exit ?_; simp only [thenA, blockA, scopeA, reduceIte, RetQ, Nat.reduceEqDiff])
      | (refine awp_ret ?_; simp only [thenA, blockA, scopeA, RetQ])
      | (refine ev_nil (hK _ ?_); clear hK K)
      | (apply regD; (case hd => (simp only [List.map_cons, List.map_nil]; rfl)); (case hok => rfl); (case' h => (intro K hK; (repeat' first
        | (apply evd_nil; refine (hK _ ?_); clear hK K)
        | (apply evd_step0; (case hr | hi | hσ => (simp only [go_sem]; try rfl)); (case hc => exact hcA))
        | (apply evd_step; (case hr | hi => (simp only [go_sem]; try rfl)); (case hc => exact hcA); (case hw | hσ => (intro g u; simp only [go_sem]; try rfl)); (case' hk => (intro g u; (try clear u); (try clear g))))
        | fail))); (case hB => kernel_rfl))
      | (apply ev_step0; (case hr | hσ => (simp only [go_sem]; try rfl)); (case hc => exact hcA))
      | (apply ev_step; (case hr => (simp only [go_sem]; try rfl)); (case hσ => (intro g u; simp only [go_sem]; try rfl)); (case hc => exact hcA); intro g u; (try clear u); (try clear g))
      | fail
    all_goals (refine resR_oneA ?_; simp only [go_sem])
    exact LeA.refl _
def apartM (s t : Sp) : Bool := decide (cmpV s.hi t.lo < 0) || decide (cmpV t.hi s.lo < 0)
def equalM (s t : Sp) : Sp := truthM (!eqVl s.lo s.hi || !eqVl t.lo t.hi || !eqVl s.lo t.lo) (!apartM s t) false
def lessM (s t : Sp) : Sp := truthM (decide (cmpV s.hi t.lo ≥ 0)) (decide (cmpV s.lo t.hi < 0)) false
theorem f111_spec (s t : Sp) : Spec Tryd.prog 111 [.agg (sp s), .agg (sp t)] (.agg (sp (lessM s t))) := by
  have a1 := f41_spec s.hi t.lo
  have a2 := f41_spec s.lo t.hi
  have a3 := f109_spec (decide (cmpV s.hi t.lo ≥ 0)) (decide (cmpV s.lo t.hi < 0)) false
  refine spec_of_awp (fn := Tryd.f111) Tryd.func111 (by kernel_rfl) rfl ?_
  intro w0 C0
  simp only [Tryd.ntmps111, litI, litB, litS, List.length_cons, List.length_nil, Nat.reduceAdd, Nat.reduceSub, List.replicate_succ, List.replicate_zero, List.cons_append, List.nil_append]
  repeat' first
    | refine awp_seq ?_
    | (refine reg _ (by (simp only [List.map_cons, List.map_nil]; rfl)) rfl ?_; intro K hK)
    | (refine awp_ret ?_; simp only [thenA, blockA, scopeA, RetQ])
    | (refine ev_nil (hK _ ?_); clear hK K)
    | (apply regD; (case hd => (simp only [List.map_cons, List.map_nil]; rfl)); (case hok => rfl); (case' h => (intro K hK; (repeat' first
        | (apply evd_nil; refine (hK _ ?_); clear hK K)
        | (apply evd_call0; (case hi | hys => (simp only [go_sem]; try rfl)); (case hs => first | exact a1 .. | exact a2 .. | exact a3 ..); (case hok | hw | hσ => (simp only [go_sem]; try rfl)))
        | (apply evd_step0; (case hr | hi | hσ => (simp only [go_sem]; try rfl)); (case hc => exact hcA))
        | (apply evd_step; (case hr | hi => (simp only [go_sem]; try rfl)); (case hc => exact hcA); (case hw | hσ => (intro g u; simp only [go_sem]; try rfl)); (case' hk => (intro g u; (try clear u); (try clear g))))
        | fail))); (case hB => kernel_rfl))
    | (apply ev_step0; (case hr | hσ => (simp only [go_sem]; try rfl)); (case hc => exact hcA))
    | (apply ev_step; (case hr => (simp only [go_sem]; try rfl)); (case hσ => (intro g u; simp only [go_sem]; try rfl)); (case hc => exact hcA); intro g u; (try clear u); (try clear g))
    | fail
  all_goals (refine resR_oneA ?_; simp only [go_sem])
  exact LeA.refl _
set_option maxHeartbeats 4000000 in
theorem f110_spec (s t : Sp) : Spec Tryd.prog 110 [.agg (sp s), .agg (sp t)] (.agg (sp (equalM s t))) := by
  have a1 := f41_spec s.hi t.lo
  have a2 := f41_spec t.hi s.lo
  have b1 := f116_spec s
  have b2 := f116_spec t
  have a3 := f109_spec (!eqVl s.lo s.hi || !eqVl t.lo t.hi || !eqVl s.lo t.lo) (!apartM s t) false
  have hq : ((s.lo.k == t.lo.k) && ((s.lo.i == t.lo.i) && (s.lo.s.toList == t.lo.s.toList))) = eqVl s.lo t.lo := rfl
  unfold equalM
  unfold apartM at a3 ⊢
  generalize eqVl s.lo s.hi = e1 at *
  generalize eqVl t.lo t.hi = e2 at *
  cases d1 : decide (cmpV s.hi t.lo < 0) <;> cases d2 : decide (cmpV t.hi s.lo < 0) <;> rw [d1, d2] at a3 <;> simp only [Bool.not_true, Bool.not_false, Bool.or_true, Bool.or_false, Bool.true_or, Bool.false_or, Bool.or_self] at a3 ⊢ <;> cases e1 <;> cases e2 <;> simp only [Bool.not_true, Bool.not_false, Bool.or_true, Bool.or_false, Bool.true_or, Bool.false_or, Bool.or_self] at a3 ⊢
  all_goals
    refine spec_of_awp (fn := Tryd.f110) Tryd.func110 (by kernel_rfl) rfl ?_
    intro w0 C0
    simp only [Tryd.ntmps110, litI, litB, litS, List.length_cons, List.length_nil, Nat.reduceAdd, Nat.reduceSub, List.replicate_succ, List.replicate_zero, List.cons_append, List.nil_append]
    repeat' first
      | refine awp_seq ?_
      | (refine reg _ (by (simp only [List.map_cons, List.map_nil]; rfl)) rfl ?_; intro K hK)
      | (apply ev_guardU; (case hj | hu | hσ => (simp only [go_sem, d1, d2, hq]; try rfl)))
      | ((first | refine ev_guardT _ _ (by (simp only [go_sem, d1, d2, hq]; rfl)) (by (simp only [go_sem, d1, d2, hq]; rfl)) ?_ ?_ | refine ev_guardF _ _ (by (simp only [go_sem, d1, d2, hq]; rfl)) (by (simp only [go_sem, d1, d2, hq]; rfl)) ?_ ?_) <;> (intro hb; first | (cases hb; done) | (have ht : true = true := hb; clear ht hb) | (have ht : false = false := hb; clear ht hb) | (simp only [hb]) | skip))
      | (refine awp_ret ?_; simp only [thenA, blockA, scopeA, RetQ])
      | (refine ev_nil (hK _ ?_); clear hK K)
      | (apply ev_call0; (case hys => (simp only [go_sem, d1, d2, hq]; try rfl)); (case hs => first | exact a1 .. | exact a2 .. | exact b1 .. | exact b2 .. | exact a3 ..); (case hok | hσ => (simp only [go_sem, d1, d2, hq]; try rfl)))
      | (apply ev_step0; (case hr | hσ => (simp only [go_sem, d1, d2, hq]; try rfl)); (case hc => exact hcA))
      | (apply ev_step; (case hr => (simp only [go_sem, d1, d2, hq]; try rfl)); (case hσ => (intro g u; simp only [go_sem, d1, d2, hq]; try rfl)); (case hc => exact hcA); intro g u; (try clear u); (try clear g))
      | fail
    all_goals (refine resR_oneA ?_; simp only [go_sem])
    exact LeA.refl _
end
section
set_option linter.unusedVariables false
set_option linter.unusedSimpArgs false
open Go.RowKit
attribute [local irreducible] Spec SpecF SpecN
attribute [local irreducible] AWp evOps evD
/-- Expressions: constants and columns; operators with one argument; with two. -/
inductive Ex where
  | leaf (op c : Int) (v : Vl)
  | un (op : Int) (a : Ex)
  | bi (op : Int) (a b : Ex)
def opE : Ex → Int
  | .leaf op _ _ => op
  | .un op _ => op
  | .bi op _ _ => op
def cE : Ex → Int
  | .leaf _ c _ => c
  | _ => 0
def vE : Ex → Vl
  | .leaf _ _ v => v
  | _ => nullV
def argsD : Ex → Dat
  | .leaf _ _ _ => .lit (.slice none 0 0)
  | .un _ a => .sl 6 [[.lit (.int .i64 (opE a)), .lit (.int .i64 (cE a)), .lit (.int .i64 (vE a).k), .lit (.int .i64 (vE a).i), .lit (.string (vE a).s), argsD a]]
  | .bi _ a b => .sl 6 [[.lit (.int .i64 (opE a)), .lit (.int .i64 (cE a)), .lit (.int .i64 (vE a).k), .lit (.int .i64 (vE a).i), .lit (.string (vE a).s), argsD a], [.lit (.int .i64 (opE b)), .lit (.int .i64 (cE b)), .lit (.int .i64 (vE b).k), .lit (.int .i64 (vE b).i), .lit (.string (vE b).s), argsD b]]
theorem opE_bi (op : Int) (a b : Ex) : opE (.bi op a b) = op := rfl
theorem cE_bi (op : Int) (a b : Ex) : cE (.bi op a b) = 0 := rfl
theorem vE_bi (op : Int) (a b : Ex) : vE (.bi op a b) = nullV := rfl
theorem opE_un (op : Int) (a : Ex) : opE (.un op a) = op := rfl
theorem cE_un (op : Int) (a : Ex) : cE (.un op a) = 0 := rfl
theorem vE_un (op : Int) (a : Ex) : vE (.un op a) = nullV := rfl
abbrev exD (a : Ex) : List Dat := [.lit (.int .i64 (opE a)), .lit (.int .i64 (cE a)), .lit (.int .i64 (vE a).k), .lit (.int .i64 (vE a).i), .lit (.string (vE a).s), argsD a]
abbrev exA (a : Ex) : List AV := [litI .i64 (opE a), litI .i64 (cE a), litI .i64 (vE a).k, litI .i64 (vE a).i, litS (vE a).s, .d (argsD a)]
theorem argsD_bi (op : Int) (a b : Ex) : argsD (.bi op a b) = .sl 6 [exD a, exD b] := rfl
theorem argsD_un (op : Int) (a : Ex) : argsD (.un op a) = .sl 6 [exD a] := rfl
abbrev bds (l : List Bd) : Dat := .sl 9 (l.map bdD)
theorem bds_at (l : List Bd) {i : Nat} (h : i < l.length) : (l.map bdD).getD i [] = bdD (l.getD i zeroBd) := by
  simp [List.getD_eq_getElem?_getD, h]
theorem f43_const (B : Dat) (c : Int) (v : Vl) : Spec Tryd.prog 43 [.d B, .agg (exA (.leaf 1 c v))] (.agg (sp ⟨false, true, v, v⟩)) := by
  simp only [exA, opE, cE, vE, argsD]
  refine spec_of_awp (fn := Tryd.f43) Tryd.func43 (by kernel_rfl) rfl ?_
  intro w0 C0
  simp only [Tryd.ntmps43, litI, litB, litS, List.length_cons, List.length_nil, Nat.reduceAdd, Nat.reduceSub, List.replicate_succ, List.replicate_zero, List.cons_append, List.nil_append]
  repeat' first
    | refine awp_seq ?_
    | refine awp_block ?_
    | refine awp_skip ?_
    | (refine reg _ (by (simp only [List.map_cons, List.map_nil]; rfl)) rfl ?_; intro K hK)
    | (apply ev_guardU; (case hj | hu | hσ => (simp only [go_sem]; try rfl)))
    | ((first | refine awp_cond _ (by rfl) ?_ ?_ | refine ev_guardT _ _ (by (simp only [go_sem]; rfl)) (by (simp only [go_sem]; rfl)) ?_ ?_ | refine ev_guardF _ _ (by (simp only [go_sem]; rfl)) (by (simp only [go_sem]; rfl)) ?_ ?_) <;> (intro hb; first | (cases hb; done) | (have ht : true = true := hb; clear ht hb) | (have ht : false = false := hb; clear ht hb) | (simp only [hb]) | skip))
    | (refine awp_exit ?_; simp only [thenA, blockA, scopeA, reduceIte, RetQ, Nat.reduceEqDiff])
    | (refine awp_ret ?_; simp only [thenA, blockA, scopeA, RetQ])
    | (refine ev_nil (hK _ ?_); clear hK K)
    | (apply ev_step0; (case hr | hσ => (simp only [go_sem]; try rfl)); (case hc => exact hcA))
    | (apply ev_step; (case hr => (simp only [go_sem]; try rfl)); (case hσ => (intro g u; simp only [go_sem]; try rfl)); (case hc => exact hcA); intro g u; (try clear u); (try clear g))
    | fail
  all_goals (refine resR_oneA ?_; simp only [go_sem])
  exact LeA.refl _
theorem f43_col (l : List Bd) (c : Nat) (v : Vl) (hc : c < l.length) : Spec Tryd.prog 43 [.d (bds l), .agg (exA (.leaf 2 (c : Int) v))] (.agg (sp ⟨decide ((l.getD c zeroBd).nulls > 0), (l.getD c zeroBd).has, (l.getD c zeroBd).lo, (l.getD c zeroBd).hi⟩)) := by
  have hx := bds_at l hc
  generalize l.getD c zeroBd = b at *
  simp only [exA, opE, cE, vE, argsD]
  refine spec_of_awp (fn := Tryd.f43) Tryd.func43 (by kernel_rfl) rfl ?_
  intro w0 C0
  simp only [Tryd.ntmps43, litI, litB, litS, List.length_cons, List.length_nil, Nat.reduceAdd, Nat.reduceSub, List.replicate_succ, List.replicate_zero, List.cons_append, List.nil_append]
  repeat' first
    | refine awp_seq ?_
    | refine awp_block ?_
    | refine awp_skip ?_
    | (refine reg _ (by (simp only [List.map_cons, List.map_nil]; rfl)) rfl ?_; intro K hK)
    | (apply ev_guardU; (case hj | hu | hσ => (simp only [go_sem, hx]; try rfl)))
    | ((first | refine awp_cond _ (by rfl) ?_ ?_ | refine ev_guardT _ _ (by (simp only [go_sem, hx]; rfl)) (by (simp only [go_sem, hx]; rfl)) ?_ ?_ | refine ev_guardF _ _ (by (simp only [go_sem, hx]; rfl)) (by (simp only [go_sem, hx]; rfl)) ?_ ?_) <;> (intro hb; first | (cases hb; done) | (have ht : true = true := hb; clear ht hb) | (have ht : false = false := hb; clear ht hb) | (simp only [hb]) | skip))
    | (refine awp_exit ?_; simp only [thenA, blockA, scopeA, reduceIte, RetQ, Nat.reduceEqDiff])
    | (refine awp_ret ?_; simp only [thenA, blockA, scopeA, RetQ])
    | (refine ev_nil (hK _ ?_); clear hK K)
    | (apply ev_step0; (case hr | hσ => (simp only [go_sem, hx]; try rfl)); (case hc => exact hcA))
    | (apply ev_step; (case hr => (simp only [go_sem, hx]; try rfl)); (case hσ => (intro g u; simp only [go_sem, hx]; try rfl)); (case hc => exact hcA); intro g u; (try clear u); (try clear g))
    | fail
  all_goals (refine resR_oneA ?_; simp only [go_sem])
  exact LeA.refl _
abbrev zsp : List AV := [litB false, litB false, litI .i64 0, litI .i64 0, litS ⟨#[]⟩, litI .i64 0, litI .i64 0, litS ⟨#[]⟩]
def strictM (s t r : Sp) : Sp := if (s.has && t.has) = true then ⟨r.null || s.null || t.null, r.has, r.lo, r.hi⟩ else ⟨s.null || t.null, false, nullV, nullV⟩
def arrS (s t : Sp) (i : Nat) : List AV := match i with
  | 0 => zsp ++ zsp
  | 1 => sp s ++ zsp
  | _ => sp s ++ sp t
end
section
set_option linter.unusedVariables false
set_option linter.unusedSimpArgs false
open Go.RowKit
attribute [local irreducible] Spec SpecF SpecN
attribute [local irreducible] AWp evOps evD
set_option maxHeartbeats 4000000 in
theorem f43_op3 (B : Dat) (e1 e2 : Ex) (s t r : Sp) (h1 : Spec Tryd.prog 43 [.d B, .agg (exA e1)] (.agg (sp s))) (h2 : Spec Tryd.prog 43 [.d B, .agg (exA e2)] (.agg (sp t))) (hf : Spec Tryd.prog 110 [.agg (sp s), .agg (sp t)] (.agg (sp r))) : Spec Tryd.prog 43 [.d B, .agg (exA (.bi 3 e1 e2))] (.agg (sp (strictM s t r))) := by
  obtain ⟨sn, sh, slo, shi⟩ := s
  obtain ⟨tn, th, tlo, thi⟩ := t
  simp only [exA, opE_bi, cE_bi, vE_bi, argsD_bi] at h1 h2 ⊢
  refine spec_of_awp (fn := Tryd.f43) Tryd.func43 (by kernel_rfl) rfl ?_
  intro w0 C0
  simp only [Tryd.ntmps43, litI, litB, litS, List.length_cons, List.length_nil, Nat.reduceAdd, Nat.reduceSub, List.replicate_succ, List.replicate_zero, List.cons_append, List.nil_append]
  repeat' first
    | refine awp_seq ?_
    | refine awp_block ?_
    | refine awp_skip ?_
    | (refine reg _ (by (simp only [List.map_cons, List.map_nil]; rfl)) rfl ?_; intro K hK)
    | (apply ev_guardU; (case hj | hu | hσ => (simp only [go_sem, Int.reduceBEq]; try rfl)))
    | ((first | refine awp_cond _ (by rfl) ?_ ?_ | refine ev_guardT _ _ (by (simp only [go_sem, Int.reduceBEq]; rfl)) (by (simp only [go_sem, Int.reduceBEq]; rfl)) ?_ ?_ | refine ev_guardF _ _ (by (simp only [go_sem, Int.reduceBEq]; rfl)) (by (simp only [go_sem, Int.reduceBEq]; rfl)) ?_ ?_) <;> (intro hb; first | (cases hb; done) | (have ht : true = true := hb; clear ht hb) | (have ht : false = false := hb; clear ht hb) | (simp only [hb]) | skip))
    | (refine awp_exit ?_; simp only [thenA, blockA, scopeA, reduceIte, RetQ, Nat.reduceEqDiff])
    | (refine awp_ret ?_; simp only [thenA, blockA, scopeA, RetQ])
    | (refine ev_nil (hK _ ?_); clear hK K)
    | (apply ev_step0; (case hr | hσ => (simp only [go_sem, Int.reduceBEq]; try rfl)); (case hc => exact hcA))
    | (apply ev_step; (case hr => (simp only [go_sem, Int.reduceBEq]; try rfl)); (case hσ => (intro g u; simp only [go_sem, Int.reduceBEq]; try rfl)); (case hc => exact hcA); intro g u; (try clear u); (try clear g))
    | fail
  rename_i g3 g4
  revert g; intro g6
  refine awp_loopI (fun i : Nat => i ≤ 2) (fun i => 2 - i) (fun i => ⟨[.d B, .any, .any, .ptr 3 g3 0, .ptr 4 g4 0, .any, .ptr 6 g6 0, .any, .any, .any, .any, .any, .any, .any, .any, .any, .any, .any, .any, .any, .any, .any, .any, .any, .any, .any, .any, .any, .any, .any, .any, .any, .any, .any, .any, .any, .any, .any, .any, .d (.sl 6 [exD e1, exD e2]), litI .i64 2, litI .i64 i, .any, .any, .any, .any, .any, .any, .any, .any, .any, .any, .any, .any, .any, .any, .any, .any, .any, .any, .any, .any, .any, .any, .any, .any, .any, .any, .any, .any, .any, .any, .any, .any, .any, .any, .any, .any, .any, .any, .any, .any, .any, .any, .any, .any, .any, .any, .any, .any, .any, .any, .any, .any, .any, .any, .any], [.no, .no, .no, .box g3 (exA (.bi 3 e1 e2)), .box g4 zsp, .no, .box g6 (arrS ⟨sn, sh, slo, shi⟩ ⟨tn, th, tlo, thi⟩ i), .no, .no, .no, .no, .no, .no, .no, .no, .no, .no, .no, .no, .no, .no, .no, .no, .no, .no, .no, .no, .no, .no, .no, .no, .no, .no, .no, .no, .no, .no, .no, .no, .no, .no, .no, .no, .no, .no, .no, .no, .no, .no, .no, .no, .no, .no, .no, .no, .no, .no, .no, .no, .no, .no, .no, .no, .no, .no, .no, .no, .no, .no, .no, .no, .no, .no, .no, .no, .no, .no, .no, .no, .no, .no, .no, .no, .no, .no, .no, .no, .no, .no, .no, .no, .no, .no, .no, .no, .no, .no]⟩) 0 (by omega) ?_ ?_
  · simp only [arrS, exA, opE_bi, cE_bi, vE_bi, argsD_bi]
    exact wkA
  intro i hi
  simp only [litI, litB, litS] at hi h1 h2 hf ⊢
  obtain rfl | rfl | rfl : i = 0 ∨ i = 1 ∨ i = 2 := by omega
  · simp only [arrS, exA, opE_bi, cE_bi, vE_bi, argsD_bi, litI, litB, litS]
    have d1 : decide (((0 : Nat) : Int) < 2) = true := by decide
    repeat' first
      | refine awp_seq ?_
      | refine awp_block ?_
      | refine awp_skip ?_
      | (refine reg _ (by (simp only [List.map_cons, List.map_nil]; rfl)) rfl ?_; intro K hK)
      | (apply ev_guardU; (case hj | hu | hσ => (simp only [go_sem, d1, Int.reduceToNat]; try rfl)))
      | ((first | refine awp_cond _ (by rfl) ?_ ?_ | refine ev_guardT _ _ (by (simp only [go_sem, d1, Int.reduceToNat]; rfl)) (by (simp only [go_sem, d1, Int.reduceToNat]; rfl)) ?_ ?_ | refine ev_guardF _ _ (by (simp only [go_sem, d1, Int.reduceToNat]; rfl)) (by (simp only [go_sem, d1, Int.reduceToNat]; rfl)) ?_ ?_) <;> (intro hb; first | (cases hb; done) | (have ht : true = true := hb; clear ht hb) | (have ht : false = false := hb; clear ht hb) | (simp only [hb]) | skip))
      | (refine awp_exit ?_; simp only [thenA, blockA, scopeA, reduceIte, RetQ, Nat.reduceEqDiff])
      | (refine awp_ret ?_; simp only [thenA, blockA, scopeA, RetQ])
      | (refine ev_nil (hK _ ?_); clear hK K)
      | (apply ev_call0; (case hys => (simp only [go_sem, d1, Int.reduceToNat]; try rfl)); (case hs => first | exact h1 ..); (case hok | hσ => (simp only [go_sem, d1, Int.reduceToNat]; try rfl)))
      | (apply ev_callC; (case hf | hys => (simp only [go_sem, d1, Int.reduceToNat]; try rfl)); (case hs => first | exact h1 ..); (case hok | hσ => (simp only [go_sem, d1, Int.reduceToNat]; try rfl)))
      | (apply ev_step0; (case hr | hσ => (simp only [go_sem, d1, Int.reduceToNat]; try rfl)); (case hc => exact hcA))
      | (apply ev_step; (case hr => (simp only [go_sem, d1, Int.reduceToNat]; try rfl)); (case hσ => (intro g u; simp only [go_sem, d1, Int.reduceToNat]; try rfl)); (case hc => exact hcA); intro g u; (try clear u); (try clear g))
      | fail
    refine Exists.intro 1 ⟨by omega, by omega, ?_⟩
    simp only [arrS, exA, opE_bi, cE_bi, vE_bi, argsD_bi]
    exact wkA
  · simp only [arrS, exA, opE_bi, cE_bi, vE_bi, argsD_bi, litI, litB, litS]
    have d1 : decide (((1 : Nat) : Int) < 2) = true := by decide
    have w1 : IntKind.i64.wrap (((1 : Nat) : Int) + 1) = 2 := by decide
    repeat' first
      | refine awp_seq ?_
      | refine awp_block ?_
      | refine awp_skip ?_
      | (refine reg _ (by (simp only [List.map_cons, List.map_nil]; rfl)) rfl ?_; intro K hK)
      | (apply ev_guardU; (case hj | hu | hσ => (simp only [go_sem, d1, w1, Int.reduceToNat]; try rfl)))
      | ((first | refine awp_cond _ (by rfl) ?_ ?_ | refine ev_guardT _ _ (by (simp only [go_sem, d1, w1, Int.reduceToNat]; rfl)) (by (simp only [go_sem, d1, w1, Int.reduceToNat]; rfl)) ?_ ?_ | refine ev_guardF _ _ (by (simp only [go_sem, d1, w1, Int.reduceToNat]; rfl)) (by (simp only [go_sem, d1, w1, Int.reduceToNat]; rfl)) ?_ ?_) <;> (intro hb; first | (cases hb; done) | (have ht : true = true := hb; clear ht hb) | (have ht : false = false := hb; clear ht hb) | (simp only [hb]) | skip))
      | (refine awp_exit ?_; simp only [thenA, blockA, scopeA, reduceIte, RetQ, Nat.reduceEqDiff])
      | (refine awp_ret ?_; simp only [thenA, blockA, scopeA, RetQ])
      | (refine ev_nil (hK _ ?_); clear hK K)
      | (apply ev_call0; (case hys => (simp only [go_sem, d1, w1, Int.reduceToNat]; try rfl)); (case hs => first | exact h2 ..); (case hok | hσ => (simp only [go_sem, d1, w1, Int.reduceToNat]; try rfl)))
      | (apply ev_callC; (case hf | hys => (simp only [go_sem, d1, w1, Int.reduceToNat]; try rfl)); (case hs => first | exact h2 ..); (case hok | hσ => (simp only [go_sem, d1, w1, Int.reduceToNat]; try rfl)))
      | (apply ev_step0; (case hr | hσ => (simp only [go_sem, d1, w1, Int.reduceToNat]; try rfl)); (case hc => exact hcA))
      | (apply ev_step; (case hr => (simp only [go_sem, d1, w1, Int.reduceToNat]; try rfl)); (case hσ => (intro g u; simp only [go_sem, d1, w1, Int.reduceToNat]; try rfl)); (case hc => exact hcA); intro g u; (try clear u); (try clear g))
      | fail
    refine Exists.intro 2 ⟨by omega, by omega, ?_⟩
    simp only [arrS, exA, opE_bi, cE_bi, vE_bi, argsD_bi]
    exact wkA
  simp only [arrS, exA, opE_bi, cE_bi, vE_bi, argsD_bi, litI, litB, litS]
  have d1 : decide (((2 : Nat) : Int) < 2) = false := by decide
  unfold strictM
  cases sh with
  | false =>
    simp only [Bool.false_and, Bool.false_eq_true, if_false]
    cases sn <;> cases tn
    all_goals
      repeat' first
        | refine awp_seq ?_
        | refine awp_block ?_
        | refine awp_skip ?_
        | (refine reg _ (by (simp only [List.map_cons, List.map_nil]; rfl)) rfl ?_; intro K hK)
        | (apply ev_guardU; (case hj | hu | hσ => (simp only [go_sem, d1, Int.reduceToNat]; try rfl)))
        | ((first | refine awp_cond _ (by rfl) ?_ ?_ | refine ev_guardT _ _ (by (simp only [go_sem, d1, Int.reduceToNat]; rfl)) (by (simp only [go_sem, d1, Int.reduceToNat]; rfl)) ?_ ?_ | refine ev_guardF _ _ (by (simp only [go_sem, d1, Int.reduceToNat]; rfl)) (by (simp only [go_sem, d1, Int.reduceToNat]; rfl)) ?_ ?_) <;> (intro hb; first | (cases hb; done) | (have ht : true = true := hb; clear ht hb) | (have ht : false = false := hb; clear ht hb) | (simp only [hb]) | skip))
        | (refine awp_exit ?_; simp only [thenA, blockA, scopeA, reduceIte, RetQ, Nat.reduceEqDiff])
        | (refine awp_ret ?_; simp only [thenA, blockA, scopeA, RetQ])
        | (refine ev_nil (hK _ ?_); clear hK K)
        | (apply ev_step0; (case hr | hσ => (simp only [go_sem, d1, Int.reduceToNat]; try rfl)); (case hc => exact hcA))
        | (apply ev_step; (case hr => (simp only [go_sem, d1, Int.reduceToNat]; try rfl)); (case hσ => (intro g u; simp only [go_sem, d1, Int.reduceToNat]; try rfl)); (case hc => exact hcA); intro g u; (try clear u); (try clear g))
        | fail
      all_goals (refine resR_oneA ?_; simp only [go_sem])
      exact LeA.refl _
  | true =>
  cases th with
  | false =>
    simp only [Bool.and_false, Bool.false_eq_true, if_false]
    cases sn <;> cases tn
    all_goals
      repeat' first
        | refine awp_seq ?_
        | refine awp_block ?_
        | refine awp_skip ?_
        | (refine reg _ (by (simp only [List.map_cons, List.map_nil]; rfl)) rfl ?_; intro K hK)
        | (apply ev_guardU; (case hj | hu | hσ => (simp only [go_sem, d1, Int.reduceToNat]; try rfl)))
        | ((first | refine awp_cond _ (by rfl) ?_ ?_ | refine ev_guardT _ _ (by (simp only [go_sem, d1, Int.reduceToNat]; rfl)) (by (simp only [go_sem, d1, Int.reduceToNat]; rfl)) ?_ ?_ | refine ev_guardF _ _ (by (simp only [go_sem, d1, Int.reduceToNat]; rfl)) (by (simp only [go_sem, d1, Int.reduceToNat]; rfl)) ?_ ?_) <;> (intro hb; first | (cases hb; done) | (have ht : true = true := hb; clear ht hb) | (have ht : false = false := hb; clear ht hb) | (simp only [hb]) | skip))
        | (refine awp_exit ?_; simp only [thenA, blockA, scopeA, reduceIte, RetQ, Nat.reduceEqDiff])
        | (refine awp_ret ?_; simp only [thenA, blockA, scopeA, RetQ])
        | (refine ev_nil (hK _ ?_); clear hK K)
        | (apply ev_step0; (case hr | hσ => (simp only [go_sem, d1, Int.reduceToNat]; try rfl)); (case hc => exact hcA))
        | (apply ev_step; (case hr => (simp only [go_sem, d1, Int.reduceToNat]; try rfl)); (case hσ => (intro g u; simp only [go_sem, d1, Int.reduceToNat]; try rfl)); (case hc => exact hcA); intro g u; (try clear u); (try clear g))
        | fail
      all_goals (refine resR_oneA ?_; simp only [go_sem])
      exact LeA.refl _
  | true =>
    simp only [Bool.and_self, if_true]
    obtain ⟨rn, rh, rlo, rhi⟩ := r
    cases rn <;> cases sn <;> cases tn
    all_goals
      repeat' first
        | refine awp_seq ?_
        | refine awp_block ?_
        | refine awp_skip ?_
        | (refine reg _ (by (simp only [List.map_cons, List.map_nil]; rfl)) rfl ?_; intro K hK)
        | (apply ev_guardU; (case hj | hu | hσ => (simp only [go_sem, d1, Int.reduceToNat]; try rfl)))
        | ((first | refine awp_cond _ (by rfl) ?_ ?_ | refine ev_guardT _ _ (by (simp only [go_sem, d1, Int.reduceToNat]; rfl)) (by (simp only [go_sem, d1, Int.reduceToNat]; rfl)) ?_ ?_ | refine ev_guardF _ _ (by (simp only [go_sem, d1, Int.reduceToNat]; rfl)) (by (simp only [go_sem, d1, Int.reduceToNat]; rfl)) ?_ ?_) <;> (intro hb; first | (cases hb; done) | (have ht : true = true := hb; clear ht hb) | (have ht : false = false := hb; clear ht hb) | (simp only [hb]) | skip))
        | (refine awp_exit ?_; simp only [thenA, blockA, scopeA, reduceIte, RetQ, Nat.reduceEqDiff])
        | (refine awp_ret ?_; simp only [thenA, blockA, scopeA, RetQ])
        | (refine ev_nil (hK _ ?_); clear hK K)
        | (apply ev_call0; (case hys => (simp only [go_sem, d1, Int.reduceToNat]; try rfl)); (case hs => first | exact hf ..); (case hok | hσ => (simp only [go_sem, d1, Int.reduceToNat]; try rfl)))
        | (apply ev_callC; (case hf | hys => (simp only [go_sem, d1, Int.reduceToNat]; try rfl)); (case hs => first | exact hf ..); (case hok | hσ => (simp only [go_sem, d1, Int.reduceToNat]; try rfl)))
        | (apply ev_step0; (case hr | hσ => (simp only [go_sem, d1, Int.reduceToNat]; try rfl)); (case hc => exact hcA))
        | (apply ev_step; (case hr => (simp only [go_sem, d1, Int.reduceToNat]; try rfl)); (case hσ => (intro g u; simp only [go_sem, d1, Int.reduceToNat]; try rfl)); (case hc => exact hcA); intro g u; (try clear u); (try clear g))
        | fail
      all_goals (refine resR_oneA ?_; simp only [go_sem])
      exact LeA.refl _
end
section
set_option linter.unusedVariables false
set_option linter.unusedSimpArgs false
open Go.RowKit
attribute [local irreducible] Spec SpecF SpecN
attribute [local irreducible] AWp evOps evD
set_option maxHeartbeats 4000000 in
theorem f43_op4 (B : Dat) (e1 e2 : Ex) (s t r : Sp) (h1 : Spec Tryd.prog 43 [.d B, .agg (exA e1)] (.agg (sp s))) (h2 : Spec Tryd.prog 43 [.d B, .agg (exA e2)] (.agg (sp t))) (hf : Spec Tryd.prog 111 [.agg (sp s), .agg (sp t)] (.agg (sp r))) : Spec Tryd.prog 43 [.d B, .agg (exA (.bi 4 e1 e2))] (.agg (sp (strictM s t r))) := by
  obtain ⟨sn, sh, slo, shi⟩ := s
  obtain ⟨tn, th, tlo, thi⟩ := t
  simp only [exA, opE_bi, cE_bi, vE_bi, argsD_bi] at h1 h2 ⊢
  refine spec_of_awp (fn := Tryd.f43) Tryd.func43 (by kernel_rfl) rfl ?_
  intro w0 C0
  simp only [Tryd.ntmps43, litI, litB, litS, List.length_cons, List.length_nil, Nat.reduceAdd, Nat.reduceSub, List.replicate_succ, List.replicate_zero, List.cons_append, List.nil_append]
  repeat' first
    | refine awp_seq ?_
    | refine awp_block ?_
    | refine awp_skip ?_
    | (refine reg _ (by (simp only [List.map_cons, List.map_nil]; rfl)) rfl ?_; intro K hK)
    | (apply ev_guardU; (case hj | hu | hσ => (simp only [go_sem, Int.reduceBEq]; try rfl)))
    | ((first | refine awp_cond _ (by rfl) ?_ ?_ | refine ev_guardT _ _ (by (simp only [go_sem, Int.reduceBEq]; rfl)) (by (simp only [go_sem, Int.reduceBEq]; rfl)) ?_ ?_ | refine ev_guardF _ _ (by (simp only [go_sem, Int.reduceBEq]; rfl)) (by (simp only [go_sem, Int.reduceBEq]; rfl)) ?_ ?_) <;> (intro hb; first | (cases hb; done) | (have ht : true = true := hb; clear ht hb) | (have ht : false = false := hb; clear ht hb) | (simp only [hb]) | skip))
    | (refine awp_exit ?_; simp only [thenA, blockA, scopeA, reduceIte, RetQ, Nat.reduceEqDiff])
    | (refine awp_ret ?_; simp only [thenA, blockA, scopeA, RetQ])
    | (refine ev_nil (hK _ ?_); clear hK K)
    | (apply ev_step0; (case hr | hσ => (simp only [go_sem, Int.reduceBEq]; try rfl)); (case hc => exact hcA))
    | (apply ev_step; (case hr => (simp only [go_sem, Int.reduceBEq]; try rfl)); (case hσ => (intro g u; simp only [go_sem, Int.reduceBEq]; try rfl)); (case hc => exact hcA); intro g u; (try clear u); (try clear g))
    | fail
  rename_i g3 g4
  revert g; intro g6
  refine awp_loopI (fun i : Nat => i ≤ 2) (fun i => 2 - i) (fun i => ⟨[.d B, .any, .any, .ptr 3 g3 0, .ptr 4 g4 0, .any, .ptr 6 g6 0, .any, .any, .any, .any, .any, .any, .any, .any, .any, .any, .any, .any, .any, .any, .any, .any, .any, .any, .any, .any, .any, .any, .any, .any, .any, .any, .any, .any, .any, .any, .any, .any, .d (.sl 6 [exD e1, exD e2]), litI .i64 2, litI .i64 i, .any, .any, .any, .any, .any, .any, .any, .any, .any, .any, .any, .any, .any, .any, .any, .any, .any, .any, .any, .any, .any, .any, .any, .any, .any, .any, .any, .any, .any, .any, .any, .any, .any, .any, .any, .any, .any, .any, .any, .any, .any, .any, .any, .any, .any, .any, .any, .any, .any, .any, .any, .any, .any, .any, .any], [.no, .no, .no, .box g3 (exA (.bi 4 e1 e2)), .box g4 zsp, .no, .box g6 (arrS ⟨sn, sh, slo, shi⟩ ⟨tn, th, tlo, thi⟩ i), .no, .no, .no, .no, .no, .no, .no, .no, .no, .no, .no, .no, .no, .no, .no, .no, .no, .no, .no, .no, .no, .no, .no, .no, .no, .no, .no, .no, .no, .no, .no, .no, .no, .no, .no, .no, .no, .no, .no, .no, .no, .no, .no, .no, .no, .no, .no, .no, .no, .no, .no, .no, .no, .no, .no, .no, .no, .no, .no, .no, .no, .no, .no, .no, .no, .no, .no, .no, .no, .no, .no, .no, .no, .no, .no, .no, .no, .no, .no, .no, .no, .no, .no, .no, .no, .no, .no, .no, .no, .no]⟩) 0 (by omega) ?_ ?_
  · simp only [arrS, exA, opE_bi, cE_bi, vE_bi, argsD_bi]
    exact wkA
  intro i hi
  simp only [litI, litB, litS] at hi h1 h2 hf ⊢
  obtain rfl | rfl | rfl : i = 0 ∨ i = 1 ∨ i = 2 := by omega
  · simp only [arrS, exA, opE_bi, cE_bi, vE_bi, argsD_bi, litI, litB, litS]
    have d1 : decide (((0 : Nat) : Int) < 2) = true := by decide
    repeat' first
      | refine awp_seq ?_
      | refine awp_block ?_
      | refine awp_skip ?_
      | (refine reg _ (by (simp only [List.map_cons, List.map_nil]; rfl)) rfl ?_; intro K hK)
      | (apply ev_guardU; (case hj | hu | hσ => (simp only [go_sem, d1, Int.reduceToNat]; try rfl)))
      | ((first | refine awp_cond _ (by rfl) ?_ ?_ | refine ev_guardT _ _ (by (simp only [go_sem, d1, Int.reduceToNat]; rfl)) (by (simp only [go_sem, d1, Int.reduceToNat]; rfl)) ?_ ?_ | refine ev_guardF _ _ (by (simp only [go_sem, d1, Int.reduceToNat]; rfl)) (by (simp only [go_sem, d1, Int.reduceToNat]; rfl)) ?_ ?_) <;> (intro hb; first | (cases hb; done) | (have ht : true = true := hb; clear ht hb) | (have ht : false = false := hb; clear ht hb) | (simp only [hb]) | skip))
      | (refine awp_exit ?_; simp only [thenA, blockA, scopeA, reduceIte, RetQ, Nat.reduceEqDiff])
      | (refine awp_ret ?_; simp only [thenA, blockA, scopeA, RetQ])
      | (refine ev_nil (hK _ ?_); clear hK K)
      | (apply ev_call0; (case hys => (simp only [go_sem, d1, Int.reduceToNat]; try rfl)); (case hs => first | exact h1 ..); (case hok | hσ => (simp only [go_sem, d1, Int.reduceToNat]; try rfl)))
      | (apply ev_callC; (case hf | hys => (simp only [go_sem, d1, Int.reduceToNat]; try rfl)); (case hs => first | exact h1 ..); (case hok | hσ => (simp only [go_sem, d1, Int.reduceToNat]; try rfl)))
      | (apply ev_step0; (case hr | hσ => (simp only [go_sem, d1, Int.reduceToNat]; try rfl)); (case hc => exact hcA))
      | (apply ev_step; (case hr => (simp only [go_sem, d1, Int.reduceToNat]; try rfl)); (case hσ => (intro g u; simp only [go_sem, d1, Int.reduceToNat]; try rfl)); (case hc => exact hcA); intro g u; (try clear u); (try clear g))
      | fail
    refine Exists.intro 1 ⟨by omega, by omega, ?_⟩
    simp only [arrS, exA, opE_bi, cE_bi, vE_bi, argsD_bi]
    exact wkA
  · simp only [arrS, exA, opE_bi, cE_bi, vE_bi, argsD_bi, litI, litB, litS]
    have d1 : decide (((1 : Nat) : Int) < 2) = true := by decide
    have w1 : IntKind.i64.wrap (((1 : Nat) : Int) + 1) = 2 := by decide
    repeat' first
      | refine awp_seq ?_
      | refine awp_block ?_
      | refine awp_skip ?_
      | (refine reg _ (by (simp only [List.map_cons, List.map_nil]; rfl)) rfl ?_; intro K hK)
      | (apply ev_guardU; (case hj | hu | hσ => (simp only [go_sem, d1, w1, Int.reduceToNat]; try rfl)))
      | ((first | refine awp_cond _ (by rfl) ?_ ?_ | refine ev_guardT _ _ (by (simp only [go_sem, d1, w1, Int.reduceToNat]; rfl)) (by (simp only [go_sem, d1, w1, Int.reduceToNat]; rfl)) ?_ ?_ | refine ev_guardF _ _ (by (simp only [go_sem, d1, w1, Int.reduceToNat]; rfl)) (by (simp only [go_sem, d1, w1, Int.reduceToNat]; rfl)) ?_ ?_) <;> (intro hb; first | (cases hb; done) | (have ht : true = true := hb; clear ht hb) | (have ht : false = false := hb; clear ht hb) | (simp only [hb]) | skip))
      | (refine awp_exit ?_; simp only [thenA, blockA, scopeA, reduceIte, RetQ, Nat.reduceEqDiff])
      | (refine awp_ret ?_; simp only [thenA, blockA, scopeA, RetQ])
      | (refine ev_nil (hK _ ?_); clear hK K)
      | (apply ev_call0; (case hys => (simp only [go_sem, d1, w1, Int.reduceToNat]; try rfl)); (case hs => first | exact h2 ..); (case hok | hσ => (simp only [go_sem, d1, w1, Int.reduceToNat]; try rfl)))
      | (apply ev_callC; (case hf | hys => (simp only [go_sem, d1, w1, Int.reduceToNat]; try rfl)); (case hs => first | exact h2 ..); (case hok | hσ => (simp only [go_sem, d1, w1, Int.reduceToNat]; try rfl)))
      | (apply ev_step0; (case hr | hσ => (simp only [go_sem, d1, w1, Int.reduceToNat]; try rfl)); (case hc => exact hcA))
      | (apply ev_step; (case hr => (simp only [go_sem, d1, w1, Int.reduceToNat]; try rfl)); (case hσ => (intro g u; simp only [go_sem, d1, w1, Int.reduceToNat]; try rfl)); (case hc => exact hcA); intro g u; (try clear u); (try clear g))
      | fail
    refine Exists.intro 2 ⟨by omega, by omega, ?_⟩
    simp only [arrS, exA, opE_bi, cE_bi, vE_bi, argsD_bi]
    exact wkA
  simp only [arrS, exA, opE_bi, cE_bi, vE_bi, argsD_bi, litI, litB, litS]
  have d1 : decide (((2 : Nat) : Int) < 2) = false := by decide
  unfold strictM
  cases sh with
  | false =>
    simp only [Bool.false_and, Bool.false_eq_true, if_false]
    cases sn <;> cases tn
    all_goals
      repeat' first
        | refine awp_seq ?_
        | refine awp_block ?_
        | refine awp_skip ?_
        | (refine reg _ (by (simp only [List.map_cons, List.map_nil]; rfl)) rfl ?_; intro K hK)
        | (apply ev_guardU; (case hj | hu | hσ => (simp only [go_sem, d1, Int.reduceToNat]; try rfl)))
        | ((first | refine awp_cond _ (by rfl) ?_ ?_ | refine ev_guardT _ _ (by (simp only [go_sem, d1, Int.reduceToNat]; rfl)) (by (simp only [go_sem, d1, Int.reduceToNat]; rfl)) ?_ ?_ | refine ev_guardF _ _ (by (simp only [go_sem, d1, Int.reduceToNat]; rfl)) (by (simp only [go_sem, d1, Int.reduceToNat]; rfl)) ?_ ?_) <;> (intro hb; first | (cases hb; done) | (have ht : true = true := hb; clear ht hb) | (have ht : false = false := hb; clear ht hb) | (simp only [hb]) | skip))
        | (refine awp_exit ?_; simp only [thenA, blockA, scopeA, reduceIte, RetQ, Nat.reduceEqDiff])
        | (refine awp_ret ?_; simp only [thenA, blockA, scopeA, RetQ])
        | (refine ev_nil (hK _ ?_); clear hK K)
        | (apply ev_step0; (case hr | hσ => (simp only [go_sem, d1, Int.reduceToNat]; try rfl)); (case hc => exact hcA))
        | (apply ev_step; (case hr => (simp only [go_sem, d1, Int.reduceToNat]; try rfl)); (case hσ => (intro g u; simp only [go_sem, d1, Int.reduceToNat]; try rfl)); (case hc => exact hcA); intro g u; (try clear u); (try clear g))
        | fail
      all_goals (refine resR_oneA ?_; simp only [go_sem])
      exact LeA.refl _
  | true =>
  cases th with
  | false =>
    simp only [Bool.and_false, Bool.false_eq_true, if_false]
    cases sn <;> cases tn
    all_goals
      repeat' first
        | refine awp_seq ?_
        | refine awp_block ?_
        | refine awp_skip ?_
        | (refine reg _ (by (simp only [List.map_cons, List.map_nil]; rfl)) rfl ?_; intro K hK)
        | (apply ev_guardU; (case hj | hu | hσ => (simp only [go_sem, d1, Int.reduceToNat]; try rfl)))
        | ((first | refine awp_cond _ (by rfl) ?_ ?_ | refine ev_guardT _ _ (by (simp only [go_sem, d1, Int.reduceToNat]; rfl)) (by (simp only [go_sem, d1, Int.reduceToNat]; rfl)) ?_ ?_ | refine ev_guardF _ _ (by (simp only [go_sem, d1, Int.reduceToNat]; rfl)) (by (simp only [go_sem, d1, Int.reduceToNat]; rfl)) ?_ ?_) <;> (intro hb; first | (cases hb; done) | (have ht : true = true := hb; clear ht hb) | (have ht : false = false := hb; clear ht hb) | (simp only [hb]) | skip))
        | (refine awp_exit ?_; simp only [thenA, blockA, scopeA, reduceIte, RetQ, Nat.reduceEqDiff])
        | (refine awp_ret ?_; simp only [thenA, blockA, scopeA, RetQ])
        | (refine ev_nil (hK _ ?_); clear hK K)
        | (apply ev_step0; (case hr | hσ => (simp only [go_sem, d1, Int.reduceToNat]; try rfl)); (case hc => exact hcA))
        | (apply ev_step; (case hr => (simp only [go_sem, d1, Int.reduceToNat]; try rfl)); (case hσ => (intro g u; simp only [go_sem, d1, Int.reduceToNat]; try rfl)); (case hc => exact hcA); intro g u; (try clear u); (try clear g))
        | fail
      all_goals (refine resR_oneA ?_; simp only [go_sem])
      exact LeA.refl _
  | true =>
    simp only [Bool.and_self, if_true]
    obtain ⟨rn, rh, rlo, rhi⟩ := r
    cases rn <;> cases sn <;> cases tn
    all_goals
      repeat' first
        | refine awp_seq ?_
        | refine awp_block ?_
        | refine awp_skip ?_
        | (refine reg _ (by (simp only [List.map_cons, List.map_nil]; rfl)) rfl ?_; intro K hK)
        | (apply ev_guardU; (case hj | hu | hσ => (simp only [go_sem, d1, Int.reduceToNat]; try rfl)))
        | ((first | refine awp_cond _ (by rfl) ?_ ?_ | refine ev_guardT _ _ (by (simp only [go_sem, d1, Int.reduceToNat]; rfl)) (by (simp only [go_sem, d1, Int.reduceToNat]; rfl)) ?_ ?_ | refine ev_guardF _ _ (by (simp only [go_sem, d1, Int.reduceToNat]; rfl)) (by (simp only [go_sem, d1, Int.reduceToNat]; rfl)) ?_ ?_) <;> (intro hb; first | (cases hb; done) | (have ht : true = true := hb; clear ht hb) | (have ht : false = false := hb; clear ht hb) | (simp only [hb]) | skip))
        | (refine awp_exit ?_; simp only [thenA, blockA, scopeA, reduceIte, RetQ, Nat.reduceEqDiff])
        | (refine awp_ret ?_; simp only [thenA, blockA, scopeA, RetQ])
        | (refine ev_nil (hK _ ?_); clear hK K)
        | (apply ev_call0; (case hys => (simp only [go_sem, d1, Int.reduceToNat]; try rfl)); (case hs => first | exact hf ..); (case hok | hσ => (simp only [go_sem, d1, Int.reduceToNat]; try rfl)))
        | (apply ev_callC; (case hf | hys => (simp only [go_sem, d1, Int.reduceToNat]; try rfl)); (case hs => first | exact hf ..); (case hok | hσ => (simp only [go_sem, d1, Int.reduceToNat]; try rfl)))
        | (apply ev_step0; (case hr | hσ => (simp only [go_sem, d1, Int.reduceToNat]; try rfl)); (case hc => exact hcA))
        | (apply ev_step; (case hr => (simp only [go_sem, d1, Int.reduceToNat]; try rfl)); (case hσ => (intro g u; simp only [go_sem, d1, Int.reduceToNat]; try rfl)); (case hc => exact hcA); intro g u; (try clear u); (try clear g))
        | fail
      all_goals (refine resR_oneA ?_; simp only [go_sem])
      exact LeA.refl _
end
section
set_option linter.unusedVariables false
set_option linter.unusedSimpArgs false
open Go.RowKit
attribute [local irreducible] Spec SpecF SpecN
attribute [local irreducible] AWp evOps evD
theorem f31_spec (v : Vl) : Spec Tryd.prog 31 [.agg (vl v)] (.agg (exA (.leaf 1 0 v))) := by
  simp only [exA, opE, cE, vE, argsD]
  refine spec_of_awp (fn := Tryd.f31) Tryd.func31 (by kernel_rfl) rfl ?_
  intro w0 C0
  simp only [Tryd.ntmps31, litI, litB, litS, List.length_cons, List.length_nil, Nat.reduceAdd, Nat.reduceSub, List.replicate_succ, List.replicate_zero, List.cons_append, List.nil_append]
  repeat' first
    | refine awp_seq ?_
    | (refine reg _ (by (simp only [List.map_cons, List.map_nil]; rfl)) rfl ?_; intro K hK)
    | (refine awp_ret ?_; simp only [thenA, blockA, scopeA, RetQ])
    | (refine ev_nil (hK _ ?_); clear hK K)
    | (apply ev_step0; (case hr | hσ => (simp only [go_sem]; try rfl)); (case hc => exact hcA))
    | (apply ev_step; (case hr => (simp only [go_sem]; try rfl)); (case hσ => (intro g u; simp only [go_sem]; try rfl)); (case hc => exact hcA); intro g u; (try clear u); (try clear g))
    | fail
  all_goals (refine resR_oneA ?_; simp only [go_sem])
  exact LeA.refl _
theorem f32_spec : Spec Tryd.prog 32 [] (.agg (exA (.leaf 2 0 nullV))) := by
  simp only [exA, opE, cE, vE, argsD]
  refine spec_of_awp (fn := Tryd.f32) Tryd.func32 (by kernel_rfl) rfl ?_
  intro w0 C0
  simp only [Tryd.ntmps32, litI, litB, litS, List.length_cons, List.length_nil, Nat.reduceAdd, Nat.reduceSub, List.replicate_succ, List.replicate_zero, List.cons_append, List.nil_append]
  repeat' first
    | refine awp_seq ?_
    | (refine reg _ (by (simp only [List.map_cons, List.map_nil]; rfl)) rfl ?_; intro K hK)
    | (refine awp_ret ?_; simp only [thenA, blockA, scopeA, RetQ])
    | (refine ev_nil (hK _ ?_); clear hK K)
    | (apply ev_step0; (case hr | hσ => (simp only [go_sem]; try rfl)); (case hc => exact hcA))
    | (apply ev_step; (case hr => (simp only [go_sem]; try rfl)); (case hσ => (intro g u; simp only [go_sem]; try rfl)); (case hc => exact hcA); intro g u; (try clear u); (try clear g))
    | fail
  all_goals (refine resR_oneA ?_; simp only [go_sem])
  exact LeA.refl _
theorem f30_spec (op : Int) (a b : Ex) : Spec Tryd.prog 30 [litI .i64 op, .agg (exA a), .agg (exA b)] (.agg (exA (.bi op a b))) := by
  simp only [exA, opE_bi, cE_bi, vE_bi, argsD_bi]
  refine spec_of_awp (fn := Tryd.f30) Tryd.func30 (by kernel_rfl) rfl ?_
  intro w0 C0
  simp only [Tryd.ntmps30, litI, litB, litS, List.length_cons, List.length_nil, Nat.reduceAdd, Nat.reduceSub, List.replicate_succ, List.replicate_zero, List.cons_append, List.nil_append]
  repeat' first
    | refine awp_seq ?_
    | (refine reg _ (by (simp only [List.map_cons, List.map_nil]; rfl)) rfl ?_; intro K hK)
    | (refine awp_ret ?_; simp only [thenA, blockA, scopeA, RetQ])
    | (refine ev_nil (hK _ ?_); clear hK K)
    | (apply ev_step0; (case hr | hσ => (simp only [go_sem]; try rfl)); (case hc => exact hcA))
    | (apply ev_step; (case hr => (simp only [go_sem]; try rfl)); (case hσ => (intro g u; simp only [go_sem]; try rfl)); (case hc => exact hcA); intro g u; (try clear u); (try clear g))
    | fail
  all_goals (refine resR_oneA ?_; simp only [go_sem])
  exact LeA.refl _
theorem f49_one (e : Ex) (h : opE e ≠ 6) : SpecF Tryd.prog 49 [.agg (exA e)] 35 6 [exD e] := by
  have d1 : (opE e != 6) = true := by simpa using h
  simp only [exA, exD]
  refine specF_of_awp (fn := Tryd.f49) Tryd.func49 (by kernel_rfl) rfl ?_
  intro w0 C0
  simp only [Tryd.ntmps49, litI, litB, litS, List.length_cons, List.length_nil, Nat.reduceAdd, Nat.reduceSub, List.replicate_succ, List.replicate_zero, List.cons_append, List.nil_append]
  repeat' first
    | refine awp_seq ?_
    | refine awp_block ?_
    | refine awp_skip ?_
    | (refine reg _ (by (simp only [List.map_cons, List.map_nil]; rfl)) rfl ?_; intro K hK)
    | ((refine awp_cond _ (by rfl) ?_ ?_) <;> (intro hb; first | (cases hb; done) | (have ht : true = true := hb; clear ht hb) | (have ht : false = false := hb; clear ht hb) | (simp only [hb]) | skip))
    | (refine awp_exit ?_; simp only [thenA, blockA, scopeA, reduceIte, RetQ, Nat.reduceEqDiff])
    | (refine awp_ret ?_; simp only [thenA, blockA, scopeA, RetQ])
    | (refine ev_nil (hK _ ?_); clear hK K)
    | (apply ev_step0; (case hr | hσ => (simp only [go_sem, d1]; try rfl)); (case hc => exact hcA))
    | (apply ev_step; (case hr => (simp only [go_sem, d1]; try rfl)); (case hσ => (intro g u; simp only [go_sem, d1]; try rfl)); (case hc => exact hcA); intro g u; (try clear u); (try clear g))
    | fail
  exact resF_one T_ok rfl rfl rfl
theorem f49_and (a b : Ex) (ra rb : List (List Dat)) (ha : SpecF Tryd.prog 49 [.agg (exA a)] 35 6 ra) (hb : SpecF Tryd.prog 49 [.agg (exA b)] 35 6 rb) (hl : ra.length + rb.length ≤ 1000000) : SpecF Tryd.prog 49 [.agg (exA (.bi 6 a b))] 35 6 (ra ++ rb) := by
  simp only [exA, opE_bi, cE_bi, vE_bi, argsD_bi] at ha hb ⊢
  refine specF_of_awp (fn := Tryd.f49) Tryd.func49 (by kernel_rfl) rfl ?_
  intro w0 C0
  simp only [Tryd.ntmps49, litI, litB, litS, List.length_cons, List.length_nil, Nat.reduceAdd, Nat.reduceSub, List.replicate_succ, List.replicate_zero, List.cons_append, List.nil_append]
  repeat' first
    | refine awp_seq ?_
    | refine awp_block ?_
    | refine awp_skip ?_
    | (refine reg _ (by (simp only [List.map_cons, List.map_nil]; rfl)) rfl ?_; intro K hK)
    | ((refine awp_cond _ (by rfl) ?_ ?_) <;> (intro hb; first | (cases hb; done) | (have ht : true = true := hb; clear ht hb) | (have ht : false = false := hb; clear ht hb) | (simp only [hb]) | skip))
    | (refine awp_exit ?_; simp only [thenA, blockA, scopeA, reduceIte, RetQ, Nat.reduceEqDiff])
    | (refine awp_ret ?_; simp only [thenA, blockA, scopeA, RetQ])
    | (refine ev_nil (hK _ ?_); clear hK K)
    | (apply regD; (case hd => (simp only [List.map_cons, List.map_nil]; rfl)); (case hok => rfl); (case' h => (intro K hK; (repeat' first
        | (apply evd_nil; refine (hK _ ?_); clear hK K)
        | (apply evd_callF0; (case hi | hys => (simp only [go_sem, Int.reduceToNat]; try rfl)); (case hs => first | exact ha .. | exact hb ..); (case hok => (simp only [go_sem, Int.reduceToNat]; try rfl)); (case hd => simp); (case hw | hσ => (intro u; simp only [go_sem, Int.reduceToNat]; try rfl)); (case' hk => intro u))
        | (apply evd_step0; (case hr | hi | hσ => (simp only [go_sem, Int.reduceToNat]; try rfl)); (case hc => exact hcA))
        | (apply evd_step; (case hr | hi => (simp only [go_sem, Int.reduceToNat]; try rfl)); (case hc => exact hcA); (case hw | hσ => (intro g u; simp only [go_sem, Int.reduceToNat]; try rfl)); (case' hk => (intro g u; (try clear u); (try clear g))))
        | fail))); (case hB => kernel_rfl))
    | (apply ev_step0; (case hr | hσ => (simp only [go_sem, Int.reduceToNat]; try rfl)); (case hc => exact hcA))
    | (apply ev_step; (case hr => (simp only [go_sem, Int.reduceToNat]; try rfl)); (case hσ => (intro g u; simp only [go_sem, Int.reduceToNat]; try rfl)); (case hc => exact hcA); intro g u; (try clear u); (try clear g))
    | fail
  exact resF_one T_ok rfl rfl rfl
def conj : Ex → List Ex
  | .bi op a b => if op = 6 then conj a ++ conj b else [.bi op a b]
  | e => [e]
def okC : Ex → Prop
  | .leaf op _ _ => op ≠ 6
  | .un op _ => op ≠ 6
  | .bi op a b => op = 6 → okC a ∧ okC b
theorem f49_spec : ∀ (e : Ex), okC e → (conj e).length ≤ 1000000 → SpecF Tryd.prog 49 [.agg (exA e)] 35 6 ((conj e).map exD)
  | .leaf op c v, h, _ => f49_one (.leaf op c v) h
  | .un op a, h, _ => f49_one (.un op a) h
  | .bi op a b, h, hl => by
    unfold conj at hl ⊢
    by_cases h6 : op = 6
    · subst h6
      rw [if_pos rfl] at hl ⊢
      rw [List.length_append] at hl
      rw [List.map_append]
      have hh := h rfl
      exact f49_and a b _ _ (f49_spec a hh.1 (by omega)) (f49_spec b hh.2 (by omega)) (by rw [List.length_map, List.length_map]; exact hl)
    · rw [if_neg h6]
      exact f49_one (.bi op a b) h6
def truthsM (s : Sp) : List AV := [litB (noM s), litB (yesM s), litB s.null]
theorem f21_spec (B : Dat) (e : Ex) (s : Sp) (h : Spec Tryd.prog 43 [.d B, .agg (exA e)] (.agg (sp s))) : Spec Tryd.prog 21 [.d B, .agg (exA e)] (.agg (truthsM s)) := by
  have a1 := f44_spec s
  have a2 := f45_spec s
  unfold truthsM
  generalize noM s = n at *
  generalize yesM s = y at *
  simp only [exA] at h ⊢
  refine spec_of_awp (fn := Tryd.f21) Tryd.func21 (by kernel_rfl) rfl ?_
  intro w0 C0
  simp only [Tryd.ntmps21, litI, litB, litS, List.length_cons, List.length_nil, Nat.reduceAdd, Nat.reduceSub, List.replicate_succ, List.replicate_zero, List.cons_append, List.nil_append]
  repeat' first
    | refine awp_seq ?_
    | (refine reg _ (by (simp only [List.map_cons, List.map_nil]; rfl)) rfl ?_; intro K hK)
    | (refine awp_ret ?_; simp only [thenA, blockA, scopeA, RetQ])
    | (refine ev_nil (hK _ ?_); clear hK K)
    | (apply ev_call0; (case hys => (simp only [go_sem]; try rfl)); (case hs => first | exact h .. | exact a1 .. | exact a2 ..); (case hok | hσ => (simp only [go_sem]; try rfl)))
    | (apply regD; (case hd => (simp only [List.map_cons, List.map_nil]; rfl)); (case hok => rfl); (case' h => (intro K hK; (repeat' first
        | (apply evd_nil; refine (hK _ ?_); clear hK K)
        | (apply evd_call0; (case hi | hys => (simp only [go_sem]; try rfl)); (case hs => first | exact h .. | exact a1 .. | exact a2 ..); (case hok | hw | hσ => (simp only [go_sem]; try rfl)))
        | (apply evd_step0; (case hr | hi | hσ => (simp only [go_sem]; try rfl)); (case hc => exact hcA))
        | (apply evd_step; (case hr | hi => (simp only [go_sem]; try rfl)); (case hc => exact hcA); (case hw | hσ => (intro g u; simp only [go_sem]; try rfl)); (case' hk => (intro g u; (try clear u); (try clear g))))
        | fail))); (case hB => kernel_rfl))
    | (apply ev_step0; (case hr | hσ => (simp only [go_sem]; try rfl)); (case hc => exact hcA))
    | (apply ev_step; (case hr => (simp only [go_sem]; try rfl)); (case hσ => (intro g u; simp only [go_sem]; try rfl)); (case hc => exact hcA); intro g u; (try clear u); (try clear g))
    | fail
  all_goals (refine resR_oneA ?_; simp only [go_sem])
  exact LeA.refl _
def neverM (F : Ex → Sp) : List Ex → Bool
  | [] => false
  | e :: l => if yesM (F e) = true then neverM F l else true
theorem exs_at (l : List Ex) {i : Nat} (h : i < l.length) : (l.map exD).getD i [] = exD (l.getD i (.leaf 0 0 nullV)) := by
  simp [List.getD_eq_getElem?_getD, h]
theorem f23_spec (B : Dat) (e : Ex) (l : List Ex) (F : Ex → Sp) (hF : ∀ p ∈ l, Spec Tryd.prog 43 [.d B, .agg (exA p)] (.agg (sp (F p)))) (h49 : SpecF Tryd.prog 49 [.agg (exA e)] 35 6 (l.map exD)) (hl : l.length ≤ 1000000) : Spec Tryd.prog 23 [.d B, .agg (exA e)] (litB (neverM F l)) := by
  simp only [exA] at h49 ⊢
  refine spec_of_awp (fn := Tryd.f23) Tryd.func23 (by kernel_rfl) rfl ?_
  intro w0 C0
  simp only [Tryd.ntmps23, litI, litB, litS, List.length_cons, List.length_nil, Nat.reduceAdd, Nat.reduceSub, List.replicate_succ, List.replicate_zero, List.cons_append, List.nil_append]
  repeat' first
    | refine awp_seq ?_
    | refine awp_block ?_
    | refine awp_skip ?_
    | (refine reg _ (by (simp only [List.map_cons, List.map_nil]; rfl)) rfl ?_; intro K hK)
    | ((refine awp_cond _ (by rfl) ?_ ?_) <;> (intro hb; first | (cases hb; done) | (have ht : true = true := hb; clear ht hb) | (have ht : false = false := hb; clear ht hb) | (simp only [hb]) | skip))
    | (refine awp_exit ?_; simp only [thenA, blockA, scopeA, reduceIte, RetQ, Nat.reduceEqDiff])
    | (refine awp_ret ?_; simp only [thenA, blockA, scopeA, RetQ])
    | (refine ev_nil (hK _ ?_); clear hK K)
    | (apply ev_callF0; (case hys => (simp only [go_sem]; try rfl)); (case hs => first | exact h49 ..); (case hok => (simp only [go_sem]; try rfl)); (case hd => simp); (case hσ => (intro u; simp only [go_sem]; try rfl)); intro u)
    | (apply ev_step0; (case hr | hσ => (simp only [go_sem]; try rfl)); (case hc => exact hcA))
    | (apply ev_step; (case hr => (simp only [go_sem]; try rfl)); (case hσ => (intro g u; simp only [go_sem]; try rfl)); (case hc => exact hcA); intro g u; (try clear u); (try clear g))
    | fail
  refine awp_loopI (fun i : Nat => i ≤ l.length ∧ neverM F l = neverM F (l.drop i)) (fun i => l.length - i) (fun i => ⟨[.d B, .any, .any, .any, litB false, .any, .any, .any, .own 8 u, litI .i64 l.length, litI .i64 i, .any, .any, .any, .any, .any, .any, .any, .any, .any], [.no, .no, .no, .no, .no, .no, .no, .no, .row u 35 6 (l.map exD), .no, .no, .no, .no, .no, .no, .no, .no, .no, .no, .no]⟩) 0 ⟨by omega, rfl⟩ ?_ ?_
  · exact wkA
  rintro i ⟨hi, hfi⟩
  simp only [litI, litB] at hi hfi ⊢
  by_cases hlt : i < l.length
  rotate_left
  have hdec : decide ((i : Int) < (l.length : Int)) = false := by simp; omega
  · repeat' first
      | refine awp_seq ?_
      | refine awp_block ?_
      | refine awp_skip ?_
      | (refine reg _ (by (simp only [List.map_cons, List.map_nil]; rfl)) rfl ?_; intro K hK)
      | ((refine awp_cond _ (by rfl) ?_ ?_) <;> (intro hb; first | (cases hb; done) | (have ht : true = true := hb; clear ht hb) | (have ht : false = false := hb; clear ht hb) | (simp only [hb]) | skip))
      | (refine awp_exit ?_; simp only [thenA, blockA, scopeA, reduceIte, RetQ, Nat.reduceEqDiff])
      | (refine awp_ret ?_; simp only [thenA, blockA, scopeA, RetQ])
      | (refine ev_nil (hK _ ?_); clear hK K)
      | (apply ev_step0; (case hr | hσ => (simp only [go_sem, hdec]; try rfl)); (case hc => exact hcA))
      | (apply ev_step; (case hr => (simp only [go_sem, hdec]; try rfl)); (case hσ => (intro g u; simp only [go_sem, hdec]; try rfl)); (case hc => exact hcA); intro g u; (try clear u); (try clear g))
      | fail
    all_goals (refine resR_oneA ?_; simp only [go_sem])
    refine LeA.b ?_
    rw [hfi, List.drop_eq_nil_of_le (by omega)]; rfl
  have hdec : decide ((i : Int) < (l.length : Int)) = true := by simp; omega
  have hx := exs_at l hlt
  have hm := hF _ (mem_at l (.leaf 0 0 nullV) hlt)
  rw [drop_at l (.leaf 0 0 nullV) hlt, neverM] at hfi
  generalize l.getD i (.leaf 0 0 nullV) = p at *
  have a2 := f45_spec (F p)
  generalize F p = s at *
  simp only [exA] at hm
  cases hy : yesM s with
  | true =>
    rw [hy] at a2
    rw [hy, if_pos rfl] at hfi
    repeat' first
      | refine awp_seq ?_
      | refine awp_block ?_
      | refine awp_skip ?_
      | (refine reg _ (by (simp only [List.map_cons, List.map_nil]; rfl)) rfl ?_; intro K hK)
      | ((refine awp_cond _ (by rfl) ?_ ?_) <;> (intro hb; first | (cases hb; done) | (have ht : true = true := hb; clear ht hb) | (have ht : false = false := hb; clear ht hb) | (simp only [hb]) | skip))
      | (refine awp_exit ?_; simp only [thenA, blockA, scopeA, reduceIte, RetQ, Nat.reduceEqDiff])
      | (refine awp_ret ?_; simp only [thenA, blockA, scopeA, RetQ])
      | (refine ev_nil (hK _ ?_); clear hK K)
      | (apply ev_call0; (case hys => (simp only [go_sem, hdec, hx]; try rfl)); (case hs => first | exact hm .. | exact a2 ..); (case hok | hσ => (simp only [go_sem, hdec, hx]; try rfl)))
      | (apply ev_step0; (case hr | hσ => (simp only [go_sem, hdec, hx]; try rfl)); (case hc => exact hcA))
      | (apply ev_step; (case hr => (simp only [go_sem, hdec, hx]; try rfl)); (case hσ => (intro g u; simp only [go_sem, hdec, hx]; try rfl)); (case hc => exact hcA); intro g u; (try clear u); (try clear g))
      | fail
    refine Exists.intro (i + 1) ⟨⟨by omega, hfi⟩, by omega, ?_⟩
    exact wkA
  | false =>
    rw [hy] at a2
    rw [hy, if_neg Bool.false_ne_true] at hfi
    repeat' first
      | refine awp_seq ?_
      | refine awp_block ?_
      | refine awp_skip ?_
      | (refine reg _ (by (simp only [List.map_cons, List.map_nil]; rfl)) rfl ?_; intro K hK)
      | ((refine awp_cond _ (by rfl) ?_ ?_) <;> (intro hb; first | (cases hb; done) | (have ht : true = true := hb; clear ht hb) | (have ht : false = false := hb; clear ht hb) | (simp only [hb]) | skip))
      | (refine awp_exit ?_; simp only [thenA, blockA, scopeA, reduceIte, RetQ, Nat.reduceEqDiff])
      | (refine awp_ret ?_; simp only [thenA, blockA, scopeA, RetQ])
      | (refine ev_nil (hK _ ?_); clear hK K)
      | (apply ev_call0; (case hys => (simp only [go_sem, hdec, hx]; try rfl)); (case hs => first | exact hm .. | exact a2 ..); (case hok | hσ => (simp only [go_sem, hdec, hx]; try rfl)))
      | (apply ev_step0; (case hr | hσ => (simp only [go_sem, hdec, hx]; try rfl)); (case hc => exact hcA))
      | (apply ev_step; (case hr => (simp only [go_sem, hdec, hx]; try rfl)); (case hσ => (intro g u; simp only [go_sem, hdec, hx]; try rfl)); (case hc => exact hcA); intro g u; (try clear u); (try clear g))
      | fail
    all_goals (refine resR_oneA ?_; simp only [go_sem])
    rw [hfi]
    exact LeA.refl _
end
section
set_option linter.unusedVariables false
set_option linter.unusedSimpArgs false
open Go.RowKit
abbrev numV (n : Int) : Vl := ⟨2, n, ⟨#[]⟩⟩
abbrev noStr : Vl := ⟨3, 0, ⟨#[]⟩⟩
theorem noS_e : noS ⟨#[]⟩ = true := beq_self_eq_true _
theorem graphic_e : graphicB ⟨#[]⟩ = true := rfl
theorem wide_num (n : Int) : wideV (numV n) = small n := by
  have h : checkV (numV n) 4000000000000000000 = (decide (n ≥ -4000000000000000000) && decide (n ≤ 4000000000000000000) && noS ⟨#[]⟩) := by
    unfold checkV
    rw [if_neg (show ¬ (2 : Int) = 0 by decide), if_neg (show ¬ (2 : Int) = 1 by decide), if_pos rfl]
  rw [wideV, h, noS_e, Bool.and_true]; rfl
theorem wide_null : wideV nullV = true := by
  have h : checkV nullV 4000000000000000000 = ((0 : Int) == 0 && noS ⟨#[]⟩) := by
    unfold checkV
    rw [if_pos rfl]
  rw [wideV, h, noS_e]; rfl
theorem wide_str : wideV noStr = true := by
  have h : checkV noStr 4000000000000000000 = ((0 : Int) == 0 && decide (((⟨#[]⟩ : ByteArray).size : Int) ≤ 40) && graphicB ⟨#[]⟩) := by
    unfold checkV
    rw [if_neg (by decide), if_neg (by decide), if_neg (by decide), if_pos rfl]
  rw [wideV, h, graphic_e]; rfl
theorem null_num (n : Int) : isNull (numV n) = false := rfl
theorem null_null : isNull nullV = true := by
  show ((0 : Int) == 0 && ((0 : Int) == 0 && noS ⟨#[]⟩)) = true
  rw [noS_e]; rfl
theorem null_str : isNull noStr = false := rfl
theorem cmp_num (a b : Int) : cmpV (numV a) (numV b) = cmpI a b := by
  simp only [cmpV, cmpI_self, cmpB_self, firstNZ, if_true]
  split
  · rename_i h; exact h.symm
  · rfl
abbrev wantB : Bd := ⟨1, true, numV (-1500000), numV 3000000, 1500000⟩
theorem small_c {n : Int} (h : (decide (-4000000000000000000 ≤ n) && decide (n ≤ 4000000000000000000)) = true) : small n = true := h
theorem of_null (b : Bd) (l : List Vl) : ofS b (nullV :: l) = ofS ⟨b.nulls + 1, b.has, b.lo, b.hi, b.sum⟩ l := by
  have h1 : badV b nullV = false := by
    unfold badV
    rw [wide_null, null_null]; rfl
  rw [ofS, h1, if_neg Bool.false_ne_true, if_pos null_null]
theorem of_first (k s : Int) (x y v : Vl) (l : List Vl) (hw : wideV v = true) (hn : isNull v = false) : ofS ⟨k, false, x, y, s⟩ (v :: l) = ofS ⟨k, true, v, v, s⟩ l := by
  have h1 : badV ⟨k, false, x, y, s⟩ v = false := by
    unfold badV
    rw [hw, hn]; rfl
  have h2 : ofIn ⟨k, false, x, y, s⟩ v = ⟨k, true, v, v, s⟩ := by
    simp [ofIn, startV, lowV, highV, cmpV_self]
  rw [ofS, h1, if_neg Bool.false_ne_true, hn, if_neg Bool.false_ne_true, h2]
theorem of_num (k s a b n : Int) (l : List Vl) (hs : small n = true) : ofS ⟨k, true, numV a, numV b, s⟩ (numV n :: l) = ofS ⟨k, true, if cmpI n a < 0 then numV n else numV a, if cmpI n b > 0 then numV n else numV b, s⟩ l := by
  have h1 : badV ⟨k, true, numV a, numV b, s⟩ (numV n) = false := by
    unfold badV
    rw [wide_num, hs]; rfl
  have h2 : ofIn ⟨k, true, numV a, numV b, s⟩ (numV n) = ⟨k, true, if cmpI n a < 0 then numV n else numV a, if cmpI n b > 0 then numV n else numV b, s⟩ := by
    simp only [ofIn, startV, if_true, lowV, highV, cmp_num]
    by_cases c1 : cmpI n a < 0
    · simp only [c1, if_true, cmp_num]
      by_cases c2 : cmpI n b > 0 <;> simp only [c2, if_true, if_false]
    · simp only [c1, if_false, cmp_num]
      by_cases c2 : cmpI n b > 0 <;> simp only [c2, if_true, if_false]
  rw [ofS, h1, if_neg Bool.false_ne_true, null_num, if_neg Bool.false_ne_true, h2]
theorem ex1 : ofM [numV 3000000, nullV, numV (-1500000)] = (wantB, 0) := by
  have e1 : numsV [numV 3000000, nullV, numV (-1500000)] = [3000000, -1500000] := rfl
  have e2 : sumD [3000000, -1500000] = (1500000, 0) := rfl
  have e3 : ofS zeroBd [numV 3000000, nullV, numV (-1500000)] = some ⟨1, true, numV (-1500000), numV 3000000, 0⟩ := by
    rw [of_first _ _ _ _ _ _ (by rw [wide_num]; rfl) rfl, of_null, of_num _ _ _ _ _ _ rfl]
    rfl
  unfold ofM
  rw [e3, e1, e2]; rfl
theorem ex2 : ofM [numV 1000000, noStr] = (zeroBd, 6) := by
  have e3 : ofS zeroBd [numV 1000000, noStr] = none := by
    rw [of_first _ _ _ _ _ _ (by rw [wide_num]; rfl) rfl, ofS]
    simp only [badV, wide_str, null_str]
    rfl
  unfold ofM
  rw [e3]
theorem ex3 : ofM [numV 9000000] = (⟨0, true, numV 9000000, numV 9000000, 9000000⟩, 0) := by
  have e1 : numsV [numV 9000000] = [9000000] := rfl
  have e2 : sumD [9000000] = (9000000, 0) := rfl
  have e3 : ofS zeroBd [numV 9000000] = some ⟨0, true, numV 9000000, numV 9000000, 0⟩ := by
    rw [of_first _ _ _ _ _ _ (by rw [wide_num]; rfl) rfl, ofS]
  unfold ofM
  rw [e3, e1, e2]; rfl
theorem ex4 : ofM [noStr] = (⟨0, true, noStr, noStr, 0⟩, 0) := by
  have e1 : numsV [noStr] = [] := rfl
  have e2 : sumD [] = (0, 0) := rfl
  have e3 : ofS zeroBd [noStr] = some ⟨0, true, noStr, noStr, 0⟩ := by
    rw [of_first _ _ _ _ _ _ wide_str rfl, ofS]
  unfold ofM
  rw [e3, e1, e2]; rfl
theorem ex5 : ofM [numV 4000000000000000000, numV 1] = (zeroBd, 2) := by
  have e1 : numsV [numV 4000000000000000000, numV 1] = [4000000000000000000, 1] := rfl
  have e2 : sumD [4000000000000000000, 1] = (0, 2) := rfl
  have e3 : ofS zeroBd [numV 4000000000000000000, numV 1] = some ⟨0, true, numV 1, numV 4000000000000000000, 0⟩ := by
    rw [of_first _ _ _ _ _ _ (by rw [wide_num]; rfl) rfl, of_num _ _ _ _ _ _ rfl]
    rfl
  unfold ofM
  rw [e3, e1, e2]; rfl
theorem ex6 : ofM [] = (zeroBd, 0) := rfl
theorem valid_num {n lo hi s : Int} (hn : (decide (0 ≤ n) && decide (n ≤ 4000000000000000000) && small s && small lo && small hi && decide (cmpI lo hi ≤ 0)) = true) : validB ⟨n, true, numV lo, numV hi, s⟩ = true := by
  simp only [Bool.and_eq_true, decide_eq_true_eq] at hn
  obtain ⟨⟨⟨⟨⟨h1, h2⟩, h3⟩, h4⟩, h5⟩, h6⟩ := hn
  have h3' := small_iff.1 h3
  unfold validB
  simp only [wide_num, null_num, cmp_num, h4, h5]
  rw [if_neg (by rw [decide_eq_true_eq]; omega), if_neg (by rw [decide_eq_true_eq]; omega), if_neg (by rw [decide_eq_true_eq]; omega), if_neg (by rw [decide_eq_true_eq]; omega), if_neg (by decide), if_neg (by decide), if_neg (by decide), if_neg (by decide), if_neg (by decide), if_neg (by rw [decide_eq_true h6]; decide)]
  rfl
theorem valid_want : validB wantB = true := valid_num rfl
theorem valid_odd : validB ⟨0, true, nullV, nullV, 0⟩ = false := by
  unfold validB
  simp only [wide_null, null_null]
  rfl
theorem valid_str : validB ⟨0, true, noStr, noStr, 0⟩ = true := by
  unfold validB
  simp only [wide_str, null_str, cmpV_self]
  rfl
theorem in_null : containsB wantB nullV = true := by
  unfold containsB
  rw [valid_want, wide_null, null_null]; rfl
theorem in_num (n : Int) (h : small n = true) : containsB wantB (numV n) = (decide (cmpI (-1500000) n ≤ 0) && decide (cmpI n 3000000 ≤ 0)) := by
  unfold containsB
  rw [valid_want, wide_num, null_num, h]
  simp only [cmp_num]
  cases decide (cmpI (-1500000) n ≤ 0) <;> rfl
theorem merge1 : mergeM wantB ⟨0, true, numV 9000000, numV 9000000, 9000000⟩ = (⟨1, true, numV (-1500000), numV 9000000, 10500000⟩, 0) := by
  have e : validB ⟨0, true, numV 9000000, numV 9000000, 9000000⟩ = true := valid_num rfl
  unfold mergeM
  rw [valid_want, e]
  simp only [cmp_num]
  rfl
theorem merge2 : mergeM wantB ⟨0, true, noStr, noStr, 0⟩ = (zeroBd, 6) := by
  unfold mergeM
  rw [valid_want, valid_str]
  rfl
abbrev colSp : Sp := ⟨true, true, numV (-1500000), numV 3000000⟩
abbrev numSp (n : Int) : Sp := ⟨false, true, numV n, numV n⟩
theorem eqVl_self (v : Vl) : eqVl v v = true := by simp [eqVl]
theorem eqVl_num (a b : Int) : eqVl (numV a) (numV b) = (a == b) := by
  simp [eqVl]
theorem bool_eq (a b : Bool) : eqVl (boolV a) (boolV b) = (a == b) := by
  cases a <;> cases b <;> simp [eqVl, boolV]
theorem yes1 : yesM (strictM (numSp 3000000) colSp (lessM (numSp 3000000) colSp)) = false := by
  simp only [strictM, lessM, cmp_num, yesM, truthM]
  exact (bool_eq false true)
theorem yes2 : yesM (strictM colSp (numSp 4000000) (equalM colSp (numSp 4000000))) = false := by
  simp only [strictM, equalM, apartM, cmp_num, eqVl_num, yesM, truthM]
  exact (bool_eq false true)
theorem yes3 : truthsM (strictM colSp (numSp 0) (equalM colSp (numSp 0))) = [litB true, litB true, litB true] := by
  have h1 : yesM (strictM colSp (numSp 0) (equalM colSp (numSp 0))) = true := by
    simp only [strictM, equalM, apartM, cmp_num, eqVl_num, yesM, truthM]
    exact (bool_eq true true)
  have h2 : noM (strictM colSp (numSp 0) (equalM colSp (numSp 0))) = true := by
    simp only [strictM, equalM, apartM, cmp_num, eqVl_num, noM, truthM]
    exact (bool_eq false false)
  unfold truthsM
  rw [h1, h2]; rfl
theorem yes4 : yesM (strictM colSp (numSp 0) (equalM colSp (numSp 0))) = true := by
  simp only [strictM, equalM, apartM, cmp_num, eqVl_num, yesM, truthM]
  exact (bool_eq true true)
end
end Go.Proofs.YtopigomfhggkoaaDoor.A
