/- Bounds of values in the reference: the walk of OfIn. Ranges: the other operators: the walks. Ranges: prefixes: the walks. Ranges of typed expressions: the plain law. Ranges of expressions: operator 5. (Written by mk11.py.) Ranges of expressions: operator 10. (Written by mk11.py.) Ranges of expressions: operator 11. (Written by mk11.py.) Ranges of expressions: operator 12. (Written by mk11.py.) Ranges of expressions: operator 6. (Written by mk11.py.) Ranges of expressions: operator 7. (Written by mk11.py.) Ranges of expressions: operators with one argument. (Written by mk11.py.) Ranges of typed expressions: the walk, and that wider bounds give wider ranges. Bounds of columns; which ones suit a condition: the walks. -/
import Derived.Test.YtopigomfhggkoaaDoorXY3
namespace Go.Proofs.YtopigomfhggkoaaDoor.A
section
set_option linter.unusedVariables false
set_option linter.unusedSimpArgs false
open Go.RowKit
attribute [local irreducible] Spec SpecF SpecN
attribute [local irreducible] AWp evOps evD
set_option maxHeartbeats 16000000 in
theorem f13_spec (l : List Vl) (hv : ∀ v ∈ l, VlOk v) (hl : l.length ≤ 16777216) : Spec Tryd.prog 13 [.d (vls l)] (.agg (got (ofM l))) := by
  have hnl := numsV_len l
  have h38 := f38_spec (numsV l) (by omega)
  refine spec_of_awp (fn := Tryd.f13) Tryd.func13 (by kernel_rfl) rfl ?_
  intro w0 C0
  simp only [Tryd.ntmps13, litI, litB, litS, List.length_cons, List.length_nil, Nat.reduceAdd, Nat.reduceSub, List.replicate_succ, List.replicate_zero, List.cons_append, List.nil_append]
  repeat' first
    | refine awp_seq ?_
    | refine awp_block ?_
    | refine awp_skip ?_
    | (refine reg _ (by (simp only [List.map_cons, List.map_nil]; rfl)) rfl ?_; intro K hK)
    | (apply ev_guardU; (case hj | hu | hσ => (simp only [go_sem]; try rfl)))
    | ((first | refine awp_cond _ (by rfl) ?_ ?_ | refine ev_guardT _ _ (by (simp only [go_sem]; rfl)) (by (simp only [go_sem]; rfl)) ?_ ?_ | refine ev_guardF _ _ (by (simp only [go_sem]; rfl)) (by (simp only [go_sem]; rfl)) ?_ ?_) <;> (intro hb; first | (cases hb; done) | (have ht : true = true := hb; clear ht hb) | (have ht : false = false := hb; clear ht hb) | (simp only [hb]) | skip))
    | (refine awp_exit ?_; simp only [thenA, blockA, scopeA, reduceIte, RetQ, Nat.reduceEqDiff])
    | (refine awp_ret ?_; simp only [thenA, blockA, scopeA, RetQ])
    | (refine ev_nil (hK _ ?_); clear hK K)
    | (apply ev_step0; (case hr | hσ => (simp only [go_sem]; try rfl)); (case hc => exact hcA))
    | (apply ev_step; (case hr => (simp only [go_sem]; try rfl)); (case hσ => (intro g u; simp only [go_sem]; try rfl)); (case hc => exact hcA); intro g u; (try clear u); (try clear g))
    | fail
  rename_i g2
  revert g; intro g3
  refine awp_loopI (fun j : Nat × (Bd × Value) => j.1 ≤ l.length ∧ ofS j.2.1 (l.drop j.1) = ofS zeroBd l ∧ (0 ≤ j.2.1.nulls ∧ j.2.1.nulls ≤ j.1) ∧ j.2.1.sum = 0 ∧ VlOk j.2.1.lo ∧ VlOk j.2.1.hi) (fun j => l.length - j.1) (fun j => ⟨[.d (vls l), .any, .ptr 2 g2 0, .ptr 3 g3 0, .own 9 j.2.2, litI .i64 (j.1 : Int), .any, .any, .any, .any, .any, .any, .any, .any, .any, .any, .any, .any, .any, .any, .any, .any, .any, .any, .any, .any, .any, .any, .any, .any, .any, .any, .any, .any, .any, .any, .any, .any, .any, .any, .any, .any, .any, .any, .any, .any, .any, .any, .any, .any, .any, .any, .any, .any, .any, .any, .any, .any, .any, .any, .any, .any, .any, .any, .any, .any, .any, .any, .any, .any, .any, .any, .any, .any, .any, .any, .any, .any, .any, .any, .any, .any, .any, .any, .any, .any, .any, .any, .any, .any, .any, .any], [.no, .no, .box g2 (got (zeroBd, 0)), .box g3 (bd j.2.1), .no, .no, .no, .no, .no, .row j.2.2 3 1 ((numsV (l.take j.1)).map fun n => [.lit (.int .i64 n)]), .no, .no, .no, .no, .no, .no, .no, .no, .no, .no, .no, .no, .no, .no, .no, .no, .no, .no, .no, .no, .no, .no, .no, .no, .no, .no, .no, .no, .no, .no, .no, .no, .no, .no, .no, .no, .no, .no, .no, .no, .no, .no, .no, .no, .no, .no, .no, .no, .no, .no, .no, .no, .no, .no, .no, .no, .no, .no, .no, .no, .no, .no, .no, .no, .no, .no, .no, .no, .no, .no, .no, .no, .no, .no, .no, .no, .no, .no, .no, .no, .no, .no]⟩) (0, zeroBd, u) ⟨by simp, rfl, by simp, rfl, ok_null', ok_null'⟩ ?_ ?_
  · simp only [List.take_zero, numsV, List.filter_nil, List.map_nil]
    exact wkA
  rintro ⟨i, b, u0⟩ ⟨hi, hof, ⟨hn0, hn1⟩, hsum, vlo, vhi⟩
  simp only [litI, litB, litS] at hi hof hn0 hn1 hsum vlo vhi ⊢
  by_cases hlt : i < l.length
  rotate_left
  have hdec : decide ((i : Int) < (l.length : Int)) = false := by simp; omega
  · have hil : i = l.length := by omega
    subst hil
    rw [List.drop_length, ofS] at hof
    rw [List.take_length]
    rcases hs : ((numsV l).all small && small (sumL (numsV l))) with _ | _
    · have e : sumD (numsV l) = (0, 2) := by unfold sumD; rw [hs, if_neg Bool.false_ne_true]
      have em : ofM l = (zeroBd, 2) := by unfold ofM; rw [← hof, e]; rfl
      rw [e] at h38
      rw [em]
      repeat' first
        | refine awp_seq ?_
        | refine awp_block ?_
        | refine awp_skip ?_
        | (refine reg _ (by (simp only [List.map_cons, List.map_nil]; rfl)) rfl ?_; intro K hK)
        | (apply ev_guardU; (case hj | hu | hσ => (simp only [go_sem, hdec]; try rfl)))
        | ((first | refine awp_cond _ (by rfl) ?_ ?_ | refine ev_guardT _ _ (by (simp only [go_sem, hdec]; rfl)) (by (simp only [go_sem, hdec]; rfl)) ?_ ?_ | refine ev_guardF _ _ (by (simp only [go_sem, hdec]; rfl)) (by (simp only [go_sem, hdec]; rfl)) ?_ ?_) <;> (intro hb; first | (cases hb; done) | (have ht : true = true := hb; clear ht hb) | (have ht : false = false := hb; clear ht hb) | (simp only [hb]) | skip))
        | (refine awp_exit ?_; simp only [thenA, blockA, scopeA, reduceIte, RetQ, Nat.reduceEqDiff])
        | (refine awp_ret ?_; simp only [thenA, blockA, scopeA, RetQ])
        | (refine ev_nil (hK _ ?_); clear hK K)
        | (apply ev_call0; (case hys => (simp only [go_sem, hdec]; try rfl)); (case hs => first | exact h38 ..); (case hok | hσ => (simp only [go_sem, hdec]; try rfl)))
        | (apply ev_step0; (case hr | hσ => (simp only [go_sem, hdec]; try rfl)); (case hc => exact hcA))
        | (apply ev_step; (case hr => (simp only [go_sem, hdec]; try rfl)); (case hσ => (intro g u; simp only [go_sem, hdec]; try rfl)); (case hc => exact hcA); intro g u; (try clear u); (try clear g))
        | fail
      all_goals (refine resR_oneA ?_; simp only [go_sem])
      exact LeA.refl _
    · have e : sumD (numsV l) = (sumL (numsV l), 0) := by unfold sumD; rw [hs, if_pos rfl]
      have em : ofM l = (⟨b.nulls, b.has, b.lo, b.hi, sumL (numsV l)⟩, 0) := by unfold ofM; rw [← hof, e]; rfl
      rw [e] at h38
      rw [em]
      repeat' first
        | refine awp_seq ?_
        | refine awp_block ?_
        | refine awp_skip ?_
        | (refine reg _ (by (simp only [List.map_cons, List.map_nil]; rfl)) rfl ?_; intro K hK)
        | (apply ev_guardU; (case hj | hu | hσ => (simp only [go_sem, hdec]; try rfl)))
        | ((first | refine awp_cond _ (by rfl) ?_ ?_ | refine ev_guardT _ _ (by (simp only [go_sem, hdec]; rfl)) (by (simp only [go_sem, hdec]; rfl)) ?_ ?_ | refine ev_guardF _ _ (by (simp only [go_sem, hdec]; rfl)) (by (simp only [go_sem, hdec]; rfl)) ?_ ?_) <;> (intro hb; first | (cases hb; done) | (have ht : true = true := hb; clear ht hb) | (have ht : false = false := hb; clear ht hb) | (simp only [hb]) | skip))
        | (refine awp_exit ?_; simp only [thenA, blockA, scopeA, reduceIte, RetQ, Nat.reduceEqDiff])
        | (refine awp_ret ?_; simp only [thenA, blockA, scopeA, RetQ])
        | (refine ev_nil (hK _ ?_); clear hK K)
        | (apply ev_call0; (case hys => (simp only [go_sem, hdec]; try rfl)); (case hs => first | exact h38 ..); (case hok | hσ => (simp only [go_sem, hdec]; try rfl)))
        | (apply ev_step0; (case hr | hσ => (simp only [go_sem, hdec]; try rfl)); (case hc => exact hcA))
        | (apply ev_step; (case hr => (simp only [go_sem, hdec]; try rfl)); (case hσ => (intro g u; simp only [go_sem, hdec]; try rfl)); (case hc => exact hcA); intro g u; (try clear u); (try clear g))
        | fail
      all_goals (refine resR_oneA ?_; simp only [go_sem])
      exact LeA.refl _
  have hdec : decide ((i : Int) < (l.length : Int)) = true := by simp; omega
  have hx := vls_at l hlt
  have hm := hv _ (mem_at l dV hlt)
  have hns := numsV_step l hlt
  rw [drop_at l dV hlt, ofS] at hof
  generalize l.getD i dV = v at *
  have h36 := f36_spec v hm.i hm.s
  have w2 : IntKind.i64.wrap ((i : Int) + 1) = ((i + 1 : Nat) : Int) := by rw [wrap_id (by omega)]; push_cast; rfl
  obtain ⟨N, hN⟩ : ∃ N, isNull v = N := ⟨_, rfl⟩
  cases hw : wideV v with
  | false =>
    rw [hw] at h36
    have : badV b v = true := by simp [badV, hw]
    rw [if_pos this] at hof
    have e : ofM l = (zeroBd, 6) := by unfold ofM; rw [← hof]
    rw [e]
    repeat' first
      | refine awp_seq ?_
      | refine awp_block ?_
      | refine awp_skip ?_
      | (refine reg _ (by (simp only [List.map_cons, List.map_nil]; rfl)) rfl ?_; intro K hK)
      | (apply ev_guardU; (case hj | hu | hσ => (simp only [go_sem, hdec, hx]; try rfl)))
      | ((first | refine awp_cond _ (by rfl) ?_ ?_ | refine ev_guardT _ _ (by (simp only [go_sem, hdec, hx]; rfl)) (by (simp only [go_sem, hdec, hx]; rfl)) ?_ ?_ | refine ev_guardF _ _ (by (simp only [go_sem, hdec, hx]; rfl)) (by (simp only [go_sem, hdec, hx]; rfl)) ?_ ?_) <;> (intro hb; first | (cases hb; done) | (have ht : true = true := hb; clear ht hb) | (have ht : false = false := hb; clear ht hb) | (simp only [hb]) | skip))
      | (refine awp_exit ?_; simp only [thenA, blockA, scopeA, reduceIte, RetQ, Nat.reduceEqDiff])
      | (refine awp_ret ?_; simp only [thenA, blockA, scopeA, RetQ])
      | (refine ev_nil (hK _ ?_); clear hK K)
      | (apply ev_call0; (case hys => (simp only [go_sem, hdec, hx]; try rfl)); (case hs => first | exact h36 ..); (case hok | hσ => (simp only [go_sem, hdec, hx]; try rfl)))
      | (apply ev_step0; (case hr | hσ => (simp only [go_sem, hdec, hx]; try rfl)); (case hc => exact hcA))
      | (apply ev_step; (case hr => (simp only [go_sem, hdec, hx]; try rfl)); (case hσ => (intro g u; simp only [go_sem, hdec, hx]; try rfl)); (case hc => exact hcA); intro g u; (try clear u); (try clear g))
      | fail
    all_goals (refine resR_oneA ?_; simp only [go_sem])
    exact LeA.refl _
  | true =>
  rw [hw] at h36
  have hz : (v.k == 0) = N := by rw [← hN, wide_isNull hw]
  have hnz : (v.k != 0) = !N := by rw [bne, hz]
  have hbad : badV b v = (!N && b.has && (v.k != b.lo.k)) := by simp [badV, hw, hN]
  cases N with
  | true =>
    rw [hbad] at hof
    rw [if_neg (by simp), if_pos hN] at hof
    have w1 : IntKind.i64.wrap (b.nulls + 1) = b.nulls + 1 := wrap_id (by omega)
    have hk : (v.k == 2) = false := by
      rw [beq_iff_eq] at hz
      rw [hz]; rfl
    rw [hk, if_neg Bool.false_ne_true] at hns
    rw [Bool.not_true] at hnz
    repeat' first
      | refine awp_seq ?_
      | refine awp_block ?_
      | refine awp_skip ?_
      | (refine reg _ (by (simp only [List.map_cons, List.map_nil]; rfl)) rfl ?_; intro K hK)
      | (apply ev_guardU; (case hj | hu | hσ => (simp only [go_sem, hdec, hx, hz, hnz, w1, w2]; try rfl)))
      | ((first | refine awp_cond _ (by rfl) ?_ ?_ | refine ev_guardT _ _ (by (simp only [go_sem, hdec, hx, hz, hnz, w1, w2]; rfl)) (by (simp only [go_sem, hdec, hx, hz, hnz, w1, w2]; rfl)) ?_ ?_ | refine ev_guardF _ _ (by (simp only [go_sem, hdec, hx, hz, hnz, w1, w2]; rfl)) (by (simp only [go_sem, hdec, hx, hz, hnz, w1, w2]; rfl)) ?_ ?_) <;> (intro hb; first | (cases hb; done) | (have ht : true = true := hb; clear ht hb) | (have ht : false = false := hb; clear ht hb) | (simp only [hb]) | skip))
      | (refine awp_exit ?_; simp only [thenA, blockA, scopeA, reduceIte, RetQ, Nat.reduceEqDiff])
      | (refine awp_ret ?_; simp only [thenA, blockA, scopeA, RetQ])
      | (refine ev_nil (hK _ ?_); clear hK K)
      | (apply ev_call0; (case hys => (simp only [go_sem, hdec, hx, hz, hnz, w1, w2]; try rfl)); (case hs => first | exact h36 ..); (case hok | hσ => (simp only [go_sem, hdec, hx, hz, hnz, w1, w2]; try rfl)))
      | (apply ev_step0; (case hr | hσ => (simp only [go_sem, hdec, hx, hz, hnz, w1, w2]; try rfl)); (case hc => exact hcA))
      | (apply ev_step; (case hr => (simp only [go_sem, hdec, hx, hz, hnz, w1, w2]; try rfl)); (case hσ => (intro g u; simp only [go_sem, hdec, hx, hz, hnz, w1, w2]; try rfl)); (case hc => exact hcA); intro g u; (try clear u); (try clear g))
      | fail
    refine Exists.intro (i + 1, (⟨b.nulls + 1, b.has, b.lo, b.hi, b.sum⟩, u0)) ⟨⟨by simp only; omega, hof, by simp only; omega, hsum, vlo, vhi⟩, by simp only; omega, ?_⟩
    simp only [hns]
    exact wkA
  | false =>
  rw [hbad, Bool.not_false, Bool.true_and] at hof
  rw [Bool.not_false] at hnz
  simp only [hN, Bool.false_eq_true, if_false] at hof
  have hnt : (numsV (l.take i)).length ≤ 16777216 := by
    have := numsV_len (l.take i)
    rw [List.length_take] at this
    omega
  have hap : ∀ x : Int, ((numsV (l.take i)) ++ [x]).map (fun n => [Dat.lit (.int .i64 n)]) = (numsV (l.take i)).map (fun n => [Dat.lit (.int .i64 n)]) ++ [[.lit (.int .i64 x)]] := fun x => by simp
  obtain ⟨bn, bh, bl, bi, bsm⟩ := b
  simp only at hof hn0 hn1 hsum vlo vhi
  subst hsum
  cases bh with
  | true =>
    rw [Bool.true_and] at hof
    cases hk : (v.k != bl.k) with
    | true =>
      rw [hk, if_pos rfl] at hof
      have e : ofM l = (zeroBd, 6) := by unfold ofM; rw [← hof]
      rw [e]
      repeat' first
        | refine awp_seq ?_
        | refine awp_block ?_
        | refine awp_skip ?_
        | (refine reg _ (by (simp only [List.map_cons, List.map_nil]; rfl)) rfl ?_; intro K hK)
        | (apply ev_guardU; (case hj | hu | hσ => (simp only [go_sem, hdec, hx, hz, hnz, hk]; try rfl)))
        | ((first | refine awp_cond _ (by rfl) ?_ ?_ | refine ev_guardT _ _ (by (simp only [go_sem, hdec, hx, hz, hnz, hk]; rfl)) (by (simp only [go_sem, hdec, hx, hz, hnz, hk]; rfl)) ?_ ?_ | refine ev_guardF _ _ (by (simp only [go_sem, hdec, hx, hz, hnz, hk]; rfl)) (by (simp only [go_sem, hdec, hx, hz, hnz, hk]; rfl)) ?_ ?_) <;> (intro hb; first | (cases hb; done) | (have ht : true = true := hb; clear ht hb) | (have ht : false = false := hb; clear ht hb) | (simp only [hb]) | skip))
        | (refine awp_exit ?_; simp only [thenA, blockA, scopeA, reduceIte, RetQ, Nat.reduceEqDiff])
        | (refine awp_ret ?_; simp only [thenA, blockA, scopeA, RetQ])
        | (refine ev_nil (hK _ ?_); clear hK K)
        | (apply ev_call0; (case hys => (simp only [go_sem, hdec, hx, hz, hnz, hk]; try rfl)); (case hs => first | exact h36 ..); (case hok | hσ => (simp only [go_sem, hdec, hx, hz, hnz, hk]; try rfl)))
        | (apply ev_step0; (case hr | hσ => (simp only [go_sem, hdec, hx, hz, hnz, hk]; try rfl)); (case hc => exact hcA))
        | (apply ev_step; (case hr => (simp only [go_sem, hdec, hx, hz, hnz, hk]; try rfl)); (case hσ => (intro g u; simp only [go_sem, hdec, hx, hz, hnz, hk]; try rfl)); (case hc => exact hcA); intro g u; (try clear u); (try clear g))
        | fail
      all_goals (refine resR_oneA ?_; simp only [go_sem])
      exact LeA.refl _
    | false =>
      rw [hk, if_neg Bool.false_ne_true] at hof
      have a1 := f37_same v bl hm.s vlo.s
      have a2 := f37_same v bi hm.s vhi.s
      have hofI : ofIn ⟨bn, true, bl, bi, 0⟩ v = ⟨bn, true, if cmpV v bl < 0 then v else bl, if cmpV v bi > 0 then v else bi, 0⟩ := by
        simp only [ofIn, startV, if_true, lowV, highV]
        split <;> simp only <;> split <;> rfl
      rw [hofI] at hof
      generalize cmpV v bl = c1 at *
      generalize cmpV v bi = c2 at *
      cases hk2 : (v.k == 2) with
      | false =>
        rw [hk2, if_neg Bool.false_ne_true] at hns
        by_cases h1 : c1 < 0 <;> by_cases h2 : c2 > 0 <;> simp only [h1, h2, if_true, if_false] at hof
        all_goals (first | have d1 : decide (c1 < 0) = true := decide_eq_true h1 | have d1 : decide (c1 < 0) = false := decide_eq_false h1)
        all_goals (first | have d2 : decide (c2 > 0) = true := decide_eq_true h2 | have d2 : decide (c2 > 0) = false := decide_eq_false h2)
        all_goals
          repeat' first
            | refine awp_seq ?_
            | refine awp_block ?_
            | refine awp_skip ?_
            | (refine reg _ (by (simp only [List.map_cons, List.map_nil]; rfl)) rfl ?_; intro K hK)
            | (apply ev_guardU; (case hj | hu | hσ => (simp only [go_sem, hdec, hx, hz, hnz, hk, hk2, d1, d2, w2]; try rfl)))
            | ((first | refine awp_cond _ (by rfl) ?_ ?_ | refine ev_guardT _ _ (by (simp only [go_sem, hdec, hx, hz, hnz, hk, hk2, d1, d2, w2]; rfl)) (by (simp only [go_sem, hdec, hx, hz, hnz, hk, hk2, d1, d2, w2]; rfl)) ?_ ?_ | refine ev_guardF _ _ (by (simp only [go_sem, hdec, hx, hz, hnz, hk, hk2, d1, d2, w2]; rfl)) (by (simp only [go_sem, hdec, hx, hz, hnz, hk, hk2, d1, d2, w2]; rfl)) ?_ ?_) <;> (intro hb; first | (cases hb; done) | (have ht : true = true := hb; clear ht hb) | (have ht : false = false := hb; clear ht hb) | (simp only [hb]) | skip))
            | (refine awp_exit ?_; simp only [thenA, blockA, scopeA, reduceIte, RetQ, Nat.reduceEqDiff])
            | (refine awp_ret ?_; simp only [thenA, blockA, scopeA, RetQ])
            | (refine ev_nil (hK _ ?_); clear hK K)
            | (apply ev_call0; (case hys => (simp only [go_sem, hdec, hx, hz, hnz, hk, hk2, d1, d2, w2]; try rfl)); (case hs => first | exact h36 .. | exact a1 .. | exact a2 ..); (case hok | hσ => (simp only [go_sem, hdec, hx, hz, hnz, hk, hk2, d1, d2, w2]; try rfl)))
            | (apply ev_step0; (case hr | hσ => (simp only [go_sem, hdec, hx, hz, hnz, hk, hk2, d1, d2, w2]; try rfl)); (case hc => exact hcA))
            | (apply ev_step; (case hr => (simp only [go_sem, hdec, hx, hz, hnz, hk, hk2, d1, d2, w2]; try rfl)); (case hσ => (intro g u; simp only [go_sem, hdec, hx, hz, hnz, hk, hk2, d1, d2, w2]; try rfl)); (case hc => exact hcA); intro g u; (try clear u); (try clear g))
            | fail
          refine Exists.intro (i + 1, (_, u0)) ⟨⟨by simp only; omega, hof, by simp only; omega, rfl, by assumption, by assumption⟩, by simp only; omega, ?_⟩
          simp only [hns, hap]
          exact wkA
      | true =>
        rw [hk2, if_pos rfl] at hns
        by_cases h1 : c1 < 0 <;> by_cases h2 : c2 > 0 <;> simp only [h1, h2, if_true, if_false] at hof
        all_goals (first | have d1 : decide (c1 < 0) = true := decide_eq_true h1 | have d1 : decide (c1 < 0) = false := decide_eq_false h1)
        all_goals (first | have d2 : decide (c2 > 0) = true := decide_eq_true h2 | have d2 : decide (c2 > 0) = false := decide_eq_false h2)
        all_goals
          repeat' first
            | refine awp_seq ?_
            | refine awp_block ?_
            | refine awp_skip ?_
            | (refine reg _ (by (simp only [List.map_cons, List.map_nil]; rfl)) rfl ?_; intro K hK)
            | (apply ev_guardU; (case hj | hu | hσ => (simp only [go_sem, hdec, hx, hz, hnz, hk, hk2, d1, d2, w2]; try rfl)))
            | ((first | refine awp_cond _ (by rfl) ?_ ?_ | refine ev_guardT _ _ (by (simp only [go_sem, hdec, hx, hz, hnz, hk, hk2, d1, d2, w2]; rfl)) (by (simp only [go_sem, hdec, hx, hz, hnz, hk, hk2, d1, d2, w2]; rfl)) ?_ ?_ | refine ev_guardF _ _ (by (simp only [go_sem, hdec, hx, hz, hnz, hk, hk2, d1, d2, w2]; rfl)) (by (simp only [go_sem, hdec, hx, hz, hnz, hk, hk2, d1, d2, w2]; rfl)) ?_ ?_) <;> (intro hb; first | (cases hb; done) | (have ht : true = true := hb; clear ht hb) | (have ht : false = false := hb; clear ht hb) | (simp only [hb]) | skip))
            | (refine awp_exit ?_; simp only [thenA, blockA, scopeA, reduceIte, RetQ, Nat.reduceEqDiff])
            | (refine awp_ret ?_; simp only [thenA, blockA, scopeA, RetQ])
            | (refine ev_nil (hK _ ?_); clear hK K)
            | (apply ev_call0; (case hys => (simp only [go_sem, hdec, hx, hz, hnz, hk, hk2, d1, d2, w2]; try rfl)); (case hs => first | exact h36 .. | exact a1 .. | exact a2 ..); (case hok | hσ => (simp only [go_sem, hdec, hx, hz, hnz, hk, hk2, d1, d2, w2]; try rfl)))
            | (apply ev_step0; (case hr | hσ => (simp only [go_sem, hdec, hx, hz, hnz, hk, hk2, d1, d2, w2]; try rfl)); (case hc => exact hcA))
            | (apply ev_step; (case hr => (simp only [go_sem, hdec, hx, hz, hnz, hk, hk2, d1, d2, w2]; try rfl)); (case hσ => (intro g u; simp only [go_sem, hdec, hx, hz, hnz, hk, hk2, d1, d2, w2]; try rfl)); (case hc => exact hcA); intro g u; (try clear u); (try clear g))
            | fail
          refine Exists.intro (i + 1, (_, u)) ⟨⟨by simp only; omega, hof, by simp only; omega, rfl, by assumption, by assumption⟩, by simp only; omega, ?_⟩
          simp only [hns, hap]
          exact wkA
  | false =>
    have hofI : ofIn ⟨bn, false, bl, bi, 0⟩ v = ⟨bn, true, v, v, 0⟩ := by
      simp [ofIn, startV, lowV, highV, cmpV_self]
    rw [Bool.false_and, if_neg Bool.false_ne_true, hofI] at hof
    cases hk2 : (v.k == 2) with
    | false =>
      rw [hk2, if_neg Bool.false_ne_true] at hns
      repeat' first
        | refine awp_seq ?_
        | refine awp_block ?_
        | refine awp_skip ?_
        | (refine reg _ (by (simp only [List.map_cons, List.map_nil]; rfl)) rfl ?_; intro K hK)
        | (apply ev_guardU; (case hj | hu | hσ => (simp only [go_sem, hdec, hx, hz, hnz, hk2, w2]; try rfl)))
        | ((first | refine awp_cond _ (by rfl) ?_ ?_ | refine ev_guardT _ _ (by (simp only [go_sem, hdec, hx, hz, hnz, hk2, w2]; rfl)) (by (simp only [go_sem, hdec, hx, hz, hnz, hk2, w2]; rfl)) ?_ ?_ | refine ev_guardF _ _ (by (simp only [go_sem, hdec, hx, hz, hnz, hk2, w2]; rfl)) (by (simp only [go_sem, hdec, hx, hz, hnz, hk2, w2]; rfl)) ?_ ?_) <;> (intro hb; first | (cases hb; done) | (have ht : true = true := hb; clear ht hb) | (have ht : false = false := hb; clear ht hb) | (simp only [hb]) | skip))
        | (refine awp_exit ?_; simp only [thenA, blockA, scopeA, reduceIte, RetQ, Nat.reduceEqDiff])
        | (refine awp_ret ?_; simp only [thenA, blockA, scopeA, RetQ])
        | (refine ev_nil (hK _ ?_); clear hK K)
        | (apply ev_call0; (case hys => (simp only [go_sem, hdec, hx, hz, hnz, hk2, w2]; try rfl)); (case hs => first | exact h36 ..); (case hok | hσ => (simp only [go_sem, hdec, hx, hz, hnz, hk2, w2]; try rfl)))
        | (apply ev_step0; (case hr | hσ => (simp only [go_sem, hdec, hx, hz, hnz, hk2, w2]; try rfl)); (case hc => exact hcA))
        | (apply ev_step; (case hr => (simp only [go_sem, hdec, hx, hz, hnz, hk2, w2]; try rfl)); (case hσ => (intro g u; simp only [go_sem, hdec, hx, hz, hnz, hk2, w2]; try rfl)); (case hc => exact hcA); intro g u; (try clear u); (try clear g))
        | fail
      refine Exists.intro (i + 1, (_, u0)) ⟨⟨by simp only; omega, hof, by simp only; omega, rfl, hm, hm⟩, by simp only; omega, ?_⟩
      simp only [hns, hap]
      exact wkA
    | true =>
      rw [hk2, if_pos rfl] at hns
      repeat' first
        | refine awp_seq ?_
        | refine awp_block ?_
        | refine awp_skip ?_
        | (refine reg _ (by (simp only [List.map_cons, List.map_nil]; rfl)) rfl ?_; intro K hK)
        | (apply ev_guardU; (case hj | hu | hσ => (simp only [go_sem, hdec, hx, hz, hnz, hk2, w2]; try rfl)))
        | ((first | refine awp_cond _ (by rfl) ?_ ?_ | refine ev_guardT _ _ (by (simp only [go_sem, hdec, hx, hz, hnz, hk2, w2]; rfl)) (by (simp only [go_sem, hdec, hx, hz, hnz, hk2, w2]; rfl)) ?_ ?_ | refine ev_guardF _ _ (by (simp only [go_sem, hdec, hx, hz, hnz, hk2, w2]; rfl)) (by (simp only [go_sem, hdec, hx, hz, hnz, hk2, w2]; rfl)) ?_ ?_) <;> (intro hb; first | (cases hb; done) | (have ht : true = true := hb; clear ht hb) | (have ht : false = false := hb; clear ht hb) | (simp only [hb]) | skip))
        | (refine awp_exit ?_; simp only [thenA, blockA, scopeA, reduceIte, RetQ, Nat.reduceEqDiff])
        | (refine awp_ret ?_; simp only [thenA, blockA, scopeA, RetQ])
        | (refine ev_nil (hK _ ?_); clear hK K)
        | (apply ev_call0; (case hys => (simp only [go_sem, hdec, hx, hz, hnz, hk2, w2]; try rfl)); (case hs => first | exact h36 ..); (case hok | hσ => (simp only [go_sem, hdec, hx, hz, hnz, hk2, w2]; try rfl)))
        | (apply ev_step0; (case hr | hσ => (simp only [go_sem, hdec, hx, hz, hnz, hk2, w2]; try rfl)); (case hc => exact hcA))
        | (apply ev_step; (case hr => (simp only [go_sem, hdec, hx, hz, hnz, hk2, w2]; try rfl)); (case hσ => (intro g u; simp only [go_sem, hdec, hx, hz, hnz, hk2, w2]; try rfl)); (case hc => exact hcA); intro g u; (try clear u); (try clear g))
        | fail
      refine Exists.intro (i + 1, (_, u)) ⟨⟨by simp only; omega, hof, by simp only; omega, rfl, hm, hm⟩, by simp only; omega, ?_⟩
      simp only [hns, hap]
      exact wkA
end
section
set_option linter.unusedVariables false
set_option linter.unusedSimpArgs false
open Go.RowKit
attribute [local irreducible] Spec SpecF SpecN
attribute [local irreducible] AWp evOps evD
def notM (s : Sp) : Sp := truthM (yesM s) (noM s) s.null
def isNullM (s : Sp) : Sp := truthM s.has s.null false
def mostM (s t : Sp) : Sp := truthM (decide (cmpV s.hi t.lo > 0)) (decide (cmpV s.lo t.hi ≤ 0)) false
theorem f107_spec (s t : Sp) : Spec Tryd.prog 107 [.agg (sp s), .agg (sp t)] (.agg (sp (notM s))) := by
  have a1 := f44_spec s
  have a2 := f45_spec s
  have a3 := f109_spec (yesM s) (noM s) s.null
  refine spec_of_awp (fn := Tryd.f107) Tryd.func107 (by kernel_rfl) rfl ?_
  intro w0 C0
  simp only [Tryd.ntmps107, litI, litB, litS, List.length_cons, List.length_nil, Nat.reduceAdd, Nat.reduceSub, List.replicate_succ, List.replicate_zero, List.cons_append, List.nil_append]
  repeat' first
    | refine awp_seq ?_
    | (refine reg _ (by (simp only [List.map_cons, List.map_nil]; rfl)) rfl ?_; intro K hK)
    | (refine awp_ret ?_; simp only [thenA, blockA, scopeA, RetQ])
    | (refine ev_nil (hK _ ?_); clear hK K)
    | (apply regD; (case hd => (simp only [List.map_cons, List.map_nil]; rfl)); (case hok => rfl); (case' h => (intro K hK; (repeat' first
        | (apply evd_nil; refine (hK _ ?_); clear hK K)
        | (apply evd_call0; (case hi | hys => (simp only [go_sem]; try rfl)); (case hs => first | exact a1 .. | exact a2 .. | exact a3 ..); (case hok | hw | hσ => (simp only [go_sem]; try rfl)))
        | (apply evd_step0; (case hr | hi | hσ => (simp only [go_sem]; try rfl)); (case hc => exact hcA))
        | (apply evd_step; (case hr | hi => (simp only [go_sem]; try rfl)); (case hc => exact hcA); (case hw | hσ => (intro g u; simp only [go_sem]; try rfl)); (case' hk => (intro g u; (try clear u); (try clear g))))
        | fail))); (case hB => kernel_rfl))
    | (apply ev_step0; (case hr | hσ => (simp only [go_sem]; try rfl)); (case hc => exact hcA))
    | (apply ev_step; (case hr => (simp only [go_sem]; try rfl)); (case hσ => (intro g u; simp only [go_sem]; try rfl)); (case hc => exact hcA); intro g u; (try clear u); (try clear g))
    | fail
  all_goals (refine resR_oneA ?_; simp only [go_sem])
  exact LeA.refl _
theorem f108_spec (s t : Sp) : Spec Tryd.prog 108 [.agg (sp s), .agg (sp t)] (.agg (sp (isNullM s))) := by
  have a3 := f109_spec s.has s.null false
  refine spec_of_awp (fn := Tryd.f108) Tryd.func108 (by kernel_rfl) rfl ?_
  intro w0 C0
  simp only [Tryd.ntmps108, litI, litB, litS, List.length_cons, List.length_nil, Nat.reduceAdd, Nat.reduceSub, List.replicate_succ, List.replicate_zero, List.cons_append, List.nil_append]
  repeat' first
    | refine awp_seq ?_
    | (refine reg _ (by (simp only [List.map_cons, List.map_nil]; rfl)) rfl ?_; intro K hK)
    | (refine awp_ret ?_; simp only [thenA, blockA, scopeA, RetQ])
    | (refine ev_nil (hK _ ?_); clear hK K)
    | (apply ev_call0; (case hys => (simp only [go_sem]; try rfl)); (case hs => first | exact a3 ..); (case hok | hσ => (simp only [go_sem]; try rfl)))
    | (apply ev_step0; (case hr | hσ => (simp only [go_sem]; try rfl)); (case hc => exact hcA))
    | (apply ev_step; (case hr => (simp only [go_sem]; try rfl)); (case hσ => (intro g u; simp only [go_sem]; try rfl)); (case hc => exact hcA); intro g u; (try clear u); (try clear g))
    | fail
  all_goals (refine resR_oneA ?_; simp only [go_sem])
  exact LeA.refl _
theorem f112_spec (s t : Sp) : Spec Tryd.prog 112 [.agg (sp s), .agg (sp t)] (.agg (sp (mostM s t))) := by
  have a1 := f41_spec s.hi t.lo
  have a2 := f41_spec s.lo t.hi
  have a3 := f109_spec (decide (cmpV s.hi t.lo > 0)) (decide (cmpV s.lo t.hi ≤ 0)) false
  refine spec_of_awp (fn := Tryd.f112) Tryd.func112 (by kernel_rfl) rfl ?_
  intro w0 C0
  simp only [Tryd.ntmps112, litI, litB, litS, List.length_cons, List.length_nil, Nat.reduceAdd, Nat.reduceSub, List.replicate_succ, List.replicate_zero, List.cons_append, List.nil_append]
  repeat' first
    | refine awp_seq ?_
    | (refine reg _ (by (simp only [List.map_cons, List.map_nil]; rfl)) rfl ?_; intro K hK)
    | (refine awp_ret ?_; simp only [thenA, blockA, scopeA, RetQ])
    | (refine ev_nil (hK _ ?_); clear hK K)
    | (apply regD; (case hd => (simp only [List.map_cons, List.map_nil]; rfl)); (case hok => rfl); (case' h => (intro K hK; (repeat' first
        | (apply evd_nil; refine (hK _ ?_); clear hK K)
        | (apply evd_call0; (case hi | hys => (simp only [go_sem]; try rfl)); (case hs => first | exact a1 .. | exact a2 .. | exact a3 ..); (case hok | hw | hσ => (simp only [go_sem]; try rfl)))
        | (apply evd_step0; (case hr | hi | hσ => (simp only [go_sem]; try rfl)); (case hc => exact hcA))
        | (apply evd_step; (case hr | hi => (simp only [go_sem]; try rfl)); (case hc => exact hcA); (case hw | hσ => (intro g u; simp only [go_sem]; try rfl)); (case' hk => (intro g u; (try clear u); (try clear g))))
        | fail))); (case hB => kernel_rfl))
    | (apply ev_step0; (case hr | hσ => (simp only [go_sem]; try rfl)); (case hc => exact hcA))
    | (apply ev_step; (case hr => (simp only [go_sem]; try rfl)); (case hσ => (intro g u; simp only [go_sem]; try rfl)); (case hc => exact hcA); intro g u; (try clear u); (try clear g))
    | fail
  all_goals (refine resR_oneA ?_; simp only [go_sem])
  exact LeA.refl _
def clampLo (n : Int) : Int := if n < -4000000000000000000 then -4000000000000000000 else n
def clampHi (n : Int) : Int := if n > 4000000000000000000 then 4000000000000000000 else n
def numbersM (lo hi : Int) : Sp :=
  if (decide (lo ≤ 4000000000000000000) && decide (hi ≥ -4000000000000000000)) = true then ⟨decide (lo < -4000000000000000000) || decide (hi > 4000000000000000000), true, ⟨2, clampLo lo, ⟨#[]⟩⟩, ⟨2, clampHi hi, ⟨#[]⟩⟩⟩
  else ⟨decide (lo < -4000000000000000000) || decide (hi > 4000000000000000000), false, nullV, nullV⟩
set_option maxHeartbeats 8000000 in
theorem f118_spec (lo hi : Int) : Spec Tryd.prog 118 [litI .i64 lo, litI .i64 hi] (.agg (sp (numbersM lo hi))) := by
  unfold numbersM
  cases d1 : decide (lo < -4000000000000000000) <;> cases d2 : decide (hi > 4000000000000000000) <;> cases d3 : decide (lo ≤ 4000000000000000000) <;> cases d4 : decide (hi ≥ -4000000000000000000)
  all_goals simp only [Bool.and_self, Bool.and_true, Bool.and_false, Bool.true_or, Bool.false_or, Bool.or_self, Bool.false_eq_true, if_true, if_false]
  all_goals
    refine spec_of_awp (fn := Tryd.f118) Tryd.func118 (by kernel_rfl) rfl ?_
    intro w0 C0
    simp only [Tryd.ntmps118, litI, litB, litS, List.length_cons, List.length_nil, Nat.reduceAdd, Nat.reduceSub, List.replicate_succ, List.replicate_zero, List.cons_append, List.nil_append]
    repeat' first
      | refine awp_seq ?_
      | refine awp_block ?_
      | refine awp_skip ?_
      | (refine reg _ (by (simp only [List.map_cons, List.map_nil]; rfl)) rfl ?_; intro K hK)
      | (apply ev_guardU; (case hj | hu | hσ => (simp only [go_sem, d1, d2, d3, d4]; try rfl)))
      | ((first | refine awp_cond _ (by rfl) ?_ ?_ | refine ev_guardT _ _ (by (simp only [go_sem, d1, d2, d3, d4]; rfl)) (by (simp only [go_sem, d1, d2, d3, d4]; rfl)) ?_ ?_ | refine ev_guardF _ _ (by (simp only [go_sem, d1, d2, d3, d4]; rfl)) (by (simp only [go_sem, d1, d2, d3, d4]; rfl)) ?_ ?_) <;> (intro hb; first | (cases hb; done) | (have ht : true = true := hb; clear ht hb) | (have ht : false = false := hb; clear ht hb) | (simp only [hb]) | skip))
      | (refine awp_exit ?_; simp only [thenA, blockA, scopeA, reduceIte, RetQ, Nat.reduceEqDiff])
      | (refine awp_ret ?_; simp only [thenA, blockA, scopeA, RetQ])
      | (refine ev_nil (hK _ ?_); clear hK K)
      | (apply ev_step0; (case hr | hσ => (simp only [go_sem, d1, d2, d3, d4]; try rfl)); (case hc => exact hcA))
      | (apply ev_step; (case hr => (simp only [go_sem, d1, d2, d3, d4]; try rfl)); (case hσ => (intro g u; simp only [go_sem, d1, d2, d3, d4]; try rfl)); (case hc => exact hcA); intro g u; (try clear u); (try clear g))
      | fail
    all_goals (refine resR_oneA ?_; simp only [go_sem])
    exact LeA.refl _
theorem f114_spec (s t : Sp) (h1 : -9223372036854775808 ≤ s.lo.i + t.lo.i ∧ s.lo.i + t.lo.i ≤ 9223372036854775807) (h2 : -9223372036854775808 ≤ s.hi.i + t.hi.i ∧ s.hi.i + t.hi.i ≤ 9223372036854775807) : Spec Tryd.prog 114 [.agg (sp s), .agg (sp t)] (.agg (sp (numbersM (s.lo.i + t.lo.i) (s.hi.i + t.hi.i)))) := by
  have w1 : IntKind.i64.wrap (s.lo.i + t.lo.i) = s.lo.i + t.lo.i := wrap_id h1
  have w2 : IntKind.i64.wrap (s.hi.i + t.hi.i) = s.hi.i + t.hi.i := wrap_id h2
  have a1 := f118_spec (s.lo.i + t.lo.i) (s.hi.i + t.hi.i)
  refine spec_of_awp (fn := Tryd.f114) Tryd.func114 (by kernel_rfl) rfl ?_
  intro w0 C0
  simp only [Tryd.ntmps114, litI, litB, litS, List.length_cons, List.length_nil, Nat.reduceAdd, Nat.reduceSub, List.replicate_succ, List.replicate_zero, List.cons_append, List.nil_append]
  repeat' first
    | refine awp_seq ?_
    | (refine reg _ (by (simp only [List.map_cons, List.map_nil]; rfl)) rfl ?_; intro K hK)
    | (refine awp_ret ?_; simp only [thenA, blockA, scopeA, RetQ])
    | (refine ev_nil (hK _ ?_); clear hK K)
    | (apply ev_call0; (case hys => (simp only [go_sem, w1, w2]; try rfl)); (case hs => first | exact a1 ..); (case hok | hσ => (simp only [go_sem, w1, w2]; try rfl)))
    | (apply ev_step0; (case hr | hσ => (simp only [go_sem, w1, w2]; try rfl)); (case hc => exact hcA))
    | (apply ev_step; (case hr => (simp only [go_sem, w1, w2]; try rfl)); (case hσ => (intro g u; simp only [go_sem, w1, w2]; try rfl)); (case hc => exact hcA); intro g u; (try clear u); (try clear g))
    | fail
  all_goals (refine resR_oneA ?_; simp only [go_sem])
  exact LeA.refl _
theorem f115_spec (s t : Sp) (h1 : -9223372036854775808 ≤ s.lo.i - t.hi.i ∧ s.lo.i - t.hi.i ≤ 9223372036854775807) (h2 : -9223372036854775808 ≤ s.hi.i - t.lo.i ∧ s.hi.i - t.lo.i ≤ 9223372036854775807) : Spec Tryd.prog 115 [.agg (sp s), .agg (sp t)] (.agg (sp (numbersM (s.lo.i - t.hi.i) (s.hi.i - t.lo.i)))) := by
  have w1 : IntKind.i64.wrap (s.lo.i - t.hi.i) = s.lo.i - t.hi.i := wrap_id h1
  have w2 : IntKind.i64.wrap (s.hi.i - t.lo.i) = s.hi.i - t.lo.i := wrap_id h2
  have a1 := f118_spec (s.lo.i - t.hi.i) (s.hi.i - t.lo.i)
  refine spec_of_awp (fn := Tryd.f115) Tryd.func115 (by kernel_rfl) rfl ?_
  intro w0 C0
  simp only [Tryd.ntmps115, litI, litB, litS, List.length_cons, List.length_nil, Nat.reduceAdd, Nat.reduceSub, List.replicate_succ, List.replicate_zero, List.cons_append, List.nil_append]
  repeat' first
    | refine awp_seq ?_
    | (refine reg _ (by (simp only [List.map_cons, List.map_nil]; rfl)) rfl ?_; intro K hK)
    | (refine awp_ret ?_; simp only [thenA, blockA, scopeA, RetQ])
    | (refine ev_nil (hK _ ?_); clear hK K)
    | (apply ev_call0; (case hys => (simp only [go_sem, w1, w2]; try rfl)); (case hs => first | exact a1 ..); (case hok | hσ => (simp only [go_sem, w1, w2]; try rfl)))
    | (apply ev_step0; (case hr | hσ => (simp only [go_sem, w1, w2]; try rfl)); (case hc => exact hcA))
    | (apply ev_step; (case hr => (simp only [go_sem, w1, w2]; try rfl)); (case hσ => (intro g u; simp only [go_sem, w1, w2]; try rfl)); (case hc => exact hcA); intro g u; (try clear u); (try clear g))
    | fail
  all_goals (refine resR_oneA ?_; simp only [go_sem])
  exact LeA.refl _
def andM (s t : Sp) : Sp := truthM (noM s || noM t) (yesM s && yesM t) ((s.null && (t.null || yesM t)) || (t.null && yesM s))
def orM (s t : Sp) : Sp := truthM (noM s && noM t) (yesM s || yesM t) ((s.null && (t.null || noM t)) || (t.null && noM s))
set_option maxHeartbeats 16000000 in
theorem f105_spec (s t : Sp) : Spec Tryd.prog 105 [.agg (sp s), .agg (sp t)] (.agg (sp (andM s t))) := by
  have a1 := f44_spec s
  have a2 := f44_spec t
  have a3 := f45_spec s
  have a4 := f45_spec t
  unfold andM
  obtain ⟨n1, h1, lo1, hi1⟩ := s
  obtain ⟨n2, h2, lo2, hi2⟩ := t
  generalize noM ⟨n1, h1, lo1, hi1⟩ = x1 at *
  generalize noM ⟨n2, h2, lo2, hi2⟩ = x2 at *
  generalize yesM ⟨n1, h1, lo1, hi1⟩ = y1 at *
  generalize yesM ⟨n2, h2, lo2, hi2⟩ = y2 at *
  cases x1 <;> cases y1 <;> cases y2 <;> cases n1 <;> cases n2
  all_goals
    refine spec_of_awp (fn := Tryd.f105) Tryd.func105 (by kernel_rfl) rfl ?_
    intro w0 C0
    simp only [Tryd.ntmps105, litI, litB, litS, List.length_cons, List.length_nil, Nat.reduceAdd, Nat.reduceSub, List.replicate_succ, List.replicate_zero, List.cons_append, List.nil_append]
    repeat' first
      | refine awp_seq ?_
      | (refine reg _ (by (simp only [List.map_cons, List.map_nil]; rfl)) rfl ?_; intro K hK)
      | (refine awp_ret ?_; simp only [thenA, blockA, scopeA, RetQ])
      | (refine ev_nil (hK _ ?_); clear hK K)
      | (apply regD; (case hd => (simp only [List.map_cons, List.map_nil]; rfl)); (case hok => rfl); (case' h => (intro K hK; (repeat' first
        | (apply evd_nil; refine (hK _ ?_); clear hK K)
        | (apply evd_guardU0; (case hj | hu | hσ => (simp only [go_sem]; try rfl)))
        | (apply evd_guardU; (case hj | hu | hσ => (simp only [go_sem]; try rfl)))
        | (apply evd_skipT0; (case hj | hb | hσ => (simp only [go_sem]; try rfl)))
        | (apply evd_skipF0; (case hj | hb | hσ => (simp only [go_sem]; try rfl)))
        | (apply evd_skipT; (case hj | hb | hσ => (simp only [go_sem]; try rfl)))
        | (apply evd_skipF; (case hj | hb | hσ => (simp only [go_sem]; try rfl)))
        | (apply evd_guardT; (case hj | hb => (simp only [go_sem]; try rfl)); (case' h2 => (intro hb; first | (cases hb; done) | (simp only [hb]) | skip)); (case' h1 => (intro hb; first | (cases hb; done) | (simp only [hb]) | skip)))
        | (apply evd_guardF; (case hj | hb => (simp only [go_sem]; try rfl)); (case' h2 => (intro hb; first | (cases hb; done) | (simp only [hb]) | skip)); (case' h1 => (intro hb; first | (cases hb; done) | (simp only [hb]) | skip)))
        | (apply evd_call0; (case hi | hys => (simp only [go_sem]; try rfl)); (case hs => first | exact a1 .. | exact a2 .. | exact a3 .. | exact a4 .. | exact f109_spec ..); (case hok | hw | hσ => (simp only [go_sem]; try rfl)))
        | (apply evd_step0; (case hr | hi | hσ => (simp only [go_sem]; try rfl)); (case hc => exact hcA))
        | (apply evd_step; (case hr | hi => (simp only [go_sem]; try rfl)); (case hc => exact hcA); (case hw | hσ => (intro g u; simp only [go_sem]; try rfl)); (case' hk => (intro g u; (try clear u); (try clear g))))
        | fail))); (case hB => kernel_rfl))
      | (apply ev_step0; (case hr | hσ => (simp only [go_sem]; try rfl)); (case hc => exact hcA))
      | (apply ev_step; (case hr => (simp only [go_sem]; try rfl)); (case hσ => (intro g u; simp only [go_sem]; try rfl)); (case hc => exact hcA); intro g u; (try clear u); (try clear g))
      | fail
    all_goals (refine resR_oneA ?_; simp only [go_sem])
    exact LeA.refl _
set_option maxHeartbeats 16000000 in
theorem f106_spec (s t : Sp) : Spec Tryd.prog 106 [.agg (sp s), .agg (sp t)] (.agg (sp (orM s t))) := by
  have a1 := f44_spec s
  have a2 := f44_spec t
  have a3 := f45_spec s
  have a4 := f45_spec t
  unfold orM
  obtain ⟨n1, h1, lo1, hi1⟩ := s
  obtain ⟨n2, h2, lo2, hi2⟩ := t
  generalize noM ⟨n1, h1, lo1, hi1⟩ = x1 at *
  generalize noM ⟨n2, h2, lo2, hi2⟩ = x2 at *
  generalize yesM ⟨n1, h1, lo1, hi1⟩ = y1 at *
  generalize yesM ⟨n2, h2, lo2, hi2⟩ = y2 at *
  cases x1 <;> cases x2 <;> cases y1 <;> cases n1 <;> cases n2
  all_goals
    refine spec_of_awp (fn := Tryd.f106) Tryd.func106 (by kernel_rfl) rfl ?_
    intro w0 C0
    simp only [Tryd.ntmps106, litI, litB, litS, List.length_cons, List.length_nil, Nat.reduceAdd, Nat.reduceSub, List.replicate_succ, List.replicate_zero, List.cons_append, List.nil_append]
    repeat' first
      | refine awp_seq ?_
      | (refine reg _ (by (simp only [List.map_cons, List.map_nil]; rfl)) rfl ?_; intro K hK)
      | (refine awp_ret ?_; simp only [thenA, blockA, scopeA, RetQ])
      | (refine ev_nil (hK _ ?_); clear hK K)
      | (apply regD; (case hd => (simp only [List.map_cons, List.map_nil]; rfl)); (case hok => rfl); (case' h => (intro K hK; (repeat' first
        | (apply evd_nil; refine (hK _ ?_); clear hK K)
        | (apply evd_guardU0; (case hj | hu | hσ => (simp only [go_sem]; try rfl)))
        | (apply evd_guardU; (case hj | hu | hσ => (simp only [go_sem]; try rfl)))
        | (apply evd_skipT0; (case hj | hb | hσ => (simp only [go_sem]; try rfl)))
        | (apply evd_skipF0; (case hj | hb | hσ => (simp only [go_sem]; try rfl)))
        | (apply evd_skipT; (case hj | hb | hσ => (simp only [go_sem]; try rfl)))
        | (apply evd_skipF; (case hj | hb | hσ => (simp only [go_sem]; try rfl)))
        | (apply evd_guardT; (case hj | hb => (simp only [go_sem]; try rfl)); (case' h2 => (intro hb; first | (cases hb; done) | (simp only [hb]) | skip)); (case' h1 => (intro hb; first | (cases hb; done) | (simp only [hb]) | skip)))
        | (apply evd_guardF; (case hj | hb => (simp only [go_sem]; try rfl)); (case' h2 => (intro hb; first | (cases hb; done) | (simp only [hb]) | skip)); (case' h1 => (intro hb; first | (cases hb; done) | (simp only [hb]) | skip)))
        | (apply evd_call0; (case hi | hys => (simp only [go_sem]; try rfl)); (case hs => first | exact a1 .. | exact a2 .. | exact a3 .. | exact a4 .. | exact f109_spec ..); (case hok | hw | hσ => (simp only [go_sem]; try rfl)))
        | (apply evd_step0; (case hr | hi | hσ => (simp only [go_sem]; try rfl)); (case hc => exact hcA))
        | (apply evd_step; (case hr | hi => (simp only [go_sem]; try rfl)); (case hc => exact hcA); (case hw | hσ => (intro g u; simp only [go_sem]; try rfl)); (case' hk => (intro g u; (try clear u); (try clear g))))
        | fail))); (case hB => kernel_rfl))
      | (apply ev_step0; (case hr | hσ => (simp only [go_sem]; try rfl)); (case hc => exact hcA))
      | (apply ev_step; (case hr => (simp only [go_sem]; try rfl)); (case hσ => (intro g u; simp only [go_sem]; try rfl)); (case hc => exact hcA); intro g u; (try clear u); (try clear g))
      | fail
    all_goals (refine resR_oneA ?_; simp only [go_sem])
    exact LeA.refl _
end
section
set_option linter.unusedVariables false
set_option linter.unusedSimpArgs false
open Go.RowKit
attribute [local irreducible] Spec SpecF SpecN
attribute [local irreducible] AWp evOps evD
theorem f119_spec (s p : ByteArray) (hs : s.size ≤ 4611686018427387904) (hp : p.size ≤ 4611686018427387904) : Spec Tryd.prog 119 [litS s, litS p] (litB (decide ((s.size : Int) ≥ (p.size : Int)) && ((s.extract 0 p.size).toList == p.toList))) := by
  cases d1 : decide ((s.size : Int) ≥ (p.size : Int)) with
  | false =>
    refine spec_of_awp (fn := Tryd.f119) Tryd.func119 (by kernel_rfl) rfl ?_
    intro w0 C0
    simp only [Tryd.ntmps119, litI, litB, litS, List.length_cons, List.length_nil, Nat.reduceAdd, Nat.reduceSub, List.replicate_succ, List.replicate_zero, List.cons_append, List.nil_append]
    repeat' first
      | refine awp_seq ?_
      | refine awp_block ?_
      | refine awp_skip ?_
      | refine awp_label ?_
      | refine awp_scope (by rfl) ?_
      | (refine reg _ (by (simp only [List.map_cons, List.map_nil]; rfl)) rfl ?_; intro K hK)
      | (apply ev_guardU; (case hj | hu | hσ => (simp only [go_sem, d1]; try rfl)))
      | ((first | refine awp_cond _ (by rfl) ?_ ?_ | refine ev_guardT _ _ (by (simp only [go_sem, d1]; rfl)) (by (simp only [go_sem, d1]; rfl)) ?_ ?_ | refine ev_guardF _ _ (by (simp only [go_sem, d1]; rfl)) (by (simp only [go_sem, d1]; rfl)) ?_ ?_) <;> (intro hb; first | (cases hb; done) | (have ht : true = true := hb; clear ht hb) | (have ht : false = false := hb; clear ht hb) | (simp only [hb]) | skip))
      | (refine awp_exit ?_; simp only [thenA, blockA, scopeA, reduceIte, RetQ, Nat.reduceEqDiff])
      | (refine awp_ret ?_; simp only [thenA, blockA, scopeA, RetQ])
      | (refine ev_nil (hK _ ?_); clear hK K)
      | (apply ev_step0; (case hr | hσ => (simp only [go_sem, d1]; try rfl)); (case hc => exact hcA))
      | (apply ev_step; (case hr => (simp only [go_sem, d1]; try rfl)); (case hσ => (intro g u; simp only [go_sem, d1]; try rfl)); (case hc => exact hcA); intro g u; (try clear u); (try clear g))
      | fail
    all_goals (refine resR_oneA ?_; simp only [go_sem])
    exact LeA.refl _
  | true =>
    have h := of_decide_eq_true d1
    refine spec_of_awp (fn := Tryd.f119) Tryd.func119 (by kernel_rfl) rfl ?_
    intro w0 C0
    simp only [Tryd.ntmps119, litI, litB, litS, List.length_cons, List.length_nil, Nat.reduceAdd, Nat.reduceSub, List.replicate_succ, List.replicate_zero, List.cons_append, List.nil_append]
    repeat' first
      | refine awp_seq ?_
      | refine awp_block ?_
      | refine awp_skip ?_
      | refine awp_label ?_
      | refine awp_scope (by rfl) ?_
      | (refine reg _ (by (simp only [List.map_cons, List.map_nil]; rfl)) rfl ?_; intro K hK)
      | (apply ev_guardU; (case hj | hu | hσ => (simp only [go_sem, d1]; try rfl)))
      | ((first | refine awp_cond _ (by rfl) ?_ ?_ | refine ev_guardT _ _ (by (simp only [go_sem, d1]; rfl)) (by (simp only [go_sem, d1]; rfl)) ?_ ?_ | refine ev_guardF _ _ (by (simp only [go_sem, d1]; rfl)) (by (simp only [go_sem, d1]; rfl)) ?_ ?_) <;> (intro hb; first | (cases hb; done) | (have ht : true = true := hb; clear ht hb) | (have ht : false = false := hb; clear ht hb) | (simp only [hb]) | skip))
      | (refine awp_exit ?_; simp only [thenA, blockA, scopeA, reduceIte, RetQ, Nat.reduceEqDiff])
      | (refine awp_ret ?_; simp only [thenA, blockA, scopeA, RetQ])
      | (refine ev_nil (hK _ ?_); clear hK K)
      | (apply ev_step0; (case hr | hσ => (simp only [go_sem, d1]; try rfl)); (case hc => exact hcA))
      | (apply ev_step; (case hr => (simp only [go_sem, d1]; try rfl)); (case hσ => (intro g u; simp only [go_sem, d1]; try rfl)); (case hc => exact hcA); intro g u; (try clear u); (try clear g))
      | fail
    all_goals (refine resR_oneA ?_; simp only [go_sem])
    exact LeA.refl _
abbrev hasPre (s p : ByteArray) : Bool := decide ((s.size : Int) ≥ (p.size : Int)) && ((s.extract 0 p.size).toList == p.toList)
theorem f117_spec (s p : ByteArray) (hs : s.size ≤ 4611686018427387904) (hp : p.size ≤ 4611686018427387904) : Spec Tryd.prog 117 [litS s, litS p] (litB (hasPre s p)) := by
  have h := f119_spec s p hs hp
  refine spec_of_awp (fn := Tryd.f117) Tryd.func117 (by kernel_rfl) rfl ?_
  intro w0 C0
  simp only [Tryd.ntmps117, litI, litB, litS, List.length_cons, List.length_nil, Nat.reduceAdd, Nat.reduceSub, List.replicate_succ, List.replicate_zero, List.cons_append, List.nil_append]
  repeat' first
    | refine awp_seq ?_
    | (refine reg _ (by (simp only [List.map_cons, List.map_nil]; rfl)) rfl ?_; intro K hK)
    | (refine awp_ret ?_; simp only [thenA, blockA, scopeA, RetQ])
    | (refine ev_nil (hK _ ?_); clear hK K)
    | (apply ev_call0; (case hys => (simp only [go_sem]; try rfl)); (case hs => first | exact h ..); (case hok | hσ => (simp only [go_sem]; try rfl)))
    | (apply ev_step0; (case hr | hσ => (simp only [go_sem]; try rfl)); (case hc => exact hcA))
    | (apply ev_step; (case hr => (simp only [go_sem]; try rfl)); (case hσ => (intro g u; simp only [go_sem]; try rfl)); (case hc => exact hcA); intro g u; (try clear u); (try clear g))
    | fail
  all_goals (refine resR_oneA ?_; simp only [go_sem])
  exact LeA.refl _
abbrev geS (a b : ByteArray) : Bool := !Op.bytesLess a.toList b.toList
abbrev leS (a b : ByteArray) : Bool := Op.bytesLess a.toList b.toList || a.toList == b.toList
def prefixM (s t : Sp) : Sp :=
  if eqVl t.lo t.hi = false then truthM true true false
  else truthM (!hasPre s.lo.s t.lo.s || !hasPre s.hi.s t.lo.s) (geS s.hi.s t.lo.s && (leS s.lo.s t.lo.s || hasPre s.lo.s t.lo.s)) false
set_option maxHeartbeats 8000000 in
theorem f113_spec (s t : Sp) (h1 : s.lo.s.size ≤ 4611686018427387904) (h2 : s.hi.s.size ≤ 4611686018427387904) (h3 : t.lo.s.size ≤ 4611686018427387904) : Spec Tryd.prog 113 [.agg (sp s), .agg (sp t)] (.agg (sp (prefixM s t))) := by
  have a1 := f116_spec t
  have a2 := f117_spec s.lo.s t.lo.s h1 h3
  have a3 := f117_spec s.hi.s t.lo.s h2 h3
  unfold prefixM
  cases e : eqVl t.lo t.hi with
  | false =>
    rw [e] at a1
    rw [if_pos rfl]
    refine spec_of_awp (fn := Tryd.f113) Tryd.func113 (by kernel_rfl) rfl ?_
    intro w0 C0
    simp only [Tryd.ntmps113, litI, litB, litS, List.length_cons, List.length_nil, Nat.reduceAdd, Nat.reduceSub, List.replicate_succ, List.replicate_zero, List.cons_append, List.nil_append]
    repeat' first
      | refine awp_seq ?_
      | refine awp_block ?_
      | refine awp_skip ?_
      | (refine reg _ (by (simp only [List.map_cons, List.map_nil]; rfl)) rfl ?_; intro K hK)
      | (apply ev_guardU; (case hj | hu | hσ => (simp only [go_sem]; try rfl)))
      | ((first | refine awp_cond _ (by rfl) ?_ ?_ | refine ev_guardT _ _ (by (simp only [go_sem]; rfl)) (by (simp only [go_sem]; rfl)) ?_ ?_ | refine ev_guardF _ _ (by (simp only [go_sem]; rfl)) (by (simp only [go_sem]; rfl)) ?_ ?_) <;> (intro hb; first | (cases hb; done) | (have ht : true = true := hb; clear ht hb) | (have ht : false = false := hb; clear ht hb) | (simp only [hb]) | skip))
      | (refine awp_exit ?_; simp only [thenA, blockA, scopeA, reduceIte, RetQ, Nat.reduceEqDiff])
      | (refine awp_ret ?_; simp only [thenA, blockA, scopeA, RetQ])
      | (refine ev_nil (hK _ ?_); clear hK K)
      | (apply ev_call0; (case hys => (simp only [go_sem]; try rfl)); (case hs => first | exact a1 .. | exact f109_spec ..); (case hok | hσ => (simp only [go_sem]; try rfl)))
      | (apply ev_step0; (case hr | hσ => (simp only [go_sem]; try rfl)); (case hc => exact hcA))
      | (apply ev_step; (case hr => (simp only [go_sem]; try rfl)); (case hσ => (intro g u; simp only [go_sem]; try rfl)); (case hc => exact hcA); intro g u; (try clear u); (try clear g))
      | fail
    all_goals (refine resR_oneA ?_; simp only [go_sem])
    exact LeA.refl _
  | true =>
    rw [e] at a1
    rw [if_neg (by decide)]
    generalize hasPre s.lo.s t.lo.s = p1 at *
    generalize hasPre s.hi.s t.lo.s = p2 at *
    have q1 : (!Op.bytesLess s.hi.s.toList t.lo.s.toList) = geS s.hi.s t.lo.s := rfl
    have q2 : (Op.bytesLess s.lo.s.toList t.lo.s.toList || s.lo.s.toList == t.lo.s.toList) = leS s.lo.s t.lo.s := rfl
    cases c1 : geS s.hi.s t.lo.s <;> cases c2 : leS s.lo.s t.lo.s <;> rw [c1] at q1 <;> rw [c2] at q2 <;> cases p1 <;> cases p2
    all_goals
      refine spec_of_awp (fn := Tryd.f113) Tryd.func113 (by kernel_rfl) rfl ?_
      intro w0 C0
      simp only [Tryd.ntmps113, litI, litB, litS, List.length_cons, List.length_nil, Nat.reduceAdd, Nat.reduceSub, List.replicate_succ, List.replicate_zero, List.cons_append, List.nil_append]
      repeat' first
        | refine awp_seq ?_
        | refine awp_block ?_
        | refine awp_skip ?_
        | (refine reg _ (by (simp only [List.map_cons, List.map_nil]; rfl)) rfl ?_; intro K hK)
        | (apply ev_guardU; (case hj | hu | hσ => (simp only [go_sem, q1, q2]; try rfl)))
        | ((first | refine awp_cond _ (by rfl) ?_ ?_ | refine ev_guardT _ _ (by (simp only [go_sem, q1, q2]; rfl)) (by (simp only [go_sem, q1, q2]; rfl)) ?_ ?_ | refine ev_guardF _ _ (by (simp only [go_sem, q1, q2]; rfl)) (by (simp only [go_sem, q1, q2]; rfl)) ?_ ?_) <;> (intro hb; first | (cases hb; done) | (have ht : true = true := hb; clear ht hb) | (have ht : false = false := hb; clear ht hb) | (simp only [hb]) | skip))
        | (refine awp_exit ?_; simp only [thenA, blockA, scopeA, reduceIte, RetQ, Nat.reduceEqDiff])
        | (refine awp_ret ?_; simp only [thenA, blockA, scopeA, RetQ])
        | (refine ev_nil (hK _ ?_); clear hK K)
        | (apply ev_call0; (case hys => (simp only [go_sem, q1, q2]; try rfl)); (case hs => first | exact a1 .. | exact a2 .. | exact a3 .. | exact f109_spec ..); (case hok | hσ => (simp only [go_sem, q1, q2]; try rfl)))
        | (apply regD; (case hd => (simp only [List.map_cons, List.map_nil]; rfl)); (case hok => rfl); (case' h => (intro K hK; (repeat' first
        | (apply evd_nil; refine (hK _ ?_); clear hK K)
        | (apply evd_call0; (case hi | hys => (simp only [go_sem, q1, q2]; try rfl)); (case hs => first | exact a1 .. | exact a2 .. | exact a3 .. | exact f109_spec ..); (case hok | hw | hσ => (simp only [go_sem, q1, q2]; try rfl)))
        | (apply evd_step0; (case hr | hi | hσ => (simp only [go_sem, q1, q2]; try rfl)); (case hc => exact hcA))
        | (apply evd_step; (case hr | hi => (simp only [go_sem, q1, q2]; try rfl)); (case hc => exact hcA); (case hw | hσ => (intro g u; simp only [go_sem, q1, q2]; try rfl)); (case' hk => (intro g u; (try clear u); (try clear g))))
        | fail))); (case hB => kernel_rfl))
        | (apply ev_step0; (case hr | hσ => (simp only [go_sem, q1, q2]; try rfl)); (case hc => exact hcA))
        | (apply ev_step; (case hr => (simp only [go_sem, q1, q2]; try rfl)); (case hσ => (intro g u; simp only [go_sem, q1, q2]; try rfl)); (case hc => exact hcA); intro g u; (try clear u); (try clear g))
        | fail
      all_goals (refine resR_oneA ?_; simp only [go_sem])
      exact LeA.refl _
end
section
set_option linter.unusedVariables false
set_option linter.unusedSimpArgs false
open Go.RowKit
/-- A range of values of a kind. -/
structure KS (k : Int) (s : Sp) : Prop where
  has : s.has = true → KV k s.lo ∧ KV k s.hi ∧ leV s.lo s.hi
  no : s.has = false → s.lo = nullV ∧ s.hi = nullV
theorem KS.nul {k : Int} (n : Bool) : KS k ⟨n, false, nullV, nullV⟩ := ⟨(fun h => by cases h), fun _ => ⟨rfl, rfl⟩⟩
theorem leV_bool {a b : Bool} : leV (boolV a) (boolV b) ↔ (a = true → b = true) := by
  unfold leV
  rw [cmp_same]
  cases a <;> cases b <;> simp [cmpW, boolV, cmpI, cmpL]
theorem KS.truth (n y u : Bool) : KS 1 (truthM n y u) := by
  unfold truthM
  cases n <;> cases y <;> refine ⟨fun h => ?_, fun h => ?_⟩ <;> first | (exact ⟨rfl, rfl⟩) | (cases h; done) | (refine ⟨KV.ofBool _, KV.ofBool _, leV_bool.2 ?_⟩; simp)
theorem leV_num {a b : Vl} (ha : KV 2 a) (hb : KV 2 b) : leV a b ↔ a.i ≤ b.i := by
  obtain ⟨ak, ai, az⟩ := a
  obtain ⟨bk, bi, bz⟩ := b
  have h1 := ha.kd
  have h2 := hb.kd
  have h3 := (ha.num rfl).2.2
  have h4 := (hb.num rfl).2.2
  simp only at h1 h2 h3 h4
  subst h1; subst h2; subst h3; subst h4
  unfold leV
  rw [cmp_same]
  unfold cmpW
  simp only [ne_eq, not_true, if_false]
  by_cases h : ai = bi
  · simp [h, cmpL]
  · simp only [h, not_false_eq_true, if_true]
    unfold cmpI
    split
    · simp; omega
    · split
      · simp; omega
      · omega
theorem leV_text {a b : Vl} (ha : KV 3 a) (hb : KV 3 b) : leV a b ↔ cmpL (bs a.s) (bs b.s) ≤ 0 := by
  unfold leV
  rw [cmp_same]
  unfold cmpW
  rw [ha.kd, hb.kd, ha.text rfl, hb.text rfl]
  simp
theorem KS.numbers {lo hi : Int} (h : lo ≤ hi) : KS 2 (numbersM lo hi) := by
  unfold numbersM
  split
  · rename_i hh
    rw [Bool.and_eq_true, decide_eq_true_eq, decide_eq_true_eq] at hh
    have k1 : KV 2 ⟨2, clampLo lo, ⟨#[]⟩⟩ := KV.ofNum (by unfold clampLo; split <;> omega) (by unfold clampLo; split <;> omega)
    have k2 : KV 2 ⟨2, clampHi hi, ⟨#[]⟩⟩ := KV.ofNum (by unfold clampHi; split <;> omega) (by unfold clampHi; split <;> omega)
    refine ⟨fun _ => ⟨k1, k2, (leV_num k1 k2).2 ?_⟩, fun h => by cases h⟩
    unfold clampLo clampHi
    simp only
    split <;> split <;> omega
  · exact KS.nul _
theorem KS.strict {k : Int} {s t r : Sp} (h : (s.has && t.has) = true → KS k r) : KS k (strictM s t r) := by
  unfold strictM
  split
  · rename_i hh
    exact ⟨(h hh).has, (h hh).no⟩
  · exact KS.nul _
/-- A range within another one. -/
structure SubS (s t : Sp) : Prop where
  null : s.null = true → t.null = true
  has : s.has = true → t.has = true ∧ leV t.lo s.lo ∧ leV s.hi t.hi
theorem noM_iff (s : Sp) : noM s = true ↔ s.has = true ∧ s.lo = boolV false := by
  unfold noM isBool
  rw [Bool.and_eq_true, eqVl_iff]
theorem yesM_iff (s : Sp) : yesM s = true ↔ s.has = true ∧ s.hi = boolV true := by
  unfold yesM isBool
  rw [Bool.and_eq_true, eqVl_iff]
theorem SubS.no {s t : Sp} (h : SubS s t) (ht : KS 1 t) (hn : noM s = true) : noM t = true := by
  rw [noM_iff] at hn ⊢
  have h1 := h.has hn.1
  obtain ⟨b, hb⟩ := (ht.has h1.1).1.bool rfl
  refine ⟨h1.1, ?_⟩
  rw [hb] at h1 ⊢
  have := h1.2.1
  rw [hn.2, leV_bool] at this
  cases b with
  | false => rfl
  | true => cases this rfl
theorem SubS.yes {s t : Sp} (h : SubS s t) (ht : KS 1 t) (hn : yesM s = true) : yesM t = true := by
  rw [yesM_iff] at hn ⊢
  have h1 := h.has hn.1
  obtain ⟨b, hb⟩ := (ht.has h1.1).2.1.bool rfl
  refine ⟨h1.1, ?_⟩
  rw [hb] at h1 ⊢
  have := h1.2.2
  rw [hn.2, leV_bool] at this
  rw [this rfl]
theorem SubS.truth {n y u n' y' u' : Bool} (h1 : n = true → n' = true) (h2 : y = true → y' = true) (h3 : u = true → u' = true) : SubS (truthM n y u) (truthM n' y' u') := by
  unfold truthM
  cases n <;> cases y <;> cases n' <;> cases y' <;> first | exact absurd (h1 rfl) (by decide) | exact absurd (h2 rfl) (by decide) | (refine ⟨h3, fun h => ?_⟩; first | (cases h; done) | (refine ⟨rfl, leV_bool.2 ?_, leV_bool.2 ?_⟩ <;> simp))
theorem SubS.strict {s t r s' t' r' : Sp} (hs : SubS s s') (ht : SubS t t') (h : (s.has && t.has) = true → SubS r r') : SubS (strictM s t r) (strictM s' t' r') := by
  unfold strictM
  cases hh : (s.has && t.has) with
  | true =>
    have e := hh
    rw [Bool.and_eq_true] at hh
    rw [if_pos rfl, if_pos (by rw [Bool.and_eq_true]; exact ⟨(hs.has hh.1).1, (ht.has hh.2).1⟩)]
    have hr := h e
    refine ⟨fun hn => ?_, hr.has⟩
    simp only [Bool.or_eq_true] at hn ⊢
    rcases hn with (hn | hn) | hn
    · exact .inl (.inl (hr.null hn))
    · exact .inl (.inr (hs.null hn))
    · exact .inr (ht.null hn)
  | false =>
    rw [if_neg (by decide)]
    refine ⟨fun hn => ?_, fun hn => by cases hn⟩
    simp only [Bool.or_eq_true] at hn
    split <;> simp only [Bool.or_eq_true]
    · rcases hn with hn | hn
      · exact .inl (.inr (hs.null hn))
      · exact .inr (ht.null hn)
    · rcases hn with hn | hn
      · exact .inl (hs.null hn)
      · exact .inr (ht.null hn)
theorem SubS.and {s t s' t' : Sp} (hs : SubS s s') (ht : SubS t t') (ks : KS 1 s') (kt : KS 1 t') : SubS (andM s t) (andM s' t') := by
  unfold andM
  refine SubS.truth (fun h => ?_) (fun h => ?_) (fun h => ?_) <;> simp only [Bool.or_eq_true, Bool.and_eq_true] at h ⊢
  · exact h.imp (hs.no ks) (ht.no kt)
  · exact ⟨hs.yes ks h.1, ht.yes kt h.2⟩
  · exact h.imp (fun h => ⟨hs.null h.1, h.2.imp ht.null (ht.yes kt)⟩) (fun h => ⟨ht.null h.1, hs.yes ks h.2⟩)
theorem SubS.or {s t s' t' : Sp} (hs : SubS s s') (ht : SubS t t') (ks : KS 1 s') (kt : KS 1 t') : SubS (orM s t) (orM s' t') := by
  unfold orM
  refine SubS.truth (fun h => ?_) (fun h => ?_) (fun h => ?_) <;> simp only [Bool.or_eq_true, Bool.and_eq_true] at h ⊢
  · exact ⟨hs.no ks h.1, ht.no kt h.2⟩
  · exact h.imp (hs.yes ks) (ht.yes kt)
  · exact h.imp (fun h => ⟨hs.null h.1, h.2.imp ht.null (ht.no kt)⟩) (fun h => ⟨ht.null h.1, hs.no ks h.2⟩)
theorem SubS.not {s s' : Sp} (hs : SubS s s') (ks : KS 1 s') : SubS (notM s) (notM s') :=
  SubS.truth (hs.yes ks) (hs.no ks) hs.null
theorem SubS.isn {s s' : Sp} (hs : SubS s s') : SubS (isNullM s) (isNullM s') :=
  SubS.truth (fun h => (hs.has h).1) hs.null (fun h => h)
theorem leV_lt_trans {a b c d : Vl} (h1 : leV a b) (h2 : cmpV b c < 0) (h3 : leV c d) : cmpV a d < 0 := by
  by_cases h : cmpV a d < 0
  · exact h
  have h4 := leV_not h
  have h5 : leV c b := leV_trans h3 (leV_trans h4 h1)
  have h6 := leV_anti h5 (leV_lt h2)
  rw [h6, cmpV_cmp.self] at h2
  omega
theorem ge_iff {a b : Vl} : cmpV a b ≥ 0 ↔ leV b a := by
  constructor
  · intro h; exact leV_not (by omega)
  · intro h
    by_cases h0 : cmpV a b < 0
    · have := leV_anti (leV_lt h0) h
      rw [this, cmpV_cmp.self] at h0; omega
    · omega
theorem SubS.less {s t s' t' : Sp} (l1 : leV s'.lo s.lo) (l2 : leV s.hi s'.hi) (l3 : leV t'.lo t.lo) (l4 : leV t.hi t'.hi) : SubS (lessM s t) (lessM s' t') := by
  unfold lessM
  refine SubS.truth (fun h => ?_) (fun h => ?_) (fun h => h) <;> rw [decide_eq_true_eq] at h ⊢
  · rw [ge_iff] at h ⊢
    exact leV_trans l3 (leV_trans h l2)
  · exact leV_lt_trans l1 h l4
theorem SubS.most {s t s' t' : Sp} (l1 : leV s'.lo s.lo) (l2 : leV s.hi s'.hi) (l3 : leV t'.lo t.lo) (l4 : leV t.hi t'.hi) : SubS (mostM s t) (mostM s' t') := by
  unfold mostM
  refine SubS.truth (fun h => ?_) (fun h => ?_) (fun h => h) <;> rw [decide_eq_true_eq] at h ⊢
  · exact cmpV_cmp.gt.2 (leV_lt_trans l3 (cmpV_cmp.gt.1 h) l2)
  · exact leV_trans l1 (leV_trans h l4)
theorem single_iff (s : Sp) : (!eqVl s.lo s.hi) = true ↔ s.lo ≠ s.hi := by
  rw [Bool.not_eq_true', ← Bool.not_eq_true, eqVl_iff]
theorem SubS.equal {s t s' t' : Sp} (l1 : leV s'.lo s.lo) (l2 : leV s.hi s'.hi) (l3 : leV t'.lo t.lo) (l4 : leV t.hi t'.hi) (ls : leV s.lo s.hi) (lt : leV t.lo t.hi) : SubS (equalM s t) (equalM s' t') := by
  unfold equalM
  refine SubS.truth (fun h => ?_) (fun h => ?_) (fun h => h)
  · rcases h' : (!eqVl s'.lo s'.hi || !eqVl t'.lo t'.hi || !eqVl s'.lo t'.lo) with _ | _
    · simp only [Bool.or_eq_false_iff, Bool.not_eq_false', eqVl_iff] at h'
      obtain ⟨⟨h1, h2⟩, h3⟩ := h'
      rw [← h1] at l2
      rw [← h2] at l4
      have e1 : s.lo = s'.lo := leV_anti (leV_trans ls l2) l1
      have e2 : t.lo = t'.lo := leV_anti (leV_trans lt l4) l3
      have e3 : s.lo = s.hi := leV_anti ls (leV_trans l2 l1)
      have e4 : t.lo = t.hi := leV_anti lt (leV_trans l4 l3)
      rw [(eqVl_iff _ _).2 e3, (eqVl_iff _ _).2 e4, (eqVl_iff _ _).2 (show s.lo = t.lo by rw [e1, e2, h3])] at h
      cases h
    · rfl
  · unfold apartM at h ⊢
    simp only [Bool.not_eq_true', Bool.or_eq_false_iff, decide_eq_false_iff_not] at h ⊢
    obtain ⟨h1, h2⟩ := h
    exact ⟨fun h => h1 (leV_lt_trans l2 h l3), fun h => h2 (leV_lt_trans l4 h l1)⟩
theorem clampLo_mono {a b : Int} (h : a ≤ b) : clampLo a ≤ clampLo b := by unfold clampLo; split <;> split <;> omega
theorem clampHi_mono {a b : Int} (h : a ≤ b) : clampHi a ≤ clampHi b := by unfold clampHi; split <;> split <;> omega
theorem SubS.numbers {lo hi lo' hi' : Int} (h : lo ≤ hi) (h1 : lo' ≤ lo) (h2 : hi ≤ hi') : SubS (numbersM lo hi) (numbersM lo' hi') := by
  have k1 := KS.numbers h
  have k2 := KS.numbers (show lo' ≤ hi' by omega)
  unfold numbersM at *
  cases hh : (decide (lo ≤ 4000000000000000000) && decide (hi ≥ -4000000000000000000)) with
  | true =>
    rw [hh, if_pos rfl] at k1
    have e : (decide (lo' ≤ 4000000000000000000) && decide (hi' ≥ -4000000000000000000)) = true := by
      simp only [Bool.and_eq_true, decide_eq_true_eq] at hh ⊢; omega
    rw [e, if_pos rfl] at k2 ⊢
    rw [if_pos rfl]
    refine ⟨fun h => ?_, fun _ => ⟨rfl, ?_, ?_⟩⟩
    · simp only [Bool.or_eq_true, decide_eq_true_eq] at h ⊢; omega
    · exact (leV_num (k2.has rfl).1 (k1.has rfl).1).2 (clampLo_mono h1)
    · exact (leV_num (k1.has rfl).2.1 (k2.has rfl).2.1).2 (clampHi_mono h2)
  | false =>
    rw [if_neg (by decide)]
    refine ⟨fun h => ?_, fun h => by cases h⟩
    simp only [Bool.or_eq_true, decide_eq_true_eq] at h
    split <;> simp only [Bool.or_eq_true, decide_eq_true_eq] <;> omega
theorem pre_between : ∀ {p x y z : List UInt8}, cmpL x y ≤ 0 → cmpL y z ≤ 0 → p <+: x → p <+: z → p <+: y
  | [], _, _, _, _, _, _, _ => List.nil_prefix
  | a :: p, x, y, z, h1, h2, hx, hz => by
    obtain ⟨x', rfl⟩ := hx
    obtain ⟨z', rfl⟩ := hz
    simp only [List.cons_append] at h1 h2
    cases y with
    | nil => simp [cmpL] at h1
    | cons b y =>
      simp only [cmpL] at h1 h2
      have hab : a = b := by
        by_cases c1 : a < b
        · rw [if_neg (fun c2 => absurd c2 (by rw [UInt8.lt_iff_toNat_lt] at c1 ⊢; omega)), if_pos c1] at h2
          omega
        · rw [if_neg c1] at h1
          by_cases c2 : b < a
          · rw [if_pos c2] at h1; omega
          · rw [UInt8.lt_iff_toNat_lt] at c1 c2
            exact UInt8.toNat_inj.1 (by omega)
      subst hab
      rw [if_neg (by rw [UInt8.lt_iff_toNat_lt]; omega), if_neg (by rw [UInt8.lt_iff_toNat_lt]; omega)] at h1 h2
      have := pre_between h1 h2 ⟨x', rfl⟩ ⟨z', rfl⟩
      exact List.cons_prefix_cons.2 ⟨rfl, this⟩
theorem hasPre_iff (s p : ByteArray) : hasPre s p = true ↔ bs p <+: bs s := by
  have e1 : s.size = (bs s).length := by simp [bs]
  have e2 : p.size = (bs p).length := by simp [bs]
  unfold hasPre
  rw [Bool.and_eq_true, decide_eq_true_eq, beq_iff_eq, ByteArray.toList_eq, ByteArray.toList_eq]
  have e3 : (s.extract 0 p.size).data.toList = (bs s).take (bs p).length := by
    rw [e2]; simp [bs, ByteArray.data_extract]
  rw [e3, List.prefix_iff_eq_take]
  constructor
  · rintro ⟨_, h⟩; exact h.symm
  · intro h
    refine ⟨?_, h.symm⟩
    have := congrArg List.length h
    rw [List.length_take] at this
    omega
theorem cmpL_anti (a b : ByteArray) : cmpL (bs a) (bs b) < 0 ↔ 0 < cmpL (bs b) (bs a) := cmpS_cmp.anti a b
theorem cmpL_lt (a b c : ByteArray) : cmpL (bs a) (bs b) < 0 → cmpL (bs b) (bs c) < 0 → cmpL (bs a) (bs c) < 0 := cmpS_cmp.trans a b c
theorem geS_iff (a b : ByteArray) : geS a b = true ↔ cmpL (bs b) (bs a) ≤ 0 := by
  have h := cmpL_eq (bs a) (bs b)
  have h2 := cmpL_anti a b
  have h3 := cmpL_anti b a
  unfold geS
  rw [ByteArray.toList_eq, ByteArray.toList_eq, Bool.not_eq_true', ← Bool.not_eq_true]
  constructor
  · intro hh
    rw [if_neg hh] at h
    by_cases h0 : cmpL (bs b) (bs a) > 0
    · have := h2.2 h0
      rw [h] at this
      split at this <;> omega
    · omega
  · intro hh h1
    rw [if_pos h1] at h
    have := h2.1 (by rw [h]; omega)
    omega
theorem leS_iff (a b : ByteArray) : leS a b = true ↔ cmpL (bs a) (bs b) ≤ 0 := by
  have h := cmpL_eq (bs a) (bs b)
  unfold leS
  rw [ByteArray.toList_eq, ByteArray.toList_eq, Bool.or_eq_true]
  constructor
  · rintro (hh | hh)
    · rw [if_pos hh] at h; omega
    · rw [if_pos hh] at h
      split at h <;> omega
  · intro hh
    by_cases h1 : Op.bytesLess (bs a) (bs b) = true
    · exact .inl h1
    · rw [if_neg h1] at h
      split at h
      · rename_i h2; exact .inr h2
      · omega
theorem cmpL_trans {x y z : ByteArray} (h1 : cmpL (bs x) (bs y) ≤ 0) (h2 : cmpL (bs y) (bs z) ≤ 0) : cmpL (bs x) (bs z) ≤ 0 := by
  by_cases e1 : cmpL (bs x) (bs y) = 0
  · rw [(cmpS_cmp.eq x y).1 e1]; exact h2
  by_cases e2 : cmpL (bs y) (bs z) = 0
  · rw [← (cmpS_cmp.eq y z).1 e2]; exact h1
  have := cmpL_lt x y z (by omega) (by omega)
  omega
theorem cmpL_total (x y : ByteArray) : cmpL (bs x) (bs y) ≤ 0 ∨ cmpL (bs y) (bs x) ≤ 0 := by
  by_cases h : cmpL (bs x) (bs y) ≤ 0
  · exact .inl h
  · have := (cmpL_anti y x).2 (by omega)
    exact .inr (by omega)
theorem SubS.begins {s t s' t' : Sp} (l1 : leV s'.lo s.lo) (l2 : leV s.hi s'.hi) (l3 : leV t'.lo t.lo) (l4 : leV t.hi t'.hi) (ls : leV s.lo s.hi) (lt : leV t.lo t.hi)
    (k1 : KV 3 s.lo) (k2 : KV 3 s.hi) (k3 : KV 3 s'.lo) (k4 : KV 3 s'.hi) : SubS (prefixM s t) (prefixM s' t') := by
  unfold prefixM
  cases e : eqVl t'.lo t'.hi with
  | false =>
    rw [if_pos rfl]
    split
    · exact SubS.truth (fun h => h) (fun h => h) (fun h => h)
    · exact SubS.truth (fun _ => rfl) (fun _ => rfl) (fun h => h)
  | true =>
    rw [if_neg (show ¬ (true = false) by decide)]
    rw [eqVl_iff] at e
    rw [← e] at l4
    have e1 : t.lo = t'.lo := leV_anti (leV_trans lt l4) l3
    have e2 : t.lo = t.hi := leV_anti lt (leV_trans l4 l3)
    rw [if_neg (by rw [(eqVl_iff _ _).2 e2]; decide), e1]
    generalize t'.lo.s = p
    rw [leV_text k3 k1] at l1
    rw [leV_text k2 k4] at l2
    rw [leV_text k1 k2] at ls
    refine SubS.truth (fun h => ?_) (fun h => ?_) (fun h => h)
    · rcases h' : (!hasPre s'.lo.s p || !hasPre s'.hi.s p) with _ | _
      · simp only [Bool.or_eq_false_iff, Bool.not_eq_false', hasPre_iff] at h'
        have p1 := pre_between l1 (cmpL_trans ls l2) h'.1 h'.2
        have p2 := pre_between (cmpL_trans l1 ls) l2 h'.1 h'.2
        rw [(hasPre_iff _ _).2 p1, (hasPre_iff _ _).2 p2] at h
        cases h
      · rfl
    · rw [Bool.and_eq_true, Bool.or_eq_true, geS_iff, leS_iff, hasPre_iff] at h ⊢
      refine ⟨cmpL_trans h.1 l2, ?_⟩
      rcases cmpL_total s'.lo.s p with h1 | h1
      · exact .inl h1
      · rcases h.2 with h2 | h2
        · exact .inl (cmpL_trans l1 h2)
        · exact .inr (pre_between h1 l1 (List.prefix_refl _) h2)
end
section
set_option linter.unusedVariables false
set_option linter.unusedSimpArgs false
open Go.RowKit
attribute [local irreducible] Spec SpecF SpecN
attribute [local irreducible] AWp evOps evD
set_option maxHeartbeats 4000000 in
theorem f43_op5 (B : Dat) (e1 e2 : Ex) (s t r : Sp) (h1 : Spec Tryd.prog 43 [.d B, .agg (exA e1)] (.agg (sp s))) (h2 : Spec Tryd.prog 43 [.d B, .agg (exA e2)] (.agg (sp t))) (hf : Spec Tryd.prog 112 [.agg (sp s), .agg (sp t)] (.agg (sp r))) : Spec Tryd.prog 43 [.d B, .agg (exA (.bi 5 e1 e2))] (.agg (sp (strictM s t r))) := by
  obtain ⟨sn, sh, slo, shi⟩ := s
  obtain ⟨tn, th, tlo, thi⟩ := t
  simp only [exA, opE_bi, cE_bi, vE_bi, argsD_bi] at h1 h2 ⊢
  refine spec_of_awp (fn := Tryd.f43) Tryd.func43 (by kernel_rfl) rfl ?_
  intro w0 C0
  simp only [Tryd.ntmps43, litI, litB, litS, List.length_cons, List.length_nil, Nat.reduceAdd, Nat.reduceSub, List.replicate_succ, List.replicate_zero, List.cons_append, List.nil_append]
  repeat' first
    | refine awp_seq ?_
    | refine awp_block ?_
    | refine awp_skip ?_
    | (refine reg _ (by (simp only [List.map_cons, List.map_nil]; rfl)) rfl ?_; intro K hK)
    | (apply ev_guardU; (case hj | hu | hσ => (simp only [go_sem, Int.reduceBEq]; try rfl)))
    | ((first | refine awp_cond _ (by rfl) ?_ ?_ | refine ev_guardT _ _ (by (simp only [go_sem, Int.reduceBEq]; rfl)) (by (simp only [go_sem, Int.reduceBEq]; rfl)) ?_ ?_ | refine ev_guardF _ _ (by (simp only [go_sem, Int.reduceBEq]; rfl)) (by (simp only [go_sem, Int.reduceBEq]; rfl)) ?_ ?_) <;> (intro hb; first | (cases hb; done) | (have ht : true = true := hb; clear ht hb) | (have ht : false = false := hb; clear ht hb) | (simp only [hb]) | skip))
    | (refine awp_exit ?_; simp only [thenA, blockA, scopeA, reduceIte, RetQ, Nat.reduceEqDiff])
    | (refine awp_ret ?_; simp only [thenA, blockA, scopeA, RetQ])
    | (refine ev_nil (hK _ ?_); clear hK K)
    | (apply ev_step0; (case hr | hσ => (simp only [go_sem, Int.reduceBEq]; try rfl)); (case hc => exact hcA))
    | (apply ev_step; (case hr => (simp only [go_sem, Int.reduceBEq]; try rfl)); (case hσ => (intro g u; simp only [go_sem, Int.reduceBEq]; try rfl)); (case hc => exact hcA); intro g u; (try clear u); (try clear g))
    | fail
  rename_i g3 g4
  revert g; intro g6
  refine awp_loopI (fun i : Nat => i ≤ 2) (fun i => 2 - i) (fun i => ⟨[.d B, .any, .any, .ptr 3 g3 0, .ptr 4 g4 0, .any, .ptr 6 g6 0, .any, .any, .any, .any, .any, .any, .any, .any, .any, .any, .any, .any, .any, .any, .any, .any, .any, .any, .any, .any, .any, .any, .any, .any, .any, .any, .any, .any, .any, .any, .any, .any, .d (.sl 6 [exD e1, exD e2]), litI .i64 2, litI .i64 i, .any, .any, .any, .any, .any, .any, .any, .any, .any, .any, .any, .any, .any, .any, .any, .any, .any, .any, .any, .any, .any, .any, .any, .any, .any, .any, .any, .any, .any, .any, .any, .any, .any, .any, .any, .any, .any, .any, .any, .any, .any, .any, .any, .any, .any, .any, .any, .any, .any, .any, .any, .any, .any, .any, .any], [.no, .no, .no, .box g3 (exA (.bi 5 e1 e2)), .box g4 zsp, .no, .box g6 (arrS ⟨sn, sh, slo, shi⟩ ⟨tn, th, tlo, thi⟩ i), .no, .no, .no, .no, .no, .no, .no, .no, .no, .no, .no, .no, .no, .no, .no, .no, .no, .no, .no, .no, .no, .no, .no, .no, .no, .no, .no, .no, .no, .no, .no, .no, .no, .no, .no, .no, .no, .no, .no, .no, .no, .no, .no, .no, .no, .no, .no, .no, .no, .no, .no, .no, .no, .no, .no, .no, .no, .no, .no, .no, .no, .no, .no, .no, .no, .no, .no, .no, .no, .no, .no, .no, .no, .no, .no, .no, .no, .no, .no, .no, .no, .no, .no, .no, .no, .no, .no, .no, .no, .no]⟩) 0 (by omega) ?_ ?_
  · simp only [arrS, exA, opE_bi, cE_bi, vE_bi, argsD_bi]
    exact wkA
  intro i hi
  simp only [litI, litB, litS] at hi h1 h2 hf ⊢
  obtain rfl | rfl | rfl : i = 0 ∨ i = 1 ∨ i = 2 := by omega
  · simp only [arrS, exA, opE_bi, cE_bi, vE_bi, argsD_bi, litI, litB, litS]
    have d1 : decide (((0 : Nat) : Int) < 2) = true := by decide
    repeat' first
      | refine awp_seq ?_
      | refine awp_block ?_
      | refine awp_skip ?_
      | (refine reg _ (by (simp only [List.map_cons, List.map_nil]; rfl)) rfl ?_; intro K hK)
      | (apply ev_guardU; (case hj | hu | hσ => (simp only [go_sem, d1, Int.reduceToNat]; try rfl)))
      | ((first | refine awp_cond _ (by rfl) ?_ ?_ | refine ev_guardT _ _ (by (simp only [go_sem, d1, Int.reduceToNat]; rfl)) (by (simp only [go_sem, d1, Int.reduceToNat]; rfl)) ?_ ?_ | refine ev_guardF _ _ (by (simp only [go_sem, d1, Int.reduceToNat]; rfl)) (by (simp only [go_sem, d1, Int.reduceToNat]; rfl)) ?_ ?_) <;> (intro hb; first | (cases hb; done) | (have ht : true = true := hb; clear ht hb) | (have ht : false = false := hb; clear ht hb) | (simp only [hb]) | skip))
      | (refine awp_exit ?_; simp only [thenA, blockA, scopeA, reduceIte, RetQ, Nat.reduceEqDiff])
      | (refine awp_ret ?_; simp only [thenA, blockA, scopeA, RetQ])
      | (refine ev_nil (hK _ ?_); clear hK K)
      | (apply ev_call0; (case hys => (simp only [go_sem, d1, Int.reduceToNat]; try rfl)); (case hs => first | exact h1 ..); (case hok | hσ => (simp only [go_sem, d1, Int.reduceToNat]; try rfl)))
      | (apply ev_callC; (case hf | hys => (simp only [go_sem, d1, Int.reduceToNat]; try rfl)); (case hs => first | exact h1 ..); (case hok | hσ => (simp only [go_sem, d1, Int.reduceToNat]; try rfl)))
      | (apply ev_step0; (case hr | hσ => (simp only [go_sem, d1, Int.reduceToNat]; try rfl)); (case hc => exact hcA))
      | (apply ev_step; (case hr => (simp only [go_sem, d1, Int.reduceToNat]; try rfl)); (case hσ => (intro g u; simp only [go_sem, d1, Int.reduceToNat]; try rfl)); (case hc => exact hcA); intro g u; (try clear u); (try clear g))
      | fail
    refine Exists.intro 1 ⟨by omega, by omega, ?_⟩
    simp only [arrS, exA, opE_bi, cE_bi, vE_bi, argsD_bi]
    exact wkA
  · simp only [arrS, exA, opE_bi, cE_bi, vE_bi, argsD_bi, litI, litB, litS]
    have d1 : decide (((1 : Nat) : Int) < 2) = true := by decide
    have w1 : IntKind.i64.wrap (((1 : Nat) : Int) + 1) = 2 := by decide
    repeat' first
      | refine awp_seq ?_
      | refine awp_block ?_
      | refine awp_skip ?_
      | (refine reg _ (by (simp only [List.map_cons, List.map_nil]; rfl)) rfl ?_; intro K hK)
      | (apply ev_guardU; (case hj | hu | hσ => (simp only [go_sem, d1, w1, Int.reduceToNat]; try rfl)))
      | ((first | refine awp_cond _ (by rfl) ?_ ?_ | refine ev_guardT _ _ (by (simp only [go_sem, d1, w1, Int.reduceToNat]; rfl)) (by (simp only [go_sem, d1, w1, Int.reduceToNat]; rfl)) ?_ ?_ | refine ev_guardF _ _ (by (simp only [go_sem, d1, w1, Int.reduceToNat]; rfl)) (by (simp only [go_sem, d1, w1, Int.reduceToNat]; rfl)) ?_ ?_) <;> (intro hb; first | (cases hb; done) | (have ht : true = true := hb; clear ht hb) | (have ht : false = false := hb; clear ht hb) | (simp only [hb]) | skip))
      | (refine awp_exit ?_; simp only [thenA, blockA, scopeA, reduceIte, RetQ, Nat.reduceEqDiff])
      | (refine awp_ret ?_; simp only [thenA, blockA, scopeA, RetQ])
      | (refine ev_nil (hK _ ?_); clear hK K)
      | (apply ev_call0; (case hys => (simp only [go_sem, d1, w1, Int.reduceToNat]; try rfl)); (case hs => first | exact h2 ..); (case hok | hσ => (simp only [go_sem, d1, w1, Int.reduceToNat]; try rfl)))
      | (apply ev_callC; (case hf | hys => (simp only [go_sem, d1, w1, Int.reduceToNat]; try rfl)); (case hs => first | exact h2 ..); (case hok | hσ => (simp only [go_sem, d1, w1, Int.reduceToNat]; try rfl)))
      | (apply ev_step0; (case hr | hσ => (simp only [go_sem, d1, w1, Int.reduceToNat]; try rfl)); (case hc => exact hcA))
      | (apply ev_step; (case hr => (simp only [go_sem, d1, w1, Int.reduceToNat]; try rfl)); (case hσ => (intro g u; simp only [go_sem, d1, w1, Int.reduceToNat]; try rfl)); (case hc => exact hcA); intro g u; (try clear u); (try clear g))
      | fail
    refine Exists.intro 2 ⟨by omega, by omega, ?_⟩
    simp only [arrS, exA, opE_bi, cE_bi, vE_bi, argsD_bi]
    exact wkA
  simp only [arrS, exA, opE_bi, cE_bi, vE_bi, argsD_bi, litI, litB, litS]
  have d1 : decide (((2 : Nat) : Int) < 2) = false := by decide
  unfold strictM
  cases sh with
  | false =>
    simp only [Bool.false_and, Bool.false_eq_true, if_false]
    cases sn <;> cases tn
    all_goals
      repeat' first
        | refine awp_seq ?_
        | refine awp_block ?_
        | refine awp_skip ?_
        | (refine reg _ (by (simp only [List.map_cons, List.map_nil]; rfl)) rfl ?_; intro K hK)
        | (apply ev_guardU; (case hj | hu | hσ => (simp only [go_sem, d1, Int.reduceToNat]; try rfl)))
        | ((first | refine awp_cond _ (by rfl) ?_ ?_ | refine ev_guardT _ _ (by (simp only [go_sem, d1, Int.reduceToNat]; rfl)) (by (simp only [go_sem, d1, Int.reduceToNat]; rfl)) ?_ ?_ | refine ev_guardF _ _ (by (simp only [go_sem, d1, Int.reduceToNat]; rfl)) (by (simp only [go_sem, d1, Int.reduceToNat]; rfl)) ?_ ?_) <;> (intro hb; first | (cases hb; done) | (have ht : true = true := hb; clear ht hb) | (have ht : false = false := hb; clear ht hb) | (simp only [hb]) | skip))
        | (refine awp_exit ?_; simp only [thenA, blockA, scopeA, reduceIte, RetQ, Nat.reduceEqDiff])
        | (refine awp_ret ?_; simp only [thenA, blockA, scopeA, RetQ])
        | (refine ev_nil (hK _ ?_); clear hK K)
        | (apply ev_step0; (case hr | hσ => (simp only [go_sem, d1, Int.reduceToNat]; try rfl)); (case hc => exact hcA))
        | (apply ev_step; (case hr => (simp only [go_sem, d1, Int.reduceToNat]; try rfl)); (case hσ => (intro g u; simp only [go_sem, d1, Int.reduceToNat]; try rfl)); (case hc => exact hcA); intro g u; (try clear u); (try clear g))
        | fail
      all_goals (refine resR_oneA ?_; simp only [go_sem])
      exact LeA.refl _
  | true =>
  cases th with
  | false =>
    simp only [Bool.and_false, Bool.false_eq_true, if_false]
    cases sn <;> cases tn
    all_goals
      repeat' first
        | refine awp_seq ?_
        | refine awp_block ?_
        | refine awp_skip ?_
        | (refine reg _ (by (simp only [List.map_cons, List.map_nil]; rfl)) rfl ?_; intro K hK)
        | (apply ev_guardU; (case hj | hu | hσ => (simp only [go_sem, d1, Int.reduceToNat]; try rfl)))
        | ((first | refine awp_cond _ (by rfl) ?_ ?_ | refine ev_guardT _ _ (by (simp only [go_sem, d1, Int.reduceToNat]; rfl)) (by (simp only [go_sem, d1, Int.reduceToNat]; rfl)) ?_ ?_ | refine ev_guardF _ _ (by (simp only [go_sem, d1, Int.reduceToNat]; rfl)) (by (simp only [go_sem, d1, Int.reduceToNat]; rfl)) ?_ ?_) <;> (intro hb; first | (cases hb; done) | (have ht : true = true := hb; clear ht hb) | (have ht : false = false := hb; clear ht hb) | (simp only [hb]) | skip))
        | (refine awp_exit ?_; simp only [thenA, blockA, scopeA, reduceIte, RetQ, Nat.reduceEqDiff])
        | (refine awp_ret ?_; simp only [thenA, blockA, scopeA, RetQ])
        | (refine ev_nil (hK _ ?_); clear hK K)
        | (apply ev_step0; (case hr | hσ => (simp only [go_sem, d1, Int.reduceToNat]; try rfl)); (case hc => exact hcA))
        | (apply ev_step; (case hr => (simp only [go_sem, d1, Int.reduceToNat]; try rfl)); (case hσ => (intro g u; simp only [go_sem, d1, Int.reduceToNat]; try rfl)); (case hc => exact hcA); intro g u; (try clear u); (try clear g))
        | fail
      all_goals (refine resR_oneA ?_; simp only [go_sem])
      exact LeA.refl _
  | true =>
    simp only [Bool.and_self, if_true]
    obtain ⟨rn, rh, rlo, rhi⟩ := r
    cases rn <;> cases sn <;> cases tn
    all_goals
      repeat' first
        | refine awp_seq ?_
        | refine awp_block ?_
        | refine awp_skip ?_
        | (refine reg _ (by (simp only [List.map_cons, List.map_nil]; rfl)) rfl ?_; intro K hK)
        | (apply ev_guardU; (case hj | hu | hσ => (simp only [go_sem, d1, Int.reduceToNat]; try rfl)))
        | ((first | refine awp_cond _ (by rfl) ?_ ?_ | refine ev_guardT _ _ (by (simp only [go_sem, d1, Int.reduceToNat]; rfl)) (by (simp only [go_sem, d1, Int.reduceToNat]; rfl)) ?_ ?_ | refine ev_guardF _ _ (by (simp only [go_sem, d1, Int.reduceToNat]; rfl)) (by (simp only [go_sem, d1, Int.reduceToNat]; rfl)) ?_ ?_) <;> (intro hb; first | (cases hb; done) | (have ht : true = true := hb; clear ht hb) | (have ht : false = false := hb; clear ht hb) | (simp only [hb]) | skip))
        | (refine awp_exit ?_; simp only [thenA, blockA, scopeA, reduceIte, RetQ, Nat.reduceEqDiff])
        | (refine awp_ret ?_; simp only [thenA, blockA, scopeA, RetQ])
        | (refine ev_nil (hK _ ?_); clear hK K)
        | (apply ev_call0; (case hys => (simp only [go_sem, d1, Int.reduceToNat]; try rfl)); (case hs => first | exact hf ..); (case hok | hσ => (simp only [go_sem, d1, Int.reduceToNat]; try rfl)))
        | (apply ev_callC; (case hf | hys => (simp only [go_sem, d1, Int.reduceToNat]; try rfl)); (case hs => first | exact hf ..); (case hok | hσ => (simp only [go_sem, d1, Int.reduceToNat]; try rfl)))
        | (apply ev_step0; (case hr | hσ => (simp only [go_sem, d1, Int.reduceToNat]; try rfl)); (case hc => exact hcA))
        | (apply ev_step; (case hr => (simp only [go_sem, d1, Int.reduceToNat]; try rfl)); (case hσ => (intro g u; simp only [go_sem, d1, Int.reduceToNat]; try rfl)); (case hc => exact hcA); intro g u; (try clear u); (try clear g))
        | fail
      all_goals (refine resR_oneA ?_; simp only [go_sem])
      exact LeA.refl _
end
section
set_option linter.unusedVariables false
set_option linter.unusedSimpArgs false
open Go.RowKit
attribute [local irreducible] Spec SpecF SpecN
attribute [local irreducible] AWp evOps evD
set_option maxHeartbeats 4000000 in
theorem f43_op10 (B : Dat) (e1 e2 : Ex) (s t r : Sp) (h1 : Spec Tryd.prog 43 [.d B, .agg (exA e1)] (.agg (sp s))) (h2 : Spec Tryd.prog 43 [.d B, .agg (exA e2)] (.agg (sp t))) (hf : Spec Tryd.prog 114 [.agg (sp s), .agg (sp t)] (.agg (sp r))) : Spec Tryd.prog 43 [.d B, .agg (exA (.bi 10 e1 e2))] (.agg (sp (strictM s t r))) := by
  obtain ⟨sn, sh, slo, shi⟩ := s
  obtain ⟨tn, th, tlo, thi⟩ := t
  simp only [exA, opE_bi, cE_bi, vE_bi, argsD_bi] at h1 h2 ⊢
  refine spec_of_awp (fn := Tryd.f43) Tryd.func43 (by kernel_rfl) rfl ?_
  intro w0 C0
  simp only [Tryd.ntmps43, litI, litB, litS, List.length_cons, List.length_nil, Nat.reduceAdd, Nat.reduceSub, List.replicate_succ, List.replicate_zero, List.cons_append, List.nil_append]
  repeat' first
    | refine awp_seq ?_
    | refine awp_block ?_
    | refine awp_skip ?_
    | (refine reg _ (by (simp only [List.map_cons, List.map_nil]; rfl)) rfl ?_; intro K hK)
    | (apply ev_guardU; (case hj | hu | hσ => (simp only [go_sem, Int.reduceBEq]; try rfl)))
    | ((first | refine awp_cond _ (by rfl) ?_ ?_ | refine ev_guardT _ _ (by (simp only [go_sem, Int.reduceBEq]; rfl)) (by (simp only [go_sem, Int.reduceBEq]; rfl)) ?_ ?_ | refine ev_guardF _ _ (by (simp only [go_sem, Int.reduceBEq]; rfl)) (by (simp only [go_sem, Int.reduceBEq]; rfl)) ?_ ?_) <;> (intro hb; first | (cases hb; done) | (have ht : true = true := hb; clear ht hb) | (have ht : false = false := hb; clear ht hb) | (simp only [hb]) | skip))
    | (refine awp_exit ?_; simp only [thenA, blockA, scopeA, reduceIte, RetQ, Nat.reduceEqDiff])
    | (refine awp_ret ?_; simp only [thenA, blockA, scopeA, RetQ])
    | (refine ev_nil (hK _ ?_); clear hK K)
    | (apply ev_step0; (case hr | hσ => (simp only [go_sem, Int.reduceBEq]; try rfl)); (case hc => exact hcA))
    | (apply ev_step; (case hr => (simp only [go_sem, Int.reduceBEq]; try rfl)); (case hσ => (intro g u; simp only [go_sem, Int.reduceBEq]; try rfl)); (case hc => exact hcA); intro g u; (try clear u); (try clear g))
    | fail
  rename_i g3 g4
  revert g; intro g6
  refine awp_loopI (fun i : Nat => i ≤ 2) (fun i => 2 - i) (fun i => ⟨[.d B, .any, .any, .ptr 3 g3 0, .ptr 4 g4 0, .any, .ptr 6 g6 0, .any, .any, .any, .any, .any, .any, .any, .any, .any, .any, .any, .any, .any, .any, .any, .any, .any, .any, .any, .any, .any, .any, .any, .any, .any, .any, .any, .any, .any, .any, .any, .any, .d (.sl 6 [exD e1, exD e2]), litI .i64 2, litI .i64 i, .any, .any, .any, .any, .any, .any, .any, .any, .any, .any, .any, .any, .any, .any, .any, .any, .any, .any, .any, .any, .any, .any, .any, .any, .any, .any, .any, .any, .any, .any, .any, .any, .any, .any, .any, .any, .any, .any, .any, .any, .any, .any, .any, .any, .any, .any, .any, .any, .any, .any, .any, .any, .any, .any, .any], [.no, .no, .no, .box g3 (exA (.bi 10 e1 e2)), .box g4 zsp, .no, .box g6 (arrS ⟨sn, sh, slo, shi⟩ ⟨tn, th, tlo, thi⟩ i), .no, .no, .no, .no, .no, .no, .no, .no, .no, .no, .no, .no, .no, .no, .no, .no, .no, .no, .no, .no, .no, .no, .no, .no, .no, .no, .no, .no, .no, .no, .no, .no, .no, .no, .no, .no, .no, .no, .no, .no, .no, .no, .no, .no, .no, .no, .no, .no, .no, .no, .no, .no, .no, .no, .no, .no, .no, .no, .no, .no, .no, .no, .no, .no, .no, .no, .no, .no, .no, .no, .no, .no, .no, .no, .no, .no, .no, .no, .no, .no, .no, .no, .no, .no, .no, .no, .no, .no, .no, .no]⟩) 0 (by omega) ?_ ?_
  · simp only [arrS, exA, opE_bi, cE_bi, vE_bi, argsD_bi]
    exact wkA
  intro i hi
  simp only [litI, litB, litS] at hi h1 h2 hf ⊢
  obtain rfl | rfl | rfl : i = 0 ∨ i = 1 ∨ i = 2 := by omega
  · simp only [arrS, exA, opE_bi, cE_bi, vE_bi, argsD_bi, litI, litB, litS]
    have d1 : decide (((0 : Nat) : Int) < 2) = true := by decide
    repeat' first
      | refine awp_seq ?_
      | refine awp_block ?_
      | refine awp_skip ?_
      | (refine reg _ (by (simp only [List.map_cons, List.map_nil]; rfl)) rfl ?_; intro K hK)
      | (apply ev_guardU; (case hj | hu | hσ => (simp only [go_sem, d1, Int.reduceToNat]; try rfl)))
      | ((first | refine awp_cond _ (by rfl) ?_ ?_ | refine ev_guardT _ _ (by (simp only [go_sem, d1, Int.reduceToNat]; rfl)) (by (simp only [go_sem, d1, Int.reduceToNat]; rfl)) ?_ ?_ | refine ev_guardF _ _ (by (simp only [go_sem, d1, Int.reduceToNat]; rfl)) (by (simp only [go_sem, d1, Int.reduceToNat]; rfl)) ?_ ?_) <;> (intro hb; first | (cases hb; done) | (have ht : true = true := hb; clear ht hb) | (have ht : false = false := hb; clear ht hb) | (simp only [hb]) | skip))
      | (refine awp_exit ?_; simp only [thenA, blockA, scopeA, reduceIte, RetQ, Nat.reduceEqDiff])
      | (refine awp_ret ?_; simp only [thenA, blockA, scopeA, RetQ])
      | (refine ev_nil (hK _ ?_); clear hK K)
      | (apply ev_call0; (case hys => (simp only [go_sem, d1, Int.reduceToNat]; try rfl)); (case hs => first | exact h1 ..); (case hok | hσ => (simp only [go_sem, d1, Int.reduceToNat]; try rfl)))
      | (apply ev_callC; (case hf | hys => (simp only [go_sem, d1, Int.reduceToNat]; try rfl)); (case hs => first | exact h1 ..); (case hok | hσ => (simp only [go_sem, d1, Int.reduceToNat]; try rfl)))
      | (apply ev_step0; (case hr | hσ => (simp only [go_sem, d1, Int.reduceToNat]; try rfl)); (case hc => exact hcA))
      | (apply ev_step; (case hr => (simp only [go_sem, d1, Int.reduceToNat]; try rfl)); (case hσ => (intro g u; simp only [go_sem, d1, Int.reduceToNat]; try rfl)); (case hc => exact hcA); intro g u; (try clear u); (try clear g))
      | fail
    refine Exists.intro 1 ⟨by omega, by omega, ?_⟩
    simp only [arrS, exA, opE_bi, cE_bi, vE_bi, argsD_bi]
    exact wkA
  · simp only [arrS, exA, opE_bi, cE_bi, vE_bi, argsD_bi, litI, litB, litS]
    have d1 : decide (((1 : Nat) : Int) < 2) = true := by decide
    have w1 : IntKind.i64.wrap (((1 : Nat) : Int) + 1) = 2 := by decide
    repeat' first
      | refine awp_seq ?_
      | refine awp_block ?_
      | refine awp_skip ?_
      | (refine reg _ (by (simp only [List.map_cons, List.map_nil]; rfl)) rfl ?_; intro K hK)
      | (apply ev_guardU; (case hj | hu | hσ => (simp only [go_sem, d1, w1, Int.reduceToNat]; try rfl)))
      | ((first | refine awp_cond _ (by rfl) ?_ ?_ | refine ev_guardT _ _ (by (simp only [go_sem, d1, w1, Int.reduceToNat]; rfl)) (by (simp only [go_sem, d1, w1, Int.reduceToNat]; rfl)) ?_ ?_ | refine ev_guardF _ _ (by (simp only [go_sem, d1, w1, Int.reduceToNat]; rfl)) (by (simp only [go_sem, d1, w1, Int.reduceToNat]; rfl)) ?_ ?_) <;> (intro hb; first | (cases hb; done) | (have ht : true = true := hb; clear ht hb) | (have ht : false = false := hb; clear ht hb) | (simp only [hb]) | skip))
      | (refine awp_exit ?_; simp only [thenA, blockA, scopeA, reduceIte, RetQ, Nat.reduceEqDiff])
      | (refine awp_ret ?_; simp only [thenA, blockA, scopeA, RetQ])
      | (refine ev_nil (hK _ ?_); clear hK K)
      | (apply ev_call0; (case hys => (simp only [go_sem, d1, w1, Int.reduceToNat]; try rfl)); (case hs => first | exact h2 ..); (case hok | hσ => (simp only [go_sem, d1, w1, Int.reduceToNat]; try rfl)))
      | (apply ev_callC; (case hf | hys => (simp only [go_sem, d1, w1, Int.reduceToNat]; try rfl)); (case hs => first | exact h2 ..); (case hok | hσ => (simp only [go_sem, d1, w1, Int.reduceToNat]; try rfl)))
      | (apply ev_step0; (case hr | hσ => (simp only [go_sem, d1, w1, Int.reduceToNat]; try rfl)); (case hc => exact hcA))
      | (apply ev_step; (case hr => (simp only [go_sem, d1, w1, Int.reduceToNat]; try rfl)); (case hσ => (intro g u; simp only [go_sem, d1, w1, Int.reduceToNat]; try rfl)); (case hc => exact hcA); intro g u; (try clear u); (try clear g))
      | fail
    refine Exists.intro 2 ⟨by omega, by omega, ?_⟩
    simp only [arrS, exA, opE_bi, cE_bi, vE_bi, argsD_bi]
    exact wkA
  simp only [arrS, exA, opE_bi, cE_bi, vE_bi, argsD_bi, litI, litB, litS]
  have d1 : decide (((2 : Nat) : Int) < 2) = false := by decide
  unfold strictM
  cases sh with
  | false =>
    simp only [Bool.false_and, Bool.false_eq_true, if_false]
    cases sn <;> cases tn
    all_goals
      repeat' first
        | refine awp_seq ?_
        | refine awp_block ?_
        | refine awp_skip ?_
        | (refine reg _ (by (simp only [List.map_cons, List.map_nil]; rfl)) rfl ?_; intro K hK)
        | (apply ev_guardU; (case hj | hu | hσ => (simp only [go_sem, d1, Int.reduceToNat]; try rfl)))
        | ((first | refine awp_cond _ (by rfl) ?_ ?_ | refine ev_guardT _ _ (by (simp only [go_sem, d1, Int.reduceToNat]; rfl)) (by (simp only [go_sem, d1, Int.reduceToNat]; rfl)) ?_ ?_ | refine ev_guardF _ _ (by (simp only [go_sem, d1, Int.reduceToNat]; rfl)) (by (simp only [go_sem, d1, Int.reduceToNat]; rfl)) ?_ ?_) <;> (intro hb; first | (cases hb; done) | (have ht : true = true := hb; clear ht hb) | (have ht : false = false := hb; clear ht hb) | (simp only [hb]) | skip))
        | (refine awp_exit ?_; simp only [thenA, blockA, scopeA, reduceIte, RetQ, Nat.reduceEqDiff])
        | (refine awp_ret ?_; simp only [thenA, blockA, scopeA, RetQ])
        | (refine ev_nil (hK _ ?_); clear hK K)
        | (apply ev_step0; (case hr | hσ => (simp only [go_sem, d1, Int.reduceToNat]; try rfl)); (case hc => exact hcA))
        | (apply ev_step; (case hr => (simp only [go_sem, d1, Int.reduceToNat]; try rfl)); (case hσ => (intro g u; simp only [go_sem, d1, Int.reduceToNat]; try rfl)); (case hc => exact hcA); intro g u; (try clear u); (try clear g))
        | fail
      all_goals (refine resR_oneA ?_; simp only [go_sem])
      exact LeA.refl _
  | true =>
  cases th with
  | false =>
    simp only [Bool.and_false, Bool.false_eq_true, if_false]
    cases sn <;> cases tn
    all_goals
      repeat' first
        | refine awp_seq ?_
        | refine awp_block ?_
        | refine awp_skip ?_
        | (refine reg _ (by (simp only [List.map_cons, List.map_nil]; rfl)) rfl ?_; intro K hK)
        | (apply ev_guardU; (case hj | hu | hσ => (simp only [go_sem, d1, Int.reduceToNat]; try rfl)))
        | ((first | refine awp_cond _ (by rfl) ?_ ?_ | refine ev_guardT _ _ (by (simp only [go_sem, d1, Int.reduceToNat]; rfl)) (by (simp only [go_sem, d1, Int.reduceToNat]; rfl)) ?_ ?_ | refine ev_guardF _ _ (by (simp only [go_sem, d1, Int.reduceToNat]; rfl)) (by (simp only [go_sem, d1, Int.reduceToNat]; rfl)) ?_ ?_) <;> (intro hb; first | (cases hb; done) | (have ht : true = true := hb; clear ht hb) | (have ht : false = false := hb; clear ht hb) | (simp only [hb]) | skip))
        | (refine awp_exit ?_; simp only [thenA, blockA, scopeA, reduceIte, RetQ, Nat.reduceEqDiff])
        | (refine awp_ret ?_; simp only [thenA, blockA, scopeA, RetQ])
        | (refine ev_nil (hK _ ?_); clear hK K)
        | (apply ev_step0; (case hr | hσ => (simp only [go_sem, d1, Int.reduceToNat]; try rfl)); (case hc => exact hcA))
        | (apply ev_step; (case hr => (simp only [go_sem, d1, Int.reduceToNat]; try rfl)); (case hσ => (intro g u; simp only [go_sem, d1, Int.reduceToNat]; try rfl)); (case hc => exact hcA); intro g u; (try clear u); (try clear g))
        | fail
      all_goals (refine resR_oneA ?_; simp only [go_sem])
      exact LeA.refl _
  | true =>
    simp only [Bool.and_self, if_true]
    obtain ⟨rn, rh, rlo, rhi⟩ := r
    cases rn <;> cases sn <;> cases tn
    all_goals
      repeat' first
        | refine awp_seq ?_
        | refine awp_block ?_
        | refine awp_skip ?_
        | (refine reg _ (by (simp only [List.map_cons, List.map_nil]; rfl)) rfl ?_; intro K hK)
        | (apply ev_guardU; (case hj | hu | hσ => (simp only [go_sem, d1, Int.reduceToNat]; try rfl)))
        | ((first | refine awp_cond _ (by rfl) ?_ ?_ | refine ev_guardT _ _ (by (simp only [go_sem, d1, Int.reduceToNat]; rfl)) (by (simp only [go_sem, d1, Int.reduceToNat]; rfl)) ?_ ?_ | refine ev_guardF _ _ (by (simp only [go_sem, d1, Int.reduceToNat]; rfl)) (by (simp only [go_sem, d1, Int.reduceToNat]; rfl)) ?_ ?_) <;> (intro hb; first | (cases hb; done) | (have ht : true = true := hb; clear ht hb) | (have ht : false = false := hb; clear ht hb) | (simp only [hb]) | skip))
        | (refine awp_exit ?_; simp only [thenA, blockA, scopeA, reduceIte, RetQ, Nat.reduceEqDiff])
        | (refine awp_ret ?_; simp only [thenA, blockA, scopeA, RetQ])
        | (refine ev_nil (hK _ ?_); clear hK K)
        | (apply ev_call0; (case hys => (simp only [go_sem, d1, Int.reduceToNat]; try rfl)); (case hs => first | exact hf ..); (case hok | hσ => (simp only [go_sem, d1, Int.reduceToNat]; try rfl)))
        | (apply ev_callC; (case hf | hys => (simp only [go_sem, d1, Int.reduceToNat]; try rfl)); (case hs => first | exact hf ..); (case hok | hσ => (simp only [go_sem, d1, Int.reduceToNat]; try rfl)))
        | (apply ev_step0; (case hr | hσ => (simp only [go_sem, d1, Int.reduceToNat]; try rfl)); (case hc => exact hcA))
        | (apply ev_step; (case hr => (simp only [go_sem, d1, Int.reduceToNat]; try rfl)); (case hσ => (intro g u; simp only [go_sem, d1, Int.reduceToNat]; try rfl)); (case hc => exact hcA); intro g u; (try clear u); (try clear g))
        | fail
      all_goals (refine resR_oneA ?_; simp only [go_sem])
      exact LeA.refl _
end
section
set_option linter.unusedVariables false
set_option linter.unusedSimpArgs false
open Go.RowKit
attribute [local irreducible] Spec SpecF SpecN
attribute [local irreducible] AWp evOps evD
set_option maxHeartbeats 4000000 in
theorem f43_op11 (B : Dat) (e1 e2 : Ex) (s t r : Sp) (h1 : Spec Tryd.prog 43 [.d B, .agg (exA e1)] (.agg (sp s))) (h2 : Spec Tryd.prog 43 [.d B, .agg (exA e2)] (.agg (sp t))) (hf : Spec Tryd.prog 115 [.agg (sp s), .agg (sp t)] (.agg (sp r))) : Spec Tryd.prog 43 [.d B, .agg (exA (.bi 11 e1 e2))] (.agg (sp (strictM s t r))) := by
  obtain ⟨sn, sh, slo, shi⟩ := s
  obtain ⟨tn, th, tlo, thi⟩ := t
  simp only [exA, opE_bi, cE_bi, vE_bi, argsD_bi] at h1 h2 ⊢
  refine spec_of_awp (fn := Tryd.f43) Tryd.func43 (by kernel_rfl) rfl ?_
  intro w0 C0
  simp only [Tryd.ntmps43, litI, litB, litS, List.length_cons, List.length_nil, Nat.reduceAdd, Nat.reduceSub, List.replicate_succ, List.replicate_zero, List.cons_append, List.nil_append]
  repeat' first
    | refine awp_seq ?_
    | refine awp_block ?_
    | refine awp_skip ?_
    | (refine reg _ (by (simp only [List.map_cons, List.map_nil]; rfl)) rfl ?_; intro K hK)
    | (apply ev_guardU; (case hj | hu | hσ => (simp only [go_sem, Int.reduceBEq]; try rfl)))
    | ((first | refine awp_cond _ (by rfl) ?_ ?_ | refine ev_guardT _ _ (by (simp only [go_sem, Int.reduceBEq]; rfl)) (by (simp only [go_sem, Int.reduceBEq]; rfl)) ?_ ?_ | refine ev_guardF _ _ (by (simp only [go_sem, Int.reduceBEq]; rfl)) (by (simp only [go_sem, Int.reduceBEq]; rfl)) ?_ ?_) <;> (intro hb; first | (cases hb; done) | (have ht : true = true := hb; clear ht hb) | (have ht : false = false := hb; clear ht hb) | (simp only [hb]) | skip))
    | (refine awp_exit ?_; simp only [thenA, blockA, scopeA, reduceIte, RetQ, Nat.reduceEqDiff])
    | (refine awp_ret ?_; simp only [thenA, blockA, scopeA, RetQ])
    | (refine ev_nil (hK _ ?_); clear hK K)
    | (apply ev_step0; (case hr | hσ => (simp only [go_sem, Int.reduceBEq]; try rfl)); (case hc => exact hcA))
    | (apply ev_step; (case hr => (simp only [go_sem, Int.reduceBEq]; try rfl)); (case hσ => (intro g u; simp only [go_sem, Int.reduceBEq]; try rfl)); (case hc => exact hcA); intro g u; (try clear u); (try clear g))
    | fail
  rename_i g3 g4
  revert g; intro g6
  refine awp_loopI (fun i : Nat => i ≤ 2) (fun i => 2 - i) (fun i => ⟨[.d B, .any, .any, .ptr 3 g3 0, .ptr 4 g4 0, .any, .ptr 6 g6 0, .any, .any, .any, .any, .any, .any, .any, .any, .any, .any, .any, .any, .any, .any, .any, .any, .any, .any, .any, .any, .any, .any, .any, .any, .any, .any, .any, .any, .any, .any, .any, .any, .d (.sl 6 [exD e1, exD e2]), litI .i64 2, litI .i64 i, .any, .any, .any, .any, .any, .any, .any, .any, .any, .any, .any, .any, .any, .any, .any, .any, .any, .any, .any, .any, .any, .any, .any, .any, .any, .any, .any, .any, .any, .any, .any, .any, .any, .any, .any, .any, .any, .any, .any, .any, .any, .any, .any, .any, .any, .any, .any, .any, .any, .any, .any, .any, .any, .any, .any], [.no, .no, .no, .box g3 (exA (.bi 11 e1 e2)), .box g4 zsp, .no, .box g6 (arrS ⟨sn, sh, slo, shi⟩ ⟨tn, th, tlo, thi⟩ i), .no, .no, .no, .no, .no, .no, .no, .no, .no, .no, .no, .no, .no, .no, .no, .no, .no, .no, .no, .no, .no, .no, .no, .no, .no, .no, .no, .no, .no, .no, .no, .no, .no, .no, .no, .no, .no, .no, .no, .no, .no, .no, .no, .no, .no, .no, .no, .no, .no, .no, .no, .no, .no, .no, .no, .no, .no, .no, .no, .no, .no, .no, .no, .no, .no, .no, .no, .no, .no, .no, .no, .no, .no, .no, .no, .no, .no, .no, .no, .no, .no, .no, .no, .no, .no, .no, .no, .no, .no, .no]⟩) 0 (by omega) ?_ ?_
  · simp only [arrS, exA, opE_bi, cE_bi, vE_bi, argsD_bi]
    exact wkA
  intro i hi
  simp only [litI, litB, litS] at hi h1 h2 hf ⊢
  obtain rfl | rfl | rfl : i = 0 ∨ i = 1 ∨ i = 2 := by omega
  · simp only [arrS, exA, opE_bi, cE_bi, vE_bi, argsD_bi, litI, litB, litS]
    have d1 : decide (((0 : Nat) : Int) < 2) = true := by decide
    repeat' first
      | refine awp_seq ?_
      | refine awp_block ?_
      | refine awp_skip ?_
      | (refine reg _ (by (simp only [List.map_cons, List.map_nil]; rfl)) rfl ?_; intro K hK)
      | (apply ev_guardU; (case hj | hu | hσ => (simp only [go_sem, d1, Int.reduceToNat]; try rfl)))
      | ((first | refine awp_cond _ (by rfl) ?_ ?_ | refine ev_guardT _ _ (by (simp only [go_sem, d1, Int.reduceToNat]; rfl)) (by (simp only [go_sem, d1, Int.reduceToNat]; rfl)) ?_ ?_ | refine ev_guardF _ _ (by (simp only [go_sem, d1, Int.reduceToNat]; rfl)) (by (simp only [go_sem, d1, Int.reduceToNat]; rfl)) ?_ ?_) <;> (intro hb; first | (cases hb; done) | (have ht : true = true := hb; clear ht hb) | (have ht : false = false := hb; clear ht hb) | (simp only [hb]) | skip))
      | (refine awp_exit ?_; simp only [thenA, blockA, scopeA, reduceIte, RetQ, Nat.reduceEqDiff])
      | (refine awp_ret ?_; simp only [thenA, blockA, scopeA, RetQ])
      | (refine ev_nil (hK _ ?_); clear hK K)
      | (apply ev_call0; (case hys => (simp only [go_sem, d1, Int.reduceToNat]; try rfl)); (case hs => first | exact h1 ..); (case hok | hσ => (simp only [go_sem, d1, Int.reduceToNat]; try rfl)))
      | (apply ev_callC; (case hf | hys => (simp only [go_sem, d1, Int.reduceToNat]; try rfl)); (case hs => first | exact h1 ..); (case hok | hσ => (simp only [go_sem, d1, Int.reduceToNat]; try rfl)))
      | (apply ev_step0; (case hr | hσ => (simp only [go_sem, d1, Int.reduceToNat]; try rfl)); (case hc => exact hcA))
      | (apply ev_step; (case hr => (simp only [go_sem, d1, Int.reduceToNat]; try rfl)); (case hσ => (intro g u; simp only [go_sem, d1, Int.reduceToNat]; try rfl)); (case hc => exact hcA); intro g u; (try clear u); (try clear g))
      | fail
    refine Exists.intro 1 ⟨by omega, by omega, ?_⟩
    simp only [arrS, exA, opE_bi, cE_bi, vE_bi, argsD_bi]
    exact wkA
  · simp only [arrS, exA, opE_bi, cE_bi, vE_bi, argsD_bi, litI, litB, litS]
    have d1 : decide (((1 : Nat) : Int) < 2) = true := by decide
    have w1 : IntKind.i64.wrap (((1 : Nat) : Int) + 1) = 2 := by decide
    repeat' first
      | refine awp_seq ?_
      | refine awp_block ?_
      | refine awp_skip ?_
      | (refine reg _ (by (simp only [List.map_cons, List.map_nil]; rfl)) rfl ?_; intro K hK)
      | (apply ev_guardU; (case hj | hu | hσ => (simp only [go_sem, d1, w1, Int.reduceToNat]; try rfl)))
      | ((first | refine awp_cond _ (by rfl) ?_ ?_ | refine ev_guardT _ _ (by (simp only [go_sem, d1, w1, Int.reduceToNat]; rfl)) (by (simp only [go_sem, d1, w1, Int.reduceToNat]; rfl)) ?_ ?_ | refine ev_guardF _ _ (by (simp only [go_sem, d1, w1, Int.reduceToNat]; rfl)) (by (simp only [go_sem, d1, w1, Int.reduceToNat]; rfl)) ?_ ?_) <;> (intro hb; first | (cases hb; done) | (have ht : true = true := hb; clear ht hb) | (have ht : false = false := hb; clear ht hb) | (simp only [hb]) | skip))
      | (refine awp_exit ?_; simp only [thenA, blockA, scopeA, reduceIte, RetQ, Nat.reduceEqDiff])
      | (refine awp_ret ?_; simp only [thenA, blockA, scopeA, RetQ])
      | (refine ev_nil (hK _ ?_); clear hK K)
      | (apply ev_call0; (case hys => (simp only [go_sem, d1, w1, Int.reduceToNat]; try rfl)); (case hs => first | exact h2 ..); (case hok | hσ => (simp only [go_sem, d1, w1, Int.reduceToNat]; try rfl)))
      | (apply ev_callC; (case hf | hys => (simp only [go_sem, d1, w1, Int.reduceToNat]; try rfl)); (case hs => first | exact h2 ..); (case hok | hσ => (simp only [go_sem, d1, w1, Int.reduceToNat]; try rfl)))
      | (apply ev_step0; (case hr | hσ => (simp only [go_sem, d1, w1, Int.reduceToNat]; try rfl)); (case hc => exact hcA))
      | (apply ev_step; (case hr => (simp only [go_sem, d1, w1, Int.reduceToNat]; try rfl)); (case hσ => (intro g u; simp only [go_sem, d1, w1, Int.reduceToNat]; try rfl)); (case hc => exact hcA); intro g u; (try clear u); (try clear g))
      | fail
    refine Exists.intro 2 ⟨by omega, by omega, ?_⟩
    simp only [arrS, exA, opE_bi, cE_bi, vE_bi, argsD_bi]
    exact wkA
  simp only [arrS, exA, opE_bi, cE_bi, vE_bi, argsD_bi, litI, litB, litS]
  have d1 : decide (((2 : Nat) : Int) < 2) = false := by decide
  unfold strictM
  cases sh with
  | false =>
    simp only [Bool.false_and, Bool.false_eq_true, if_false]
    cases sn <;> cases tn
    all_goals
      repeat' first
        | refine awp_seq ?_
        | refine awp_block ?_
        | refine awp_skip ?_
        | (refine reg _ (by (simp only [List.map_cons, List.map_nil]; rfl)) rfl ?_; intro K hK)
        | (apply ev_guardU; (case hj | hu | hσ => (simp only [go_sem, d1, Int.reduceToNat]; try rfl)))
        | ((first | refine awp_cond _ (by rfl) ?_ ?_ | refine ev_guardT _ _ (by (simp only [go_sem, d1, Int.reduceToNat]; rfl)) (by (simp only [go_sem, d1, Int.reduceToNat]; rfl)) ?_ ?_ | refine ev_guardF _ _ (by (simp only [go_sem, d1, Int.reduceToNat]; rfl)) (by (simp only [go_sem, d1, Int.reduceToNat]; rfl)) ?_ ?_) <;> (intro hb; first | (cases hb; done) | (have ht : true = true := hb; clear ht hb) | (have ht : false = false := hb; clear ht hb) | (simp only [hb]) | skip))
        | (refine awp_exit ?_; simp only [thenA, blockA, scopeA, reduceIte, RetQ, Nat.reduceEqDiff])
        | (refine awp_ret ?_; simp only [thenA, blockA, scopeA, RetQ])
        | (refine ev_nil (hK _ ?_); clear hK K)
        | (apply ev_step0; (case hr | hσ => (simp only [go_sem, d1, Int.reduceToNat]; try rfl)); (case hc => exact hcA))
        | (apply ev_step; (case hr => (simp only [go_sem, d1, Int.reduceToNat]; try rfl)); (case hσ => (intro g u; simp only [go_sem, d1, Int.reduceToNat]; try rfl)); (case hc => exact hcA); intro g u; (try clear u); (try clear g))
        | fail
      all_goals (refine resR_oneA ?_; simp only [go_sem])
      exact LeA.refl _
  | true =>
  cases th with
  | false =>
    simp only [Bool.and_false, Bool.false_eq_true, if_false]
    cases sn <;> cases tn
    all_goals
      repeat' first
        | refine awp_seq ?_
        | refine awp_block ?_
        | refine awp_skip ?_
        | (refine reg _ (by (simp only [List.map_cons, List.map_nil]; rfl)) rfl ?_; intro K hK)
        | (apply ev_guardU; (case hj | hu | hσ => (simp only [go_sem, d1, Int.reduceToNat]; try rfl)))
        | ((first | refine awp_cond _ (by rfl) ?_ ?_ | refine ev_guardT _ _ (by (simp only [go_sem, d1, Int.reduceToNat]; rfl)) (by (simp only [go_sem, d1, Int.reduceToNat]; rfl)) ?_ ?_ | refine ev_guardF _ _ (by (simp only [go_sem, d1, Int.reduceToNat]; rfl)) (by (simp only [go_sem, d1, Int.reduceToNat]; rfl)) ?_ ?_) <;> (intro hb; first | (cases hb; done) | (have ht : true = true := hb; clear ht hb) | (have ht : false = false := hb; clear ht hb) | (simp only [hb]) | skip))
        | (refine awp_exit ?_; simp only [thenA, blockA, scopeA, reduceIte, RetQ, Nat.reduceEqDiff])
        | (refine awp_ret ?_; simp only [thenA, blockA, scopeA, RetQ])
        | (refine ev_nil (hK _ ?_); clear hK K)
        | (apply ev_step0; (case hr | hσ => (simp only [go_sem, d1, Int.reduceToNat]; try rfl)); (case hc => exact hcA))
        | (apply ev_step; (case hr => (simp only [go_sem, d1, Int.reduceToNat]; try rfl)); (case hσ => (intro g u; simp only [go_sem, d1, Int.reduceToNat]; try rfl)); (case hc => exact hcA); intro g u; (try clear u); (try clear g))
        | fail
      all_goals (refine resR_oneA ?_; simp only [go_sem])
      exact LeA.refl _
  | true =>
    simp only [Bool.and_self, if_true]
    obtain ⟨rn, rh, rlo, rhi⟩ := r
    cases rn <;> cases sn <;> cases tn
    all_goals
      repeat' first
        | refine awp_seq ?_
        | refine awp_block ?_
        | refine awp_skip ?_
        | (refine reg _ (by (simp only [List.map_cons, List.map_nil]; rfl)) rfl ?_; intro K hK)
        | (apply ev_guardU; (case hj | hu | hσ => (simp only [go_sem, d1, Int.reduceToNat]; try rfl)))
        | ((first | refine awp_cond _ (by rfl) ?_ ?_ | refine ev_guardT _ _ (by (simp only [go_sem, d1, Int.reduceToNat]; rfl)) (by (simp only [go_sem, d1, Int.reduceToNat]; rfl)) ?_ ?_ | refine ev_guardF _ _ (by (simp only [go_sem, d1, Int.reduceToNat]; rfl)) (by (simp only [go_sem, d1, Int.reduceToNat]; rfl)) ?_ ?_) <;> (intro hb; first | (cases hb; done) | (have ht : true = true := hb; clear ht hb) | (have ht : false = false := hb; clear ht hb) | (simp only [hb]) | skip))
        | (refine awp_exit ?_; simp only [thenA, blockA, scopeA, reduceIte, RetQ, Nat.reduceEqDiff])
        | (refine awp_ret ?_; simp only [thenA, blockA, scopeA, RetQ])
        | (refine ev_nil (hK _ ?_); clear hK K)
        | (apply ev_call0; (case hys => (simp only [go_sem, d1, Int.reduceToNat]; try rfl)); (case hs => first | exact hf ..); (case hok | hσ => (simp only [go_sem, d1, Int.reduceToNat]; try rfl)))
        | (apply ev_callC; (case hf | hys => (simp only [go_sem, d1, Int.reduceToNat]; try rfl)); (case hs => first | exact hf ..); (case hok | hσ => (simp only [go_sem, d1, Int.reduceToNat]; try rfl)))
        | (apply ev_step0; (case hr | hσ => (simp only [go_sem, d1, Int.reduceToNat]; try rfl)); (case hc => exact hcA))
        | (apply ev_step; (case hr => (simp only [go_sem, d1, Int.reduceToNat]; try rfl)); (case hσ => (intro g u; simp only [go_sem, d1, Int.reduceToNat]; try rfl)); (case hc => exact hcA); intro g u; (try clear u); (try clear g))
        | fail
      all_goals (refine resR_oneA ?_; simp only [go_sem])
      exact LeA.refl _
end
section
set_option linter.unusedVariables false
set_option linter.unusedSimpArgs false
open Go.RowKit
attribute [local irreducible] Spec SpecF SpecN
attribute [local irreducible] AWp evOps evD
set_option maxHeartbeats 4000000 in
theorem f43_op12 (B : Dat) (e1 e2 : Ex) (s t r : Sp) (h1 : Spec Tryd.prog 43 [.d B, .agg (exA e1)] (.agg (sp s))) (h2 : Spec Tryd.prog 43 [.d B, .agg (exA e2)] (.agg (sp t))) (hf : Spec Tryd.prog 113 [.agg (sp s), .agg (sp t)] (.agg (sp r))) : Spec Tryd.prog 43 [.d B, .agg (exA (.bi 12 e1 e2))] (.agg (sp (strictM s t r))) := by
  obtain ⟨sn, sh, slo, shi⟩ := s
  obtain ⟨tn, th, tlo, thi⟩ := t
  simp only [exA, opE_bi, cE_bi, vE_bi, argsD_bi] at h1 h2 ⊢
  refine spec_of_awp (fn := Tryd.f43) Tryd.func43 (by kernel_rfl) rfl ?_
  intro w0 C0
  simp only [Tryd.ntmps43, litI, litB, litS, List.length_cons, List.length_nil, Nat.reduceAdd, Nat.reduceSub, List.replicate_succ, List.replicate_zero, List.cons_append, List.nil_append]
  repeat' first
    | refine awp_seq ?_
    | refine awp_block ?_
    | refine awp_skip ?_
    | (refine reg _ (by (simp only [List.map_cons, List.map_nil]; rfl)) rfl ?_; intro K hK)
    | (apply ev_guardU; (case hj | hu | hσ => (simp only [go_sem, Int.reduceBEq]; try rfl)))
    | ((first | refine awp_cond _ (by rfl) ?_ ?_ | refine ev_guardT _ _ (by (simp only [go_sem, Int.reduceBEq]; rfl)) (by (simp only [go_sem, Int.reduceBEq]; rfl)) ?_ ?_ | refine ev_guardF _ _ (by (simp only [go_sem, Int.reduceBEq]; rfl)) (by (simp only [go_sem, Int.reduceBEq]; rfl)) ?_ ?_) <;> (intro hb; first | (cases hb; done) | (have ht : true = true := hb; clear ht hb) | (have ht : false = false := hb; clear ht hb) | (simp only [hb]) | skip))
    | (refine awp_exit ?_; simp only [thenA, blockA, scopeA, reduceIte, RetQ, Nat.reduceEqDiff])
    | (refine awp_ret ?_; simp only [thenA, blockA, scopeA, RetQ])
    | (refine ev_nil (hK _ ?_); clear hK K)
    | (apply ev_step0; (case hr | hσ => (simp only [go_sem, Int.reduceBEq]; try rfl)); (case hc => exact hcA))
    | (apply ev_step; (case hr => (simp only [go_sem, Int.reduceBEq]; try rfl)); (case hσ => (intro g u; simp only [go_sem, Int.reduceBEq]; try rfl)); (case hc => exact hcA); intro g u; (try clear u); (try clear g))
    | fail
  rename_i g3 g4
  revert g; intro g6
  refine awp_loopI (fun i : Nat => i ≤ 2) (fun i => 2 - i) (fun i => ⟨[.d B, .any, .any, .ptr 3 g3 0, .ptr 4 g4 0, .any, .ptr 6 g6 0, .any, .any, .any, .any, .any, .any, .any, .any, .any, .any, .any, .any, .any, .any, .any, .any, .any, .any, .any, .any, .any, .any, .any, .any, .any, .any, .any, .any, .any, .any, .any, .any, .d (.sl 6 [exD e1, exD e2]), litI .i64 2, litI .i64 i, .any, .any, .any, .any, .any, .any, .any, .any, .any, .any, .any, .any, .any, .any, .any, .any, .any, .any, .any, .any, .any, .any, .any, .any, .any, .any, .any, .any, .any, .any, .any, .any, .any, .any, .any, .any, .any, .any, .any, .any, .any, .any, .any, .any, .any, .any, .any, .any, .any, .any, .any, .any, .any, .any, .any], [.no, .no, .no, .box g3 (exA (.bi 12 e1 e2)), .box g4 zsp, .no, .box g6 (arrS ⟨sn, sh, slo, shi⟩ ⟨tn, th, tlo, thi⟩ i), .no, .no, .no, .no, .no, .no, .no, .no, .no, .no, .no, .no, .no, .no, .no, .no, .no, .no, .no, .no, .no, .no, .no, .no, .no, .no, .no, .no, .no, .no, .no, .no, .no, .no, .no, .no, .no, .no, .no, .no, .no, .no, .no, .no, .no, .no, .no, .no, .no, .no, .no, .no, .no, .no, .no, .no, .no, .no, .no, .no, .no, .no, .no, .no, .no, .no, .no, .no, .no, .no, .no, .no, .no, .no, .no, .no, .no, .no, .no, .no, .no, .no, .no, .no, .no, .no, .no, .no, .no, .no]⟩) 0 (by omega) ?_ ?_
  · simp only [arrS, exA, opE_bi, cE_bi, vE_bi, argsD_bi]
    exact wkA
  intro i hi
  simp only [litI, litB, litS] at hi h1 h2 hf ⊢
  obtain rfl | rfl | rfl : i = 0 ∨ i = 1 ∨ i = 2 := by omega
  · simp only [arrS, exA, opE_bi, cE_bi, vE_bi, argsD_bi, litI, litB, litS]
    have d1 : decide (((0 : Nat) : Int) < 2) = true := by decide
    repeat' first
      | refine awp_seq ?_
      | refine awp_block ?_
      | refine awp_skip ?_
      | (refine reg _ (by (simp only [List.map_cons, List.map_nil]; rfl)) rfl ?_; intro K hK)
      | (apply ev_guardU; (case hj | hu | hσ => (simp only [go_sem, d1, Int.reduceToNat]; try rfl)))
      | ((first | refine awp_cond _ (by rfl) ?_ ?_ | refine ev_guardT _ _ (by (simp only [go_sem, d1, Int.reduceToNat]; rfl)) (by (simp only [go_sem, d1, Int.reduceToNat]; rfl)) ?_ ?_ | refine ev_guardF _ _ (by (simp only [go_sem, d1, Int.reduceToNat]; rfl)) (by (simp only [go_sem, d1, Int.reduceToNat]; rfl)) ?_ ?_) <;> (intro hb; first | (cases hb; done) | (have ht : true = true := hb; clear ht hb) | (have ht : false = false := hb; clear ht hb) | (simp only [hb]) | skip))
      | (refine awp_exit ?_; simp only [thenA, blockA, scopeA, reduceIte, RetQ, Nat.reduceEqDiff])
      | (refine awp_ret ?_; simp only [thenA, blockA, scopeA, RetQ])
      | (refine ev_nil (hK _ ?_); clear hK K)
      | (apply ev_call0; (case hys => (simp only [go_sem, d1, Int.reduceToNat]; try rfl)); (case hs => first | exact h1 ..); (case hok | hσ => (simp only [go_sem, d1, Int.reduceToNat]; try rfl)))
      | (apply ev_callC; (case hf | hys => (simp only [go_sem, d1, Int.reduceToNat]; try rfl)); (case hs => first | exact h1 ..); (case hok | hσ => (simp only [go_sem, d1, Int.reduceToNat]; try rfl)))
      | (apply ev_step0; (case hr | hσ => (simp only [go_sem, d1, Int.reduceToNat]; try rfl)); (case hc => exact hcA))
      | (apply ev_step; (case hr => (simp only [go_sem, d1, Int.reduceToNat]; try rfl)); (case hσ => (intro g u; simp only [go_sem, d1, Int.reduceToNat]; try rfl)); (case hc => exact hcA); intro g u; (try clear u); (try clear g))
      | fail
    refine Exists.intro 1 ⟨by omega, by omega, ?_⟩
    simp only [arrS, exA, opE_bi, cE_bi, vE_bi, argsD_bi]
    exact wkA
  · simp only [arrS, exA, opE_bi, cE_bi, vE_bi, argsD_bi, litI, litB, litS]
    have d1 : decide (((1 : Nat) : Int) < 2) = true := by decide
    have w1 : IntKind.i64.wrap (((1 : Nat) : Int) + 1) = 2 := by decide
    repeat' first
      | refine awp_seq ?_
      | refine awp_block ?_
      | refine awp_skip ?_
      | (refine reg _ (by (simp only [List.map_cons, List.map_nil]; rfl)) rfl ?_; intro K hK)
      | (apply ev_guardU; (case hj | hu | hσ => (simp only [go_sem, d1, w1, Int.reduceToNat]; try rfl)))
      | ((first | refine awp_cond _ (by rfl) ?_ ?_ | refine ev_guardT _ _ (by (simp only [go_sem, d1, w1, Int.reduceToNat]; rfl)) (by (simp only [go_sem, d1, w1, Int.reduceToNat]; rfl)) ?_ ?_ | refine ev_guardF _ _ (by (simp only [go_sem, d1, w1, Int.reduceToNat]; rfl)) (by (simp only [go_sem, d1, w1, Int.reduceToNat]; rfl)) ?_ ?_) <;> (intro hb; first | (cases hb; done) | (have ht : true = true := hb; clear ht hb) | (have ht : false = false := hb; clear ht hb) | (simp only [hb]) | skip))
      | (refine awp_exit ?_; simp only [thenA, blockA, scopeA, reduceIte, RetQ, Nat.reduceEqDiff])
      | (refine awp_ret ?_; simp only [thenA, blockA, scopeA, RetQ])
      | (refine ev_nil (hK _ ?_); clear hK K)
      | (apply ev_call0; (case hys => (simp only [go_sem, d1, w1, Int.reduceToNat]; try rfl)); (case hs => first | exact h2 ..); (case hok | hσ => (simp only [go_sem, d1, w1, Int.reduceToNat]; try rfl)))
      | (apply ev_callC; (case hf | hys => (simp only [go_sem, d1, w1, Int.reduceToNat]; try rfl)); (case hs => first | exact h2 ..); (case hok | hσ => (simp only [go_sem, d1, w1, Int.reduceToNat]; try rfl)))
      | (apply ev_step0; (case hr | hσ => (simp only [go_sem, d1, w1, Int.reduceToNat]; try rfl)); (case hc => exact hcA))
      | (apply ev_step; (case hr => (simp only [go_sem, d1, w1, Int.reduceToNat]; try rfl)); (case hσ => (intro g u; simp only [go_sem, d1, w1, Int.reduceToNat]; try rfl)); (case hc => exact hcA); intro g u; (try clear u); (try clear g))
      | fail
    refine Exists.intro 2 ⟨by omega, by omega, ?_⟩
    simp only [arrS, exA, opE_bi, cE_bi, vE_bi, argsD_bi]
    exact wkA
  simp only [arrS, exA, opE_bi, cE_bi, vE_bi, argsD_bi, litI, litB, litS]
  have d1 : decide (((2 : Nat) : Int) < 2) = false := by decide
  unfold strictM
  cases sh with
  | false =>
    simp only [Bool.false_and, Bool.false_eq_true, if_false]
    cases sn <;> cases tn
    all_goals
      repeat' first
        | refine awp_seq ?_
        | refine awp_block ?_
        | refine awp_skip ?_
        | (refine reg _ (by (simp only [List.map_cons, List.map_nil]; rfl)) rfl ?_; intro K hK)
        | (apply ev_guardU; (case hj | hu | hσ => (simp only [go_sem, d1, Int.reduceToNat]; try rfl)))
        | ((first | refine awp_cond _ (by rfl) ?_ ?_ | refine ev_guardT _ _ (by (simp only [go_sem, d1, Int.reduceToNat]; rfl)) (by (simp only [go_sem, d1, Int.reduceToNat]; rfl)) ?_ ?_ | refine ev_guardF _ _ (by (simp only [go_sem, d1, Int.reduceToNat]; rfl)) (by (simp only [go_sem, d1, Int.reduceToNat]; rfl)) ?_ ?_) <;> (intro hb; first | (cases hb; done) | (have ht : true = true := hb; clear ht hb) | (have ht : false = false := hb; clear ht hb) | (simp only [hb]) | skip))
        | (refine awp_exit ?_; simp only [thenA, blockA, scopeA, reduceIte, RetQ, Nat.reduceEqDiff])
        | (refine awp_ret ?_; simp only [thenA, blockA, scopeA, RetQ])
        | (refine ev_nil (hK _ ?_); clear hK K)
        | (apply ev_step0; (case hr | hσ => (simp only [go_sem, d1, Int.reduceToNat]; try rfl)); (case hc => exact hcA))
        | (apply ev_step; (case hr => (simp only [go_sem, d1, Int.reduceToNat]; try rfl)); (case hσ => (intro g u; simp only [go_sem, d1, Int.reduceToNat]; try rfl)); (case hc => exact hcA); intro g u; (try clear u); (try clear g))
        | fail
      all_goals (refine resR_oneA ?_; simp only [go_sem])
      exact LeA.refl _
  | true =>
  cases th with
  | false =>
    simp only [Bool.and_false, Bool.false_eq_true, if_false]
    cases sn <;> cases tn
    all_goals
      repeat' first
        | refine awp_seq ?_
        | refine awp_block ?_
        | refine awp_skip ?_
        | (refine reg _ (by (simp only [List.map_cons, List.map_nil]; rfl)) rfl ?_; intro K hK)
        | (apply ev_guardU; (case hj | hu | hσ => (simp only [go_sem, d1, Int.reduceToNat]; try rfl)))
        | ((first | refine awp_cond _ (by rfl) ?_ ?_ | refine ev_guardT _ _ (by (simp only [go_sem, d1, Int.reduceToNat]; rfl)) (by (simp only [go_sem, d1, Int.reduceToNat]; rfl)) ?_ ?_ | refine ev_guardF _ _ (by (simp only [go_sem, d1, Int.reduceToNat]; rfl)) (by (simp only [go_sem, d1, Int.reduceToNat]; rfl)) ?_ ?_) <;> (intro hb; first | (cases hb; done) | (have ht : true = true := hb; clear ht hb) | (have ht : false = false := hb; clear ht hb) | (simp only [hb]) | skip))
        | (refine awp_exit ?_; simp only [thenA, blockA, scopeA, reduceIte, RetQ, Nat.reduceEqDiff])
        | (refine awp_ret ?_; simp only [thenA, blockA, scopeA, RetQ])
        | (refine ev_nil (hK _ ?_); clear hK K)
        | (apply ev_step0; (case hr | hσ => (simp only [go_sem, d1, Int.reduceToNat]; try rfl)); (case hc => exact hcA))
        | (apply ev_step; (case hr => (simp only [go_sem, d1, Int.reduceToNat]; try rfl)); (case hσ => (intro g u; simp only [go_sem, d1, Int.reduceToNat]; try rfl)); (case hc => exact hcA); intro g u; (try clear u); (try clear g))
        | fail
      all_goals (refine resR_oneA ?_; simp only [go_sem])
      exact LeA.refl _
  | true =>
    simp only [Bool.and_self, if_true]
    obtain ⟨rn, rh, rlo, rhi⟩ := r
    cases rn <;> cases sn <;> cases tn
    all_goals
      repeat' first
        | refine awp_seq ?_
        | refine awp_block ?_
        | refine awp_skip ?_
        | (refine reg _ (by (simp only [List.map_cons, List.map_nil]; rfl)) rfl ?_; intro K hK)
        | (apply ev_guardU; (case hj | hu | hσ => (simp only [go_sem, d1, Int.reduceToNat]; try rfl)))
        | ((first | refine awp_cond _ (by rfl) ?_ ?_ | refine ev_guardT _ _ (by (simp only [go_sem, d1, Int.reduceToNat]; rfl)) (by (simp only [go_sem, d1, Int.reduceToNat]; rfl)) ?_ ?_ | refine ev_guardF _ _ (by (simp only [go_sem, d1, Int.reduceToNat]; rfl)) (by (simp only [go_sem, d1, Int.reduceToNat]; rfl)) ?_ ?_) <;> (intro hb; first | (cases hb; done) | (have ht : true = true := hb; clear ht hb) | (have ht : false = false := hb; clear ht hb) | (simp only [hb]) | skip))
        | (refine awp_exit ?_; simp only [thenA, blockA, scopeA, reduceIte, RetQ, Nat.reduceEqDiff])
        | (refine awp_ret ?_; simp only [thenA, blockA, scopeA, RetQ])
        | (refine ev_nil (hK _ ?_); clear hK K)
        | (apply ev_call0; (case hys => (simp only [go_sem, d1, Int.reduceToNat]; try rfl)); (case hs => first | exact hf ..); (case hok | hσ => (simp only [go_sem, d1, Int.reduceToNat]; try rfl)))
        | (apply ev_callC; (case hf | hys => (simp only [go_sem, d1, Int.reduceToNat]; try rfl)); (case hs => first | exact hf ..); (case hok | hσ => (simp only [go_sem, d1, Int.reduceToNat]; try rfl)))
        | (apply ev_step0; (case hr | hσ => (simp only [go_sem, d1, Int.reduceToNat]; try rfl)); (case hc => exact hcA))
        | (apply ev_step; (case hr => (simp only [go_sem, d1, Int.reduceToNat]; try rfl)); (case hσ => (intro g u; simp only [go_sem, d1, Int.reduceToNat]; try rfl)); (case hc => exact hcA); intro g u; (try clear u); (try clear g))
        | fail
      all_goals (refine resR_oneA ?_; simp only [go_sem])
      exact LeA.refl _
end
section
set_option linter.unusedVariables false
set_option linter.unusedSimpArgs false
open Go.RowKit
attribute [local irreducible] Spec SpecF SpecN
attribute [local irreducible] AWp evOps evD
set_option maxHeartbeats 4000000 in
theorem f43_op6 (B : Dat) (e1 e2 : Ex) (s t r : Sp) (h1 : Spec Tryd.prog 43 [.d B, .agg (exA e1)] (.agg (sp s))) (h2 : Spec Tryd.prog 43 [.d B, .agg (exA e2)] (.agg (sp t))) (hf : Spec Tryd.prog 105 [.agg (sp s), .agg (sp t)] (.agg (sp r))) : Spec Tryd.prog 43 [.d B, .agg (exA (.bi 6 e1 e2))] (.agg (sp r)) := by
  simp only [exA, opE_bi, cE_bi, vE_bi, argsD_bi] at h1 h2 ⊢
  refine spec_of_awp (fn := Tryd.f43) Tryd.func43 (by kernel_rfl) rfl ?_
  intro w0 C0
  simp only [Tryd.ntmps43, litI, litB, litS, List.length_cons, List.length_nil, Nat.reduceAdd, Nat.reduceSub, List.replicate_succ, List.replicate_zero, List.cons_append, List.nil_append]
  repeat' first
    | refine awp_seq ?_
    | refine awp_block ?_
    | refine awp_skip ?_
    | (refine reg _ (by (simp only [List.map_cons, List.map_nil]; rfl)) rfl ?_; intro K hK)
    | (apply ev_guardU; (case hj | hu | hσ => (simp only [go_sem, Int.reduceBEq]; try rfl)))
    | ((first | refine awp_cond _ (by rfl) ?_ ?_ | refine ev_guardT _ _ (by (simp only [go_sem, Int.reduceBEq]; rfl)) (by (simp only [go_sem, Int.reduceBEq]; rfl)) ?_ ?_ | refine ev_guardF _ _ (by (simp only [go_sem, Int.reduceBEq]; rfl)) (by (simp only [go_sem, Int.reduceBEq]; rfl)) ?_ ?_) <;> (intro hb; first | (cases hb; done) | (have ht : true = true := hb; clear ht hb) | (have ht : false = false := hb; clear ht hb) | (simp only [hb]) | skip))
    | (refine awp_exit ?_; simp only [thenA, blockA, scopeA, reduceIte, RetQ, Nat.reduceEqDiff])
    | (refine awp_ret ?_; simp only [thenA, blockA, scopeA, RetQ])
    | (refine ev_nil (hK _ ?_); clear hK K)
    | (apply ev_step0; (case hr | hσ => (simp only [go_sem, Int.reduceBEq]; try rfl)); (case hc => exact hcA))
    | (apply ev_step; (case hr => (simp only [go_sem, Int.reduceBEq]; try rfl)); (case hσ => (intro g u; simp only [go_sem, Int.reduceBEq]; try rfl)); (case hc => exact hcA); intro g u; (try clear u); (try clear g))
    | fail
  rename_i g3 g4
  revert g; intro g6
  refine awp_loopI (fun i : Nat => i ≤ 2) (fun i => 2 - i) (fun i => ⟨[.d B, .any, .any, .ptr 3 g3 0, .ptr 4 g4 0, .any, .ptr 6 g6 0, .any, .any, .any, .any, .any, .any, .any, .any, .any, .any, .any, .any, .any, .any, .any, .any, .any, .any, .any, .any, .any, .any, .any, .any, .any, .any, .any, .any, .any, .any, .any, .any, .d (.sl 6 [exD e1, exD e2]), litI .i64 2, litI .i64 i, .any, .any, .any, .any, .any, .any, .any, .any, .any, .any, .any, .any, .any, .any, .any, .any, .any, .any, .any, .any, .any, .any, .any, .any, .any, .any, .any, .any, .any, .any, .any, .any, .any, .any, .any, .any, .any, .any, .any, .any, .any, .any, .any, .any, .any, .any, .any, .any, .any, .any, .any, .any, .any, .any, .any], [.no, .no, .no, .box g3 (exA (.bi 6 e1 e2)), .box g4 zsp, .no, .box g6 (arrS s t i), .no, .no, .no, .no, .no, .no, .no, .no, .no, .no, .no, .no, .no, .no, .no, .no, .no, .no, .no, .no, .no, .no, .no, .no, .no, .no, .no, .no, .no, .no, .no, .no, .no, .no, .no, .no, .no, .no, .no, .no, .no, .no, .no, .no, .no, .no, .no, .no, .no, .no, .no, .no, .no, .no, .no, .no, .no, .no, .no, .no, .no, .no, .no, .no, .no, .no, .no, .no, .no, .no, .no, .no, .no, .no, .no, .no, .no, .no, .no, .no, .no, .no, .no, .no, .no, .no, .no, .no, .no, .no]⟩) 0 (by omega) ?_ ?_
  · simp only [arrS, exA, opE_bi, cE_bi, vE_bi, argsD_bi]
    exact wkA
  intro i hi
  simp only [litI, litB, litS] at hi h1 h2 hf ⊢
  obtain rfl | rfl | rfl : i = 0 ∨ i = 1 ∨ i = 2 := by omega
  · simp only [arrS, exA, opE_bi, cE_bi, vE_bi, argsD_bi, litI, litB, litS]
    have d1 : decide (((0 : Nat) : Int) < 2) = true := by decide
    repeat' first
      | refine awp_seq ?_
      | refine awp_block ?_
      | refine awp_skip ?_
      | (refine reg _ (by (simp only [List.map_cons, List.map_nil]; rfl)) rfl ?_; intro K hK)
      | (apply ev_guardU; (case hj | hu | hσ => (simp only [go_sem, d1, Int.reduceToNat]; try rfl)))
      | ((first | refine awp_cond _ (by rfl) ?_ ?_ | refine ev_guardT _ _ (by (simp only [go_sem, d1, Int.reduceToNat]; rfl)) (by (simp only [go_sem, d1, Int.reduceToNat]; rfl)) ?_ ?_ | refine ev_guardF _ _ (by (simp only [go_sem, d1, Int.reduceToNat]; rfl)) (by (simp only [go_sem, d1, Int.reduceToNat]; rfl)) ?_ ?_) <;> (intro hb; first | (cases hb; done) | (have ht : true = true := hb; clear ht hb) | (have ht : false = false := hb; clear ht hb) | (simp only [hb]) | skip))
      | (refine awp_exit ?_; simp only [thenA, blockA, scopeA, reduceIte, RetQ, Nat.reduceEqDiff])
      | (refine awp_ret ?_; simp only [thenA, blockA, scopeA, RetQ])
      | (refine ev_nil (hK _ ?_); clear hK K)
      | (apply ev_call0; (case hys => (simp only [go_sem, d1, Int.reduceToNat]; try rfl)); (case hs => first | exact h1 ..); (case hok | hσ => (simp only [go_sem, d1, Int.reduceToNat]; try rfl)))
      | (apply ev_callC; (case hf | hys => (simp only [go_sem, d1, Int.reduceToNat]; try rfl)); (case hs => first | exact h1 ..); (case hok | hσ => (simp only [go_sem, d1, Int.reduceToNat]; try rfl)))
      | (apply ev_step0; (case hr | hσ => (simp only [go_sem, d1, Int.reduceToNat]; try rfl)); (case hc => exact hcA))
      | (apply ev_step; (case hr => (simp only [go_sem, d1, Int.reduceToNat]; try rfl)); (case hσ => (intro g u; simp only [go_sem, d1, Int.reduceToNat]; try rfl)); (case hc => exact hcA); intro g u; (try clear u); (try clear g))
      | fail
    refine Exists.intro 1 ⟨by omega, by omega, ?_⟩
    simp only [arrS, exA, opE_bi, cE_bi, vE_bi, argsD_bi]
    exact wkA
  · simp only [arrS, exA, opE_bi, cE_bi, vE_bi, argsD_bi, litI, litB, litS]
    have d1 : decide (((1 : Nat) : Int) < 2) = true := by decide
    have w1 : IntKind.i64.wrap (((1 : Nat) : Int) + 1) = 2 := by decide
    repeat' first
      | refine awp_seq ?_
      | refine awp_block ?_
      | refine awp_skip ?_
      | (refine reg _ (by (simp only [List.map_cons, List.map_nil]; rfl)) rfl ?_; intro K hK)
      | (apply ev_guardU; (case hj | hu | hσ => (simp only [go_sem, d1, w1, Int.reduceToNat]; try rfl)))
      | ((first | refine awp_cond _ (by rfl) ?_ ?_ | refine ev_guardT _ _ (by (simp only [go_sem, d1, w1, Int.reduceToNat]; rfl)) (by (simp only [go_sem, d1, w1, Int.reduceToNat]; rfl)) ?_ ?_ | refine ev_guardF _ _ (by (simp only [go_sem, d1, w1, Int.reduceToNat]; rfl)) (by (simp only [go_sem, d1, w1, Int.reduceToNat]; rfl)) ?_ ?_) <;> (intro hb; first | (cases hb; done) | (have ht : true = true := hb; clear ht hb) | (have ht : false = false := hb; clear ht hb) | (simp only [hb]) | skip))
      | (refine awp_exit ?_; simp only [thenA, blockA, scopeA, reduceIte, RetQ, Nat.reduceEqDiff])
      | (refine awp_ret ?_; simp only [thenA, blockA, scopeA, RetQ])
      | (refine ev_nil (hK _ ?_); clear hK K)
      | (apply ev_call0; (case hys => (simp only [go_sem, d1, w1, Int.reduceToNat]; try rfl)); (case hs => first | exact h2 ..); (case hok | hσ => (simp only [go_sem, d1, w1, Int.reduceToNat]; try rfl)))
      | (apply ev_callC; (case hf | hys => (simp only [go_sem, d1, w1, Int.reduceToNat]; try rfl)); (case hs => first | exact h2 ..); (case hok | hσ => (simp only [go_sem, d1, w1, Int.reduceToNat]; try rfl)))
      | (apply ev_step0; (case hr | hσ => (simp only [go_sem, d1, w1, Int.reduceToNat]; try rfl)); (case hc => exact hcA))
      | (apply ev_step; (case hr => (simp only [go_sem, d1, w1, Int.reduceToNat]; try rfl)); (case hσ => (intro g u; simp only [go_sem, d1, w1, Int.reduceToNat]; try rfl)); (case hc => exact hcA); intro g u; (try clear u); (try clear g))
      | fail
    refine Exists.intro 2 ⟨by omega, by omega, ?_⟩
    simp only [arrS, exA, opE_bi, cE_bi, vE_bi, argsD_bi]
    exact wkA
  simp only [arrS, exA, opE_bi, cE_bi, vE_bi, argsD_bi, litI, litB, litS]
  have d1 : decide (((2 : Nat) : Int) < 2) = false := by decide
  repeat' first
    | refine awp_seq ?_
    | refine awp_block ?_
    | refine awp_skip ?_
    | (refine reg _ (by (simp only [List.map_cons, List.map_nil]; rfl)) rfl ?_; intro K hK)
    | (apply ev_guardU; (case hj | hu | hσ => (simp only [go_sem, d1, Int.reduceToNat]; try rfl)))
    | ((first | refine awp_cond _ (by rfl) ?_ ?_ | refine ev_guardT _ _ (by (simp only [go_sem, d1, Int.reduceToNat]; rfl)) (by (simp only [go_sem, d1, Int.reduceToNat]; rfl)) ?_ ?_ | refine ev_guardF _ _ (by (simp only [go_sem, d1, Int.reduceToNat]; rfl)) (by (simp only [go_sem, d1, Int.reduceToNat]; rfl)) ?_ ?_) <;> (intro hb; first | (cases hb; done) | (have ht : true = true := hb; clear ht hb) | (have ht : false = false := hb; clear ht hb) | (simp only [hb]) | skip))
    | (refine awp_exit ?_; simp only [thenA, blockA, scopeA, reduceIte, RetQ, Nat.reduceEqDiff])
    | (refine awp_ret ?_; simp only [thenA, blockA, scopeA, RetQ])
    | (refine ev_nil (hK _ ?_); clear hK K)
    | (apply ev_call0; (case hys => (simp only [go_sem, d1, Int.reduceToNat]; try rfl)); (case hs => first | exact hf ..); (case hok | hσ => (simp only [go_sem, d1, Int.reduceToNat]; try rfl)))
    | (apply ev_callC; (case hf | hys => (simp only [go_sem, d1, Int.reduceToNat]; try rfl)); (case hs => first | exact hf ..); (case hok | hσ => (simp only [go_sem, d1, Int.reduceToNat]; try rfl)))
    | (apply ev_step0; (case hr | hσ => (simp only [go_sem, d1, Int.reduceToNat]; try rfl)); (case hc => exact hcA))
    | (apply ev_step; (case hr => (simp only [go_sem, d1, Int.reduceToNat]; try rfl)); (case hσ => (intro g u; simp only [go_sem, d1, Int.reduceToNat]; try rfl)); (case hc => exact hcA); intro g u; (try clear u); (try clear g))
    | fail
  all_goals (refine resR_oneA ?_; simp only [go_sem])
  exact LeA.refl _
end
section
set_option linter.unusedVariables false
set_option linter.unusedSimpArgs false
open Go.RowKit
attribute [local irreducible] Spec SpecF SpecN
attribute [local irreducible] AWp evOps evD
set_option maxHeartbeats 4000000 in
theorem f43_op7 (B : Dat) (e1 e2 : Ex) (s t r : Sp) (h1 : Spec Tryd.prog 43 [.d B, .agg (exA e1)] (.agg (sp s))) (h2 : Spec Tryd.prog 43 [.d B, .agg (exA e2)] (.agg (sp t))) (hf : Spec Tryd.prog 106 [.agg (sp s), .agg (sp t)] (.agg (sp r))) : Spec Tryd.prog 43 [.d B, .agg (exA (.bi 7 e1 e2))] (.agg (sp r)) := by
  simp only [exA, opE_bi, cE_bi, vE_bi, argsD_bi] at h1 h2 ⊢
  refine spec_of_awp (fn := Tryd.f43) Tryd.func43 (by kernel_rfl) rfl ?_
  intro w0 C0
  simp only [Tryd.ntmps43, litI, litB, litS, List.length_cons, List.length_nil, Nat.reduceAdd, Nat.reduceSub, List.replicate_succ, List.replicate_zero, List.cons_append, List.nil_append]
  repeat' first
    | refine awp_seq ?_
    | refine awp_block ?_
    | refine awp_skip ?_
    | (refine reg _ (by (simp only [List.map_cons, List.map_nil]; rfl)) rfl ?_; intro K hK)
    | (apply ev_guardU; (case hj | hu | hσ => (simp only [go_sem, Int.reduceBEq]; try rfl)))
    | ((first | refine awp_cond _ (by rfl) ?_ ?_ | refine ev_guardT _ _ (by (simp only [go_sem, Int.reduceBEq]; rfl)) (by (simp only [go_sem, Int.reduceBEq]; rfl)) ?_ ?_ | refine ev_guardF _ _ (by (simp only [go_sem, Int.reduceBEq]; rfl)) (by (simp only [go_sem, Int.reduceBEq]; rfl)) ?_ ?_) <;> (intro hb; first | (cases hb; done) | (have ht : true = true := hb; clear ht hb) | (have ht : false = false := hb; clear ht hb) | (simp only [hb]) | skip))
    | (refine awp_exit ?_; simp only [thenA, blockA, scopeA, reduceIte, RetQ, Nat.reduceEqDiff])
    | (refine awp_ret ?_; simp only [thenA, blockA, scopeA, RetQ])
    | (refine ev_nil (hK _ ?_); clear hK K)
    | (apply ev_step0; (case hr | hσ => (simp only [go_sem, Int.reduceBEq]; try rfl)); (case hc => exact hcA))
    | (apply ev_step; (case hr => (simp only [go_sem, Int.reduceBEq]; try rfl)); (case hσ => (intro g u; simp only [go_sem, Int.reduceBEq]; try rfl)); (case hc => exact hcA); intro g u; (try clear u); (try clear g))
    | fail
  rename_i g3 g4
  revert g; intro g6
  refine awp_loopI (fun i : Nat => i ≤ 2) (fun i => 2 - i) (fun i => ⟨[.d B, .any, .any, .ptr 3 g3 0, .ptr 4 g4 0, .any, .ptr 6 g6 0, .any, .any, .any, .any, .any, .any, .any, .any, .any, .any, .any, .any, .any, .any, .any, .any, .any, .any, .any, .any, .any, .any, .any, .any, .any, .any, .any, .any, .any, .any, .any, .any, .d (.sl 6 [exD e1, exD e2]), litI .i64 2, litI .i64 i, .any, .any, .any, .any, .any, .any, .any, .any, .any, .any, .any, .any, .any, .any, .any, .any, .any, .any, .any, .any, .any, .any, .any, .any, .any, .any, .any, .any, .any, .any, .any, .any, .any, .any, .any, .any, .any, .any, .any, .any, .any, .any, .any, .any, .any, .any, .any, .any, .any, .any, .any, .any, .any, .any, .any], [.no, .no, .no, .box g3 (exA (.bi 7 e1 e2)), .box g4 zsp, .no, .box g6 (arrS s t i), .no, .no, .no, .no, .no, .no, .no, .no, .no, .no, .no, .no, .no, .no, .no, .no, .no, .no, .no, .no, .no, .no, .no, .no, .no, .no, .no, .no, .no, .no, .no, .no, .no, .no, .no, .no, .no, .no, .no, .no, .no, .no, .no, .no, .no, .no, .no, .no, .no, .no, .no, .no, .no, .no, .no, .no, .no, .no, .no, .no, .no, .no, .no, .no, .no, .no, .no, .no, .no, .no, .no, .no, .no, .no, .no, .no, .no, .no, .no, .no, .no, .no, .no, .no, .no, .no, .no, .no, .no, .no]⟩) 0 (by omega) ?_ ?_
  · simp only [arrS, exA, opE_bi, cE_bi, vE_bi, argsD_bi]
    exact wkA
  intro i hi
  simp only [litI, litB, litS] at hi h1 h2 hf ⊢
  obtain rfl | rfl | rfl : i = 0 ∨ i = 1 ∨ i = 2 := by omega
  · simp only [arrS, exA, opE_bi, cE_bi, vE_bi, argsD_bi, litI, litB, litS]
    have d1 : decide (((0 : Nat) : Int) < 2) = true := by decide
    repeat' first
      | refine awp_seq ?_
      | refine awp_block ?_
      | refine awp_skip ?_
      | (refine reg _ (by (simp only [List.map_cons, List.map_nil]; rfl)) rfl ?_; intro K hK)
      | (apply ev_guardU; (case hj | hu | hσ => (simp only [go_sem, d1, Int.reduceToNat]; try rfl)))
      | ((first | refine awp_cond _ (by rfl) ?_ ?_ | refine ev_guardT _ _ (by (simp only [go_sem, d1, Int.reduceToNat]; rfl)) (by (simp only [go_sem, d1, Int.reduceToNat]; rfl)) ?_ ?_ | refine ev_guardF _ _ (by (simp only [go_sem, d1, Int.reduceToNat]; rfl)) (by (simp only [go_sem, d1, Int.reduceToNat]; rfl)) ?_ ?_) <;> (intro hb; first | (cases hb; done) | (have ht : true = true := hb; clear ht hb) | (have ht : false = false := hb; clear ht hb) | (simp only [hb]) | skip))
      | (refine awp_exit ?_; simp only [thenA, blockA, scopeA, reduceIte, RetQ, Nat.reduceEqDiff])
      | (refine awp_ret ?_; simp only [thenA, blockA, scopeA, RetQ])
      | (refine ev_nil (hK _ ?_); clear hK K)
      | (apply ev_call0; (case hys => (simp only [go_sem, d1, Int.reduceToNat]; try rfl)); (case hs => first | exact h1 ..); (case hok | hσ => (simp only [go_sem, d1, Int.reduceToNat]; try rfl)))
      | (apply ev_callC; (case hf | hys => (simp only [go_sem, d1, Int.reduceToNat]; try rfl)); (case hs => first | exact h1 ..); (case hok | hσ => (simp only [go_sem, d1, Int.reduceToNat]; try rfl)))
      | (apply ev_step0; (case hr | hσ => (simp only [go_sem, d1, Int.reduceToNat]; try rfl)); (case hc => exact hcA))
      | (apply ev_step; (case hr => (simp only [go_sem, d1, Int.reduceToNat]; try rfl)); (case hσ => (intro g u; simp only [go_sem, d1, Int.reduceToNat]; try rfl)); (case hc => exact hcA); intro g u; (try clear u); (try clear g))
      | fail
    refine Exists.intro 1 ⟨by omega, by omega, ?_⟩
    simp only [arrS, exA, opE_bi, cE_bi, vE_bi, argsD_bi]
    exact wkA
  · simp only [arrS, exA, opE_bi, cE_bi, vE_bi, argsD_bi, litI, litB, litS]
    have d1 : decide (((1 : Nat) : Int) < 2) = true := by decide
    have w1 : IntKind.i64.wrap (((1 : Nat) : Int) + 1) = 2 := by decide
    repeat' first
      | refine awp_seq ?_
      | refine awp_block ?_
      | refine awp_skip ?_
      | (refine reg _ (by (simp only [List.map_cons, List.map_nil]; rfl)) rfl ?_; intro K hK)
      | (apply ev_guardU; (case hj | hu | hσ => (simp only [go_sem, d1, w1, Int.reduceToNat]; try rfl)))
      | ((first | refine awp_cond _ (by rfl) ?_ ?_ | refine ev_guardT _ _ (by (simp only [go_sem, d1, w1, Int.reduceToNat]; rfl)) (by (simp only [go_sem, d1, w1, Int.reduceToNat]; rfl)) ?_ ?_ | refine ev_guardF _ _ (by (simp only [go_sem, d1, w1, Int.reduceToNat]; rfl)) (by (simp only [go_sem, d1, w1, Int.reduceToNat]; rfl)) ?_ ?_) <;> (intro hb; first | (cases hb; done) | (have ht : true = true := hb; clear ht hb) | (have ht : false = false := hb; clear ht hb) | (simp only [hb]) | skip))
      | (refine awp_exit ?_; simp only [thenA, blockA, scopeA, reduceIte, RetQ, Nat.reduceEqDiff])
      | (refine awp_ret ?_; simp only [thenA, blockA, scopeA, RetQ])
      | (refine ev_nil (hK _ ?_); clear hK K)
      | (apply ev_call0; (case hys => (simp only [go_sem, d1, w1, Int.reduceToNat]; try rfl)); (case hs => first | exact h2 ..); (case hok | hσ => (simp only [go_sem, d1, w1, Int.reduceToNat]; try rfl)))
      | (apply ev_callC; (case hf | hys => (simp only [go_sem, d1, w1, Int.reduceToNat]; try rfl)); (case hs => first | exact h2 ..); (case hok | hσ => (simp only [go_sem, d1, w1, Int.reduceToNat]; try rfl)))
      | (apply ev_step0; (case hr | hσ => (simp only [go_sem, d1, w1, Int.reduceToNat]; try rfl)); (case hc => exact hcA))
      | (apply ev_step; (case hr => (simp only [go_sem, d1, w1, Int.reduceToNat]; try rfl)); (case hσ => (intro g u; simp only [go_sem, d1, w1, Int.reduceToNat]; try rfl)); (case hc => exact hcA); intro g u; (try clear u); (try clear g))
      | fail
    refine Exists.intro 2 ⟨by omega, by omega, ?_⟩
    simp only [arrS, exA, opE_bi, cE_bi, vE_bi, argsD_bi]
    exact wkA
  simp only [arrS, exA, opE_bi, cE_bi, vE_bi, argsD_bi, litI, litB, litS]
  have d1 : decide (((2 : Nat) : Int) < 2) = false := by decide
  repeat' first
    | refine awp_seq ?_
    | refine awp_block ?_
    | refine awp_skip ?_
    | (refine reg _ (by (simp only [List.map_cons, List.map_nil]; rfl)) rfl ?_; intro K hK)
    | (apply ev_guardU; (case hj | hu | hσ => (simp only [go_sem, d1, Int.reduceToNat]; try rfl)))
    | ((first | refine awp_cond _ (by rfl) ?_ ?_ | refine ev_guardT _ _ (by (simp only [go_sem, d1, Int.reduceToNat]; rfl)) (by (simp only [go_sem, d1, Int.reduceToNat]; rfl)) ?_ ?_ | refine ev_guardF _ _ (by (simp only [go_sem, d1, Int.reduceToNat]; rfl)) (by (simp only [go_sem, d1, Int.reduceToNat]; rfl)) ?_ ?_) <;> (intro hb; first | (cases hb; done) | (have ht : true = true := hb; clear ht hb) | (have ht : false = false := hb; clear ht hb) | (simp only [hb]) | skip))
    | (refine awp_exit ?_; simp only [thenA, blockA, scopeA, reduceIte, RetQ, Nat.reduceEqDiff])
    | (refine awp_ret ?_; simp only [thenA, blockA, scopeA, RetQ])
    | (refine ev_nil (hK _ ?_); clear hK K)
    | (apply ev_call0; (case hys => (simp only [go_sem, d1, Int.reduceToNat]; try rfl)); (case hs => first | exact hf ..); (case hok | hσ => (simp only [go_sem, d1, Int.reduceToNat]; try rfl)))
    | (apply ev_callC; (case hf | hys => (simp only [go_sem, d1, Int.reduceToNat]; try rfl)); (case hs => first | exact hf ..); (case hok | hσ => (simp only [go_sem, d1, Int.reduceToNat]; try rfl)))
    | (apply ev_step0; (case hr | hσ => (simp only [go_sem, d1, Int.reduceToNat]; try rfl)); (case hc => exact hcA))
    | (apply ev_step; (case hr => (simp only [go_sem, d1, Int.reduceToNat]; try rfl)); (case hσ => (intro g u; simp only [go_sem, d1, Int.reduceToNat]; try rfl)); (case hc => exact hcA); intro g u; (try clear u); (try clear g))
    | fail
  all_goals (refine resR_oneA ?_; simp only [go_sem])
  exact LeA.refl _
end
section
set_option linter.unusedVariables false
set_option linter.unusedSimpArgs false
open Go.RowKit
attribute [local irreducible] Spec SpecF SpecN
attribute [local irreducible] AWp evOps evD
set_option maxHeartbeats 4000000 in
theorem f43_un8 (B : Dat) (e1 : Ex) (s r : Sp) (h1 : Spec Tryd.prog 43 [.d B, .agg (exA e1)] (.agg (sp s))) (hf : Spec Tryd.prog 107 [.agg (sp s), .agg (sp zeroSp)] (.agg (sp r))) : Spec Tryd.prog 43 [.d B, .agg (exA (.un 8 e1))] (.agg (sp r)) := by
  simp only [exA, opE_un, cE_un, vE_un, argsD_un] at h1 ⊢
  refine spec_of_awp (fn := Tryd.f43) Tryd.func43 (by kernel_rfl) rfl ?_
  intro w0 C0
  simp only [Tryd.ntmps43, litI, litB, litS, List.length_cons, List.length_nil, Nat.reduceAdd, Nat.reduceSub, List.replicate_succ, List.replicate_zero, List.cons_append, List.nil_append]
  repeat' first
    | refine awp_seq ?_
    | refine awp_block ?_
    | refine awp_skip ?_
    | (refine reg _ (by (simp only [List.map_cons, List.map_nil]; rfl)) rfl ?_; intro K hK)
    | (apply ev_guardU; (case hj | hu | hσ => (simp only [go_sem, Int.reduceBEq]; try rfl)))
    | ((first | refine awp_cond _ (by rfl) ?_ ?_ | refine ev_guardT _ _ (by (simp only [go_sem, Int.reduceBEq]; rfl)) (by (simp only [go_sem, Int.reduceBEq]; rfl)) ?_ ?_ | refine ev_guardF _ _ (by (simp only [go_sem, Int.reduceBEq]; rfl)) (by (simp only [go_sem, Int.reduceBEq]; rfl)) ?_ ?_) <;> (intro hb; first | (cases hb; done) | (have ht : true = true := hb; clear ht hb) | (have ht : false = false := hb; clear ht hb) | (simp only [hb]) | skip))
    | (refine awp_exit ?_; simp only [thenA, blockA, scopeA, reduceIte, RetQ, Nat.reduceEqDiff])
    | (refine awp_ret ?_; simp only [thenA, blockA, scopeA, RetQ])
    | (refine ev_nil (hK _ ?_); clear hK K)
    | (apply ev_step0; (case hr | hσ => (simp only [go_sem, Int.reduceBEq]; try rfl)); (case hc => exact hcA))
    | (apply ev_step; (case hr => (simp only [go_sem, Int.reduceBEq]; try rfl)); (case hσ => (intro g u; simp only [go_sem, Int.reduceBEq]; try rfl)); (case hc => exact hcA); intro g u; (try clear u); (try clear g))
    | fail
  rename_i g3 g4
  revert g; intro g6
  refine awp_loopI (fun i : Nat => i ≤ 1) (fun i => 1 - i) (fun i => ⟨[.d B, .any, .any, .ptr 3 g3 0, .ptr 4 g4 0, .any, .ptr 6 g6 0, .any, .any, .any, .any, .any, .any, .any, .any, .any, .any, .any, .any, .any, .any, .any, .any, .any, .any, .any, .any, .any, .any, .any, .any, .any, .any, .any, .any, .any, .any, .any, .any, .d (.sl 6 [exD e1]), litI .i64 1, litI .i64 i, .any, .any, .any, .any, .any, .any, .any, .any, .any, .any, .any, .any, .any, .any, .any, .any, .any, .any, .any, .any, .any, .any, .any, .any, .any, .any, .any, .any, .any, .any, .any, .any, .any, .any, .any, .any, .any, .any, .any, .any, .any, .any, .any, .any, .any, .any, .any, .any, .any, .any, .any, .any, .any, .any, .any], [.no, .no, .no, .box g3 (exA (.un 8 e1)), .box g4 zsp, .no, .box g6 (arrS s zeroSp i), .no, .no, .no, .no, .no, .no, .no, .no, .no, .no, .no, .no, .no, .no, .no, .no, .no, .no, .no, .no, .no, .no, .no, .no, .no, .no, .no, .no, .no, .no, .no, .no, .no, .no, .no, .no, .no, .no, .no, .no, .no, .no, .no, .no, .no, .no, .no, .no, .no, .no, .no, .no, .no, .no, .no, .no, .no, .no, .no, .no, .no, .no, .no, .no, .no, .no, .no, .no, .no, .no, .no, .no, .no, .no, .no, .no, .no, .no, .no, .no, .no, .no, .no, .no, .no, .no, .no, .no, .no, .no]⟩) 0 (by omega) ?_ ?_
  · simp only [arrS, exA, opE_un, cE_un, vE_un, argsD_un]
    exact wkA
  intro i hi
  simp only [litI, litB, litS] at hi h1 hf ⊢
  obtain rfl | rfl : i = 0 ∨ i = 1 := by omega
  · simp only [arrS, exA, opE_un, cE_un, vE_un, argsD_un, litI, litB, litS]
    have d1 : decide (((0 : Nat) : Int) < 1) = true := by decide
    repeat' first
      | refine awp_seq ?_
      | refine awp_block ?_
      | refine awp_skip ?_
      | (refine reg _ (by (simp only [List.map_cons, List.map_nil]; rfl)) rfl ?_; intro K hK)
      | (apply ev_guardU; (case hj | hu | hσ => (simp only [go_sem, d1, Int.reduceToNat]; try rfl)))
      | ((first | refine awp_cond _ (by rfl) ?_ ?_ | refine ev_guardT _ _ (by (simp only [go_sem, d1, Int.reduceToNat]; rfl)) (by (simp only [go_sem, d1, Int.reduceToNat]; rfl)) ?_ ?_ | refine ev_guardF _ _ (by (simp only [go_sem, d1, Int.reduceToNat]; rfl)) (by (simp only [go_sem, d1, Int.reduceToNat]; rfl)) ?_ ?_) <;> (intro hb; first | (cases hb; done) | (have ht : true = true := hb; clear ht hb) | (have ht : false = false := hb; clear ht hb) | (simp only [hb]) | skip))
      | (refine awp_exit ?_; simp only [thenA, blockA, scopeA, reduceIte, RetQ, Nat.reduceEqDiff])
      | (refine awp_ret ?_; simp only [thenA, blockA, scopeA, RetQ])
      | (refine ev_nil (hK _ ?_); clear hK K)
      | (apply ev_call0; (case hys => (simp only [go_sem, d1, Int.reduceToNat]; try rfl)); (case hs => first | exact h1 ..); (case hok | hσ => (simp only [go_sem, d1, Int.reduceToNat]; try rfl)))
      | (apply ev_callC; (case hf | hys => (simp only [go_sem, d1, Int.reduceToNat]; try rfl)); (case hs => first | exact h1 ..); (case hok | hσ => (simp only [go_sem, d1, Int.reduceToNat]; try rfl)))
      | (apply ev_step0; (case hr | hσ => (simp only [go_sem, d1, Int.reduceToNat]; try rfl)); (case hc => exact hcA))
      | (apply ev_step; (case hr => (simp only [go_sem, d1, Int.reduceToNat]; try rfl)); (case hσ => (intro g u; simp only [go_sem, d1, Int.reduceToNat]; try rfl)); (case hc => exact hcA); intro g u; (try clear u); (try clear g))
      | fail
    refine Exists.intro 1 ⟨by omega, by omega, ?_⟩
    simp only [arrS, exA, opE_un, cE_un, vE_un, argsD_un]
    exact wkA
  simp only [arrS, exA, opE_un, cE_un, vE_un, argsD_un, litI, litB, litS]
  have d1 : decide (((1 : Nat) : Int) < 1) = false := by decide
  repeat' first
    | refine awp_seq ?_
    | refine awp_block ?_
    | refine awp_skip ?_
    | (refine reg _ (by (simp only [List.map_cons, List.map_nil]; rfl)) rfl ?_; intro K hK)
    | (apply ev_guardU; (case hj | hu | hσ => (simp only [go_sem, d1, Int.reduceToNat]; try rfl)))
    | ((first | refine awp_cond _ (by rfl) ?_ ?_ | refine ev_guardT _ _ (by (simp only [go_sem, d1, Int.reduceToNat]; rfl)) (by (simp only [go_sem, d1, Int.reduceToNat]; rfl)) ?_ ?_ | refine ev_guardF _ _ (by (simp only [go_sem, d1, Int.reduceToNat]; rfl)) (by (simp only [go_sem, d1, Int.reduceToNat]; rfl)) ?_ ?_) <;> (intro hb; first | (cases hb; done) | (have ht : true = true := hb; clear ht hb) | (have ht : false = false := hb; clear ht hb) | (simp only [hb]) | skip))
    | (refine awp_exit ?_; simp only [thenA, blockA, scopeA, reduceIte, RetQ, Nat.reduceEqDiff])
    | (refine awp_ret ?_; simp only [thenA, blockA, scopeA, RetQ])
    | (refine ev_nil (hK _ ?_); clear hK K)
    | (apply ev_call0; (case hys => (simp only [go_sem, d1, Int.reduceToNat]; try rfl)); (case hs => first | exact hf ..); (case hok | hσ => (simp only [go_sem, d1, Int.reduceToNat]; try rfl)))
    | (apply ev_callC; (case hf | hys => (simp only [go_sem, d1, Int.reduceToNat]; try rfl)); (case hs => first | exact hf ..); (case hok | hσ => (simp only [go_sem, d1, Int.reduceToNat]; try rfl)))
    | (apply ev_step0; (case hr | hσ => (simp only [go_sem, d1, Int.reduceToNat]; try rfl)); (case hc => exact hcA))
    | (apply ev_step; (case hr => (simp only [go_sem, d1, Int.reduceToNat]; try rfl)); (case hσ => (intro g u; simp only [go_sem, d1, Int.reduceToNat]; try rfl)); (case hc => exact hcA); intro g u; (try clear u); (try clear g))
    | fail
  all_goals (refine resR_oneA ?_; simp only [go_sem])
  exact LeA.refl _
set_option maxHeartbeats 4000000 in
theorem f43_un9 (B : Dat) (e1 : Ex) (s r : Sp) (h1 : Spec Tryd.prog 43 [.d B, .agg (exA e1)] (.agg (sp s))) (hf : Spec Tryd.prog 108 [.agg (sp s), .agg (sp zeroSp)] (.agg (sp r))) : Spec Tryd.prog 43 [.d B, .agg (exA (.un 9 e1))] (.agg (sp r)) := by
  simp only [exA, opE_un, cE_un, vE_un, argsD_un] at h1 ⊢
  refine spec_of_awp (fn := Tryd.f43) Tryd.func43 (by kernel_rfl) rfl ?_
  intro w0 C0
  simp only [Tryd.ntmps43, litI, litB, litS, List.length_cons, List.length_nil, Nat.reduceAdd, Nat.reduceSub, List.replicate_succ, List.replicate_zero, List.cons_append, List.nil_append]
  repeat' first
    | refine awp_seq ?_
    | refine awp_block ?_
    | refine awp_skip ?_
    | (refine reg _ (by (simp only [List.map_cons, List.map_nil]; rfl)) rfl ?_; intro K hK)
    | (apply ev_guardU; (case hj | hu | hσ => (simp only [go_sem, Int.reduceBEq]; try rfl)))
    | ((first | refine awp_cond _ (by rfl) ?_ ?_ | refine ev_guardT _ _ (by (simp only [go_sem, Int.reduceBEq]; rfl)) (by (simp only [go_sem, Int.reduceBEq]; rfl)) ?_ ?_ | refine ev_guardF _ _ (by (simp only [go_sem, Int.reduceBEq]; rfl)) (by (simp only [go_sem, Int.reduceBEq]; rfl)) ?_ ?_) <;> (intro hb; first | (cases hb; done) | (have ht : true = true := hb; clear ht hb) | (have ht : false = false := hb; clear ht hb) | (simp only [hb]) | skip))
    | (refine awp_exit ?_; simp only [thenA, blockA, scopeA, reduceIte, RetQ, Nat.reduceEqDiff])
    | (refine awp_ret ?_; simp only [thenA, blockA, scopeA, RetQ])
    | (refine ev_nil (hK _ ?_); clear hK K)
    | (apply ev_step0; (case hr | hσ => (simp only [go_sem, Int.reduceBEq]; try rfl)); (case hc => exact hcA))
    | (apply ev_step; (case hr => (simp only [go_sem, Int.reduceBEq]; try rfl)); (case hσ => (intro g u; simp only [go_sem, Int.reduceBEq]; try rfl)); (case hc => exact hcA); intro g u; (try clear u); (try clear g))
    | fail
  rename_i g3 g4
  revert g; intro g6
  refine awp_loopI (fun i : Nat => i ≤ 1) (fun i => 1 - i) (fun i => ⟨[.d B, .any, .any, .ptr 3 g3 0, .ptr 4 g4 0, .any, .ptr 6 g6 0, .any, .any, .any, .any, .any, .any, .any, .any, .any, .any, .any, .any, .any, .any, .any, .any, .any, .any, .any, .any, .any, .any, .any, .any, .any, .any, .any, .any, .any, .any, .any, .any, .d (.sl 6 [exD e1]), litI .i64 1, litI .i64 i, .any, .any, .any, .any, .any, .any, .any, .any, .any, .any, .any, .any, .any, .any, .any, .any, .any, .any, .any, .any, .any, .any, .any, .any, .any, .any, .any, .any, .any, .any, .any, .any, .any, .any, .any, .any, .any, .any, .any, .any, .any, .any, .any, .any, .any, .any, .any, .any, .any, .any, .any, .any, .any, .any, .any], [.no, .no, .no, .box g3 (exA (.un 9 e1)), .box g4 zsp, .no, .box g6 (arrS s zeroSp i), .no, .no, .no, .no, .no, .no, .no, .no, .no, .no, .no, .no, .no, .no, .no, .no, .no, .no, .no, .no, .no, .no, .no, .no, .no, .no, .no, .no, .no, .no, .no, .no, .no, .no, .no, .no, .no, .no, .no, .no, .no, .no, .no, .no, .no, .no, .no, .no, .no, .no, .no, .no, .no, .no, .no, .no, .no, .no, .no, .no, .no, .no, .no, .no, .no, .no, .no, .no, .no, .no, .no, .no, .no, .no, .no, .no, .no, .no, .no, .no, .no, .no, .no, .no, .no, .no, .no, .no, .no, .no]⟩) 0 (by omega) ?_ ?_
  · simp only [arrS, exA, opE_un, cE_un, vE_un, argsD_un]
    exact wkA
  intro i hi
  simp only [litI, litB, litS] at hi h1 hf ⊢
  obtain rfl | rfl : i = 0 ∨ i = 1 := by omega
  · simp only [arrS, exA, opE_un, cE_un, vE_un, argsD_un, litI, litB, litS]
    have d1 : decide (((0 : Nat) : Int) < 1) = true := by decide
    repeat' first
      | refine awp_seq ?_
      | refine awp_block ?_
      | refine awp_skip ?_
      | (refine reg _ (by (simp only [List.map_cons, List.map_nil]; rfl)) rfl ?_; intro K hK)
      | (apply ev_guardU; (case hj | hu | hσ => (simp only [go_sem, d1, Int.reduceToNat]; try rfl)))
      | ((first | refine awp_cond _ (by rfl) ?_ ?_ | refine ev_guardT _ _ (by (simp only [go_sem, d1, Int.reduceToNat]; rfl)) (by (simp only [go_sem, d1, Int.reduceToNat]; rfl)) ?_ ?_ | refine ev_guardF _ _ (by (simp only [go_sem, d1, Int.reduceToNat]; rfl)) (by (simp only [go_sem, d1, Int.reduceToNat]; rfl)) ?_ ?_) <;> (intro hb; first | (cases hb; done) | (have ht : true = true := hb; clear ht hb) | (have ht : false = false := hb; clear ht hb) | (simp only [hb]) | skip))
      | (refine awp_exit ?_; simp only [thenA, blockA, scopeA, reduceIte, RetQ, Nat.reduceEqDiff])
      | (refine awp_ret ?_; simp only [thenA, blockA, scopeA, RetQ])
      | (refine ev_nil (hK _ ?_); clear hK K)
      | (apply ev_call0; (case hys => (simp only [go_sem, d1, Int.reduceToNat]; try rfl)); (case hs => first | exact h1 ..); (case hok | hσ => (simp only [go_sem, d1, Int.reduceToNat]; try rfl)))
      | (apply ev_callC; (case hf | hys => (simp only [go_sem, d1, Int.reduceToNat]; try rfl)); (case hs => first | exact h1 ..); (case hok | hσ => (simp only [go_sem, d1, Int.reduceToNat]; try rfl)))
      | (apply ev_step0; (case hr | hσ => (simp only [go_sem, d1, Int.reduceToNat]; try rfl)); (case hc => exact hcA))
      | (apply ev_step; (case hr => (simp only [go_sem, d1, Int.reduceToNat]; try rfl)); (case hσ => (intro g u; simp only [go_sem, d1, Int.reduceToNat]; try rfl)); (case hc => exact hcA); intro g u; (try clear u); (try clear g))
      | fail
    refine Exists.intro 1 ⟨by omega, by omega, ?_⟩
    simp only [arrS, exA, opE_un, cE_un, vE_un, argsD_un]
    exact wkA
  simp only [arrS, exA, opE_un, cE_un, vE_un, argsD_un, litI, litB, litS]
  have d1 : decide (((1 : Nat) : Int) < 1) = false := by decide
  repeat' first
    | refine awp_seq ?_
    | refine awp_block ?_
    | refine awp_skip ?_
    | (refine reg _ (by (simp only [List.map_cons, List.map_nil]; rfl)) rfl ?_; intro K hK)
    | (apply ev_guardU; (case hj | hu | hσ => (simp only [go_sem, d1, Int.reduceToNat]; try rfl)))
    | ((first | refine awp_cond _ (by rfl) ?_ ?_ | refine ev_guardT _ _ (by (simp only [go_sem, d1, Int.reduceToNat]; rfl)) (by (simp only [go_sem, d1, Int.reduceToNat]; rfl)) ?_ ?_ | refine ev_guardF _ _ (by (simp only [go_sem, d1, Int.reduceToNat]; rfl)) (by (simp only [go_sem, d1, Int.reduceToNat]; rfl)) ?_ ?_) <;> (intro hb; first | (cases hb; done) | (have ht : true = true := hb; clear ht hb) | (have ht : false = false := hb; clear ht hb) | (simp only [hb]) | skip))
    | (refine awp_exit ?_; simp only [thenA, blockA, scopeA, reduceIte, RetQ, Nat.reduceEqDiff])
    | (refine awp_ret ?_; simp only [thenA, blockA, scopeA, RetQ])
    | (refine ev_nil (hK _ ?_); clear hK K)
    | (apply ev_call0; (case hys => (simp only [go_sem, d1, Int.reduceToNat]; try rfl)); (case hs => first | exact hf ..); (case hok | hσ => (simp only [go_sem, d1, Int.reduceToNat]; try rfl)))
    | (apply ev_callC; (case hf | hys => (simp only [go_sem, d1, Int.reduceToNat]; try rfl)); (case hs => first | exact hf ..); (case hok | hσ => (simp only [go_sem, d1, Int.reduceToNat]; try rfl)))
    | (apply ev_step0; (case hr | hσ => (simp only [go_sem, d1, Int.reduceToNat]; try rfl)); (case hc => exact hcA))
    | (apply ev_step; (case hr => (simp only [go_sem, d1, Int.reduceToNat]; try rfl)); (case hσ => (intro g u; simp only [go_sem, d1, Int.reduceToNat]; try rfl)); (case hc => exact hcA); intro g u; (try clear u); (try clear g))
    | fail
  all_goals (refine resR_oneA ?_; simp only [go_sem])
  exact LeA.refl _
end
section
set_option linter.unusedVariables false
set_option linter.unusedSimpArgs false
open Go.RowKit
def colS (b : Bd) : Sp := ⟨decide (b.nulls > 0), b.has, b.lo, b.hi⟩
def plusM (s t : Sp) : Sp := numbersM (s.lo.i + t.lo.i) (s.hi.i + t.hi.i)
def minusM (s t : Sp) : Sp := numbersM (s.lo.i - t.hi.i) (s.hi.i - t.lo.i)
def biM (op : Int) (s t : Sp) : Sp :=
  if op = 3 then strictM s t (equalM s t) else if op = 4 then strictM s t (lessM s t) else if op = 5 then strictM s t (mostM s t)
  else if op = 6 then andM s t else if op = 7 then orM s t
  else if op = 10 then strictM s t (plusM s t) else if op = 11 then strictM s t (minusM s t) else strictM s t (prefixM s t)
def rangeM (B : List Bd) : Ex → Sp
  | .leaf op c v => if op = 1 then ⟨false, true, v, v⟩ else colS (B.getD c.toNat zeroBd)
  | .un op a => if op = 8 then notM (rangeM B a) else isNullM (rangeM B a)
  | .bi op a b => biM op (rangeM B a) (rangeM B b)
theorem KS.lo_bd {s : Sp} (h : KS 2 s) : (-4000000000000000000 ≤ s.lo.i ∧ s.lo.i ≤ 4000000000000000000) ∧ -4000000000000000000 ≤ s.hi.i ∧ s.hi.i ≤ 4000000000000000000 := by
  cases hh : s.has with
  | true =>
    have := h.has hh
    have h1 := this.1.num rfl
    have h2 := this.2.1.num rfl
    exact ⟨⟨h1.1, h1.2.1⟩, h2.1, h2.2.1⟩
  | false =>
    have := h.no hh
    rw [this.1, this.2]
    decide
theorem KS.sizes {k : Int} {s : Sp} (h : KS k s) : s.lo.s.size ≤ 4611686018427387904 ∧ s.hi.s.size ≤ 4611686018427387904 := by
  cases hh : s.has with
  | true => exact ⟨(h.has hh).1.size, (h.has hh).2.1.size⟩
  | false =>
    have := h.no hh
    rw [this.1, this.2]
    exact ⟨empty_size, empty_size⟩
theorem KS.plus {s t : Sp} (hs : KS 2 s) (ht : KS 2 t) : KS 2 (strictM s t (plusM s t)) := by
  refine KS.strict fun h => ?_
  rw [Bool.and_eq_true] at h
  have h1 := hs.has h.1
  have h2 := ht.has h.2
  have h3 := (leV_num h1.1 h1.2.1).1 h1.2.2
  have h4 := (leV_num h2.1 h2.2.1).1 h2.2.2
  exact KS.numbers (by omega)
theorem KS.minus {s t : Sp} (hs : KS 2 s) (ht : KS 2 t) : KS 2 (strictM s t (minusM s t)) := by
  refine KS.strict fun h => ?_
  rw [Bool.and_eq_true] at h
  have h1 := hs.has h.1
  have h2 := ht.has h.2
  have h3 := (leV_num h1.1 h1.2.1).1 h1.2.2
  have h4 := (leV_num h2.1 h2.2.1).1 h2.2.2
  exact KS.numbers (by omega)
/-- Bounds that suit types. -/
def BdsOk (ts : List Ty) (B : List Bd) : Prop := B.length ≥ ts.length ∧ ∀ c, c < ts.length → KS (ts.getD c dTy).k (colS (B.getD c zeroBd))
theorem range_ks {ts : List Ty} {B : List Bd} (hB : BdsOk ts B) {k : Int} {e : Ex} (h : Typ ts k e) : KS k (rangeM B e) := by
  induction h with
  | con hk hv hval => exact ⟨fun _ => ⟨hv, hv, leV_refl _⟩, fun h => by cases h⟩
  | col c hc => exact hB.2 c hc
  | not _ ih => exact KS.truth _ _ _
  | isn _ ih => exact KS.truth _ _ _
  | cmp hop _ _ ih1 ih2 =>
    rcases hop with rfl | rfl | rfl
    · exact KS.strict fun _ => KS.truth _ _ _
    · exact KS.strict fun _ => KS.truth _ _ _
    · exact KS.strict fun _ => KS.truth _ _ _
  | log hop _ _ ih1 ih2 =>
    rcases hop with rfl | rfl
    · exact KS.truth _ _ _
    · exact KS.truth _ _ _
  | num hop _ _ ih1 ih2 =>
    rcases hop with rfl | rfl
    · exact KS.plus ih1 ih2
    · exact KS.minus ih1 ih2
  | pre _ _ ih1 ih2 =>
    refine KS.strict fun _ => ?_
    unfold prefixM
    split <;> exact KS.truth _ _ _
theorem range_spec {ts : List Ty} {B : List Bd} (hB : BdsOk ts B) {k : Int} {e : Ex} (h : Typ ts k e) : Spec Tryd.prog 43 [.d (bds B), .agg (exA e)] (.agg (sp (rangeM B e))) := by
  induction h with
  | con hk hv hval => exact f43_const _ _ _
  | col c hc => exact f43_col B c nullV (by have := hB.1; omega)
  | not _ ih => exact f43_un8 _ _ _ _ ih (f107_spec _ _)
  | isn _ ih => exact f43_un9 _ _ _ _ ih (f108_spec _ _)
  | cmp hop _ _ ih1 ih2 =>
    rcases hop with rfl | rfl | rfl
    · exact f43_op3 _ _ _ _ _ _ ih1 ih2 (f110_spec _ _)
    · exact f43_op4 _ _ _ _ _ _ ih1 ih2 (f111_spec _ _)
    · exact f43_op5 _ _ _ _ _ _ ih1 ih2 (f112_spec _ _)
  | log hop _ _ ih1 ih2 =>
    rcases hop with rfl | rfl
    · exact f43_op6 _ _ _ _ _ _ ih1 ih2 (f105_spec _ _)
    · exact f43_op7 _ _ _ _ _ _ ih1 ih2 (f106_spec _ _)
  | num hop h1 h2 ih1 ih2 =>
    have b1 := (range_ks hB h1).lo_bd
    have b2 := (range_ks hB h2).lo_bd
    rcases hop with rfl | rfl
    · exact f43_op10 _ _ _ _ _ _ ih1 ih2 (f114_spec _ _ (by omega) (by omega))
    · exact f43_op11 _ _ _ _ _ _ ih1 ih2 (f115_spec _ _ (by omega) (by omega))
  | pre h1 h2 ih1 ih2 =>
    have b1 := (range_ks hB h1).sizes
    have b2 := (range_ks hB h2).sizes
    exact f43_op12 _ _ _ _ _ _ ih1 ih2 (f113_spec _ _ b1.1 b1.2 b2.1)
theorem SubS.refl (s : Sp) (h : s.has = true → True) : SubS s s := ⟨fun h => h, fun h => ⟨h, leV_refl _, leV_refl _⟩⟩
theorem range_mono {ts : List Ty} {B C : List Bd} (hB : BdsOk ts B) (hC : BdsOk ts C) (hs : ∀ c, c < ts.length → SubS (colS (C.getD c zeroBd)) (colS (B.getD c zeroBd))) {k : Int} {e : Ex} (h : Typ ts k e) : SubS (rangeM C e) (rangeM B e) := by
  induction h with
  | con hk hv hval => exact SubS.refl _ fun _ => trivial
  | col c hc => exact hs c hc
  | not h ih => exact SubS.not ih (range_ks hB h)
  | isn _ ih => exact SubS.isn ih
  | cmp hop h1 h2 ih1 ih2 =>
    have k1 := range_ks hC h1
    have k2 := range_ks hC h2
    have hh : ∀ {s t : Sp}, (s.has && t.has) = true → s.has = true ∧ t.has = true := fun h => by rwa [Bool.and_eq_true] at h
    rcases hop with rfl | rfl | rfl
    · exact SubS.strict ih1 ih2 fun h => SubS.equal (ih1.has (hh h).1).2.1 (ih1.has (hh h).1).2.2 (ih2.has (hh h).2).2.1 (ih2.has (hh h).2).2.2 (k1.has (hh h).1).2.2 (k2.has (hh h).2).2.2
    · exact SubS.strict ih1 ih2 fun h => SubS.less (ih1.has (hh h).1).2.1 (ih1.has (hh h).1).2.2 (ih2.has (hh h).2).2.1 (ih2.has (hh h).2).2.2
    · exact SubS.strict ih1 ih2 fun h => SubS.most (ih1.has (hh h).1).2.1 (ih1.has (hh h).1).2.2 (ih2.has (hh h).2).2.1 (ih2.has (hh h).2).2.2
  | log hop h1 h2 ih1 ih2 =>
    rcases hop with rfl | rfl
    · exact SubS.and ih1 ih2 (range_ks hB h1) (range_ks hB h2)
    · exact SubS.or ih1 ih2 (range_ks hB h1) (range_ks hB h2)
  | num hop h1 h2 ih1 ih2 =>
    have k1 := range_ks hC h1
    have k2 := range_ks hC h2
    have q1 := range_ks hB h1
    have q2 := range_ks hB h2
    have key : ∀ {s t s' t' : Sp}, KS 2 s → KS 2 t → KS 2 s' → KS 2 t' → SubS s s' → SubS t t' → (s.has && t.has) = true → (s.lo.i ≤ s.hi.i ∧ t.lo.i ≤ t.hi.i) ∧ (s'.lo.i ≤ s.lo.i ∧ s.hi.i ≤ s'.hi.i) ∧ t'.lo.i ≤ t.lo.i ∧ t.hi.i ≤ t'.hi.i := by
      intro s t s' t' a1 a2 a3 a4 b1 b2 h
      rw [Bool.and_eq_true] at h
      have c1 := a1.has h.1
      have c2 := a2.has h.2
      have d1 := b1.has h.1
      have d2 := b2.has h.2
      have c3 := a3.has d1.1
      have c4 := a4.has d2.1
      exact ⟨⟨(leV_num c1.1 c1.2.1).1 c1.2.2, (leV_num c2.1 c2.2.1).1 c2.2.2⟩, ⟨(leV_num c3.1 c1.1).1 d1.2.1, (leV_num c1.2.1 c3.2.1).1 d1.2.2⟩, (leV_num c4.1 c2.1).1 d2.2.1, (leV_num c2.2.1 c4.2.1).1 d2.2.2⟩
    have kk := key k1 k2 q1 q2 ih1 ih2
    rcases hop with rfl | rfl
    · exact SubS.strict ih1 ih2 fun h => by
        have := kk h
        exact SubS.numbers (by omega) (by omega) (by omega)
    · exact SubS.strict ih1 ih2 fun h => by
        have := kk h
        exact SubS.numbers (by omega) (by omega) (by omega)
  | pre h1 h2 ih1 ih2 =>
    have k1 := range_ks hC h1
    have k2 := range_ks hC h2
    have q1 := range_ks hB h1
    have hh : ∀ {s t : Sp}, (s.has && t.has) = true → s.has = true ∧ t.has = true := fun h => by rwa [Bool.and_eq_true] at h
    exact SubS.strict ih1 ih2 fun h => SubS.begins (ih1.has (hh h).1).2.1 (ih1.has (hh h).1).2.2 (ih2.has (hh h).2).2.1 (ih2.has (hh h).2).2.2 (k1.has (hh h).1).2.2 (k2.has (hh h).2).2.2 (k1.has (hh h).1).1 (k1.has (hh h).1).2.1 (q1.has (ih1.has (hh h).1).1).1 (q1.has (ih1.has (hh h).1).1).2.1
end
section
set_option linter.unusedVariables false
set_option linter.unusedSimpArgs false
open Go.RowKit
attribute [local irreducible] Spec SpecF SpecN
attribute [local irreducible] AWp evOps evD
def colM (rows : List (List Vl)) (i : Nat) : List Vl := rows.map fun r => r.getD i dV
def columnsM (n : Nat) (rows : List (List Vl)) : List Bd := (List.range n).map fun i => (ofM (colM rows i)).1
theorem rowsD_at (l : List (List Vl)) {i : Nat} (h : i < l.length) : (l.map fun r => [vls r]).getD i [] = [vls (l.getD i [])] := by
  simp [List.getD_eq_getElem?_getD, h]
theorem colM_take (rows : List (List Vl)) (i : Nat) {k : Nat} (h : k < rows.length) : colM (rows.take (k + 1)) i = colM (rows.take k) i ++ [(rows.getD k []).getD i dV] := by
  unfold colM
  rw [take_at rows [] h, List.map_append]; rfl
theorem columnsM_succ (n : Nat) (rows : List (List Vl)) : columnsM (n + 1) rows = columnsM n rows ++ [(ofM (colM rows n)).1] := by
  simp [columnsM, List.range_succ]
theorem columnsM_len (n : Nat) (rows : List (List Vl)) : (columnsM n rows).length = n := by simp [columnsM]
set_option maxHeartbeats 8000000 in
theorem f11_spec (ts : List Ty) (hl : ts.length ≤ 6) (rows : List (List Vl)) (hr : rows.length ≤ 1000) (hw : ∀ r ∈ rows, r.length = ts.length ∧ ∀ v ∈ r, VlOk v) : Spec Tryd.prog 11 [.d (tys ts), .d (rowsD rows)] (.d (bds (columnsM ts.length rows))) := by
  refine spec_of_awp (fn := Tryd.f11) Tryd.func11 (by kernel_rfl) rfl ?_
  intro w0 C0
  simp only [Tryd.ntmps11, litI, litB, litS, List.length_cons, List.length_nil, Nat.reduceAdd, Nat.reduceSub, List.replicate_succ, List.replicate_zero, List.cons_append, List.nil_append]
  repeat' first
    | refine awp_seq ?_
    | refine awp_block ?_
    | refine awp_skip ?_
    | (refine reg _ (by (simp only [List.map_cons, List.map_nil]; rfl)) rfl ?_; intro K hK)
    | ((refine awp_cond _ (by rfl) ?_ ?_) <;> (intro hb; first | (cases hb; done) | (have ht : true = true := hb; clear ht hb) | (have ht : false = false := hb; clear ht hb) | (simp only [hb]) | skip))
    | (refine awp_exit ?_; simp only [thenA, blockA, scopeA, reduceIte, RetQ, Nat.reduceEqDiff])
    | (refine awp_ret ?_; simp only [thenA, blockA, scopeA, RetQ])
    | (refine ev_nil (hK _ ?_); clear hK K)
    | (apply ev_step0; (case hr | hσ => (simp only [go_sem]; try rfl)); (case hc => exact hcA))
    | (apply ev_step; (case hr => (simp only [go_sem]; try rfl)); (case hσ => (intro g u; simp only [go_sem]; try rfl)); (case hc => exact hcA); intro g u; (try clear u); (try clear g))
    | fail
  refine awp_loopI (fun j : Nat × Value => j.1 ≤ ts.length) (fun j => ts.length - j.1) (fun j => ⟨[.d (tys ts), .d (rowsD rows), .any, .any, .d (.lit (.slice none 0 0)), .own 9 j.2, litI .i64 (j.1 : Int), .any, .any, .any, .any, .any, .any, .any, .any, .any, .any, .any, .any, .any, .any, .any, .any, .any, .any, .any, .any, .any, .any, .any, .any, .any, .any, .any, .any, .any, .any, .any, .any, .any], [.no, .no, .no, .no, .no, .no, .no, .no, .no, .row j.2 28 9 ((columnsM j.1 rows).map bdD), .no, .no, .no, .no, .no, .no, .no, .no, .no, .no, .no, .no, .no, .no, .no, .no, .no, .no, .no, .no, .no, .no, .no, .no, .no, .no, .no, .no, .no, .no]⟩) (0, u) (by simp) ?_ ?_
  · simp only [columnsM, List.range_zero, List.map_nil]
    exact wkA
  rintro ⟨j, u0⟩ hj
  simp only [litI, litB] at hj ⊢
  by_cases h1 : j < ts.length
  · have d1 : decide ((j : Int) < (ts.length : Int)) = true := decide_eq_true (by omega)
    repeat' first
      | refine awp_seq ?_
      | refine awp_block ?_
      | refine awp_skip ?_
      | (refine reg _ (by (simp only [List.map_cons, List.map_nil]; rfl)) rfl ?_; intro K hK)
      | ((refine awp_cond _ (by rfl) ?_ ?_) <;> (intro hb; first | (cases hb; done) | (have ht : true = true := hb; clear ht hb) | (have ht : false = false := hb; clear ht hb) | (simp only [hb]) | skip))
      | (refine awp_exit ?_; simp only [thenA, blockA, scopeA, reduceIte, RetQ, Nat.reduceEqDiff])
      | (refine awp_ret ?_; simp only [thenA, blockA, scopeA, RetQ])
      | (refine ev_nil (hK _ ?_); clear hK K)
      | (apply ev_step0; (case hr | hσ => (simp only [go_sem, d1]; try rfl)); (case hc => exact hcA))
      | (apply ev_step; (case hr => (simp only [go_sem, d1]; try rfl)); (case hσ => (intro g u; simp only [go_sem, d1]; try rfl)); (case hc => exact hcA); intro g u; (try clear u); (try clear g))
      | fail
    refine awp_loopI (fun k : Nat × Value => k.1 ≤ rows.length) (fun k => rows.length - k.1) (fun k => ⟨[.d (tys ts), .d (rowsD rows), .any, .any, .d (.lit (.slice none 0 0)), .own 9 u0, litI .i64 (j : Int), .own 16 k.2, litI .i64 (k.1 : Int), .any, .any, .any, .any, .any, .any, .any, .any, .any, .any, .any, .any, .any, .any, .any, .any, .any, .any, .any, .any, .any, .any, .any, .any, .any, .any, .any, .any, .any, .any, .any], [.no, .no, .no, .no, .no, .no, .no, .no, .no, .row u0 28 9 ((columnsM j rows).map bdD), .no, .no, .no, .no, .no, .no, .row k.2 26 3 ((colM (rows.take k.1) j).map vlD), .no, .no, .no, .no, .no, .no, .no, .no, .no, .no, .no, .no, .no, .no, .no, .no, .no, .no, .no, .no, .no, .no, .no]⟩) (0, u) (by simp) ?_ ?_
    · simp only [List.take_zero, colM, List.map_nil]
      exact wkA
    rintro ⟨k, u1⟩ hk
    simp only [litI, litB] at hk ⊢
    by_cases h2 : k < rows.length
    · have d2 : decide ((k : Int) < (rows.length : Int)) = true := decide_eq_true (by omega)
      have hx := rowsD_at rows h2
      have hm := hw _ (mem_at rows [] h2)
      have hs := colM_take rows j h2
      have hlen : (colM (rows.take k) j).length ≤ 1000 := by unfold colM; rw [List.length_map, List.length_take]; omega
      generalize colM (rows.take k) j = pre at *
      generalize rows.getD k [] = r at *
      have hy := vls_at r (i := j) (by omega)
      have hjr : j < r.length := by omega
      generalize r.getD j dV = v at *
      have w2 : IntKind.i64.wrap ((k : Int) + 1) = ((k + 1 : Nat) : Int) := by rw [wrap_id (by omega)]; push_cast; rfl
      repeat' first
        | refine awp_seq ?_
        | refine awp_block ?_
        | refine awp_skip ?_
        | (refine reg _ (by (simp only [List.map_cons, List.map_nil]; rfl)) rfl ?_; intro K hK)
        | ((refine awp_cond _ (by rfl) ?_ ?_) <;> (intro hb; first | (cases hb; done) | (have ht : true = true := hb; clear ht hb) | (have ht : false = false := hb; clear ht hb) | (simp only [hb]) | skip))
        | (refine awp_exit ?_; simp only [thenA, blockA, scopeA, reduceIte, RetQ, Nat.reduceEqDiff])
        | (refine awp_ret ?_; simp only [thenA, blockA, scopeA, RetQ])
        | (refine ev_nil (hK _ ?_); clear hK K)
        | (apply ev_step0; (case hr | hσ => (simp only [go_sem, d2, hx, hy, w2]; try rfl)); (case hc => exact hcA))
        | (apply ev_step; (case hr => (simp only [go_sem, d2, hx, hy, w2]; try rfl)); (case hσ => (intro g u; simp only [go_sem, d2, hx, hy, w2]; try rfl)); (case hc => exact hcA); intro g u; (try clear u); (try clear g))
        | fail
      refine Exists.intro (k + 1, u) ⟨by show k + 1 ≤ _; omega, by show rows.length - (k + 1) < rows.length - k; omega, ?_⟩
      simp only [hs, List.map_append, List.map_cons, List.map_nil]
      exact wkA
    · have d2 : decide ((k : Int) < (rows.length : Int)) = false := decide_eq_false (by omega)
      have hkl : k = rows.length := by omega
      subst hkl
      rw [List.take_length]
      have a1 := f13_spec (colM rows j) (by
        intro v hv
        simp only [colM, List.mem_map] at hv
        obtain ⟨r, hr', rfl⟩ := hv
        have := hw r hr'
        exact this.2 _ (mem_at r dV (by omega))) (by unfold colM; rw [List.length_map]; omega)
      have hs := columnsM_succ j rows
      have hcl := columnsM_len j rows
      generalize ofM (colM rows j) = o at *
      generalize columnsM j rows = pre at *
      have w2 : IntKind.i64.wrap ((j : Int) + 1) = ((j + 1 : Nat) : Int) := by rw [wrap_id (by omega)]; push_cast; rfl
      repeat' first
        | refine awp_seq ?_
        | refine awp_block ?_
        | refine awp_skip ?_
        | (refine reg _ (by (simp only [List.map_cons, List.map_nil]; rfl)) rfl ?_; intro K hK)
        | ((refine awp_cond _ (by rfl) ?_ ?_) <;> (intro hb; first | (cases hb; done) | (have ht : true = true := hb; clear ht hb) | (have ht : false = false := hb; clear ht hb) | (simp only [hb]) | skip))
        | (refine awp_exit ?_; simp only [thenA, blockA, scopeA, reduceIte, RetQ, Nat.reduceEqDiff])
        | (refine awp_ret ?_; simp only [thenA, blockA, scopeA, RetQ])
        | (refine ev_nil (hK _ ?_); clear hK K)
        | (apply ev_call0; (case hys => (simp only [go_sem, d2, w2]; try rfl)); (case hs => first | exact a1 ..); (case hok | hσ => (simp only [go_sem, d2, w2]; try rfl)))
        | (apply ev_step0; (case hr | hσ => (simp only [go_sem, d2, w2]; try rfl)); (case hc => exact hcA))
        | (apply ev_step; (case hr => (simp only [go_sem, d2, w2]; try rfl)); (case hσ => (intro g u; simp only [go_sem, d2, w2]; try rfl)); (case hc => exact hcA); intro g u; (try clear u); (try clear g))
        | fail
      refine Exists.intro (j + 1, u) ⟨by show j + 1 ≤ _; omega, by show ts.length - (j + 1) < ts.length - j; omega, ?_⟩
      simp only [hs, List.map_append, List.map_cons, List.map_nil]
      exact wkA
  · have d1 : decide ((j : Int) < (ts.length : Int)) = false := decide_eq_false (by omega)
    have e : j = ts.length := by omega
    subst e
    repeat' first
      | refine awp_seq ?_
      | refine awp_block ?_
      | refine awp_skip ?_
      | (refine reg _ (by (simp only [List.map_cons, List.map_nil]; rfl)) rfl ?_; intro K hK)
      | ((refine awp_cond _ (by rfl) ?_ ?_) <;> (intro hb; first | (cases hb; done) | (have ht : true = true := hb; clear ht hb) | (have ht : false = false := hb; clear ht hb) | (simp only [hb]) | skip))
      | (refine awp_exit ?_; simp only [thenA, blockA, scopeA, reduceIte, RetQ, Nat.reduceEqDiff])
      | (refine awp_ret ?_; simp only [thenA, blockA, scopeA, RetQ])
      | (refine ev_nil (hK _ ?_); clear hK K)
      | (apply ev_step0; (case hr | hσ => (simp only [go_sem, d1]; try rfl)); (case hc => exact hcA))
      | (apply ev_step; (case hr => (simp only [go_sem, d1]; try rfl)); (case hσ => (intro g u; simp only [go_sem, d1]; try rfl)); (case hc => exact hcA); intro g u; (try clear u); (try clear g))
      | fail
    all_goals (refine resR_oneA ?_; simp only [go_sem])
    exact LeA.refl _
def suitOk (t : Ty) (b : Bd) : Bool := if validB b = false then false else if b.has = false then true else (b.lo.k == t.k)
def suitsM (ts : List Ty) (B : List Bd) : List Nat → Bool
  | [] => true
  | i :: l => if suitOk (ts.getD i dTy) (B.getD i zeroBd) = true then suitsM ts B l else false
set_option maxHeartbeats 8000000 in
theorem f20_spec (ts : List Ty) (hts : ∀ t ∈ ts, TyOk t) (hl : ts.length ≤ 6) (B : List Bd) (hB : B.length = ts.length) (hok : ∀ b ∈ B, BdOk b) (e : Ex) (he : Typ ts 1 e) (hs : sizeE e ≤ 60) : Spec Tryd.prog 20 [.d (tys ts), .d (bds B), .agg (exA e)] (litB (suitsM ts B (List.range ts.length))) := by
  obtain ⟨t0, hk0, h65⟩ := typ_spec hts hl he
  have a1 := f42_spec (tys ts) e t0 hs h65
  have d0 : (t0.k != 1) = false := by rw [hk0]; rfl
  have d1 : decide ((B.length : Int) < (ts.length : Int)) = false := decide_eq_false (by omega)
  simp only [exA] at a1 ⊢
  refine spec_of_awp (fn := Tryd.f20) Tryd.func20 (by kernel_rfl) rfl ?_
  intro w0 C0
  simp only [Tryd.ntmps20, litI, litB, litS, List.length_cons, List.length_nil, Nat.reduceAdd, Nat.reduceSub, List.replicate_succ, List.replicate_zero, List.cons_append, List.nil_append]
  repeat' first
    | refine awp_seq ?_
    | refine awp_block ?_
    | refine awp_skip ?_
    | (refine reg _ (by (simp only [List.map_cons, List.map_nil]; rfl)) rfl ?_; intro K hK)
    | (apply ev_guardU; (case hj | hu | hσ => (simp only [go_sem, d0, d1, bne_self_eq_false]; try rfl)))
    | ((first | refine awp_cond _ (by rfl) ?_ ?_ | refine ev_guardT _ _ (by (simp only [go_sem, d0, d1, bne_self_eq_false]; rfl)) (by (simp only [go_sem, d0, d1, bne_self_eq_false]; rfl)) ?_ ?_ | refine ev_guardF _ _ (by (simp only [go_sem, d0, d1, bne_self_eq_false]; rfl)) (by (simp only [go_sem, d0, d1, bne_self_eq_false]; rfl)) ?_ ?_) <;> (intro hb; first | (cases hb; done) | (have ht : true = true := hb; clear ht hb) | (have ht : false = false := hb; clear ht hb) | (simp only [hb]) | skip))
    | (refine awp_exit ?_; simp only [thenA, blockA, scopeA, reduceIte, RetQ, Nat.reduceEqDiff])
    | (refine awp_ret ?_; simp only [thenA, blockA, scopeA, RetQ])
    | (refine ev_nil (hK _ ?_); clear hK K)
    | (apply ev_call0; (case hys => (simp only [go_sem, d0, d1, bne_self_eq_false]; try rfl)); (case hs => first | exact a1 ..); (case hok | hσ => (simp only [go_sem, d0, d1, bne_self_eq_false]; try rfl)))
    | (apply ev_step0; (case hr | hσ => (simp only [go_sem, d0, d1, bne_self_eq_false]; try rfl)); (case hc => exact hcA))
    | (apply ev_step; (case hr => (simp only [go_sem, d0, d1, bne_self_eq_false]; try rfl)); (case hσ => (intro g u; simp only [go_sem, d0, d1, bne_self_eq_false]; try rfl)); (case hc => exact hcA); intro g u; (try clear u); (try clear g))
    | fail
  refine awp_loopI (fun i : Nat => i ≤ ts.length ∧ suitsM ts B (List.range ts.length) = suitsM ts B ((List.range ts.length).drop i)) (fun i => ts.length - i) (fun i => ⟨[.d (tys ts), .d (bds B), .any, .any, .any, .any, litB false, .any, litI .i64 (i : Int), .any, .any, .any, .any, .any, .any, .any, .any, .any, .any, .any, .any, .any, .any, .any, .any, .any, .any, .any, .any, .any, .any, .any, .any, .any, .any, .any, .any, .any, .any, .any, .any, .any, .any, .any, .any, .any, .any, .any, .any, .any, .any, .any, .any, .any, .any, .any, .any, .any, .any, .any, .any], [.no, .no, .no, .no, .no, .no, .no, .no, .no, .no, .no, .no, .no, .no, .no, .no, .no, .no, .no, .no, .no, .no, .no, .no, .no, .no, .no, .no, .no, .no, .no, .no, .no, .no, .no, .no, .no, .no, .no, .no, .no, .no, .no, .no, .no, .no, .no, .no, .no, .no, .no, .no, .no, .no, .no, .no, .no, .no, .no, .no, .no]⟩) 0 ⟨by omega, rfl⟩ ?_ ?_
  · exact wkA
  rintro i ⟨hi, hf⟩
  simp only [litI, litB] at hi hf ⊢
  by_cases h1 : i < ts.length
  · have d2 : decide ((i : Int) < (ts.length : Int)) = true := decide_eq_true (by omega)
    have hx := tys_at ts h1
    have hib : i < B.length := by omega
    have hy := bds_at B hib
    have hm := hok _ (mem_at B zeroBd hib)
    rw [drop_at (List.range ts.length) 0 (by simpa using h1), show (List.range ts.length).getD i 0 = i by simp [List.getD_eq_getElem?_getD, h1], suitsM] at hf
    generalize ts.getD i dTy = t at *
    generalize B.getD i zeroBd = c at *
    have a2 := f17_spec c hm.lo hm.hi
    have w2 : IntKind.i64.wrap ((i : Int) + 1) = ((i + 1 : Nat) : Int) := by rw [wrap_id (by omega)]; push_cast; rfl
    unfold suitOk at hf
    cases hv : validB c with
    | false =>
      rw [hv] at a2 hf
      rw [if_pos rfl, if_neg (by decide)] at hf
      repeat' first
        | refine awp_seq ?_
        | refine awp_block ?_
        | refine awp_skip ?_
        | (refine reg _ (by (simp only [List.map_cons, List.map_nil]; rfl)) rfl ?_; intro K hK)
        | (apply ev_guardU; (case hj | hu | hσ => (simp only [go_sem, d2, hx, hy]; try rfl)))
        | ((first | refine awp_cond _ (by rfl) ?_ ?_ | refine ev_guardT _ _ (by (simp only [go_sem, d2, hx, hy]; rfl)) (by (simp only [go_sem, d2, hx, hy]; rfl)) ?_ ?_ | refine ev_guardF _ _ (by (simp only [go_sem, d2, hx, hy]; rfl)) (by (simp only [go_sem, d2, hx, hy]; rfl)) ?_ ?_) <;> (intro hb; first | (cases hb; done) | (have ht : true = true := hb; clear ht hb) | (have ht : false = false := hb; clear ht hb) | (simp only [hb]) | skip))
        | (refine awp_exit ?_; simp only [thenA, blockA, scopeA, reduceIte, RetQ, Nat.reduceEqDiff])
        | (refine awp_ret ?_; simp only [thenA, blockA, scopeA, RetQ])
        | (refine ev_nil (hK _ ?_); clear hK K)
        | (apply ev_call0; (case hys => (simp only [go_sem, d2, hx, hy]; try rfl)); (case hs => first | exact a2 ..); (case hok | hσ => (simp only [go_sem, d2, hx, hy]; try rfl)))
        | (apply regD; (case hd => (simp only [List.map_cons, List.map_nil]; rfl)); (case hok => rfl); (case' h => (intro K hK; (repeat' first
        | (apply evd_nil; refine (hK _ ?_); clear hK K)
        | (apply evd_guardU0; (case hj | hu | hσ => (simp only [go_sem, d2, hx, hy]; try rfl)))
        | (apply evd_guardU; (case hj | hu | hσ => (simp only [go_sem, d2, hx, hy]; try rfl)))
        | (apply evd_skipT0; (case hj | hb | hσ => (simp only [go_sem, d2, hx, hy]; try rfl)))
        | (apply evd_skipF0; (case hj | hb | hσ => (simp only [go_sem, d2, hx, hy]; try rfl)))
        | (apply evd_skipT; (case hj | hb | hσ => (simp only [go_sem, d2, hx, hy]; try rfl)))
        | (apply evd_skipF; (case hj | hb | hσ => (simp only [go_sem, d2, hx, hy]; try rfl)))
        | (apply evd_guardT; (case hj | hb => (simp only [go_sem, d2, hx, hy]; try rfl)); (case' h2 => (intro hb; first | (cases hb; done) | (simp only [hb]) | skip)); (case' h1 => (intro hb; first | (cases hb; done) | (simp only [hb]) | skip)))
        | (apply evd_guardF; (case hj | hb => (simp only [go_sem, d2, hx, hy]; try rfl)); (case' h2 => (intro hb; first | (cases hb; done) | (simp only [hb]) | skip)); (case' h1 => (intro hb; first | (cases hb; done) | (simp only [hb]) | skip)))
        | (apply evd_call0; (case hi | hys => (simp only [go_sem, d2, hx, hy]; try rfl)); (case hs => first | exact a2 ..); (case hok | hw | hσ => (simp only [go_sem, d2, hx, hy]; try rfl)))
        | (apply evd_step0; (case hr | hi | hσ => (simp only [go_sem, d2, hx, hy]; try rfl)); (case hc => exact hcA))
        | (apply evd_step; (case hr | hi => (simp only [go_sem, d2, hx, hy]; try rfl)); (case hc => exact hcA); (case hw | hσ => (intro g u; simp only [go_sem, d2, hx, hy]; try rfl)); (case' hk => (intro g u; (try clear u); (try clear g))))
        | fail))); (case hB => kernel_rfl))
        | (apply ev_step0; (case hr | hσ => (simp only [go_sem, d2, hx, hy]; try rfl)); (case hc => exact hcA))
        | (apply ev_step; (case hr => (simp only [go_sem, d2, hx, hy]; try rfl)); (case hσ => (intro g u; simp only [go_sem, d2, hx, hy]; try rfl)); (case hc => exact hcA); intro g u; (try clear u); (try clear g))
        | fail
      all_goals (refine resR_oneA ?_; simp only [go_sem])
      exact LeA.b hf.symm
    | true =>
      rw [hv] at a2 hf
      rw [if_neg (show ¬ (true = false) by decide)] at hf
      obtain ⟨cn, ch, cl, ci, cs⟩ := c
      simp only at hf
      cases ch with
      | false =>
        rw [if_pos rfl, if_pos rfl] at hf
        repeat' first
          | refine awp_seq ?_
          | refine awp_block ?_
          | refine awp_skip ?_
          | (refine reg _ (by (simp only [List.map_cons, List.map_nil]; rfl)) rfl ?_; intro K hK)
          | (apply ev_guardU; (case hj | hu | hσ => (simp only [go_sem, d2, hx, hy, w2]; try rfl)))
          | ((first | refine awp_cond _ (by rfl) ?_ ?_ | refine ev_guardT _ _ (by (simp only [go_sem, d2, hx, hy, w2]; rfl)) (by (simp only [go_sem, d2, hx, hy, w2]; rfl)) ?_ ?_ | refine ev_guardF _ _ (by (simp only [go_sem, d2, hx, hy, w2]; rfl)) (by (simp only [go_sem, d2, hx, hy, w2]; rfl)) ?_ ?_) <;> (intro hb; first | (cases hb; done) | (have ht : true = true := hb; clear ht hb) | (have ht : false = false := hb; clear ht hb) | (simp only [hb]) | skip))
          | (refine awp_exit ?_; simp only [thenA, blockA, scopeA, reduceIte, RetQ, Nat.reduceEqDiff])
          | (refine awp_ret ?_; simp only [thenA, blockA, scopeA, RetQ])
          | (refine ev_nil (hK _ ?_); clear hK K)
          | (apply ev_call0; (case hys => (simp only [go_sem, d2, hx, hy, w2]; try rfl)); (case hs => first | exact a2 ..); (case hok | hσ => (simp only [go_sem, d2, hx, hy, w2]; try rfl)))
          | (apply regD; (case hd => (simp only [List.map_cons, List.map_nil]; rfl)); (case hok => rfl); (case' h => (intro K hK; (repeat' first
        | (apply evd_nil; refine (hK _ ?_); clear hK K)
        | (apply evd_guardU0; (case hj | hu | hσ => (simp only [go_sem, d2, hx, hy, w2]; try rfl)))
        | (apply evd_guardU; (case hj | hu | hσ => (simp only [go_sem, d2, hx, hy, w2]; try rfl)))
        | (apply evd_skipT0; (case hj | hb | hσ => (simp only [go_sem, d2, hx, hy, w2]; try rfl)))
        | (apply evd_skipF0; (case hj | hb | hσ => (simp only [go_sem, d2, hx, hy, w2]; try rfl)))
        | (apply evd_skipT; (case hj | hb | hσ => (simp only [go_sem, d2, hx, hy, w2]; try rfl)))
        | (apply evd_skipF; (case hj | hb | hσ => (simp only [go_sem, d2, hx, hy, w2]; try rfl)))
        | (apply evd_guardT; (case hj | hb => (simp only [go_sem, d2, hx, hy, w2]; try rfl)); (case' h2 => (intro hb; first | (cases hb; done) | (simp only [hb]) | skip)); (case' h1 => (intro hb; first | (cases hb; done) | (simp only [hb]) | skip)))
        | (apply evd_guardF; (case hj | hb => (simp only [go_sem, d2, hx, hy, w2]; try rfl)); (case' h2 => (intro hb; first | (cases hb; done) | (simp only [hb]) | skip)); (case' h1 => (intro hb; first | (cases hb; done) | (simp only [hb]) | skip)))
        | (apply evd_call0; (case hi | hys => (simp only [go_sem, d2, hx, hy, w2]; try rfl)); (case hs => first | exact a2 ..); (case hok | hw | hσ => (simp only [go_sem, d2, hx, hy, w2]; try rfl)))
        | (apply evd_step0; (case hr | hi | hσ => (simp only [go_sem, d2, hx, hy, w2]; try rfl)); (case hc => exact hcA))
        | (apply evd_step; (case hr | hi => (simp only [go_sem, d2, hx, hy, w2]; try rfl)); (case hc => exact hcA); (case hw | hσ => (intro g u; simp only [go_sem, d2, hx, hy, w2]; try rfl)); (case' hk => (intro g u; (try clear u); (try clear g))))
        | fail))); (case hB => kernel_rfl))
          | (apply ev_step0; (case hr | hσ => (simp only [go_sem, d2, hx, hy, w2]; try rfl)); (case hc => exact hcA))
          | (apply ev_step; (case hr => (simp only [go_sem, d2, hx, hy, w2]; try rfl)); (case hσ => (intro g u; simp only [go_sem, d2, hx, hy, w2]; try rfl)); (case hc => exact hcA); intro g u; (try clear u); (try clear g))
          | fail
        refine Exists.intro (i + 1) ⟨⟨by omega, hf⟩, by omega, ?_⟩
        exact wkA
      | true =>
        rw [if_neg (show ¬ (true = false) by decide)] at hf
        cases hq : (cl.k == t.k) with
        | true =>
          have hq' : (cl.k != t.k) = false := by rw [bne, hq]; rfl
          rw [hq, if_pos rfl] at hf
          repeat' first
            | refine awp_seq ?_
            | refine awp_block ?_
            | refine awp_skip ?_
            | (refine reg _ (by (simp only [List.map_cons, List.map_nil]; rfl)) rfl ?_; intro K hK)
            | (apply ev_guardU; (case hj | hu | hσ => (simp only [go_sem, d2, hx, hy, w2, hq']; try rfl)))
            | ((first | refine awp_cond _ (by rfl) ?_ ?_ | refine ev_guardT _ _ (by (simp only [go_sem, d2, hx, hy, w2, hq']; rfl)) (by (simp only [go_sem, d2, hx, hy, w2, hq']; rfl)) ?_ ?_ | refine ev_guardF _ _ (by (simp only [go_sem, d2, hx, hy, w2, hq']; rfl)) (by (simp only [go_sem, d2, hx, hy, w2, hq']; rfl)) ?_ ?_) <;> (intro hb; first | (cases hb; done) | (have ht : true = true := hb; clear ht hb) | (have ht : false = false := hb; clear ht hb) | (simp only [hb]) | skip))
            | (refine awp_exit ?_; simp only [thenA, blockA, scopeA, reduceIte, RetQ, Nat.reduceEqDiff])
            | (refine awp_ret ?_; simp only [thenA, blockA, scopeA, RetQ])
            | (refine ev_nil (hK _ ?_); clear hK K)
            | (apply ev_call0; (case hys => (simp only [go_sem, d2, hx, hy, w2, hq']; try rfl)); (case hs => first | exact a2 ..); (case hok | hσ => (simp only [go_sem, d2, hx, hy, w2, hq']; try rfl)))
            | (apply regD; (case hd => (simp only [List.map_cons, List.map_nil]; rfl)); (case hok => rfl); (case' h => (intro K hK; (repeat' first
        | (apply evd_nil; refine (hK _ ?_); clear hK K)
        | (apply evd_guardU0; (case hj | hu | hσ => (simp only [go_sem, d2, hx, hy, w2, hq']; try rfl)))
        | (apply evd_guardU; (case hj | hu | hσ => (simp only [go_sem, d2, hx, hy, w2, hq']; try rfl)))
        | (apply evd_skipT0; (case hj | hb | hσ => (simp only [go_sem, d2, hx, hy, w2, hq']; try rfl)))
        | (apply evd_skipF0; (case hj | hb | hσ => (simp only [go_sem, d2, hx, hy, w2, hq']; try rfl)))
        | (apply evd_skipT; (case hj | hb | hσ => (simp only [go_sem, d2, hx, hy, w2, hq']; try rfl)))
        | (apply evd_skipF; (case hj | hb | hσ => (simp only [go_sem, d2, hx, hy, w2, hq']; try rfl)))
        | (apply evd_guardT; (case hj | hb => (simp only [go_sem, d2, hx, hy, w2, hq']; try rfl)); (case' h2 => (intro hb; first | (cases hb; done) | (simp only [hb]) | skip)); (case' h1 => (intro hb; first | (cases hb; done) | (simp only [hb]) | skip)))
        | (apply evd_guardF; (case hj | hb => (simp only [go_sem, d2, hx, hy, w2, hq']; try rfl)); (case' h2 => (intro hb; first | (cases hb; done) | (simp only [hb]) | skip)); (case' h1 => (intro hb; first | (cases hb; done) | (simp only [hb]) | skip)))
        | (apply evd_call0; (case hi | hys => (simp only [go_sem, d2, hx, hy, w2, hq']; try rfl)); (case hs => first | exact a2 ..); (case hok | hw | hσ => (simp only [go_sem, d2, hx, hy, w2, hq']; try rfl)))
        | (apply evd_step0; (case hr | hi | hσ => (simp only [go_sem, d2, hx, hy, w2, hq']; try rfl)); (case hc => exact hcA))
        | (apply evd_step; (case hr | hi => (simp only [go_sem, d2, hx, hy, w2, hq']; try rfl)); (case hc => exact hcA); (case hw | hσ => (intro g u; simp only [go_sem, d2, hx, hy, w2, hq']; try rfl)); (case' hk => (intro g u; (try clear u); (try clear g))))
        | fail))); (case hB => kernel_rfl))
            | (apply ev_step0; (case hr | hσ => (simp only [go_sem, d2, hx, hy, w2, hq']; try rfl)); (case hc => exact hcA))
            | (apply ev_step; (case hr => (simp only [go_sem, d2, hx, hy, w2, hq']; try rfl)); (case hσ => (intro g u; simp only [go_sem, d2, hx, hy, w2, hq']; try rfl)); (case hc => exact hcA); intro g u; (try clear u); (try clear g))
            | fail
          refine Exists.intro (i + 1) ⟨⟨by omega, hf⟩, by omega, ?_⟩
          exact wkA
        | false =>
          have hq' : (cl.k != t.k) = true := by rw [bne, hq]; rfl
          rw [hq, if_neg (by decide)] at hf
          repeat' first
            | refine awp_seq ?_
            | refine awp_block ?_
            | refine awp_skip ?_
            | (refine reg _ (by (simp only [List.map_cons, List.map_nil]; rfl)) rfl ?_; intro K hK)
            | (apply ev_guardU; (case hj | hu | hσ => (simp only [go_sem, d2, hx, hy, hq']; try rfl)))
            | ((first | refine awp_cond _ (by rfl) ?_ ?_ | refine ev_guardT _ _ (by (simp only [go_sem, d2, hx, hy, hq']; rfl)) (by (simp only [go_sem, d2, hx, hy, hq']; rfl)) ?_ ?_ | refine ev_guardF _ _ (by (simp only [go_sem, d2, hx, hy, hq']; rfl)) (by (simp only [go_sem, d2, hx, hy, hq']; rfl)) ?_ ?_) <;> (intro hb; first | (cases hb; done) | (have ht : true = true := hb; clear ht hb) | (have ht : false = false := hb; clear ht hb) | (simp only [hb]) | skip))
            | (refine awp_exit ?_; simp only [thenA, blockA, scopeA, reduceIte, RetQ, Nat.reduceEqDiff])
            | (refine awp_ret ?_; simp only [thenA, blockA, scopeA, RetQ])
            | (refine ev_nil (hK _ ?_); clear hK K)
            | (apply ev_call0; (case hys => (simp only [go_sem, d2, hx, hy, hq']; try rfl)); (case hs => first | exact a2 ..); (case hok | hσ => (simp only [go_sem, d2, hx, hy, hq']; try rfl)))
            | (apply regD; (case hd => (simp only [List.map_cons, List.map_nil]; rfl)); (case hok => rfl); (case' h => (intro K hK; (repeat' first
        | (apply evd_nil; refine (hK _ ?_); clear hK K)
        | (apply evd_guardU0; (case hj | hu | hσ => (simp only [go_sem, d2, hx, hy, hq']; try rfl)))
        | (apply evd_guardU; (case hj | hu | hσ => (simp only [go_sem, d2, hx, hy, hq']; try rfl)))
        | (apply evd_skipT0; (case hj | hb | hσ => (simp only [go_sem, d2, hx, hy, hq']; try rfl)))
        | (apply evd_skipF0; (case hj | hb | hσ => (simp only [go_sem, d2, hx, hy, hq']; try rfl)))
        | (apply evd_skipT; (case hj | hb | hσ => (simp only [go_sem, d2, hx, hy, hq']; try rfl)))
        | (apply evd_skipF; (case hj | hb | hσ => (simp only [go_sem, d2, hx, hy, hq']; try rfl)))
        | (apply evd_guardT; (case hj | hb => (simp only [go_sem, d2, hx, hy, hq']; try rfl)); (case' h2 => (intro hb; first | (cases hb; done) | (simp only [hb]) | skip)); (case' h1 => (intro hb; first | (cases hb; done) | (simp only [hb]) | skip)))
        | (apply evd_guardF; (case hj | hb => (simp only [go_sem, d2, hx, hy, hq']; try rfl)); (case' h2 => (intro hb; first | (cases hb; done) | (simp only [hb]) | skip)); (case' h1 => (intro hb; first | (cases hb; done) | (simp only [hb]) | skip)))
        | (apply evd_call0; (case hi | hys => (simp only [go_sem, d2, hx, hy, hq']; try rfl)); (case hs => first | exact a2 ..); (case hok | hw | hσ => (simp only [go_sem, d2, hx, hy, hq']; try rfl)))
        | (apply evd_step0; (case hr | hi | hσ => (simp only [go_sem, d2, hx, hy, hq']; try rfl)); (case hc => exact hcA))
        | (apply evd_step; (case hr | hi => (simp only [go_sem, d2, hx, hy, hq']; try rfl)); (case hc => exact hcA); (case hw | hσ => (intro g u; simp only [go_sem, d2, hx, hy, hq']; try rfl)); (case' hk => (intro g u; (try clear u); (try clear g))))
        | fail))); (case hB => kernel_rfl))
            | (apply ev_step0; (case hr | hσ => (simp only [go_sem, d2, hx, hy, hq']; try rfl)); (case hc => exact hcA))
            | (apply ev_step; (case hr => (simp only [go_sem, d2, hx, hy, hq']; try rfl)); (case hσ => (intro g u; simp only [go_sem, d2, hx, hy, hq']; try rfl)); (case hc => exact hcA); intro g u; (try clear u); (try clear g))
            | fail
          all_goals (refine resR_oneA ?_; simp only [go_sem])
          exact LeA.b hf.symm
  · have d2 : decide ((i : Int) < (ts.length : Int)) = false := decide_eq_false (by omega)
    rw [List.drop_eq_nil_of_le (by simp; omega), suitsM] at hf
    repeat' first
      | refine awp_seq ?_
      | refine awp_block ?_
      | refine awp_skip ?_
      | (refine reg _ (by (simp only [List.map_cons, List.map_nil]; rfl)) rfl ?_; intro K hK)
      | (apply ev_guardU; (case hj | hu | hσ => (simp only [go_sem, d2]; try rfl)))
      | ((first | refine awp_cond _ (by rfl) ?_ ?_ | refine ev_guardT _ _ (by (simp only [go_sem, d2]; rfl)) (by (simp only [go_sem, d2]; rfl)) ?_ ?_ | refine ev_guardF _ _ (by (simp only [go_sem, d2]; rfl)) (by (simp only [go_sem, d2]; rfl)) ?_ ?_) <;> (intro hb; first | (cases hb; done) | (have ht : true = true := hb; clear ht hb) | (have ht : false = false := hb; clear ht hb) | (simp only [hb]) | skip))
      | (refine awp_exit ?_; simp only [thenA, blockA, scopeA, reduceIte, RetQ, Nat.reduceEqDiff])
      | (refine awp_ret ?_; simp only [thenA, blockA, scopeA, RetQ])
      | (refine ev_nil (hK _ ?_); clear hK K)
      | (apply ev_step0; (case hr | hσ => (simp only [go_sem, d2]; try rfl)); (case hc => exact hcA))
      | (apply ev_step; (case hr => (simp only [go_sem, d2]; try rfl)); (case hσ => (intro g u; simp only [go_sem, d2]; try rfl)); (case hc => exact hcA); intro g u; (try clear u); (try clear g))
      | fail
    all_goals (refine resR_oneA ?_; simp only [go_sem])
    exact LeA.b hf.symm
end
end Go.Proofs.YtopigomfhggkoaaDoor.A
