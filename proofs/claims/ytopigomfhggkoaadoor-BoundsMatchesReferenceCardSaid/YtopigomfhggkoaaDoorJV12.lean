/- Sums in the reference: the walk. Bounds in the reference: contained, merged: the walks. (Written by mk65.py.) -/
import Derived.Test.YtopigomfhggkoaaDoorJV1
import Derived.Test.YtopigomfhggkoaaDoorJV3
import Derived.Test.YtopigomfhggkoaaDoorJV8
namespace Go.Proofs.YtopigomfhggkoaaDoor.A
section
set_option linter.unusedVariables false
set_option linter.unusedSimpArgs false
open Go.RowKit
attribute [local irreducible] Spec SpecF SpecN
attribute [local irreducible] AWp evOps evD
theorem tq (a : Int) : a.tdiv 1000000000 * 1000000000 + a.tmod 1000000000 = a ∧ -1000000000 < a.tmod 1000000000 ∧ a.tmod 1000000000 < 1000000000 := by
  have h1 := Int.mul_tdiv_add_tmod a 1000000000
  have h2 := Int.tmod_lt_of_pos a (b := 1000000000) (by decide)
  have h3 := Int.lt_tmod_of_pos a (b := 1000000000) (by decide)
  omega
set_option maxHeartbeats 8000000 in
theorem f38_spec (l : List Int) (hl : l.length ≤ 16777216) : Spec Tryd.prog 38 [.d (ints l)] (.agg [litI .i64 (sumD l).1, litI .i64 (sumD l).2]) := by
  refine spec_of_awp (fn := Tryd.f38) Tryd.func38 (by kernel_rfl) rfl ?_
  intro w0 C0
  simp only [Tryd.ntmps38, go_sem]
  repeat' first | refine awp_seq ?_ | refine awp_block ?_ | refine awp_skip ?_ | (apply regB; (case hd => exact hdA); intro K hK) | (apply ev_guardU; (case hj | hu | hσ => (simp only [go_sem]; try rfl))) | ((first | refine awp_cond _ (by rfl) ?_ ?_ | ((first | apply ev_guardT | apply ev_guardF); (case hj | hb => (simp only [go_sem]; try rfl)))) <;> (first | refine ttA ?_ | refine ffA ?_ | (intro hb; first | (cases hb; done) | simp only [hb] | skip))) | ((first | apply awp_exit | apply awp_ret); refine tqA ?_) | (refine ev_nil (hK _ ?_); clear hK K) | (apply ev_step0; (case hr | hσ => (simp only [go_sem]; try rfl)); (case hc => exact hcA)) | (apply ev_step; (case hr | hσ => (intros; simp only [go_sem]; try rfl)); (case hc => exact hcA); intro g u; (try clear u); (try clear g)) | fail
  refine awp_loopI (fun j : Nat × Int × Int => j.1 ≤ l.length ∧ (l.take j.1).all small = true ∧ j.2.1 * 1000000000 + j.2.2 = sumL (l.take j.1) ∧ -(5000000000 * (j.1 : Int)) ≤ j.2.1 ∧ j.2.1 ≤ 5000000000 * (j.1 : Int) ∧ -1000000000 ≤ j.2.2 ∧ j.2.2 ≤ 1000000000) (fun j => l.length - j.1) (fun j => ⟨[.d (ints l), .any, .ptr 2 g 0, litI .i64 j.2.1, litI .i64 j.2.2, litI .i64 (j.1 : Int), .any, .any, .any, .any, .any, .any, .any, .any, .any, .any, .any, .any, .any, .any, .any, .any, .any, .any, .any, .any, .any, .any, .any, .any, .any, .any, .any, .any, .any, .any, .any, .any, .any, .any, .any, .any, .any, .any, .any, .any, .any, .any, .any, .any, .any, .any, .any, .any, .any, .any, .any, .any, .any, .any, .any, .any, .any, .any, .any, .any], [.no, .no, .box g [litI .i64 0, litI .i64 0], .no, .no, .no, .no, .no, .no, .no, .no, .no, .no, .no, .no, .no, .no, .no, .no, .no, .no, .no, .no, .no, .no, .no, .no, .no, .no, .no, .no, .no, .no, .no, .no, .no, .no, .no, .no, .no, .no, .no, .no, .no, .no, .no, .no, .no, .no, .no, .no, .no, .no, .no, .no, .no, .no, .no, .no, .no, .no, .no, .no, .no, .no, .no]⟩) (0, 0, 0) (by simp [sumL]) ?_ ?_
  · exact wkA
  rintro ⟨j, a, b⟩ ⟨hj, hal, hab, ha1, ha2, hb1, hb2⟩
  simp only [litI, litB] at hj hal hab ha1 ha2 hb1 hb2 ⊢
  by_cases h1 : j < l.length
  · have d1 : decide ((j : Int) < (l.length : Int)) = true := decide_eq_true (by omega)
    have hx := ints_at l h1
    have hta := take_all l h1
    have hst := sumL_take l h1
    have hna := not_all h1
    generalize l.getD j 0 = x at *
    cases hsm : small x with
    | false =>
      have hno := hna hsm
      rw [small_not] at hsm
      unfold sumD
      rw [hno, Bool.false_and, if_neg Bool.false_ne_true]
      by_cases h2 : x < -4000000000000000000
      · have d2 : decide (x < -4000000000000000000) = true := decide_eq_true h2
        all_goals have H := And.intro d1 (And.intro hx d2)
        repeat' first | refine awp_seq ?_ | refine awp_block ?_ | refine awp_skip ?_ | (apply regB; (case hd => exact hdA); intro K hK) | (apply ev_guardU; (case hj | hu | hσ => (simp only [go_sem, H]; try rfl))) | ((first | refine awp_cond _ (by rfl) ?_ ?_ | ((first | apply ev_guardT | apply ev_guardF); (case hj | hb => (simp only [go_sem, H]; try rfl)))) <;> (first | refine ttA ?_ | refine ffA ?_ | (intro hb; first | (cases hb; done) | simp only [hb] | skip))) | ((first | apply awp_exit | apply awp_ret); refine tqA ?_) | (refine ev_nil (hK _ ?_); clear hK K) | (apply ev_step0; (case hr | hσ => (simp only [go_sem, H]; try rfl)); (case hc => exact hcA)) | (apply ev_step; (case hr | hσ => (intros; simp only [go_sem, H]; try rfl)); (case hc => exact hcA); intro g u; (try clear u); (try clear g)) | fail
        all_goals try clear H
        all_goals (refine resR_oneA ?_; simp only [go_sem])
        exact LeA.refl _
      · have d2 : decide (x < -4000000000000000000) = false := decide_eq_false h2
        have d3 : decide (x > 4000000000000000000) = true := decide_eq_true (by omega)
        all_goals have H := And.intro d1 (And.intro hx (And.intro d2 d3))
        repeat' first | refine awp_seq ?_ | refine awp_block ?_ | refine awp_skip ?_ | (apply regB; (case hd => exact hdA); intro K hK) | (apply ev_guardU; (case hj | hu | hσ => (simp only [go_sem, H]; try rfl))) | ((first | refine awp_cond _ (by rfl) ?_ ?_ | ((first | apply ev_guardT | apply ev_guardF); (case hj | hb => (simp only [go_sem, H]; try rfl)))) <;> (first | refine ttA ?_ | refine ffA ?_ | (intro hb; first | (cases hb; done) | simp only [hb] | skip))) | ((first | apply awp_exit | apply awp_ret); refine tqA ?_) | (refine ev_nil (hK _ ?_); clear hK K) | (apply ev_step0; (case hr | hσ => (simp only [go_sem, H]; try rfl)); (case hc => exact hcA)) | (apply ev_step; (case hr | hσ => (intros; simp only [go_sem, H]; try rfl)); (case hc => exact hcA); intro g u; (try clear u); (try clear g)) | fail
        all_goals try clear H
        all_goals (refine resR_oneA ?_; simp only [go_sem])
        exact LeA.refl _
    | true =>
      rw [hal, hsm] at hta
      rw [small_iff] at hsm
      have d2 : decide (x < -4000000000000000000) = false := decide_eq_false (by omega)
      have d3 : decide (x > 4000000000000000000) = false := decide_eq_false (by omega)
      obtain ⟨q1, q2, q3⟩ := tq x
      obtain ⟨r1, r2, r3⟩ := tq (b + x.tmod 1000000000)
      have w1 : IntKind.i64.wrap (x.tdiv 1000000000) = x.tdiv 1000000000 := wrap_id (by omega)
      have w2 : IntKind.i64.wrap (a + x.tdiv 1000000000) = a + x.tdiv 1000000000 := wrap_id (by omega)
      have w3 : IntKind.i64.wrap (b + x.tmod 1000000000) = b + x.tmod 1000000000 := wrap_id (by omega)
      have w4 : IntKind.i64.wrap ((b + x.tmod 1000000000).tdiv 1000000000) = (b + x.tmod 1000000000).tdiv 1000000000 := wrap_id (by omega)
      have w5 : IntKind.i64.wrap (a + x.tdiv 1000000000 + (b + x.tmod 1000000000).tdiv 1000000000) = a + x.tdiv 1000000000 + (b + x.tmod 1000000000).tdiv 1000000000 := wrap_id (by omega)
      have w6 : IntKind.i64.wrap ((j : Int) + 1) = ((j + 1 : Nat) : Int) := by rw [wrap_id (by omega)]; push_cast; rfl
      all_goals have H := And.intro d1 (And.intro hx (And.intro d2 (And.intro d3 (And.intro w1 (And.intro w2 (And.intro w3 (And.intro w4 (And.intro w5 w6))))))))
      repeat' first | refine awp_seq ?_ | refine awp_block ?_ | refine awp_skip ?_ | (apply regB; (case hd => exact hdA); intro K hK) | (apply ev_guardU; (case hj | hu | hσ => (simp only [go_sem, H]; try rfl))) | ((first | refine awp_cond _ (by rfl) ?_ ?_ | ((first | apply ev_guardT | apply ev_guardF); (case hj | hb => (simp only [go_sem, H]; try rfl)))) <;> (first | refine ttA ?_ | refine ffA ?_ | (intro hb; first | (cases hb; done) | simp only [hb] | skip))) | ((first | apply awp_exit | apply awp_ret); refine tqA ?_) | (refine ev_nil (hK _ ?_); clear hK K) | (apply ev_step0; (case hr | hσ => (simp only [go_sem, H]; try rfl)); (case hc => exact hcA)) | (apply ev_step; (case hr | hσ => (intros; simp only [go_sem, H]; try rfl)); (case hc => exact hcA); intro g u; (try clear u); (try clear g)) | fail
      all_goals try clear H
      refine Exists.intro (j + 1, a + x.tdiv 1000000000 + (b + x.tmod 1000000000).tdiv 1000000000, (b + x.tmod 1000000000).tmod 1000000000) ⟨⟨by show j + 1 ≤ _; omega, hta, by show _ = sumL (l.take (j + 1)); rw [hst]; show (a + x.tdiv 1000000000 + (b + x.tmod 1000000000).tdiv 1000000000) * 1000000000 + (b + x.tmod 1000000000).tmod 1000000000 = _; omega, by show _ ≤ a + x.tdiv 1000000000 + (b + x.tmod 1000000000).tdiv 1000000000; push_cast; omega, by show a + x.tdiv 1000000000 + (b + x.tmod 1000000000).tdiv 1000000000 ≤ _; push_cast; omega, by show _ ≤ (b + x.tmod 1000000000).tmod 1000000000; omega, by show (b + x.tmod 1000000000).tmod 1000000000 ≤ _; omega⟩, by show l.length - (j + 1) < l.length - j; omega, ?_⟩
      exact wkA
  · have d1 : decide ((j : Int) < (l.length : Int)) = false := decide_eq_false (by omega)
    have hjl : j = l.length := by omega
    subst hjl
    rw [List.take_length] at hab hal
    unfold sumD
    rw [hal, Bool.true_and]
    generalize sumL l = sm at *
    by_cases h3 : a > 5000000000
    · have d3 : decide (a > 5000000000) = true := decide_eq_true h3
      have hsm : small sm = false := small_not.2 (by omega)
      rw [hsm, if_neg (by decide)]
      all_goals have H := And.intro d1 d3
      repeat' first | refine awp_seq ?_ | refine awp_block ?_ | refine awp_skip ?_ | (apply regB; (case hd => exact hdA); intro K hK) | (apply ev_guardU; (case hj | hu | hσ => (simp only [go_sem, H]; try rfl))) | ((first | refine awp_cond _ (by rfl) ?_ ?_ | ((first | apply ev_guardT | apply ev_guardF); (case hj | hb => (simp only [go_sem, H]; try rfl)))) <;> (first | refine ttA ?_ | refine ffA ?_ | (intro hb; first | (cases hb; done) | simp only [hb] | skip))) | ((first | apply awp_exit | apply awp_ret); refine tqA ?_) | (refine ev_nil (hK _ ?_); clear hK K) | (apply ev_step0; (case hr | hσ => (simp only [go_sem, H]; try rfl)); (case hc => exact hcA)) | (apply ev_step; (case hr | hσ => (intros; simp only [go_sem, H]; try rfl)); (case hc => exact hcA); intro g u; (try clear u); (try clear g)) | fail
      all_goals try clear H
      all_goals (refine resR_oneA ?_; simp only [go_sem])
      exact LeA.refl _
    have d3 : decide (a > 5000000000) = false := decide_eq_false h3
    by_cases h4 : a < -5000000000
    · have d4 : decide (a < -5000000000) = true := decide_eq_true h4
      have hsm : small sm = false := small_not.2 (by omega)
      rw [hsm, if_neg (by decide)]
      all_goals have H := And.intro d1 (And.intro d3 d4)
      repeat' first | refine awp_seq ?_ | refine awp_block ?_ | refine awp_skip ?_ | (apply regB; (case hd => exact hdA); intro K hK) | (apply ev_guardU; (case hj | hu | hσ => (simp only [go_sem, H]; try rfl))) | ((first | refine awp_cond _ (by rfl) ?_ ?_ | ((first | apply ev_guardT | apply ev_guardF); (case hj | hb => (simp only [go_sem, H]; try rfl)))) <;> (first | refine ttA ?_ | refine ffA ?_ | (intro hb; first | (cases hb; done) | simp only [hb] | skip))) | ((first | apply awp_exit | apply awp_ret); refine tqA ?_) | (refine ev_nil (hK _ ?_); clear hK K) | (apply ev_step0; (case hr | hσ => (simp only [go_sem, H]; try rfl)); (case hc => exact hcA)) | (apply ev_step; (case hr | hσ => (intros; simp only [go_sem, H]; try rfl)); (case hc => exact hcA); intro g u; (try clear u); (try clear g)) | fail
      all_goals try clear H
      all_goals (refine resR_oneA ?_; simp only [go_sem])
      exact LeA.refl _
    have d4 : decide (a < -5000000000) = false := decide_eq_false h4
    have w4 : IntKind.i64.wrap (a * 1000000000) = a * 1000000000 := wrap_id (by omega)
    have w5 : IntKind.i64.wrap (a * 1000000000 + b) = sm := by rw [hab]; exact wrap_id (by omega)
    by_cases h6 : sm < -4000000000000000000
    · have d6 : decide (sm < -4000000000000000000) = true := decide_eq_true h6
      have hsm : small sm = false := small_not.2 (by omega)
      rw [hsm, if_neg (by decide)]
      all_goals have H := And.intro d1 (And.intro d3 (And.intro d4 (And.intro w4 (And.intro w5 d6))))
      repeat' first | refine awp_seq ?_ | refine awp_block ?_ | refine awp_skip ?_ | (apply regB; (case hd => exact hdA); intro K hK) | (apply ev_guardU; (case hj | hu | hσ => (simp only [go_sem, H]; try rfl))) | ((first | refine awp_cond _ (by rfl) ?_ ?_ | ((first | apply ev_guardT | apply ev_guardF); (case hj | hb => (simp only [go_sem, H]; try rfl)))) <;> (first | refine ttA ?_ | refine ffA ?_ | (intro hb; first | (cases hb; done) | simp only [hb] | skip))) | ((first | apply awp_exit | apply awp_ret); refine tqA ?_) | (refine ev_nil (hK _ ?_); clear hK K) | (apply ev_step0; (case hr | hσ => (simp only [go_sem, H]; try rfl)); (case hc => exact hcA)) | (apply ev_step; (case hr | hσ => (intros; simp only [go_sem, H]; try rfl)); (case hc => exact hcA); intro g u; (try clear u); (try clear g)) | fail
      all_goals try clear H
      all_goals (refine resR_oneA ?_; simp only [go_sem])
      exact LeA.refl _
    have d6 : decide (sm < -4000000000000000000) = false := decide_eq_false h6
    by_cases h5 : sm > 4000000000000000000
    · have d5 : decide (sm > 4000000000000000000) = true := decide_eq_true h5
      have hsm : small sm = false := small_not.2 (by omega)
      rw [hsm, if_neg (by decide)]
      all_goals have H := And.intro d1 (And.intro d3 (And.intro d4 (And.intro w4 (And.intro w5 (And.intro d6 d5)))))
      repeat' first | refine awp_seq ?_ | refine awp_block ?_ | refine awp_skip ?_ | (apply regB; (case hd => exact hdA); intro K hK) | (apply ev_guardU; (case hj | hu | hσ => (simp only [go_sem, H]; try rfl))) | ((first | refine awp_cond _ (by rfl) ?_ ?_ | ((first | apply ev_guardT | apply ev_guardF); (case hj | hb => (simp only [go_sem, H]; try rfl)))) <;> (first | refine ttA ?_ | refine ffA ?_ | (intro hb; first | (cases hb; done) | simp only [hb] | skip))) | ((first | apply awp_exit | apply awp_ret); refine tqA ?_) | (refine ev_nil (hK _ ?_); clear hK K) | (apply ev_step0; (case hr | hσ => (simp only [go_sem, H]; try rfl)); (case hc => exact hcA)) | (apply ev_step; (case hr | hσ => (intros; simp only [go_sem, H]; try rfl)); (case hc => exact hcA); intro g u; (try clear u); (try clear g)) | fail
      all_goals try clear H
      all_goals (refine resR_oneA ?_; simp only [go_sem])
      exact LeA.refl _
    have d5 : decide (sm > 4000000000000000000) = false := decide_eq_false h5
    have hsm : small sm = true := small_iff.2 (by omega)
    rw [hsm, if_pos rfl]
    all_goals have H := And.intro d1 (And.intro d3 (And.intro d4 (And.intro w4 (And.intro w5 (And.intro d6 d5)))))
    repeat' first | refine awp_seq ?_ | refine awp_block ?_ | refine awp_skip ?_ | (apply regB; (case hd => exact hdA); intro K hK) | (apply ev_guardU; (case hj | hu | hσ => (simp only [go_sem, H]; try rfl))) | ((first | refine awp_cond _ (by rfl) ?_ ?_ | ((first | apply ev_guardT | apply ev_guardF); (case hj | hb => (simp only [go_sem, H]; try rfl)))) <;> (first | refine ttA ?_ | refine ffA ?_ | (intro hb; first | (cases hb; done) | simp only [hb] | skip))) | ((first | apply awp_exit | apply awp_ret); refine tqA ?_) | (refine ev_nil (hK _ ?_); clear hK K) | (apply ev_step0; (case hr | hσ => (simp only [go_sem, H]; try rfl)); (case hc => exact hcA)) | (apply ev_step; (case hr | hσ => (intros; simp only [go_sem, H]; try rfl)); (case hc => exact hcA); intro g u; (try clear u); (try clear g)) | fail
    all_goals try clear H
    all_goals (refine resR_oneA ?_; simp only [go_sem])
    exact LeA.refl _
end
section
set_option linter.unusedVariables false
set_option linter.unusedSimpArgs false
open Go.RowKit
attribute [local irreducible] Spec SpecF SpecN
attribute [local irreducible] AWp evOps evD
set_option maxHeartbeats 8000000 in
theorem f19_spec (b : Bd) (v : Vl) (hb : BdOk b) (hv : VlOk v) : Spec Tryd.prog 19 [.agg (bd b), .agg (vl v)] (litB (containsB b v)) := by
  have a1 := f17_spec b hb.lo hb.hi
  have a2 := f36_spec v hv.i hv.s
  have a3 := f37_same b.lo v hb.lo.s hv.s
  have a4 := f37_same v b.hi hv.s hb.hi.s
  obtain ⟨bn, bh, bl, bi, bm⟩ := b
  unfold containsB
  simp only at a1 a2 a3 a4 ⊢
  cases bh with
  | false =>
    cases vb : (validB ⟨bn, false, bl, bi, bm⟩) with
    | false =>
      rw [vb] at a1
      simp only [vb, if_true, if_false, Bool.false_eq_true, reduceCtorEq]
      refine spec_of_awp (fn := Tryd.f19) Tryd.func19 (by kernel_rfl) rfl ?_
      intro w0 C0
      simp only [Tryd.ntmps19, go_sem]
      repeat' first | refine awp_seq ?_ | refine awp_block ?_ | refine awp_skip ?_ | (apply regB; (case hd => exact hdA); intro K hK) | (apply ev_guardU; (case hj | hu | hσ => (simp only [go_sem]; try rfl))) | ((first | refine awp_cond _ (by rfl) ?_ ?_ | ((first | apply ev_guardT | apply ev_guardF); (case hj | hb => (simp only [go_sem]; try rfl)))) <;> (first | refine ttA ?_ | refine ffA ?_ | (intro hb; first | (cases hb; done) | simp only [hb] | skip))) | ((first | apply awp_exit | apply awp_ret); refine tqA ?_) | (refine ev_nil (hK _ ?_); clear hK K) | (apply ev_call0; (case hys => (simp only [go_sem]; try rfl)); (case hs => first | exact a1 ..); (case hok | hσ => (simp only [go_sem]; try rfl))) | (apply ev_step0; (case hr | hσ => (simp only [go_sem]; try rfl)); (case hc => exact hcA)) | (apply ev_step; (case hr | hσ => (intros; simp only [go_sem]; try rfl)); (case hc => exact hcA); intro g u; (try clear u); (try clear g)) | fail
      all_goals (refine resR_oneA ?_; simp only [go_sem])
      exact LeA.refl _
    | true =>
    cases wv : (wideV v) with
    | false =>
      rw [vb] at a1
      rw [wv] at a2
      simp only [vb, wv, if_true, if_false, Bool.false_eq_true, reduceCtorEq]
      refine spec_of_awp (fn := Tryd.f19) Tryd.func19 (by kernel_rfl) rfl ?_
      intro w0 C0
      simp only [Tryd.ntmps19, go_sem]
      repeat' first | refine awp_seq ?_ | refine awp_block ?_ | refine awp_skip ?_ | (apply regB; (case hd => exact hdA); intro K hK) | (apply ev_guardU; (case hj | hu | hσ => (simp only [go_sem]; try rfl))) | ((first | refine awp_cond _ (by rfl) ?_ ?_ | ((first | apply ev_guardT | apply ev_guardF); (case hj | hb => (simp only [go_sem]; try rfl)))) <;> (first | refine ttA ?_ | refine ffA ?_ | (intro hb; first | (cases hb; done) | simp only [hb] | skip))) | ((first | apply awp_exit | apply awp_ret); refine tqA ?_) | (refine ev_nil (hK _ ?_); clear hK K) | (apply ev_call0; (case hys => (simp only [go_sem]; try rfl)); (case hs => first | exact a1 .. | exact a2 ..); (case hok | hσ => (simp only [go_sem]; try rfl))) | (apply ev_step0; (case hr | hσ => (simp only [go_sem]; try rfl)); (case hc => exact hcA)) | (apply ev_step; (case hr | hσ => (intros; simp only [go_sem]; try rfl)); (case hc => exact hcA); intro g u; (try clear u); (try clear g)) | fail
      all_goals (refine resR_oneA ?_; simp only [go_sem])
      exact LeA.refl _
    | true =>
    cases nl : (v.k == 0) with
    | true =>
      rw [vb] at a1
      rw [wv] at a2
      simp only [vb, wv, wide_isNull wv, nl, if_true, if_false, Bool.false_eq_true, reduceCtorEq]
      refine spec_of_awp (fn := Tryd.f19) Tryd.func19 (by kernel_rfl) rfl ?_
      intro w0 C0
      simp only [Tryd.ntmps19, go_sem]
      repeat' first | refine awp_seq ?_ | refine awp_block ?_ | refine awp_skip ?_ | (apply regB; (case hd => exact hdA); intro K hK) | (apply ev_guardU; (case hj | hu | hσ => (simp only [go_sem, nl]; try rfl))) | ((first | refine awp_cond _ (by rfl) ?_ ?_ | ((first | apply ev_guardT | apply ev_guardF); (case hj | hb => (simp only [go_sem, nl]; try rfl)))) <;> (first | refine ttA ?_ | refine ffA ?_ | (intro hb; first | (cases hb; done) | simp only [hb] | skip))) | ((first | apply awp_exit | apply awp_ret); refine tqA ?_) | (refine ev_nil (hK _ ?_); clear hK K) | (apply ev_call0; (case hys => (simp only [go_sem, nl]; try rfl)); (case hs => first | exact a1 .. | exact a2 ..); (case hok | hσ => (simp only [go_sem, nl]; try rfl))) | (apply ev_step0; (case hr | hσ => (simp only [go_sem, nl]; try rfl)); (case hc => exact hcA)) | (apply ev_step; (case hr | hσ => (intros; simp only [go_sem, nl]; try rfl)); (case hc => exact hcA); intro g u; (try clear u); (try clear g)) | fail
      all_goals (refine resR_oneA ?_; simp only [go_sem])
      exact LeA.refl _
    | false =>
    rw [vb] at a1
    rw [wv] at a2
    simp only [vb, wv, wide_isNull wv, nl, if_true, if_false, Bool.false_eq_true, reduceCtorEq]
    refine spec_of_awp (fn := Tryd.f19) Tryd.func19 (by kernel_rfl) rfl ?_
    intro w0 C0
    simp only [Tryd.ntmps19, go_sem]
    repeat' first | refine awp_seq ?_ | refine awp_block ?_ | refine awp_skip ?_ | (apply regB; (case hd => exact hdA); intro K hK) | (apply ev_guardU; (case hj | hu | hσ => (simp only [go_sem, nl]; try rfl))) | ((first | refine awp_cond _ (by rfl) ?_ ?_ | ((first | apply ev_guardT | apply ev_guardF); (case hj | hb => (simp only [go_sem, nl]; try rfl)))) <;> (first | refine ttA ?_ | refine ffA ?_ | (intro hb; first | (cases hb; done) | simp only [hb] | skip))) | ((first | apply awp_exit | apply awp_ret); refine tqA ?_) | (refine ev_nil (hK _ ?_); clear hK K) | (apply ev_call0; (case hys => (simp only [go_sem, nl]; try rfl)); (case hs => first | exact a1 .. | exact a2 ..); (case hok | hσ => (simp only [go_sem, nl]; try rfl))) | (apply ev_step0; (case hr | hσ => (simp only [go_sem, nl]; try rfl)); (case hc => exact hcA)) | (apply ev_step; (case hr | hσ => (intros; simp only [go_sem, nl]; try rfl)); (case hc => exact hcA); intro g u; (try clear u); (try clear g)) | fail
    all_goals (refine resR_oneA ?_; simp only [go_sem])
    exact LeA.refl _
  | true =>
    cases vb : (validB ⟨bn, true, bl, bi, bm⟩) with
    | false =>
      rw [vb] at a1
      simp only [vb, if_true, if_false, Bool.false_eq_true, reduceCtorEq]
      refine spec_of_awp (fn := Tryd.f19) Tryd.func19 (by kernel_rfl) rfl ?_
      intro w0 C0
      simp only [Tryd.ntmps19, go_sem]
      repeat' first | refine awp_seq ?_ | refine awp_block ?_ | refine awp_skip ?_ | (apply regB; (case hd => exact hdA); intro K hK) | (apply ev_guardU; (case hj | hu | hσ => (simp only [go_sem]; try rfl))) | ((first | refine awp_cond _ (by rfl) ?_ ?_ | ((first | apply ev_guardT | apply ev_guardF); (case hj | hb => (simp only [go_sem]; try rfl)))) <;> (first | refine ttA ?_ | refine ffA ?_ | (intro hb; first | (cases hb; done) | simp only [hb] | skip))) | ((first | apply awp_exit | apply awp_ret); refine tqA ?_) | (refine ev_nil (hK _ ?_); clear hK K) | (apply ev_call0; (case hys => (simp only [go_sem]; try rfl)); (case hs => first | exact a1 ..); (case hok | hσ => (simp only [go_sem]; try rfl))) | (apply ev_step0; (case hr | hσ => (simp only [go_sem]; try rfl)); (case hc => exact hcA)) | (apply ev_step; (case hr | hσ => (intros; simp only [go_sem]; try rfl)); (case hc => exact hcA); intro g u; (try clear u); (try clear g)) | fail
      all_goals (refine resR_oneA ?_; simp only [go_sem])
      exact LeA.refl _
    | true =>
    cases wv : (wideV v) with
    | false =>
      rw [vb] at a1
      rw [wv] at a2
      simp only [vb, wv, if_true, if_false, Bool.false_eq_true, reduceCtorEq]
      refine spec_of_awp (fn := Tryd.f19) Tryd.func19 (by kernel_rfl) rfl ?_
      intro w0 C0
      simp only [Tryd.ntmps19, go_sem]
      repeat' first | refine awp_seq ?_ | refine awp_block ?_ | refine awp_skip ?_ | (apply regB; (case hd => exact hdA); intro K hK) | (apply ev_guardU; (case hj | hu | hσ => (simp only [go_sem]; try rfl))) | ((first | refine awp_cond _ (by rfl) ?_ ?_ | ((first | apply ev_guardT | apply ev_guardF); (case hj | hb => (simp only [go_sem]; try rfl)))) <;> (first | refine ttA ?_ | refine ffA ?_ | (intro hb; first | (cases hb; done) | simp only [hb] | skip))) | ((first | apply awp_exit | apply awp_ret); refine tqA ?_) | (refine ev_nil (hK _ ?_); clear hK K) | (apply ev_call0; (case hys => (simp only [go_sem]; try rfl)); (case hs => first | exact a1 .. | exact a2 ..); (case hok | hσ => (simp only [go_sem]; try rfl))) | (apply ev_step0; (case hr | hσ => (simp only [go_sem]; try rfl)); (case hc => exact hcA)) | (apply ev_step; (case hr | hσ => (intros; simp only [go_sem]; try rfl)); (case hc => exact hcA); intro g u; (try clear u); (try clear g)) | fail
      all_goals (refine resR_oneA ?_; simp only [go_sem])
      exact LeA.refl _
    | true =>
    cases nl : (v.k == 0) with
    | true =>
      rw [vb] at a1
      rw [wv] at a2
      simp only [vb, wv, wide_isNull wv, nl, if_true, if_false, Bool.false_eq_true, reduceCtorEq]
      refine spec_of_awp (fn := Tryd.f19) Tryd.func19 (by kernel_rfl) rfl ?_
      intro w0 C0
      simp only [Tryd.ntmps19, go_sem]
      repeat' first | refine awp_seq ?_ | refine awp_block ?_ | refine awp_skip ?_ | (apply regB; (case hd => exact hdA); intro K hK) | (apply ev_guardU; (case hj | hu | hσ => (simp only [go_sem, nl]; try rfl))) | ((first | refine awp_cond _ (by rfl) ?_ ?_ | ((first | apply ev_guardT | apply ev_guardF); (case hj | hb => (simp only [go_sem, nl]; try rfl)))) <;> (first | refine ttA ?_ | refine ffA ?_ | (intro hb; first | (cases hb; done) | simp only [hb] | skip))) | ((first | apply awp_exit | apply awp_ret); refine tqA ?_) | (refine ev_nil (hK _ ?_); clear hK K) | (apply ev_call0; (case hys => (simp only [go_sem, nl]; try rfl)); (case hs => first | exact a1 .. | exact a2 ..); (case hok | hσ => (simp only [go_sem, nl]; try rfl))) | (apply ev_step0; (case hr | hσ => (simp only [go_sem, nl]; try rfl)); (case hc => exact hcA)) | (apply ev_step; (case hr | hσ => (intros; simp only [go_sem, nl]; try rfl)); (case hc => exact hcA); intro g u; (try clear u); (try clear g)) | fail
      all_goals (refine resR_oneA ?_; simp only [go_sem])
      exact LeA.refl _
    | false =>
    cases kk : (v.k == bl.k) with
    | false =>
      rw [vb] at a1
      rw [wv] at a2
      simp only [vb, wv, kk, wide_isNull wv, nl, if_true, if_false, Bool.false_eq_true, reduceCtorEq]
      refine spec_of_awp (fn := Tryd.f19) Tryd.func19 (by kernel_rfl) rfl ?_
      intro w0 C0
      simp only [Tryd.ntmps19, go_sem]
      all_goals have H := And.intro nl kk
      repeat' first | refine awp_seq ?_ | refine awp_block ?_ | refine awp_skip ?_ | (apply regB; (case hd => exact hdA); intro K hK) | (apply ev_guardU; (case hj | hu | hσ => (simp only [go_sem, H]; try rfl))) | ((first | refine awp_cond _ (by rfl) ?_ ?_ | ((first | apply ev_guardT | apply ev_guardF); (case hj | hb => (simp only [go_sem, H]; try rfl)))) <;> (first | refine ttA ?_ | refine ffA ?_ | (intro hb; first | (cases hb; done) | simp only [hb] | skip))) | ((first | apply awp_exit | apply awp_ret); refine tqA ?_) | (refine ev_nil (hK _ ?_); clear hK K) | (apply ev_call0; (case hys => (simp only [go_sem, H]; try rfl)); (case hs => first | exact a1 .. | exact a2 ..); (case hok | hσ => (simp only [go_sem, H]; try rfl))) | (apply ev_step0; (case hr | hσ => (simp only [go_sem, H]; try rfl)); (case hc => exact hcA)) | (apply ev_step; (case hr | hσ => (intros; simp only [go_sem, H]; try rfl)); (case hc => exact hcA); intro g u; (try clear u); (try clear g)) | fail
      all_goals try clear H
      all_goals (refine resR_oneA ?_; simp only [go_sem])
      exact LeA.refl _
    | true =>
    cases c1 : (decide (cmpV bl v ≤ 0)) with
    | false =>
      rw [vb] at a1
      rw [wv] at a2
      simp only [vb, wv, kk, c1, wide_isNull wv, nl, if_true, if_false, Bool.false_eq_true, reduceCtorEq]
      refine spec_of_awp (fn := Tryd.f19) Tryd.func19 (by kernel_rfl) rfl ?_
      intro w0 C0
      simp only [Tryd.ntmps19, go_sem]
      all_goals have H := And.intro nl (And.intro kk c1)
      repeat' first | refine awp_seq ?_ | refine awp_block ?_ | refine awp_skip ?_ | (apply regB; (case hd => exact hdA); intro K hK) | (apply ev_guardU; (case hj | hu | hσ => (simp only [go_sem, H]; try rfl))) | ((first | refine awp_cond _ (by rfl) ?_ ?_ | ((first | apply ev_guardT | apply ev_guardF); (case hj | hb => (simp only [go_sem, H]; try rfl)))) <;> (first | refine ttA ?_ | refine ffA ?_ | (intro hb; first | (cases hb; done) | simp only [hb] | skip))) | ((first | apply awp_exit | apply awp_ret); refine tqA ?_) | (refine ev_nil (hK _ ?_); clear hK K) | (apply ev_call0; (case hys => (simp only [go_sem, H]; try rfl)); (case hs => first | exact a1 .. | exact a2 .. | exact a3 ..); (case hok | hσ => (simp only [go_sem, H]; try rfl))) | (apply ev_step0; (case hr | hσ => (simp only [go_sem, H]; try rfl)); (case hc => exact hcA)) | (apply ev_step; (case hr | hσ => (intros; simp only [go_sem, H]; try rfl)); (case hc => exact hcA); intro g u; (try clear u); (try clear g)) | fail
      all_goals try clear H
      all_goals (refine resR_oneA ?_; simp only [go_sem])
      exact LeA.refl _
    | true =>
    rw [vb] at a1
    rw [wv] at a2
    simp only [vb, wv, kk, c1, wide_isNull wv, nl, if_true, if_false, Bool.false_eq_true, reduceCtorEq]
    refine spec_of_awp (fn := Tryd.f19) Tryd.func19 (by kernel_rfl) rfl ?_
    intro w0 C0
    simp only [Tryd.ntmps19, go_sem]
    all_goals have H := And.intro nl (And.intro kk c1)
    repeat' first | refine awp_seq ?_ | refine awp_block ?_ | refine awp_skip ?_ | (apply regB; (case hd => exact hdA); intro K hK) | (apply ev_guardU; (case hj | hu | hσ => (simp only [go_sem, H]; try rfl))) | ((first | refine awp_cond _ (by rfl) ?_ ?_ | ((first | apply ev_guardT | apply ev_guardF); (case hj | hb => (simp only [go_sem, H]; try rfl)))) <;> (first | refine ttA ?_ | refine ffA ?_ | (intro hb; first | (cases hb; done) | simp only [hb] | skip))) | ((first | apply awp_exit | apply awp_ret); refine tqA ?_) | (refine ev_nil (hK _ ?_); clear hK K) | (apply ev_call0; (case hys => (simp only [go_sem, H]; try rfl)); (case hs => first | exact a1 .. | exact a2 .. | exact a3 .. | exact a4 ..); (case hok | hσ => (simp only [go_sem, H]; try rfl))) | (apply ev_step0; (case hr | hσ => (simp only [go_sem, H]; try rfl)); (case hc => exact hcA)) | (apply ev_step; (case hr | hσ => (intros; simp only [go_sem, H]; try rfl)); (case hc => exact hcA); intro g u; (try clear u); (try clear g)) | fail
    all_goals try clear H
    all_goals (refine resR_oneA ?_; simp only [go_sem])
    exact LeA.refl _
set_option maxHeartbeats 16000000 in
theorem f15_spec (a b : Bd) (ha : BdOk a) (hb : BdOk b) : Spec Tryd.prog 15 [.agg (bd a), .agg (bd b)] (.agg (got (mergeM a b))) := by
  have a1 := f17_spec a ha.lo ha.hi
  have a2 := f17_spec b hb.lo hb.hi
  have a3 := f38_spec [a.sum, b.sum] (by simp)
  simp only [ints, List.map_cons, List.map_nil] at a3
  have a4 := f37_same b.lo a.lo hb.lo.s ha.lo.s
  have a5 := f37_same b.hi a.hi hb.hi.s ha.hi.s
  obtain ⟨an, ah, al, ai, am⟩ := a
  obtain ⟨bn, bh, bl, bi, bm⟩ := b
  unfold mergeM
  simp only at a1 a2 a3 a4 a5 ⊢
  cases ah with
  | true =>
    cases bh with
    | true =>
      cases va : (validB ⟨an, true, al, ai, am⟩) with
      | false =>
        rw [va] at a1
        simp only [va, if_true, if_false, Bool.false_eq_true, reduceCtorEq, Bool.and_true, Bool.and_false, Bool.true_and, Bool.false_and, Bool.not_true, Bool.not_false, Bool.true_or, Bool.false_or, Bool.or_true, Bool.or_false, Bool.and_self]
        refine spec_of_awp (fn := Tryd.f15) Tryd.func15 (by kernel_rfl) rfl ?_
        intro w0 C0
        simp only [Tryd.ntmps15, go_sem]
        repeat' first | refine awp_seq ?_ | refine awp_block ?_ | refine awp_skip ?_ | (apply regB; (case hd => exact hdA); intro K hK) | (apply ev_guardU; (case hj | hu | hσ => (simp only [go_sem]; try rfl))) | ((first | refine awp_cond _ (by rfl) ?_ ?_ | ((first | apply ev_guardT | apply ev_guardF); (case hj | hb => (simp only [go_sem]; try rfl)))) <;> (first | refine ttA ?_ | refine ffA ?_ | (intro hb; first | (cases hb; done) | simp only [hb] | skip))) | ((first | apply awp_exit | apply awp_ret); refine tqA ?_) | (refine ev_nil (hK _ ?_); clear hK K) | (apply ev_call0; (case hys => (simp only [go_sem]; try rfl)); (case hs => first | exact a1 ..); (case hok | hσ => (simp only [go_sem]; try rfl))) | (apply ev_step0; (case hr | hσ => (simp only [go_sem]; try rfl)); (case hc => exact hcA)) | (apply ev_step; (case hr | hσ => (intros; simp only [go_sem]; try rfl)); (case hc => exact hcA); intro g u; (try clear u); (try clear g)) | fail
        all_goals (refine resR_oneA ?_; simp only [go_sem])
        exact LeA.refl _
      | true =>
      cases vb : (validB ⟨bn, true, bl, bi, bm⟩) with
      | false =>
        rw [va] at a1
        rw [vb] at a2
        simp only [va, vb, if_true, if_false, Bool.false_eq_true, reduceCtorEq, Bool.and_true, Bool.and_false, Bool.true_and, Bool.false_and, Bool.not_true, Bool.not_false, Bool.true_or, Bool.false_or, Bool.or_true, Bool.or_false, Bool.and_self]
        refine spec_of_awp (fn := Tryd.f15) Tryd.func15 (by kernel_rfl) rfl ?_
        intro w0 C0
        simp only [Tryd.ntmps15, go_sem]
        repeat' first | refine awp_seq ?_ | refine awp_block ?_ | refine awp_skip ?_ | (apply regB; (case hd => exact hdA); intro K hK) | (apply ev_guardU; (case hj | hu | hσ => (simp only [go_sem]; try rfl))) | ((first | refine awp_cond _ (by rfl) ?_ ?_ | ((first | apply ev_guardT | apply ev_guardF); (case hj | hb => (simp only [go_sem]; try rfl)))) <;> (first | refine ttA ?_ | refine ffA ?_ | (intro hb; first | (cases hb; done) | simp only [hb] | skip))) | ((first | apply awp_exit | apply awp_ret); refine tqA ?_) | (refine ev_nil (hK _ ?_); clear hK K) | (apply ev_call0; (case hys => (simp only [go_sem]; try rfl)); (case hs => first | exact a1 .. | exact a2 ..); (case hok | hσ => (simp only [go_sem]; try rfl))) | (apply ev_step0; (case hr | hσ => (simp only [go_sem]; try rfl)); (case hc => exact hcA)) | (apply ev_step; (case hr | hσ => (intros; simp only [go_sem]; try rfl)); (case hc => exact hcA); intro g u; (try clear u); (try clear g)) | fail
        all_goals (refine resR_oneA ?_; simp only [go_sem])
        exact LeA.refl _
      | true =>
      have b1 := validB_bd va
      have b2 := validB_bd vb
      simp only at b1 b2
      have wn : IntKind.i64.wrap (an + bn) = an + bn := wrap_id (by omega)
      have hsd : sumD [am, bm] = if small (am + bm) = true then (am + bm, 0) else (0, 2) := by
        have e1 : small am = true := small_iff.2 b1.2
        have e2 : small bm = true := small_iff.2 b2.2
        simp only [sumD, List.all_cons, List.all_nil, e1, e2, Bool.and_self, Bool.true_and, sumL, List.foldr_cons, List.foldr_nil, Int.add_zero]
      cases ks : (al.k != bl.k) with
      | true =>
        rw [va] at a1
        rw [vb] at a2
        simp only [va, vb, ks, if_true, if_false, Bool.false_eq_true, reduceCtorEq, Bool.and_true, Bool.and_false, Bool.true_and, Bool.false_and, Bool.not_true, Bool.not_false, Bool.true_or, Bool.false_or, Bool.or_true, Bool.or_false, Bool.and_self]
        refine spec_of_awp (fn := Tryd.f15) Tryd.func15 (by kernel_rfl) rfl ?_
        intro w0 C0
        simp only [Tryd.ntmps15, go_sem]
        repeat' first | refine awp_seq ?_ | refine awp_block ?_ | refine awp_skip ?_ | (apply regB; (case hd => exact hdA); intro K hK) | (apply ev_guardU; (case hj | hu | hσ => (simp only [go_sem, ks]; try rfl))) | ((first | refine awp_cond _ (by rfl) ?_ ?_ | ((first | apply ev_guardT | apply ev_guardF); (case hj | hb => (simp only [go_sem, ks]; try rfl)))) <;> (first | refine ttA ?_ | refine ffA ?_ | (intro hb; first | (cases hb; done) | simp only [hb] | skip))) | ((first | apply awp_exit | apply awp_ret); refine tqA ?_) | (refine ev_nil (hK _ ?_); clear hK K) | (apply ev_call0; (case hys => (simp only [go_sem, ks]; try rfl)); (case hs => first | exact a1 .. | exact a2 ..); (case hok | hσ => (simp only [go_sem, ks]; try rfl))) | (apply ev_step0; (case hr | hσ => (simp only [go_sem, ks]; try rfl)); (case hc => exact hcA)) | (apply ev_step; (case hr | hσ => (intros; simp only [go_sem, ks]; try rfl)); (case hc => exact hcA); intro g u; (try clear u); (try clear g)) | fail
        all_goals (refine resR_oneA ?_; simp only [go_sem])
        exact LeA.refl _
      | false =>
      cases sm : (small (am + bm)) with
      | false =>
        rw [va] at a1
        rw [vb] at a2
        rw [sm, if_neg Bool.false_ne_true] at hsd
        rw [hsd] at a3
        simp only [va, vb, ks, sm, if_true, if_false, Bool.false_eq_true, reduceCtorEq, Bool.and_true, Bool.and_false, Bool.true_and, Bool.false_and, Bool.not_true, Bool.not_false, Bool.true_or, Bool.false_or, Bool.or_true, Bool.or_false, Bool.and_self]
        refine spec_of_awp (fn := Tryd.f15) Tryd.func15 (by kernel_rfl) rfl ?_
        intro w0 C0
        simp only [Tryd.ntmps15, go_sem]
        repeat' first | refine awp_seq ?_ | refine awp_block ?_ | refine awp_skip ?_ | (apply regB; (case hd => exact hdA); intro K hK) | (apply ev_guardU; (case hj | hu | hσ => (simp only [go_sem, ks]; try rfl))) | ((first | refine awp_cond _ (by rfl) ?_ ?_ | ((first | apply ev_guardT | apply ev_guardF); (case hj | hb => (simp only [go_sem, ks]; try rfl)))) <;> (first | refine ttA ?_ | refine ffA ?_ | (intro hb; first | (cases hb; done) | simp only [hb] | skip))) | ((first | apply awp_exit | apply awp_ret); refine tqA ?_) | (refine ev_nil (hK _ ?_); clear hK K) | (apply ev_call0; (case hys => (simp only [go_sem, ks]; try rfl)); (case hs => first | exact a1 .. | exact a2 .. | exact a3 ..); (case hok | hσ => (simp only [go_sem, ks]; try rfl))) | (apply ev_step0; (case hr | hσ => (simp only [go_sem, ks]; try rfl)); (case hc => exact hcA)) | (apply ev_step; (case hr | hσ => (intros; simp only [go_sem, ks]; try rfl)); (case hc => exact hcA); intro g u; (try clear u); (try clear g)) | fail
        all_goals (refine resR_oneA ?_; simp only [go_sem])
        exact LeA.refl _
      | true =>
      cases ov : (decide (an + bn > 4000000000000000000)) with
      | true =>
        rw [va] at a1
        rw [vb] at a2
        rw [sm, if_pos rfl] at hsd
        rw [hsd] at a3
        simp only [va, vb, ks, sm, ov, if_true, if_false, Bool.false_eq_true, reduceCtorEq, Bool.and_true, Bool.and_false, Bool.true_and, Bool.false_and, Bool.not_true, Bool.not_false, Bool.true_or, Bool.false_or, Bool.or_true, Bool.or_false, Bool.and_self]
        refine spec_of_awp (fn := Tryd.f15) Tryd.func15 (by kernel_rfl) rfl ?_
        intro w0 C0
        simp only [Tryd.ntmps15, go_sem]
        all_goals have H := And.intro ks (And.intro ov wn)
        repeat' first | refine awp_seq ?_ | refine awp_block ?_ | refine awp_skip ?_ | (apply regB; (case hd => exact hdA); intro K hK) | (apply ev_guardU; (case hj | hu | hσ => (simp only [go_sem, H]; try rfl))) | ((first | refine awp_cond _ (by rfl) ?_ ?_ | ((first | apply ev_guardT | apply ev_guardF); (case hj | hb => (simp only [go_sem, H]; try rfl)))) <;> (first | refine ttA ?_ | refine ffA ?_ | (intro hb; first | (cases hb; done) | simp only [hb] | skip))) | ((first | apply awp_exit | apply awp_ret); refine tqA ?_) | (refine ev_nil (hK _ ?_); clear hK K) | (apply ev_call0; (case hys => (simp only [go_sem, H]; try rfl)); (case hs => first | exact a1 .. | exact a2 .. | exact a3 ..); (case hok | hσ => (simp only [go_sem, H]; try rfl))) | (apply ev_step0; (case hr | hσ => (simp only [go_sem, H]; try rfl)); (case hc => exact hcA)) | (apply ev_step; (case hr | hσ => (intros; simp only [go_sem, H]; try rfl)); (case hc => exact hcA); intro g u; (try clear u); (try clear g)) | fail
        all_goals try clear H
        all_goals (refine resR_oneA ?_; simp only [go_sem])
        exact LeA.refl _
      | false =>
      cases c1 : (decide (cmpV bl al < 0)) with
      | true =>
        cases c2 : (decide (cmpV bi ai > 0)) with
        | true =>
          rw [va] at a1
          rw [vb] at a2
          rw [sm, if_pos rfl] at hsd
          rw [hsd] at a3
          simp only [va, vb, ks, sm, ov, c1, c2, if_true, if_false, Bool.false_eq_true, reduceCtorEq, Bool.and_true, Bool.and_false, Bool.true_and, Bool.false_and, Bool.not_true, Bool.not_false, Bool.true_or, Bool.false_or, Bool.or_true, Bool.or_false, Bool.and_self]
          refine spec_of_awp (fn := Tryd.f15) Tryd.func15 (by kernel_rfl) rfl ?_
          intro w0 C0
          simp only [Tryd.ntmps15, go_sem]
          all_goals have H := And.intro ks (And.intro ov (And.intro c1 (And.intro c2 wn)))
          repeat' first | refine awp_seq ?_ | refine awp_block ?_ | refine awp_skip ?_ | (apply regB; (case hd => exact hdA); intro K hK) | (apply ev_guardU; (case hj | hu | hσ => (simp only [go_sem, H]; try rfl))) | ((first | refine awp_cond _ (by rfl) ?_ ?_ | ((first | apply ev_guardT | apply ev_guardF); (case hj | hb => (simp only [go_sem, H]; try rfl)))) <;> (first | refine ttA ?_ | refine ffA ?_ | (intro hb; first | (cases hb; done) | simp only [hb] | skip))) | ((first | apply awp_exit | apply awp_ret); refine tqA ?_) | (refine ev_nil (hK _ ?_); clear hK K) | (apply ev_call0; (case hys => (simp only [go_sem, H]; try rfl)); (case hs => first | exact a1 .. | exact a2 .. | exact a3 .. | exact a4 .. | exact a5 ..); (case hok | hσ => (simp only [go_sem, H]; try rfl))) | (apply ev_step0; (case hr | hσ => (simp only [go_sem, H]; try rfl)); (case hc => exact hcA)) | (apply ev_step; (case hr | hσ => (intros; simp only [go_sem, H]; try rfl)); (case hc => exact hcA); intro g u; (try clear u); (try clear g)) | fail
          all_goals try clear H
          all_goals (refine resR_oneA ?_; simp only [go_sem])
          exact LeA.refl _
        | false =>
          rw [va] at a1
          rw [vb] at a2
          rw [sm, if_pos rfl] at hsd
          rw [hsd] at a3
          simp only [va, vb, ks, sm, ov, c1, c2, if_true, if_false, Bool.false_eq_true, reduceCtorEq, Bool.and_true, Bool.and_false, Bool.true_and, Bool.false_and, Bool.not_true, Bool.not_false, Bool.true_or, Bool.false_or, Bool.or_true, Bool.or_false, Bool.and_self]
          refine spec_of_awp (fn := Tryd.f15) Tryd.func15 (by kernel_rfl) rfl ?_
          intro w0 C0
          simp only [Tryd.ntmps15, go_sem]
          all_goals have H := And.intro ks (And.intro ov (And.intro c1 (And.intro c2 wn)))
          repeat' first | refine awp_seq ?_ | refine awp_block ?_ | refine awp_skip ?_ | (apply regB; (case hd => exact hdA); intro K hK) | (apply ev_guardU; (case hj | hu | hσ => (simp only [go_sem, H]; try rfl))) | ((first | refine awp_cond _ (by rfl) ?_ ?_ | ((first | apply ev_guardT | apply ev_guardF); (case hj | hb => (simp only [go_sem, H]; try rfl)))) <;> (first | refine ttA ?_ | refine ffA ?_ | (intro hb; first | (cases hb; done) | simp only [hb] | skip))) | ((first | apply awp_exit | apply awp_ret); refine tqA ?_) | (refine ev_nil (hK _ ?_); clear hK K) | (apply ev_call0; (case hys => (simp only [go_sem, H]; try rfl)); (case hs => first | exact a1 .. | exact a2 .. | exact a3 .. | exact a4 .. | exact a5 ..); (case hok | hσ => (simp only [go_sem, H]; try rfl))) | (apply ev_step0; (case hr | hσ => (simp only [go_sem, H]; try rfl)); (case hc => exact hcA)) | (apply ev_step; (case hr | hσ => (intros; simp only [go_sem, H]; try rfl)); (case hc => exact hcA); intro g u; (try clear u); (try clear g)) | fail
          all_goals try clear H
          all_goals (refine resR_oneA ?_; simp only [go_sem])
          exact LeA.refl _
      | false =>
        cases c2 : (decide (cmpV bi ai > 0)) with
        | true =>
          rw [va] at a1
          rw [vb] at a2
          rw [sm, if_pos rfl] at hsd
          rw [hsd] at a3
          simp only [va, vb, ks, sm, ov, c1, c2, if_true, if_false, Bool.false_eq_true, reduceCtorEq, Bool.and_true, Bool.and_false, Bool.true_and, Bool.false_and, Bool.not_true, Bool.not_false, Bool.true_or, Bool.false_or, Bool.or_true, Bool.or_false, Bool.and_self]
          refine spec_of_awp (fn := Tryd.f15) Tryd.func15 (by kernel_rfl) rfl ?_
          intro w0 C0
          simp only [Tryd.ntmps15, go_sem]
          all_goals have H := And.intro ks (And.intro ov (And.intro c1 (And.intro c2 wn)))
          repeat' first | refine awp_seq ?_ | refine awp_block ?_ | refine awp_skip ?_ | (apply regB; (case hd => exact hdA); intro K hK) | (apply ev_guardU; (case hj | hu | hσ => (simp only [go_sem, H]; try rfl))) | ((first | refine awp_cond _ (by rfl) ?_ ?_ | ((first | apply ev_guardT | apply ev_guardF); (case hj | hb => (simp only [go_sem, H]; try rfl)))) <;> (first | refine ttA ?_ | refine ffA ?_ | (intro hb; first | (cases hb; done) | simp only [hb] | skip))) | ((first | apply awp_exit | apply awp_ret); refine tqA ?_) | (refine ev_nil (hK _ ?_); clear hK K) | (apply ev_call0; (case hys => (simp only [go_sem, H]; try rfl)); (case hs => first | exact a1 .. | exact a2 .. | exact a3 .. | exact a4 .. | exact a5 ..); (case hok | hσ => (simp only [go_sem, H]; try rfl))) | (apply ev_step0; (case hr | hσ => (simp only [go_sem, H]; try rfl)); (case hc => exact hcA)) | (apply ev_step; (case hr | hσ => (intros; simp only [go_sem, H]; try rfl)); (case hc => exact hcA); intro g u; (try clear u); (try clear g)) | fail
          all_goals try clear H
          all_goals (refine resR_oneA ?_; simp only [go_sem])
          exact LeA.refl _
        | false =>
          rw [va] at a1
          rw [vb] at a2
          rw [sm, if_pos rfl] at hsd
          rw [hsd] at a3
          simp only [va, vb, ks, sm, ov, c1, c2, if_true, if_false, Bool.false_eq_true, reduceCtorEq, Bool.and_true, Bool.and_false, Bool.true_and, Bool.false_and, Bool.not_true, Bool.not_false, Bool.true_or, Bool.false_or, Bool.or_true, Bool.or_false, Bool.and_self]
          refine spec_of_awp (fn := Tryd.f15) Tryd.func15 (by kernel_rfl) rfl ?_
          intro w0 C0
          simp only [Tryd.ntmps15, go_sem]
          all_goals have H := And.intro ks (And.intro ov (And.intro c1 (And.intro c2 wn)))
          repeat' first | refine awp_seq ?_ | refine awp_block ?_ | refine awp_skip ?_ | (apply regB; (case hd => exact hdA); intro K hK) | (apply ev_guardU; (case hj | hu | hσ => (simp only [go_sem, H]; try rfl))) | ((first | refine awp_cond _ (by rfl) ?_ ?_ | ((first | apply ev_guardT | apply ev_guardF); (case hj | hb => (simp only [go_sem, H]; try rfl)))) <;> (first | refine ttA ?_ | refine ffA ?_ | (intro hb; first | (cases hb; done) | simp only [hb] | skip))) | ((first | apply awp_exit | apply awp_ret); refine tqA ?_) | (refine ev_nil (hK _ ?_); clear hK K) | (apply ev_call0; (case hys => (simp only [go_sem, H]; try rfl)); (case hs => first | exact a1 .. | exact a2 .. | exact a3 .. | exact a4 .. | exact a5 ..); (case hok | hσ => (simp only [go_sem, H]; try rfl))) | (apply ev_step0; (case hr | hσ => (simp only [go_sem, H]; try rfl)); (case hc => exact hcA)) | (apply ev_step; (case hr | hσ => (intros; simp only [go_sem, H]; try rfl)); (case hc => exact hcA); intro g u; (try clear u); (try clear g)) | fail
          all_goals try clear H
          all_goals (refine resR_oneA ?_; simp only [go_sem])
          exact LeA.refl _
    | false =>
      cases va : (validB ⟨an, true, al, ai, am⟩) with
      | false =>
        rw [va] at a1
        simp only [va, if_true, if_false, Bool.false_eq_true, reduceCtorEq, Bool.and_true, Bool.and_false, Bool.true_and, Bool.false_and, Bool.not_true, Bool.not_false, Bool.true_or, Bool.false_or, Bool.or_true, Bool.or_false, Bool.and_self]
        refine spec_of_awp (fn := Tryd.f15) Tryd.func15 (by kernel_rfl) rfl ?_
        intro w0 C0
        simp only [Tryd.ntmps15, go_sem]
        repeat' first | refine awp_seq ?_ | refine awp_block ?_ | refine awp_skip ?_ | (apply regB; (case hd => exact hdA); intro K hK) | (apply ev_guardU; (case hj | hu | hσ => (simp only [go_sem]; try rfl))) | ((first | refine awp_cond _ (by rfl) ?_ ?_ | ((first | apply ev_guardT | apply ev_guardF); (case hj | hb => (simp only [go_sem]; try rfl)))) <;> (first | refine ttA ?_ | refine ffA ?_ | (intro hb; first | (cases hb; done) | simp only [hb] | skip))) | ((first | apply awp_exit | apply awp_ret); refine tqA ?_) | (refine ev_nil (hK _ ?_); clear hK K) | (apply ev_call0; (case hys => (simp only [go_sem]; try rfl)); (case hs => first | exact a1 ..); (case hok | hσ => (simp only [go_sem]; try rfl))) | (apply ev_step0; (case hr | hσ => (simp only [go_sem]; try rfl)); (case hc => exact hcA)) | (apply ev_step; (case hr | hσ => (intros; simp only [go_sem]; try rfl)); (case hc => exact hcA); intro g u; (try clear u); (try clear g)) | fail
        all_goals (refine resR_oneA ?_; simp only [go_sem])
        exact LeA.refl _
      | true =>
      cases vb : (validB ⟨bn, false, bl, bi, bm⟩) with
      | false =>
        rw [va] at a1
        rw [vb] at a2
        simp only [va, vb, if_true, if_false, Bool.false_eq_true, reduceCtorEq, Bool.and_true, Bool.and_false, Bool.true_and, Bool.false_and, Bool.not_true, Bool.not_false, Bool.true_or, Bool.false_or, Bool.or_true, Bool.or_false, Bool.and_self]
        refine spec_of_awp (fn := Tryd.f15) Tryd.func15 (by kernel_rfl) rfl ?_
        intro w0 C0
        simp only [Tryd.ntmps15, go_sem]
        repeat' first | refine awp_seq ?_ | refine awp_block ?_ | refine awp_skip ?_ | (apply regB; (case hd => exact hdA); intro K hK) | (apply ev_guardU; (case hj | hu | hσ => (simp only [go_sem]; try rfl))) | ((first | refine awp_cond _ (by rfl) ?_ ?_ | ((first | apply ev_guardT | apply ev_guardF); (case hj | hb => (simp only [go_sem]; try rfl)))) <;> (first | refine ttA ?_ | refine ffA ?_ | (intro hb; first | (cases hb; done) | simp only [hb] | skip))) | ((first | apply awp_exit | apply awp_ret); refine tqA ?_) | (refine ev_nil (hK _ ?_); clear hK K) | (apply ev_call0; (case hys => (simp only [go_sem]; try rfl)); (case hs => first | exact a1 .. | exact a2 ..); (case hok | hσ => (simp only [go_sem]; try rfl))) | (apply ev_step0; (case hr | hσ => (simp only [go_sem]; try rfl)); (case hc => exact hcA)) | (apply ev_step; (case hr | hσ => (intros; simp only [go_sem]; try rfl)); (case hc => exact hcA); intro g u; (try clear u); (try clear g)) | fail
        all_goals (refine resR_oneA ?_; simp only [go_sem])
        exact LeA.refl _
      | true =>
      have b1 := validB_bd va
      have b2 := validB_bd vb
      simp only at b1 b2
      have wn : IntKind.i64.wrap (an + bn) = an + bn := wrap_id (by omega)
      have hsd : sumD [am, bm] = if small (am + bm) = true then (am + bm, 0) else (0, 2) := by
        have e1 : small am = true := small_iff.2 b1.2
        have e2 : small bm = true := small_iff.2 b2.2
        simp only [sumD, List.all_cons, List.all_nil, e1, e2, Bool.and_self, Bool.true_and, sumL, List.foldr_cons, List.foldr_nil, Int.add_zero]
      cases sm : (small (am + bm)) with
      | false =>
        rw [va] at a1
        rw [vb] at a2
        rw [sm, if_neg Bool.false_ne_true] at hsd
        rw [hsd] at a3
        simp only [va, vb, sm, if_true, if_false, Bool.false_eq_true, reduceCtorEq, Bool.and_true, Bool.and_false, Bool.true_and, Bool.false_and, Bool.not_true, Bool.not_false, Bool.true_or, Bool.false_or, Bool.or_true, Bool.or_false, Bool.and_self]
        refine spec_of_awp (fn := Tryd.f15) Tryd.func15 (by kernel_rfl) rfl ?_
        intro w0 C0
        simp only [Tryd.ntmps15, go_sem]
        repeat' first | refine awp_seq ?_ | refine awp_block ?_ | refine awp_skip ?_ | (apply regB; (case hd => exact hdA); intro K hK) | (apply ev_guardU; (case hj | hu | hσ => (simp only [go_sem]; try rfl))) | ((first | refine awp_cond _ (by rfl) ?_ ?_ | ((first | apply ev_guardT | apply ev_guardF); (case hj | hb => (simp only [go_sem]; try rfl)))) <;> (first | refine ttA ?_ | refine ffA ?_ | (intro hb; first | (cases hb; done) | simp only [hb] | skip))) | ((first | apply awp_exit | apply awp_ret); refine tqA ?_) | (refine ev_nil (hK _ ?_); clear hK K) | (apply ev_call0; (case hys => (simp only [go_sem]; try rfl)); (case hs => first | exact a1 .. | exact a2 .. | exact a3 ..); (case hok | hσ => (simp only [go_sem]; try rfl))) | (apply ev_step0; (case hr | hσ => (simp only [go_sem]; try rfl)); (case hc => exact hcA)) | (apply ev_step; (case hr | hσ => (intros; simp only [go_sem]; try rfl)); (case hc => exact hcA); intro g u; (try clear u); (try clear g)) | fail
        all_goals (refine resR_oneA ?_; simp only [go_sem])
        exact LeA.refl _
      | true =>
      cases ov : (decide (an + bn > 4000000000000000000)) with
      | true =>
        rw [va] at a1
        rw [vb] at a2
        rw [sm, if_pos rfl] at hsd
        rw [hsd] at a3
        simp only [va, vb, sm, ov, if_true, if_false, Bool.false_eq_true, reduceCtorEq, Bool.and_true, Bool.and_false, Bool.true_and, Bool.false_and, Bool.not_true, Bool.not_false, Bool.true_or, Bool.false_or, Bool.or_true, Bool.or_false, Bool.and_self]
        refine spec_of_awp (fn := Tryd.f15) Tryd.func15 (by kernel_rfl) rfl ?_
        intro w0 C0
        simp only [Tryd.ntmps15, go_sem]
        all_goals have H := And.intro ov wn
        repeat' first | refine awp_seq ?_ | refine awp_block ?_ | refine awp_skip ?_ | (apply regB; (case hd => exact hdA); intro K hK) | (apply ev_guardU; (case hj | hu | hσ => (simp only [go_sem, H]; try rfl))) | ((first | refine awp_cond _ (by rfl) ?_ ?_ | ((first | apply ev_guardT | apply ev_guardF); (case hj | hb => (simp only [go_sem, H]; try rfl)))) <;> (first | refine ttA ?_ | refine ffA ?_ | (intro hb; first | (cases hb; done) | simp only [hb] | skip))) | ((first | apply awp_exit | apply awp_ret); refine tqA ?_) | (refine ev_nil (hK _ ?_); clear hK K) | (apply ev_call0; (case hys => (simp only [go_sem, H]; try rfl)); (case hs => first | exact a1 .. | exact a2 .. | exact a3 ..); (case hok | hσ => (simp only [go_sem, H]; try rfl))) | (apply ev_step0; (case hr | hσ => (simp only [go_sem, H]; try rfl)); (case hc => exact hcA)) | (apply ev_step; (case hr | hσ => (intros; simp only [go_sem, H]; try rfl)); (case hc => exact hcA); intro g u; (try clear u); (try clear g)) | fail
        all_goals try clear H
        all_goals (refine resR_oneA ?_; simp only [go_sem])
        exact LeA.refl _
      | false =>
      rw [va] at a1
      rw [vb] at a2
      rw [sm, if_pos rfl] at hsd
      rw [hsd] at a3
      simp only [va, vb, sm, ov, if_true, if_false, Bool.false_eq_true, reduceCtorEq, Bool.and_true, Bool.and_false, Bool.true_and, Bool.false_and, Bool.not_true, Bool.not_false, Bool.true_or, Bool.false_or, Bool.or_true, Bool.or_false, Bool.and_self]
      refine spec_of_awp (fn := Tryd.f15) Tryd.func15 (by kernel_rfl) rfl ?_
      intro w0 C0
      simp only [Tryd.ntmps15, go_sem]
      all_goals have H := And.intro ov wn
      repeat' first | refine awp_seq ?_ | refine awp_block ?_ | refine awp_skip ?_ | (apply regB; (case hd => exact hdA); intro K hK) | (apply ev_guardU; (case hj | hu | hσ => (simp only [go_sem, H]; try rfl))) | ((first | refine awp_cond _ (by rfl) ?_ ?_ | ((first | apply ev_guardT | apply ev_guardF); (case hj | hb => (simp only [go_sem, H]; try rfl)))) <;> (first | refine ttA ?_ | refine ffA ?_ | (intro hb; first | (cases hb; done) | simp only [hb] | skip))) | ((first | apply awp_exit | apply awp_ret); refine tqA ?_) | (refine ev_nil (hK _ ?_); clear hK K) | (apply ev_call0; (case hys => (simp only [go_sem, H]; try rfl)); (case hs => first | exact a1 .. | exact a2 .. | exact a3 ..); (case hok | hσ => (simp only [go_sem, H]; try rfl))) | (apply ev_step0; (case hr | hσ => (simp only [go_sem, H]; try rfl)); (case hc => exact hcA)) | (apply ev_step; (case hr | hσ => (intros; simp only [go_sem, H]; try rfl)); (case hc => exact hcA); intro g u; (try clear u); (try clear g)) | fail
      all_goals try clear H
      all_goals (refine resR_oneA ?_; simp only [go_sem])
      exact LeA.refl _
  | false =>
    cases bh with
    | true =>
      cases va : (validB ⟨an, false, al, ai, am⟩) with
      | false =>
        rw [va] at a1
        simp only [va, if_true, if_false, Bool.false_eq_true, reduceCtorEq, Bool.and_true, Bool.and_false, Bool.true_and, Bool.false_and, Bool.not_true, Bool.not_false, Bool.true_or, Bool.false_or, Bool.or_true, Bool.or_false, Bool.and_self]
        refine spec_of_awp (fn := Tryd.f15) Tryd.func15 (by kernel_rfl) rfl ?_
        intro w0 C0
        simp only [Tryd.ntmps15, go_sem]
        repeat' first | refine awp_seq ?_ | refine awp_block ?_ | refine awp_skip ?_ | (apply regB; (case hd => exact hdA); intro K hK) | (apply ev_guardU; (case hj | hu | hσ => (simp only [go_sem]; try rfl))) | ((first | refine awp_cond _ (by rfl) ?_ ?_ | ((first | apply ev_guardT | apply ev_guardF); (case hj | hb => (simp only [go_sem]; try rfl)))) <;> (first | refine ttA ?_ | refine ffA ?_ | (intro hb; first | (cases hb; done) | simp only [hb] | skip))) | ((first | apply awp_exit | apply awp_ret); refine tqA ?_) | (refine ev_nil (hK _ ?_); clear hK K) | (apply ev_call0; (case hys => (simp only [go_sem]; try rfl)); (case hs => first | exact a1 ..); (case hok | hσ => (simp only [go_sem]; try rfl))) | (apply ev_step0; (case hr | hσ => (simp only [go_sem]; try rfl)); (case hc => exact hcA)) | (apply ev_step; (case hr | hσ => (intros; simp only [go_sem]; try rfl)); (case hc => exact hcA); intro g u; (try clear u); (try clear g)) | fail
        all_goals (refine resR_oneA ?_; simp only [go_sem])
        exact LeA.refl _
      | true =>
      cases vb : (validB ⟨bn, true, bl, bi, bm⟩) with
      | false =>
        rw [va] at a1
        rw [vb] at a2
        simp only [va, vb, if_true, if_false, Bool.false_eq_true, reduceCtorEq, Bool.and_true, Bool.and_false, Bool.true_and, Bool.false_and, Bool.not_true, Bool.not_false, Bool.true_or, Bool.false_or, Bool.or_true, Bool.or_false, Bool.and_self]
        refine spec_of_awp (fn := Tryd.f15) Tryd.func15 (by kernel_rfl) rfl ?_
        intro w0 C0
        simp only [Tryd.ntmps15, go_sem]
        repeat' first | refine awp_seq ?_ | refine awp_block ?_ | refine awp_skip ?_ | (apply regB; (case hd => exact hdA); intro K hK) | (apply ev_guardU; (case hj | hu | hσ => (simp only [go_sem]; try rfl))) | ((first | refine awp_cond _ (by rfl) ?_ ?_ | ((first | apply ev_guardT | apply ev_guardF); (case hj | hb => (simp only [go_sem]; try rfl)))) <;> (first | refine ttA ?_ | refine ffA ?_ | (intro hb; first | (cases hb; done) | simp only [hb] | skip))) | ((first | apply awp_exit | apply awp_ret); refine tqA ?_) | (refine ev_nil (hK _ ?_); clear hK K) | (apply ev_call0; (case hys => (simp only [go_sem]; try rfl)); (case hs => first | exact a1 .. | exact a2 ..); (case hok | hσ => (simp only [go_sem]; try rfl))) | (apply ev_step0; (case hr | hσ => (simp only [go_sem]; try rfl)); (case hc => exact hcA)) | (apply ev_step; (case hr | hσ => (intros; simp only [go_sem]; try rfl)); (case hc => exact hcA); intro g u; (try clear u); (try clear g)) | fail
        all_goals (refine resR_oneA ?_; simp only [go_sem])
        exact LeA.refl _
      | true =>
      have b1 := validB_bd va
      have b2 := validB_bd vb
      simp only at b1 b2
      have wn : IntKind.i64.wrap (an + bn) = an + bn := wrap_id (by omega)
      have hsd : sumD [am, bm] = if small (am + bm) = true then (am + bm, 0) else (0, 2) := by
        have e1 : small am = true := small_iff.2 b1.2
        have e2 : small bm = true := small_iff.2 b2.2
        simp only [sumD, List.all_cons, List.all_nil, e1, e2, Bool.and_self, Bool.true_and, sumL, List.foldr_cons, List.foldr_nil, Int.add_zero]
      cases sm : (small (am + bm)) with
      | false =>
        rw [va] at a1
        rw [vb] at a2
        rw [sm, if_neg Bool.false_ne_true] at hsd
        rw [hsd] at a3
        simp only [va, vb, sm, if_true, if_false, Bool.false_eq_true, reduceCtorEq, Bool.and_true, Bool.and_false, Bool.true_and, Bool.false_and, Bool.not_true, Bool.not_false, Bool.true_or, Bool.false_or, Bool.or_true, Bool.or_false, Bool.and_self]
        refine spec_of_awp (fn := Tryd.f15) Tryd.func15 (by kernel_rfl) rfl ?_
        intro w0 C0
        simp only [Tryd.ntmps15, go_sem]
        repeat' first | refine awp_seq ?_ | refine awp_block ?_ | refine awp_skip ?_ | (apply regB; (case hd => exact hdA); intro K hK) | (apply ev_guardU; (case hj | hu | hσ => (simp only [go_sem]; try rfl))) | ((first | refine awp_cond _ (by rfl) ?_ ?_ | ((first | apply ev_guardT | apply ev_guardF); (case hj | hb => (simp only [go_sem]; try rfl)))) <;> (first | refine ttA ?_ | refine ffA ?_ | (intro hb; first | (cases hb; done) | simp only [hb] | skip))) | ((first | apply awp_exit | apply awp_ret); refine tqA ?_) | (refine ev_nil (hK _ ?_); clear hK K) | (apply ev_call0; (case hys => (simp only [go_sem]; try rfl)); (case hs => first | exact a1 .. | exact a2 .. | exact a3 ..); (case hok | hσ => (simp only [go_sem]; try rfl))) | (apply ev_step0; (case hr | hσ => (simp only [go_sem]; try rfl)); (case hc => exact hcA)) | (apply ev_step; (case hr | hσ => (intros; simp only [go_sem]; try rfl)); (case hc => exact hcA); intro g u; (try clear u); (try clear g)) | fail
        all_goals (refine resR_oneA ?_; simp only [go_sem])
        exact LeA.refl _
      | true =>
      cases ov : (decide (an + bn > 4000000000000000000)) with
      | true =>
        rw [va] at a1
        rw [vb] at a2
        rw [sm, if_pos rfl] at hsd
        rw [hsd] at a3
        simp only [va, vb, sm, ov, if_true, if_false, Bool.false_eq_true, reduceCtorEq, Bool.and_true, Bool.and_false, Bool.true_and, Bool.false_and, Bool.not_true, Bool.not_false, Bool.true_or, Bool.false_or, Bool.or_true, Bool.or_false, Bool.and_self]
        refine spec_of_awp (fn := Tryd.f15) Tryd.func15 (by kernel_rfl) rfl ?_
        intro w0 C0
        simp only [Tryd.ntmps15, go_sem]
        all_goals have H := And.intro ov wn
        repeat' first | refine awp_seq ?_ | refine awp_block ?_ | refine awp_skip ?_ | (apply regB; (case hd => exact hdA); intro K hK) | (apply ev_guardU; (case hj | hu | hσ => (simp only [go_sem, H]; try rfl))) | ((first | refine awp_cond _ (by rfl) ?_ ?_ | ((first | apply ev_guardT | apply ev_guardF); (case hj | hb => (simp only [go_sem, H]; try rfl)))) <;> (first | refine ttA ?_ | refine ffA ?_ | (intro hb; first | (cases hb; done) | simp only [hb] | skip))) | ((first | apply awp_exit | apply awp_ret); refine tqA ?_) | (refine ev_nil (hK _ ?_); clear hK K) | (apply ev_call0; (case hys => (simp only [go_sem, H]; try rfl)); (case hs => first | exact a1 .. | exact a2 .. | exact a3 ..); (case hok | hσ => (simp only [go_sem, H]; try rfl))) | (apply ev_step0; (case hr | hσ => (simp only [go_sem, H]; try rfl)); (case hc => exact hcA)) | (apply ev_step; (case hr | hσ => (intros; simp only [go_sem, H]; try rfl)); (case hc => exact hcA); intro g u; (try clear u); (try clear g)) | fail
        all_goals try clear H
        all_goals (refine resR_oneA ?_; simp only [go_sem])
        exact LeA.refl _
      | false =>
      rw [va] at a1
      rw [vb] at a2
      rw [sm, if_pos rfl] at hsd
      rw [hsd] at a3
      simp only [va, vb, sm, ov, if_true, if_false, Bool.false_eq_true, reduceCtorEq, Bool.and_true, Bool.and_false, Bool.true_and, Bool.false_and, Bool.not_true, Bool.not_false, Bool.true_or, Bool.false_or, Bool.or_true, Bool.or_false, Bool.and_self]
      refine spec_of_awp (fn := Tryd.f15) Tryd.func15 (by kernel_rfl) rfl ?_
      intro w0 C0
      simp only [Tryd.ntmps15, go_sem]
      all_goals have H := And.intro ov wn
      repeat' first | refine awp_seq ?_ | refine awp_block ?_ | refine awp_skip ?_ | (apply regB; (case hd => exact hdA); intro K hK) | (apply ev_guardU; (case hj | hu | hσ => (simp only [go_sem, H]; try rfl))) | ((first | refine awp_cond _ (by rfl) ?_ ?_ | ((first | apply ev_guardT | apply ev_guardF); (case hj | hb => (simp only [go_sem, H]; try rfl)))) <;> (first | refine ttA ?_ | refine ffA ?_ | (intro hb; first | (cases hb; done) | simp only [hb] | skip))) | ((first | apply awp_exit | apply awp_ret); refine tqA ?_) | (refine ev_nil (hK _ ?_); clear hK K) | (apply ev_call0; (case hys => (simp only [go_sem, H]; try rfl)); (case hs => first | exact a1 .. | exact a2 .. | exact a3 ..); (case hok | hσ => (simp only [go_sem, H]; try rfl))) | (apply ev_step0; (case hr | hσ => (simp only [go_sem, H]; try rfl)); (case hc => exact hcA)) | (apply ev_step; (case hr | hσ => (intros; simp only [go_sem, H]; try rfl)); (case hc => exact hcA); intro g u; (try clear u); (try clear g)) | fail
      all_goals try clear H
      all_goals (refine resR_oneA ?_; simp only [go_sem])
      exact LeA.refl _
    | false =>
      cases va : (validB ⟨an, false, al, ai, am⟩) with
      | false =>
        rw [va] at a1
        simp only [va, if_true, if_false, Bool.false_eq_true, reduceCtorEq, Bool.and_true, Bool.and_false, Bool.true_and, Bool.false_and, Bool.not_true, Bool.not_false, Bool.true_or, Bool.false_or, Bool.or_true, Bool.or_false, Bool.and_self]
        refine spec_of_awp (fn := Tryd.f15) Tryd.func15 (by kernel_rfl) rfl ?_
        intro w0 C0
        simp only [Tryd.ntmps15, go_sem]
        repeat' first | refine awp_seq ?_ | refine awp_block ?_ | refine awp_skip ?_ | (apply regB; (case hd => exact hdA); intro K hK) | (apply ev_guardU; (case hj | hu | hσ => (simp only [go_sem]; try rfl))) | ((first | refine awp_cond _ (by rfl) ?_ ?_ | ((first | apply ev_guardT | apply ev_guardF); (case hj | hb => (simp only [go_sem]; try rfl)))) <;> (first | refine ttA ?_ | refine ffA ?_ | (intro hb; first | (cases hb; done) | simp only [hb] | skip))) | ((first | apply awp_exit | apply awp_ret); refine tqA ?_) | (refine ev_nil (hK _ ?_); clear hK K) | (apply ev_call0; (case hys => (simp only [go_sem]; try rfl)); (case hs => first | exact a1 ..); (case hok | hσ => (simp only [go_sem]; try rfl))) | (apply ev_step0; (case hr | hσ => (simp only [go_sem]; try rfl)); (case hc => exact hcA)) | (apply ev_step; (case hr | hσ => (intros; simp only [go_sem]; try rfl)); (case hc => exact hcA); intro g u; (try clear u); (try clear g)) | fail
        all_goals (refine resR_oneA ?_; simp only [go_sem])
        exact LeA.refl _
      | true =>
      cases vb : (validB ⟨bn, false, bl, bi, bm⟩) with
      | false =>
        rw [va] at a1
        rw [vb] at a2
        simp only [va, vb, if_true, if_false, Bool.false_eq_true, reduceCtorEq, Bool.and_true, Bool.and_false, Bool.true_and, Bool.false_and, Bool.not_true, Bool.not_false, Bool.true_or, Bool.false_or, Bool.or_true, Bool.or_false, Bool.and_self]
        refine spec_of_awp (fn := Tryd.f15) Tryd.func15 (by kernel_rfl) rfl ?_
        intro w0 C0
        simp only [Tryd.ntmps15, go_sem]
        repeat' first | refine awp_seq ?_ | refine awp_block ?_ | refine awp_skip ?_ | (apply regB; (case hd => exact hdA); intro K hK) | (apply ev_guardU; (case hj | hu | hσ => (simp only [go_sem]; try rfl))) | ((first | refine awp_cond _ (by rfl) ?_ ?_ | ((first | apply ev_guardT | apply ev_guardF); (case hj | hb => (simp only [go_sem]; try rfl)))) <;> (first | refine ttA ?_ | refine ffA ?_ | (intro hb; first | (cases hb; done) | simp only [hb] | skip))) | ((first | apply awp_exit | apply awp_ret); refine tqA ?_) | (refine ev_nil (hK _ ?_); clear hK K) | (apply ev_call0; (case hys => (simp only [go_sem]; try rfl)); (case hs => first | exact a1 .. | exact a2 ..); (case hok | hσ => (simp only [go_sem]; try rfl))) | (apply ev_step0; (case hr | hσ => (simp only [go_sem]; try rfl)); (case hc => exact hcA)) | (apply ev_step; (case hr | hσ => (intros; simp only [go_sem]; try rfl)); (case hc => exact hcA); intro g u; (try clear u); (try clear g)) | fail
        all_goals (refine resR_oneA ?_; simp only [go_sem])
        exact LeA.refl _
      | true =>
      have b1 := validB_bd va
      have b2 := validB_bd vb
      simp only at b1 b2
      have wn : IntKind.i64.wrap (an + bn) = an + bn := wrap_id (by omega)
      have hsd : sumD [am, bm] = if small (am + bm) = true then (am + bm, 0) else (0, 2) := by
        have e1 : small am = true := small_iff.2 b1.2
        have e2 : small bm = true := small_iff.2 b2.2
        simp only [sumD, List.all_cons, List.all_nil, e1, e2, Bool.and_self, Bool.true_and, sumL, List.foldr_cons, List.foldr_nil, Int.add_zero]
      cases sm : (small (am + bm)) with
      | false =>
        rw [va] at a1
        rw [vb] at a2
        rw [sm, if_neg Bool.false_ne_true] at hsd
        rw [hsd] at a3
        simp only [va, vb, sm, if_true, if_false, Bool.false_eq_true, reduceCtorEq, Bool.and_true, Bool.and_false, Bool.true_and, Bool.false_and, Bool.not_true, Bool.not_false, Bool.true_or, Bool.false_or, Bool.or_true, Bool.or_false, Bool.and_self]
        refine spec_of_awp (fn := Tryd.f15) Tryd.func15 (by kernel_rfl) rfl ?_
        intro w0 C0
        simp only [Tryd.ntmps15, go_sem]
        repeat' first | refine awp_seq ?_ | refine awp_block ?_ | refine awp_skip ?_ | (apply regB; (case hd => exact hdA); intro K hK) | (apply ev_guardU; (case hj | hu | hσ => (simp only [go_sem]; try rfl))) | ((first | refine awp_cond _ (by rfl) ?_ ?_ | ((first | apply ev_guardT | apply ev_guardF); (case hj | hb => (simp only [go_sem]; try rfl)))) <;> (first | refine ttA ?_ | refine ffA ?_ | (intro hb; first | (cases hb; done) | simp only [hb] | skip))) | ((first | apply awp_exit | apply awp_ret); refine tqA ?_) | (refine ev_nil (hK _ ?_); clear hK K) | (apply ev_call0; (case hys => (simp only [go_sem]; try rfl)); (case hs => first | exact a1 .. | exact a2 .. | exact a3 ..); (case hok | hσ => (simp only [go_sem]; try rfl))) | (apply ev_step0; (case hr | hσ => (simp only [go_sem]; try rfl)); (case hc => exact hcA)) | (apply ev_step; (case hr | hσ => (intros; simp only [go_sem]; try rfl)); (case hc => exact hcA); intro g u; (try clear u); (try clear g)) | fail
        all_goals (refine resR_oneA ?_; simp only [go_sem])
        exact LeA.refl _
      | true =>
      cases ov : (decide (an + bn > 4000000000000000000)) with
      | true =>
        rw [va] at a1
        rw [vb] at a2
        rw [sm, if_pos rfl] at hsd
        rw [hsd] at a3
        simp only [va, vb, sm, ov, if_true, if_false, Bool.false_eq_true, reduceCtorEq, Bool.and_true, Bool.and_false, Bool.true_and, Bool.false_and, Bool.not_true, Bool.not_false, Bool.true_or, Bool.false_or, Bool.or_true, Bool.or_false, Bool.and_self]
        refine spec_of_awp (fn := Tryd.f15) Tryd.func15 (by kernel_rfl) rfl ?_
        intro w0 C0
        simp only [Tryd.ntmps15, go_sem]
        all_goals have H := And.intro ov wn
        repeat' first | refine awp_seq ?_ | refine awp_block ?_ | refine awp_skip ?_ | (apply regB; (case hd => exact hdA); intro K hK) | (apply ev_guardU; (case hj | hu | hσ => (simp only [go_sem, H]; try rfl))) | ((first | refine awp_cond _ (by rfl) ?_ ?_ | ((first | apply ev_guardT | apply ev_guardF); (case hj | hb => (simp only [go_sem, H]; try rfl)))) <;> (first | refine ttA ?_ | refine ffA ?_ | (intro hb; first | (cases hb; done) | simp only [hb] | skip))) | ((first | apply awp_exit | apply awp_ret); refine tqA ?_) | (refine ev_nil (hK _ ?_); clear hK K) | (apply ev_call0; (case hys => (simp only [go_sem, H]; try rfl)); (case hs => first | exact a1 .. | exact a2 .. | exact a3 ..); (case hok | hσ => (simp only [go_sem, H]; try rfl))) | (apply ev_step0; (case hr | hσ => (simp only [go_sem, H]; try rfl)); (case hc => exact hcA)) | (apply ev_step; (case hr | hσ => (intros; simp only [go_sem, H]; try rfl)); (case hc => exact hcA); intro g u; (try clear u); (try clear g)) | fail
        all_goals try clear H
        all_goals (refine resR_oneA ?_; simp only [go_sem])
        exact LeA.refl _
      | false =>
      rw [va] at a1
      rw [vb] at a2
      rw [sm, if_pos rfl] at hsd
      rw [hsd] at a3
      simp only [va, vb, sm, ov, if_true, if_false, Bool.false_eq_true, reduceCtorEq, Bool.and_true, Bool.and_false, Bool.true_and, Bool.false_and, Bool.not_true, Bool.not_false, Bool.true_or, Bool.false_or, Bool.or_true, Bool.or_false, Bool.and_self]
      refine spec_of_awp (fn := Tryd.f15) Tryd.func15 (by kernel_rfl) rfl ?_
      intro w0 C0
      simp only [Tryd.ntmps15, go_sem]
      all_goals have H := And.intro ov wn
      repeat' first | refine awp_seq ?_ | refine awp_block ?_ | refine awp_skip ?_ | (apply regB; (case hd => exact hdA); intro K hK) | (apply ev_guardU; (case hj | hu | hσ => (simp only [go_sem, H]; try rfl))) | ((first | refine awp_cond _ (by rfl) ?_ ?_ | ((first | apply ev_guardT | apply ev_guardF); (case hj | hb => (simp only [go_sem, H]; try rfl)))) <;> (first | refine ttA ?_ | refine ffA ?_ | (intro hb; first | (cases hb; done) | simp only [hb] | skip))) | ((first | apply awp_exit | apply awp_ret); refine tqA ?_) | (refine ev_nil (hK _ ?_); clear hK K) | (apply ev_call0; (case hys => (simp only [go_sem, H]; try rfl)); (case hs => first | exact a1 .. | exact a2 .. | exact a3 ..); (case hok | hσ => (simp only [go_sem, H]; try rfl))) | (apply ev_step0; (case hr | hσ => (simp only [go_sem, H]; try rfl)); (case hc => exact hcA)) | (apply ev_step; (case hr | hσ => (intros; simp only [go_sem, H]; try rfl)); (case hc => exact hcA); intro g u; (try clear u); (try clear g)) | fail
      all_goals try clear H
      all_goals (refine resR_oneA ?_; simp only [go_sem])
      exact LeA.refl _
end
end Go.Proofs.YtopigomfhggkoaaDoor.A
