/- Bounds of values in the reference: the walk of OfIn. Bounds of columns; which ones suit a condition: the walks. Wider bounds of columns, parts of conditions: the plain law. Conjuncts, bounds that suit: the plain law. BoundsMatchesReference: the law. -/
import Derived.Test.YtopigomfhggkoaaDoorJV7
import Derived.Test.YtopigomfhggkoaaDoorJV8
import Derived.Test.YtopigomfhggkoaaDoorJV12
import Derived.Test.YtopigomfhggkoaaDoorJV10
import Derived.Test.YtopigomfhggkoaaDoorJV4
import Derived.Test.YtopigomfhggkoaaDoorJV9
import Derived.Test.YtopigomfhggkoaaDoorJV11
namespace Go.Proofs.YtopigomfhggkoaaDoor.A
section
set_option linter.unusedVariables false
set_option linter.unusedSimpArgs false
open Go.RowKit
attribute [local irreducible] Spec SpecF SpecN
attribute [local irreducible] AWp evOps evD
set_option maxHeartbeats 16000000 in
theorem f13_spec (l : List Vl) (hv : ∀ v ∈ l, VlOk v) (hl : l.length ≤ 16777216) : Spec Tryd.prog 13 [.d (vls l)] (.agg (got (ofM l))) := by
  have hnl := numsV_len l
  have h38 := f38_spec (numsV l) (by omega)
  refine spec_of_awp (fn := Tryd.f13) Tryd.func13 (by kernel_rfl) rfl ?_
  intro w0 C0
  simp only [Tryd.ntmps13, go_sem]
  repeat' first | refine awp_seq ?_ | refine awp_block ?_ | refine awp_skip ?_ | (apply regB; (case hd => exact hdA); intro K hK) | (apply ev_guardU; (case hj | hu | hσ => (simp only [go_sem]; try rfl))) | ((first | refine awp_cond _ (by rfl) ?_ ?_ | ((first | apply ev_guardT | apply ev_guardF); (case hj | hb => (simp only [go_sem]; try rfl)))) <;> (first | refine ttA ?_ | refine ffA ?_ | (intro hb; first | (cases hb; done) | simp only [hb] | skip))) | ((first | apply awp_exit | apply awp_ret); refine tqA ?_) | (refine ev_nil (hK _ ?_); clear hK K) | (apply ev_step0; (case hr | hσ => (simp only [go_sem]; try rfl)); (case hc => exact hcA)) | (apply ev_step; (case hr | hσ => (intros; simp only [go_sem]; try rfl)); (case hc => exact hcA); intro g u; (try clear u); (try clear g)) | fail
  rename_i g2
  revert g; intro g3
  refine awp_loopI (fun j : Nat × (Bd × Value) => j.1 ≤ l.length ∧ ofS j.2.1 (l.drop j.1) = ofS zeroBd l ∧ (0 ≤ j.2.1.nulls ∧ j.2.1.nulls ≤ j.1) ∧ j.2.1.sum = 0 ∧ VlOk j.2.1.lo ∧ VlOk j.2.1.hi) (fun j => l.length - j.1) (fun j => ⟨[.d (vls l), .any, .ptr 2 g2 0, .ptr 3 g3 0, .own 9 j.2.2, litI .i64 (j.1 : Int), .any, .any, .any, .any, .any, .any, .any, .any, .any, .any, .any, .any, .any, .any, .any, .any, .any, .any, .any, .any, .any, .any, .any, .any, .any, .any, .any, .any, .any, .any, .any, .any, .any, .any, .any, .any, .any, .any, .any, .any, .any, .any, .any, .any, .any, .any, .any, .any, .any, .any, .any, .any, .any, .any, .any, .any, .any, .any, .any, .any, .any, .any, .any, .any, .any, .any, .any, .any, .any, .any, .any, .any, .any, .any, .any, .any, .any, .any, .any, .any, .any, .any, .any, .any, .any, .any], [.no, .no, .box g2 (got (zeroBd, 0)), .box g3 (bd j.2.1), .no, .no, .no, .no, .no, .row j.2.2 3 1 ((numsV (l.take j.1)).map fun n => [.lit (.int .i64 n)]), .no, .no, .no, .no, .no, .no, .no, .no, .no, .no, .no, .no, .no, .no, .no, .no, .no, .no, .no, .no, .no, .no, .no, .no, .no, .no, .no, .no, .no, .no, .no, .no, .no, .no, .no, .no, .no, .no, .no, .no, .no, .no, .no, .no, .no, .no, .no, .no, .no, .no, .no, .no, .no, .no, .no, .no, .no, .no, .no, .no, .no, .no, .no, .no, .no, .no, .no, .no, .no, .no, .no, .no, .no, .no, .no, .no, .no, .no, .no, .no, .no, .no]⟩) (0, zeroBd, u) ⟨by simp, rfl, by simp, rfl, ok_null', ok_null'⟩ ?_ ?_
  · simp only [List.take_zero, numsV, List.filter_nil, List.map_nil]
    exact wkA
  rintro ⟨i, b, u0⟩ ⟨hi, hof, ⟨hn0, hn1⟩, hsum, vlo, vhi⟩
  simp only [litI, litB, litS] at hi hof hn0 hn1 hsum vlo vhi ⊢
  by_cases hlt : i < l.length
  rotate_left
  have hdec : decide ((i : Int) < (l.length : Int)) = false := by simp; omega
  · have hil : i = l.length := by omega
    subst hil
    rw [List.drop_length, ofS] at hof
    rw [List.take_length]
    rcases hs : ((numsV l).all small && small (sumL (numsV l))) with _ | _
    · have e : sumD (numsV l) = (0, 2) := by unfold sumD; rw [hs, if_neg Bool.false_ne_true]
      have em : ofM l = (zeroBd, 2) := by unfold ofM; rw [← hof, e]; rfl
      rw [e] at h38
      rw [em]
      repeat' first | refine awp_seq ?_ | refine awp_block ?_ | refine awp_skip ?_ | (apply regB; (case hd => exact hdA); intro K hK) | (apply ev_guardU; (case hj | hu | hσ => (simp only [go_sem, hdec]; try rfl))) | ((first | refine awp_cond _ (by rfl) ?_ ?_ | ((first | apply ev_guardT | apply ev_guardF); (case hj | hb => (simp only [go_sem, hdec]; try rfl)))) <;> (first | refine ttA ?_ | refine ffA ?_ | (intro hb; first | (cases hb; done) | simp only [hb] | skip))) | ((first | apply awp_exit | apply awp_ret); refine tqA ?_) | (refine ev_nil (hK _ ?_); clear hK K) | (apply ev_call0; (case hys => (simp only [go_sem, hdec]; try rfl)); (case hs => first | exact h38 ..); (case hok | hσ => (simp only [go_sem, hdec]; try rfl))) | (apply ev_step0; (case hr | hσ => (simp only [go_sem, hdec]; try rfl)); (case hc => exact hcA)) | (apply ev_step; (case hr | hσ => (intros; simp only [go_sem, hdec]; try rfl)); (case hc => exact hcA); intro g u; (try clear u); (try clear g)) | fail
      all_goals (refine resR_oneA ?_; simp only [go_sem])
      exact LeA.refl _
    · have e : sumD (numsV l) = (sumL (numsV l), 0) := by unfold sumD; rw [hs, if_pos rfl]
      have em : ofM l = (⟨b.nulls, b.has, b.lo, b.hi, sumL (numsV l)⟩, 0) := by unfold ofM; rw [← hof, e]; rfl
      rw [e] at h38
      rw [em]
      repeat' first | refine awp_seq ?_ | refine awp_block ?_ | refine awp_skip ?_ | (apply regB; (case hd => exact hdA); intro K hK) | (apply ev_guardU; (case hj | hu | hσ => (simp only [go_sem, hdec]; try rfl))) | ((first | refine awp_cond _ (by rfl) ?_ ?_ | ((first | apply ev_guardT | apply ev_guardF); (case hj | hb => (simp only [go_sem, hdec]; try rfl)))) <;> (first | refine ttA ?_ | refine ffA ?_ | (intro hb; first | (cases hb; done) | simp only [hb] | skip))) | ((first | apply awp_exit | apply awp_ret); refine tqA ?_) | (refine ev_nil (hK _ ?_); clear hK K) | (apply ev_call0; (case hys => (simp only [go_sem, hdec]; try rfl)); (case hs => first | exact h38 ..); (case hok | hσ => (simp only [go_sem, hdec]; try rfl))) | (apply ev_step0; (case hr | hσ => (simp only [go_sem, hdec]; try rfl)); (case hc => exact hcA)) | (apply ev_step; (case hr | hσ => (intros; simp only [go_sem, hdec]; try rfl)); (case hc => exact hcA); intro g u; (try clear u); (try clear g)) | fail
      all_goals (refine resR_oneA ?_; simp only [go_sem])
      exact LeA.refl _
  have hdec : decide ((i : Int) < (l.length : Int)) = true := by simp; omega
  have hx := vls_at l hlt
  have hm := hv _ (mem_at l dV hlt)
  have hns := numsV_step l hlt
  rw [drop_at l dV hlt, ofS] at hof
  generalize l.getD i dV = v at *
  have h36 := f36_spec v hm.i hm.s
  have w2 : IntKind.i64.wrap ((i : Int) + 1) = ((i + 1 : Nat) : Int) := by rw [wrap_id (by omega)]; push_cast; rfl
  obtain ⟨N, hN⟩ : ∃ N, isNull v = N := ⟨_, rfl⟩
  cases hw : wideV v with
  | false =>
    rw [hw] at h36
    have : badV b v = true := by simp [badV, hw]
    rw [if_pos this] at hof
    have e : ofM l = (zeroBd, 6) := by unfold ofM; rw [← hof]
    rw [e]
    all_goals have H := And.intro hdec hx
    repeat' first | refine awp_seq ?_ | refine awp_block ?_ | refine awp_skip ?_ | (apply regB; (case hd => exact hdA); intro K hK) | (apply ev_guardU; (case hj | hu | hσ => (simp only [go_sem, H]; try rfl))) | ((first | refine awp_cond _ (by rfl) ?_ ?_ | ((first | apply ev_guardT | apply ev_guardF); (case hj | hb => (simp only [go_sem, H]; try rfl)))) <;> (first | refine ttA ?_ | refine ffA ?_ | (intro hb; first | (cases hb; done) | simp only [hb] | skip))) | ((first | apply awp_exit | apply awp_ret); refine tqA ?_) | (refine ev_nil (hK _ ?_); clear hK K) | (apply ev_call0; (case hys => (simp only [go_sem, H]; try rfl)); (case hs => first | exact h36 ..); (case hok | hσ => (simp only [go_sem, H]; try rfl))) | (apply ev_step0; (case hr | hσ => (simp only [go_sem, H]; try rfl)); (case hc => exact hcA)) | (apply ev_step; (case hr | hσ => (intros; simp only [go_sem, H]; try rfl)); (case hc => exact hcA); intro g u; (try clear u); (try clear g)) | fail
    all_goals try clear H
    all_goals (refine resR_oneA ?_; simp only [go_sem])
    exact LeA.refl _
  | true =>
  rw [hw] at h36
  have hz : (v.k == 0) = N := by rw [← hN, wide_isNull hw]
  have hnz : (v.k != 0) = !N := by rw [bne, hz]
  have hbad : badV b v = (!N && b.has && (v.k != b.lo.k)) := by simp [badV, hw, hN]
  cases N with
  | true =>
    rw [hbad] at hof
    rw [if_neg (by simp), if_pos hN] at hof
    have w1 : IntKind.i64.wrap (b.nulls + 1) = b.nulls + 1 := wrap_id (by omega)
    have hk : (v.k == 2) = false := by
      rw [beq_iff_eq] at hz
      rw [hz]; rfl
    rw [hk, if_neg Bool.false_ne_true] at hns
    rw [Bool.not_true] at hnz
    all_goals have H := And.intro hdec (And.intro hx (And.intro hz (And.intro hnz (And.intro w1 w2))))
    repeat' first | refine awp_seq ?_ | refine awp_block ?_ | refine awp_skip ?_ | (apply regB; (case hd => exact hdA); intro K hK) | (apply ev_guardU; (case hj | hu | hσ => (simp only [go_sem, H]; try rfl))) | ((first | refine awp_cond _ (by rfl) ?_ ?_ | ((first | apply ev_guardT | apply ev_guardF); (case hj | hb => (simp only [go_sem, H]; try rfl)))) <;> (first | refine ttA ?_ | refine ffA ?_ | (intro hb; first | (cases hb; done) | simp only [hb] | skip))) | ((first | apply awp_exit | apply awp_ret); refine tqA ?_) | (refine ev_nil (hK _ ?_); clear hK K) | (apply ev_call0; (case hys => (simp only [go_sem, H]; try rfl)); (case hs => first | exact h36 ..); (case hok | hσ => (simp only [go_sem, H]; try rfl))) | (apply ev_step0; (case hr | hσ => (simp only [go_sem, H]; try rfl)); (case hc => exact hcA)) | (apply ev_step; (case hr | hσ => (intros; simp only [go_sem, H]; try rfl)); (case hc => exact hcA); intro g u; (try clear u); (try clear g)) | fail
    all_goals try clear H
    refine Exists.intro (i + 1, (⟨b.nulls + 1, b.has, b.lo, b.hi, b.sum⟩, u0)) ⟨⟨by simp only; omega, hof, by simp only; omega, hsum, vlo, vhi⟩, by simp only; omega, ?_⟩
    simp only [hns]
    exact wkA
  | false =>
  rw [hbad, Bool.not_false, Bool.true_and] at hof
  rw [Bool.not_false] at hnz
  simp only [hN, Bool.false_eq_true, if_false] at hof
  have hnt : (numsV (l.take i)).length ≤ 16777216 := by
    have := numsV_len (l.take i)
    rw [List.length_take] at this
    omega
  have hap : ∀ x : Int, ((numsV (l.take i)) ++ [x]).map (fun n => [Dat.lit (.int .i64 n)]) = (numsV (l.take i)).map (fun n => [Dat.lit (.int .i64 n)]) ++ [[.lit (.int .i64 x)]] := fun x => by simp
  obtain ⟨bn, bh, bl, bi, bsm⟩ := b
  simp only at hof hn0 hn1 hsum vlo vhi
  subst hsum
  cases bh with
  | true =>
    rw [Bool.true_and] at hof
    cases hk : (v.k != bl.k) with
    | true =>
      rw [hk, if_pos rfl] at hof
      have e : ofM l = (zeroBd, 6) := by unfold ofM; rw [← hof]
      rw [e]
      all_goals have H := And.intro hdec (And.intro hx (And.intro hz (And.intro hnz hk)))
      repeat' first | refine awp_seq ?_ | refine awp_block ?_ | refine awp_skip ?_ | (apply regB; (case hd => exact hdA); intro K hK) | (apply ev_guardU; (case hj | hu | hσ => (simp only [go_sem, H]; try rfl))) | ((first | refine awp_cond _ (by rfl) ?_ ?_ | ((first | apply ev_guardT | apply ev_guardF); (case hj | hb => (simp only [go_sem, H]; try rfl)))) <;> (first | refine ttA ?_ | refine ffA ?_ | (intro hb; first | (cases hb; done) | simp only [hb] | skip))) | ((first | apply awp_exit | apply awp_ret); refine tqA ?_) | (refine ev_nil (hK _ ?_); clear hK K) | (apply ev_call0; (case hys => (simp only [go_sem, H]; try rfl)); (case hs => first | exact h36 ..); (case hok | hσ => (simp only [go_sem, H]; try rfl))) | (apply ev_step0; (case hr | hσ => (simp only [go_sem, H]; try rfl)); (case hc => exact hcA)) | (apply ev_step; (case hr | hσ => (intros; simp only [go_sem, H]; try rfl)); (case hc => exact hcA); intro g u; (try clear u); (try clear g)) | fail
      all_goals try clear H
      all_goals (refine resR_oneA ?_; simp only [go_sem])
      exact LeA.refl _
    | false =>
      rw [hk, if_neg Bool.false_ne_true] at hof
      have a1 := f37_same v bl hm.s vlo.s
      have a2 := f37_same v bi hm.s vhi.s
      have hofI : ofIn ⟨bn, true, bl, bi, 0⟩ v = ⟨bn, true, if cmpV v bl < 0 then v else bl, if cmpV v bi > 0 then v else bi, 0⟩ := by
        simp only [ofIn, startV, if_true, lowV, highV]
        split <;> simp only <;> split <;> rfl
      rw [hofI] at hof
      generalize cmpV v bl = c1 at *
      generalize cmpV v bi = c2 at *
      cases hk2 : (v.k == 2) with
      | false =>
        rw [hk2, if_neg Bool.false_ne_true] at hns
        by_cases h1 : c1 < 0 <;> by_cases h2 : c2 > 0 <;> simp only [h1, h2, if_true, if_false] at hof
        all_goals (first | have d1 : decide (c1 < 0) = true := decide_eq_true h1 | have d1 : decide (c1 < 0) = false := decide_eq_false h1)
        all_goals (first | have d2 : decide (c2 > 0) = true := decide_eq_true h2 | have d2 : decide (c2 > 0) = false := decide_eq_false h2)
        all_goals
          all_goals have H := And.intro hdec (And.intro hx (And.intro hz (And.intro hnz (And.intro hk (And.intro hk2 (And.intro d1 (And.intro d2 w2)))))))
          repeat' first | refine awp_seq ?_ | refine awp_block ?_ | refine awp_skip ?_ | (apply regB; (case hd => exact hdA); intro K hK) | (apply ev_guardU; (case hj | hu | hσ => (simp only [go_sem, H]; try rfl))) | ((first | refine awp_cond _ (by rfl) ?_ ?_ | ((first | apply ev_guardT | apply ev_guardF); (case hj | hb => (simp only [go_sem, H]; try rfl)))) <;> (first | refine ttA ?_ | refine ffA ?_ | (intro hb; first | (cases hb; done) | simp only [hb] | skip))) | ((first | apply awp_exit | apply awp_ret); refine tqA ?_) | (refine ev_nil (hK _ ?_); clear hK K) | (apply ev_call0; (case hys => (simp only [go_sem, H]; try rfl)); (case hs => first | exact h36 .. | exact a1 .. | exact a2 ..); (case hok | hσ => (simp only [go_sem, H]; try rfl))) | (apply ev_step0; (case hr | hσ => (simp only [go_sem, H]; try rfl)); (case hc => exact hcA)) | (apply ev_step; (case hr | hσ => (intros; simp only [go_sem, H]; try rfl)); (case hc => exact hcA); intro g u; (try clear u); (try clear g)) | fail
          all_goals try clear H
          refine Exists.intro (i + 1, (_, u0)) ⟨⟨by simp only; omega, hof, by simp only; omega, rfl, by assumption, by assumption⟩, by simp only; omega, ?_⟩
          simp only [hns, hap]
          exact wkA
      | true =>
        rw [hk2, if_pos rfl] at hns
        by_cases h1 : c1 < 0 <;> by_cases h2 : c2 > 0 <;> simp only [h1, h2, if_true, if_false] at hof
        all_goals (first | have d1 : decide (c1 < 0) = true := decide_eq_true h1 | have d1 : decide (c1 < 0) = false := decide_eq_false h1)
        all_goals (first | have d2 : decide (c2 > 0) = true := decide_eq_true h2 | have d2 : decide (c2 > 0) = false := decide_eq_false h2)
        all_goals
          all_goals have H := And.intro hdec (And.intro hx (And.intro hz (And.intro hnz (And.intro hk (And.intro hk2 (And.intro d1 (And.intro d2 w2)))))))
          repeat' first | refine awp_seq ?_ | refine awp_block ?_ | refine awp_skip ?_ | (apply regB; (case hd => exact hdA); intro K hK) | (apply ev_guardU; (case hj | hu | hσ => (simp only [go_sem, H]; try rfl))) | ((first | refine awp_cond _ (by rfl) ?_ ?_ | ((first | apply ev_guardT | apply ev_guardF); (case hj | hb => (simp only [go_sem, H]; try rfl)))) <;> (first | refine ttA ?_ | refine ffA ?_ | (intro hb; first | (cases hb; done) | simp only [hb] | skip))) | ((first | apply awp_exit | apply awp_ret); refine tqA ?_) | (refine ev_nil (hK _ ?_); clear hK K) | (apply ev_call0; (case hys => (simp only [go_sem, H]; try rfl)); (case hs => first | exact h36 .. | exact a1 .. | exact a2 ..); (case hok | hσ => (simp only [go_sem, H]; try rfl))) | (apply ev_step0; (case hr | hσ => (simp only [go_sem, H]; try rfl)); (case hc => exact hcA)) | (apply ev_step; (case hr | hσ => (intros; simp only [go_sem, H]; try rfl)); (case hc => exact hcA); intro g u; (try clear u); (try clear g)) | fail
          all_goals try clear H
          refine Exists.intro (i + 1, (_, u)) ⟨⟨by simp only; omega, hof, by simp only; omega, rfl, by assumption, by assumption⟩, by simp only; omega, ?_⟩
          simp only [hns, hap]
          exact wkA
  | false =>
    have hofI : ofIn ⟨bn, false, bl, bi, 0⟩ v = ⟨bn, true, v, v, 0⟩ := by
      simp [ofIn, startV, lowV, highV, cmpV_self]
    rw [Bool.false_and, if_neg Bool.false_ne_true, hofI] at hof
    cases hk2 : (v.k == 2) with
    | false =>
      rw [hk2, if_neg Bool.false_ne_true] at hns
      all_goals have H := And.intro hdec (And.intro hx (And.intro hz (And.intro hnz (And.intro hk2 w2))))
      repeat' first | refine awp_seq ?_ | refine awp_block ?_ | refine awp_skip ?_ | (apply regB; (case hd => exact hdA); intro K hK) | (apply ev_guardU; (case hj | hu | hσ => (simp only [go_sem, H]; try rfl))) | ((first | refine awp_cond _ (by rfl) ?_ ?_ | ((first | apply ev_guardT | apply ev_guardF); (case hj | hb => (simp only [go_sem, H]; try rfl)))) <;> (first | refine ttA ?_ | refine ffA ?_ | (intro hb; first | (cases hb; done) | simp only [hb] | skip))) | ((first | apply awp_exit | apply awp_ret); refine tqA ?_) | (refine ev_nil (hK _ ?_); clear hK K) | (apply ev_call0; (case hys => (simp only [go_sem, H]; try rfl)); (case hs => first | exact h36 ..); (case hok | hσ => (simp only [go_sem, H]; try rfl))) | (apply ev_step0; (case hr | hσ => (simp only [go_sem, H]; try rfl)); (case hc => exact hcA)) | (apply ev_step; (case hr | hσ => (intros; simp only [go_sem, H]; try rfl)); (case hc => exact hcA); intro g u; (try clear u); (try clear g)) | fail
      all_goals try clear H
      refine Exists.intro (i + 1, (_, u0)) ⟨⟨by simp only; omega, hof, by simp only; omega, rfl, hm, hm⟩, by simp only; omega, ?_⟩
      simp only [hns, hap]
      exact wkA
    | true =>
      rw [hk2, if_pos rfl] at hns
      all_goals have H := And.intro hdec (And.intro hx (And.intro hz (And.intro hnz (And.intro hk2 w2))))
      repeat' first | refine awp_seq ?_ | refine awp_block ?_ | refine awp_skip ?_ | (apply regB; (case hd => exact hdA); intro K hK) | (apply ev_guardU; (case hj | hu | hσ => (simp only [go_sem, H]; try rfl))) | ((first | refine awp_cond _ (by rfl) ?_ ?_ | ((first | apply ev_guardT | apply ev_guardF); (case hj | hb => (simp only [go_sem, H]; try rfl)))) <;> (first | refine ttA ?_ | refine ffA ?_ | (intro hb; first | (cases hb; done) | simp only [hb] | skip))) | ((first | apply awp_exit | apply awp_ret); refine tqA ?_) | (refine ev_nil (hK _ ?_); clear hK K) | (apply ev_call0; (case hys => (simp only [go_sem, H]; try rfl)); (case hs => first | exact h36 ..); (case hok | hσ => (simp only [go_sem, H]; try rfl))) | (apply ev_step0; (case hr | hσ => (simp only [go_sem, H]; try rfl)); (case hc => exact hcA)) | (apply ev_step; (case hr | hσ => (intros; simp only [go_sem, H]; try rfl)); (case hc => exact hcA); intro g u; (try clear u); (try clear g)) | fail
      all_goals try clear H
      refine Exists.intro (i + 1, (_, u)) ⟨⟨by simp only; omega, hof, by simp only; omega, rfl, hm, hm⟩, by simp only; omega, ?_⟩
      simp only [hns, hap]
      exact wkA
end
section
set_option linter.unusedVariables false
set_option linter.unusedSimpArgs false
open Go.RowKit
attribute [local irreducible] Spec SpecF SpecN
attribute [local irreducible] AWp evOps evD
def colM (rows : List (List Vl)) (i : Nat) : List Vl := rows.map fun r => r.getD i dV
def columnsM (n : Nat) (rows : List (List Vl)) : List Bd := (List.range n).map fun i => (ofM (colM rows i)).1
theorem rowsD_at (l : List (List Vl)) {i : Nat} (h : i < l.length) : (l.map fun r => [vls r]).getD i [] = [vls (l.getD i [])] := by
  simp [List.getD_eq_getElem?_getD, h]
theorem colM_take (rows : List (List Vl)) (i : Nat) {k : Nat} (h : k < rows.length) : colM (rows.take (k + 1)) i = colM (rows.take k) i ++ [(rows.getD k []).getD i dV] := by
  unfold colM
  rw [take_at rows [] h, List.map_append]; rfl
theorem columnsM_succ (n : Nat) (rows : List (List Vl)) : columnsM (n + 1) rows = columnsM n rows ++ [(ofM (colM rows n)).1] := by
  simp [columnsM, List.range_succ]
theorem columnsM_len (n : Nat) (rows : List (List Vl)) : (columnsM n rows).length = n := by simp [columnsM]
set_option maxHeartbeats 8000000 in
theorem f11_spec (ts : List Ty) (hl : ts.length ≤ 6) (rows : List (List Vl)) (hr : rows.length ≤ 1000) (hw : ∀ r ∈ rows, r.length = ts.length ∧ ∀ v ∈ r, VlOk v) : Spec Tryd.prog 11 [.d (tys ts), .d (rowsD rows)] (.d (bds (columnsM ts.length rows))) := by
  refine spec_of_awp (fn := Tryd.f11) Tryd.func11 (by kernel_rfl) rfl ?_
  intro w0 C0
  simp only [Tryd.ntmps11, go_sem]
  repeat' first | refine awp_seq ?_ | refine awp_block ?_ | refine awp_skip ?_ | (apply regB; (case hd => exact hdA); intro K hK) | ((refine awp_cond _ (by rfl) ?_ ?_) <;> (first | refine ttA ?_ | refine ffA ?_ | (intro hb; first | (cases hb; done) | simp only [hb] | skip))) | ((first | apply awp_exit | apply awp_ret); refine tqA ?_) | (refine ev_nil (hK _ ?_); clear hK K) | (apply ev_step0; (case hr | hσ => (simp only [go_sem]; try rfl)); (case hc => exact hcA)) | (apply ev_step; (case hr | hσ => (intros; simp only [go_sem]; try rfl)); (case hc => exact hcA); intro g u; (try clear u); (try clear g)) | fail
  refine awp_loopI (fun j : Nat × Value => j.1 ≤ ts.length) (fun j => ts.length - j.1) (fun j => ⟨[.d (tys ts), .d (rowsD rows), .any, .any, .d (.lit (.slice none 0 0)), .own 9 j.2, litI .i64 (j.1 : Int), .any, .any, .any, .any, .any, .any, .any, .any, .any, .any, .any, .any, .any, .any, .any, .any, .any, .any, .any, .any, .any, .any, .any, .any, .any, .any, .any, .any, .any, .any, .any, .any, .any], [.no, .no, .no, .no, .no, .no, .no, .no, .no, .row j.2 28 9 ((columnsM j.1 rows).map bdD), .no, .no, .no, .no, .no, .no, .no, .no, .no, .no, .no, .no, .no, .no, .no, .no, .no, .no, .no, .no, .no, .no, .no, .no, .no, .no, .no, .no, .no, .no]⟩) (0, u) (by simp) ?_ ?_
  · simp only [columnsM, List.range_zero, List.map_nil]
    exact wkA
  rintro ⟨j, u0⟩ hj
  simp only [litI, litB] at hj ⊢
  by_cases h1 : j < ts.length
  · have d1 : decide ((j : Int) < (ts.length : Int)) = true := decide_eq_true (by omega)
    repeat' first | refine awp_seq ?_ | refine awp_block ?_ | refine awp_skip ?_ | (apply regB; (case hd => exact hdA); intro K hK) | ((refine awp_cond _ (by rfl) ?_ ?_) <;> (first | refine ttA ?_ | refine ffA ?_ | (intro hb; first | (cases hb; done) | simp only [hb] | skip))) | ((first | apply awp_exit | apply awp_ret); refine tqA ?_) | (refine ev_nil (hK _ ?_); clear hK K) | (apply ev_step0; (case hr | hσ => (simp only [go_sem, d1]; try rfl)); (case hc => exact hcA)) | (apply ev_step; (case hr | hσ => (intros; simp only [go_sem, d1]; try rfl)); (case hc => exact hcA); intro g u; (try clear u); (try clear g)) | fail
    refine awp_loopI (fun k : Nat × Value => k.1 ≤ rows.length) (fun k => rows.length - k.1) (fun k => ⟨[.d (tys ts), .d (rowsD rows), .any, .any, .d (.lit (.slice none 0 0)), .own 9 u0, litI .i64 (j : Int), .own 16 k.2, litI .i64 (k.1 : Int), .any, .any, .any, .any, .any, .any, .any, .any, .any, .any, .any, .any, .any, .any, .any, .any, .any, .any, .any, .any, .any, .any, .any, .any, .any, .any, .any, .any, .any, .any, .any], [.no, .no, .no, .no, .no, .no, .no, .no, .no, .row u0 28 9 ((columnsM j rows).map bdD), .no, .no, .no, .no, .no, .no, .row k.2 26 3 ((colM (rows.take k.1) j).map vlD), .no, .no, .no, .no, .no, .no, .no, .no, .no, .no, .no, .no, .no, .no, .no, .no, .no, .no, .no, .no, .no, .no, .no]⟩) (0, u) (by simp) ?_ ?_
    · simp only [List.take_zero, colM, List.map_nil]
      exact wkA
    rintro ⟨k, u1⟩ hk
    simp only [litI, litB] at hk ⊢
    by_cases h2 : k < rows.length
    · have d2 : decide ((k : Int) < (rows.length : Int)) = true := decide_eq_true (by omega)
      have hx := rowsD_at rows h2
      have hm := hw _ (mem_at rows [] h2)
      have hs := colM_take rows j h2
      have hlen : (colM (rows.take k) j).length ≤ 1000 := by unfold colM; rw [List.length_map, List.length_take]; omega
      generalize colM (rows.take k) j = pre at *
      generalize rows.getD k [] = r at *
      have hy := vls_at r (i := j) (by omega)
      have hjr : j < r.length := by omega
      generalize r.getD j dV = v at *
      have w2 : IntKind.i64.wrap ((k : Int) + 1) = ((k + 1 : Nat) : Int) := by rw [wrap_id (by omega)]; push_cast; rfl
      all_goals have H := And.intro d2 (And.intro hx (And.intro hy w2))
      repeat' first | refine awp_seq ?_ | refine awp_block ?_ | refine awp_skip ?_ | (apply regB; (case hd => exact hdA); intro K hK) | ((refine awp_cond _ (by rfl) ?_ ?_) <;> (first | refine ttA ?_ | refine ffA ?_ | (intro hb; first | (cases hb; done) | simp only [hb] | skip))) | ((first | apply awp_exit | apply awp_ret); refine tqA ?_) | (refine ev_nil (hK _ ?_); clear hK K) | (apply ev_step0; (case hr | hσ => (simp only [go_sem, H]; try rfl)); (case hc => exact hcA)) | (apply ev_step; (case hr | hσ => (intros; simp only [go_sem, H]; try rfl)); (case hc => exact hcA); intro g u; (try clear u); (try clear g)) | fail
      all_goals try clear H
      refine Exists.intro (k + 1, u) ⟨by show k + 1 ≤ _; omega, by show rows.length - (k + 1) < rows.length - k; omega, ?_⟩
      simp only [hs, List.map_append, List.map_cons, List.map_nil]
      exact wkA
    · have d2 : decide ((k : Int) < (rows.length : Int)) = false := decide_eq_false (by omega)
      have hkl : k = rows.length := by omega
      subst hkl
      rw [List.take_length]
      have a1 := f13_spec (colM rows j) (by
        intro v hv
        simp only [colM, List.mem_map] at hv
        obtain ⟨r, hr', rfl⟩ := hv
        have := hw r hr'
        exact this.2 _ (mem_at r dV (by omega))) (by unfold colM; rw [List.length_map]; omega)
      have hs := columnsM_succ j rows
      have hcl := columnsM_len j rows
      generalize ofM (colM rows j) = o at *
      generalize columnsM j rows = pre at *
      have w2 : IntKind.i64.wrap ((j : Int) + 1) = ((j + 1 : Nat) : Int) := by rw [wrap_id (by omega)]; push_cast; rfl
      all_goals have H := And.intro d2 w2
      repeat' first | refine awp_seq ?_ | refine awp_block ?_ | refine awp_skip ?_ | (apply regB; (case hd => exact hdA); intro K hK) | ((refine awp_cond _ (by rfl) ?_ ?_) <;> (first | refine ttA ?_ | refine ffA ?_ | (intro hb; first | (cases hb; done) | simp only [hb] | skip))) | ((first | apply awp_exit | apply awp_ret); refine tqA ?_) | (refine ev_nil (hK _ ?_); clear hK K) | (apply ev_call0; (case hys => (simp only [go_sem, H]; try rfl)); (case hs => first | exact a1 ..); (case hok | hσ => (simp only [go_sem, H]; try rfl))) | (apply ev_step0; (case hr | hσ => (simp only [go_sem, H]; try rfl)); (case hc => exact hcA)) | (apply ev_step; (case hr | hσ => (intros; simp only [go_sem, H]; try rfl)); (case hc => exact hcA); intro g u; (try clear u); (try clear g)) | fail
      all_goals try clear H
      refine Exists.intro (j + 1, u) ⟨by show j + 1 ≤ _; omega, by show ts.length - (j + 1) < ts.length - j; omega, ?_⟩
      simp only [hs, List.map_append, List.map_cons, List.map_nil]
      exact wkA
  · have d1 : decide ((j : Int) < (ts.length : Int)) = false := decide_eq_false (by omega)
    have e : j = ts.length := by omega
    subst e
    repeat' first | refine awp_seq ?_ | refine awp_block ?_ | refine awp_skip ?_ | (apply regB; (case hd => exact hdA); intro K hK) | ((refine awp_cond _ (by rfl) ?_ ?_) <;> (first | refine ttA ?_ | refine ffA ?_ | (intro hb; first | (cases hb; done) | simp only [hb] | skip))) | ((first | apply awp_exit | apply awp_ret); refine tqA ?_) | (refine ev_nil (hK _ ?_); clear hK K) | (apply ev_step0; (case hr | hσ => (simp only [go_sem, d1]; try rfl)); (case hc => exact hcA)) | (apply ev_step; (case hr | hσ => (intros; simp only [go_sem, d1]; try rfl)); (case hc => exact hcA); intro g u; (try clear u); (try clear g)) | fail
    all_goals (refine resR_oneA ?_; simp only [go_sem])
    exact LeA.refl _
def suitOk (t : Ty) (b : Bd) : Bool := if validB b = false then false else if b.has = false then true else (b.lo.k == t.k)
def suitsM (ts : List Ty) (B : List Bd) : List Nat → Bool
  | [] => true
  | i :: l => if suitOk (ts.getD i dTy) (B.getD i zeroBd) = true then suitsM ts B l else false
set_option maxHeartbeats 8000000 in
theorem f20_spec (ts : List Ty) (hts : ∀ t ∈ ts, TyOk t) (hl : ts.length ≤ 6) (B : List Bd) (hB : B.length = ts.length) (hok : ∀ b ∈ B, BdOk b) (e : Ex) (he : Typ ts 1 e) (hs : sizeE e ≤ 60) : Spec Tryd.prog 20 [.d (tys ts), .d (bds B), .agg (exA e)] (litB (suitsM ts B (List.range ts.length))) := by
  obtain ⟨t0, hk0, h65⟩ := typ_spec hts hl he
  have a1 := f42_spec (tys ts) e t0 hs h65
  have d0 : (t0.k != 1) = false := by rw [hk0]; rfl
  have d1 : decide ((B.length : Int) < (ts.length : Int)) = false := decide_eq_false (by omega)
  simp only [exA] at a1 ⊢
  refine spec_of_awp (fn := Tryd.f20) Tryd.func20 (by kernel_rfl) rfl ?_
  intro w0 C0
  simp only [Tryd.ntmps20, go_sem]
  all_goals have H := And.intro d0 d1
  repeat' first | refine awp_seq ?_ | refine awp_block ?_ | refine awp_skip ?_ | (apply regB; (case hd => exact hdA); intro K hK) | (apply ev_guardU; (case hj | hu | hσ => (simp only [go_sem, H]; try rfl))) | ((first | refine awp_cond _ (by rfl) ?_ ?_ | ((first | apply ev_guardT | apply ev_guardF); (case hj | hb => (simp only [go_sem, H]; try rfl)))) <;> (first | refine ttA ?_ | refine ffA ?_ | (intro hb; first | (cases hb; done) | simp only [hb] | skip))) | ((first | apply awp_exit | apply awp_ret); refine tqA ?_) | (refine ev_nil (hK _ ?_); clear hK K) | (apply ev_call0; (case hys => (simp only [go_sem, H]; try rfl)); (case hs => first | exact a1 ..); (case hok | hσ => (simp only [go_sem, H]; try rfl))) | (apply ev_step0; (case hr | hσ => (simp only [go_sem, H]; try rfl)); (case hc => exact hcA)) | (apply ev_step; (case hr | hσ => (intros; simp only [go_sem, H]; try rfl)); (case hc => exact hcA); intro g u; (try clear u); (try clear g)) | fail
  all_goals try clear H
  refine awp_loopI (fun i : Nat => i ≤ ts.length ∧ suitsM ts B (List.range ts.length) = suitsM ts B ((List.range ts.length).drop i)) (fun i => ts.length - i) (fun i => ⟨[.d (tys ts), .d (bds B), .any, .any, .any, .any, litB false, .any, litI .i64 (i : Int), .any, .any, .any, .any, .any, .any, .any, .any, .any, .any, .any, .any, .any, .any, .any, .any, .any, .any, .any, .any, .any, .any, .any, .any, .any, .any, .any, .any, .any, .any, .any, .any, .any, .any, .any, .any, .any, .any, .any, .any, .any, .any, .any, .any, .any, .any, .any, .any, .any, .any, .any, .any], [.no, .no, .no, .no, .no, .no, .no, .no, .no, .no, .no, .no, .no, .no, .no, .no, .no, .no, .no, .no, .no, .no, .no, .no, .no, .no, .no, .no, .no, .no, .no, .no, .no, .no, .no, .no, .no, .no, .no, .no, .no, .no, .no, .no, .no, .no, .no, .no, .no, .no, .no, .no, .no, .no, .no, .no, .no, .no, .no, .no, .no]⟩) 0 ⟨by omega, rfl⟩ ?_ ?_
  · exact wkA
  rintro i ⟨hi, hf⟩
  simp only [litI, litB] at hi hf ⊢
  by_cases h1 : i < ts.length
  · have d2 : decide ((i : Int) < (ts.length : Int)) = true := decide_eq_true (by omega)
    have hx := tys_at ts h1
    have hib : i < B.length := by omega
    have hy := bds_at B hib
    have hm := hok _ (mem_at B zeroBd hib)
    rw [drop_at (List.range ts.length) 0 (by simpa using h1), show (List.range ts.length).getD i 0 = i by simp [List.getD_eq_getElem?_getD, h1], suitsM] at hf
    generalize ts.getD i dTy = t at *
    generalize B.getD i zeroBd = c at *
    have a2 := f17_spec c hm.lo hm.hi
    have w2 : IntKind.i64.wrap ((i : Int) + 1) = ((i + 1 : Nat) : Int) := by rw [wrap_id (by omega)]; push_cast; rfl
    unfold suitOk at hf
    cases hv : validB c with
    | false =>
      rw [hv] at a2 hf
      rw [if_pos rfl, if_neg (by decide)] at hf
      all_goals have H := And.intro d2 (And.intro hx hy)
      repeat' first | refine awp_seq ?_ | refine awp_block ?_ | refine awp_skip ?_ | (apply regB; (case hd => exact hdA); intro K hK) | (apply ev_guardU; (case hj | hu | hσ => (simp only [go_sem, H]; try rfl))) | ((first | refine awp_cond _ (by rfl) ?_ ?_ | ((first | apply ev_guardT | apply ev_guardF); (case hj | hb => (simp only [go_sem, H]; try rfl)))) <;> (first | refine ttA ?_ | refine ffA ?_ | (intro hb; first | (cases hb; done) | simp only [hb] | skip))) | ((first | apply awp_exit | apply awp_ret); refine tqA ?_) | (refine ev_nil (hK _ ?_); clear hK K) | (apply ev_call0; (case hys => (simp only [go_sem, H]; try rfl)); (case hs => first | exact a2 ..); (case hok | hσ => (simp only [go_sem, H]; try rfl))) | (apply regDB; (case hd => exact hdA); (case' h => (intro K hK; (repeat' first | (apply evd_nil; refine (hK _ ?_); clear hK K) | (apply evd_guardU0; (case hj | hu | hσ => (simp only [go_sem, H]; try rfl))) | (apply evd_guardU; (case hj | hu | hσ => (simp only [go_sem, H]; try rfl))) | (apply evd_skipT0; (case hj | hb | hσ => (simp only [go_sem, H]; try rfl))) | (apply evd_skipF0; (case hj | hb | hσ => (simp only [go_sem, H]; try rfl))) | (apply evd_skipT; (case hj | hb | hσ => (simp only [go_sem, H]; try rfl))) | (apply evd_skipF; (case hj | hb | hσ => (simp only [go_sem, H]; try rfl))) | (apply evd_guardT; (case hj | hb => (simp only [go_sem, H]; try rfl)); (case' h2 => (intro hb; first | (cases hb; done) | (simp only [hb]) | skip)); (case' h1 => (intro hb; first | (cases hb; done) | (simp only [hb]) | skip))) | (apply evd_guardF; (case hj | hb => (simp only [go_sem, H]; try rfl)); (case' h2 => (intro hb; first | (cases hb; done) | (simp only [hb]) | skip)); (case' h1 => (intro hb; first | (cases hb; done) | (simp only [hb]) | skip))) | (apply evd_call0; (case hi | hys => (simp only [go_sem, H]; try rfl)); (case hs => first | exact a2 ..); (case hok | hw | hσ => (simp only [go_sem, H]; try rfl))) | (apply evd_step0; (case hr | hi | hσ => (simp only [go_sem, H]; try rfl)); (case hc => exact hcA)) | (apply evd_step; (case hr | hi | hw | hσ => (intros; simp only [go_sem, H]; try rfl)); (case hc => exact hcA); (case' hk => (intro g u; (try clear u); (try clear g)))) | fail))); (case hB => kernel_rfl)) | (apply ev_step0; (case hr | hσ => (simp only [go_sem, H]; try rfl)); (case hc => exact hcA)) | (apply ev_step; (case hr | hσ => (intros; simp only [go_sem, H]; try rfl)); (case hc => exact hcA); intro g u; (try clear u); (try clear g)) | fail
      all_goals try clear H
      all_goals (refine resR_oneA ?_; simp only [go_sem])
      exact LeA.b hf.symm
    | true =>
      rw [hv] at a2 hf
      rw [if_neg (show ¬ (true = false) by decide)] at hf
      obtain ⟨cn, ch, cl, ci, cs⟩ := c
      simp only at hf
      cases ch with
      | false =>
        rw [if_pos rfl, if_pos rfl] at hf
        all_goals have H := And.intro d2 (And.intro hx (And.intro hy w2))
        repeat' first | refine awp_seq ?_ | refine awp_block ?_ | refine awp_skip ?_ | (apply regB; (case hd => exact hdA); intro K hK) | (apply ev_guardU; (case hj | hu | hσ => (simp only [go_sem, H]; try rfl))) | ((first | refine awp_cond _ (by rfl) ?_ ?_ | ((first | apply ev_guardT | apply ev_guardF); (case hj | hb => (simp only [go_sem, H]; try rfl)))) <;> (first | refine ttA ?_ | refine ffA ?_ | (intro hb; first | (cases hb; done) | simp only [hb] | skip))) | ((first | apply awp_exit | apply awp_ret); refine tqA ?_) | (refine ev_nil (hK _ ?_); clear hK K) | (apply ev_call0; (case hys => (simp only [go_sem, H]; try rfl)); (case hs => first | exact a2 ..); (case hok | hσ => (simp only [go_sem, H]; try rfl))) | (apply regDB; (case hd => exact hdA); (case' h => (intro K hK; (repeat' first | (apply evd_nil; refine (hK _ ?_); clear hK K) | (apply evd_guardU0; (case hj | hu | hσ => (simp only [go_sem, H]; try rfl))) | (apply evd_guardU; (case hj | hu | hσ => (simp only [go_sem, H]; try rfl))) | (apply evd_skipT0; (case hj | hb | hσ => (simp only [go_sem, H]; try rfl))) | (apply evd_skipF0; (case hj | hb | hσ => (simp only [go_sem, H]; try rfl))) | (apply evd_skipT; (case hj | hb | hσ => (simp only [go_sem, H]; try rfl))) | (apply evd_skipF; (case hj | hb | hσ => (simp only [go_sem, H]; try rfl))) | (apply evd_guardT; (case hj | hb => (simp only [go_sem, H]; try rfl)); (case' h2 => (intro hb; first | (cases hb; done) | (simp only [hb]) | skip)); (case' h1 => (intro hb; first | (cases hb; done) | (simp only [hb]) | skip))) | (apply evd_guardF; (case hj | hb => (simp only [go_sem, H]; try rfl)); (case' h2 => (intro hb; first | (cases hb; done) | (simp only [hb]) | skip)); (case' h1 => (intro hb; first | (cases hb; done) | (simp only [hb]) | skip))) | (apply evd_call0; (case hi | hys => (simp only [go_sem, H]; try rfl)); (case hs => first | exact a2 ..); (case hok | hw | hσ => (simp only [go_sem, H]; try rfl))) | (apply evd_step0; (case hr | hi | hσ => (simp only [go_sem, H]; try rfl)); (case hc => exact hcA)) | (apply evd_step; (case hr | hi | hw | hσ => (intros; simp only [go_sem, H]; try rfl)); (case hc => exact hcA); (case' hk => (intro g u; (try clear u); (try clear g)))) | fail))); (case hB => kernel_rfl)) | (apply ev_step0; (case hr | hσ => (simp only [go_sem, H]; try rfl)); (case hc => exact hcA)) | (apply ev_step; (case hr | hσ => (intros; simp only [go_sem, H]; try rfl)); (case hc => exact hcA); intro g u; (try clear u); (try clear g)) | fail
        all_goals try clear H
        refine Exists.intro (i + 1) ⟨⟨by omega, hf⟩, by omega, ?_⟩
        exact wkA
      | true =>
        rw [if_neg (show ¬ (true = false) by decide)] at hf
        cases hq : (cl.k == t.k) with
        | true =>
          have hq' : (cl.k != t.k) = false := by rw [bne, hq]; rfl
          rw [hq, if_pos rfl] at hf
          all_goals have H := And.intro d2 (And.intro hx (And.intro hy (And.intro w2 hq')))
          repeat' first | refine awp_seq ?_ | refine awp_block ?_ | refine awp_skip ?_ | (apply regB; (case hd => exact hdA); intro K hK) | (apply ev_guardU; (case hj | hu | hσ => (simp only [go_sem, H]; try rfl))) | ((first | refine awp_cond _ (by rfl) ?_ ?_ | ((first | apply ev_guardT | apply ev_guardF); (case hj | hb => (simp only [go_sem, H]; try rfl)))) <;> (first | refine ttA ?_ | refine ffA ?_ | (intro hb; first | (cases hb; done) | simp only [hb] | skip))) | ((first | apply awp_exit | apply awp_ret); refine tqA ?_) | (refine ev_nil (hK _ ?_); clear hK K) | (apply ev_call0; (case hys => (simp only [go_sem, H]; try rfl)); (case hs => first | exact a2 ..); (case hok | hσ => (simp only [go_sem, H]; try rfl))) | (apply regDB; (case hd => exact hdA); (case' h => (intro K hK; (repeat' first | (apply evd_nil; refine (hK _ ?_); clear hK K) | (apply evd_guardU0; (case hj | hu | hσ => (simp only [go_sem, H]; try rfl))) | (apply evd_guardU; (case hj | hu | hσ => (simp only [go_sem, H]; try rfl))) | (apply evd_skipT0; (case hj | hb | hσ => (simp only [go_sem, H]; try rfl))) | (apply evd_skipF0; (case hj | hb | hσ => (simp only [go_sem, H]; try rfl))) | (apply evd_skipT; (case hj | hb | hσ => (simp only [go_sem, H]; try rfl))) | (apply evd_skipF; (case hj | hb | hσ => (simp only [go_sem, H]; try rfl))) | (apply evd_guardT; (case hj | hb => (simp only [go_sem, H]; try rfl)); (case' h2 => (intro hb; first | (cases hb; done) | (simp only [hb]) | skip)); (case' h1 => (intro hb; first | (cases hb; done) | (simp only [hb]) | skip))) | (apply evd_guardF; (case hj | hb => (simp only [go_sem, H]; try rfl)); (case' h2 => (intro hb; first | (cases hb; done) | (simp only [hb]) | skip)); (case' h1 => (intro hb; first | (cases hb; done) | (simp only [hb]) | skip))) | (apply evd_call0; (case hi | hys => (simp only [go_sem, H]; try rfl)); (case hs => first | exact a2 ..); (case hok | hw | hσ => (simp only [go_sem, H]; try rfl))) | (apply evd_step0; (case hr | hi | hσ => (simp only [go_sem, H]; try rfl)); (case hc => exact hcA)) | (apply evd_step; (case hr | hi | hw | hσ => (intros; simp only [go_sem, H]; try rfl)); (case hc => exact hcA); (case' hk => (intro g u; (try clear u); (try clear g)))) | fail))); (case hB => kernel_rfl)) | (apply ev_step0; (case hr | hσ => (simp only [go_sem, H]; try rfl)); (case hc => exact hcA)) | (apply ev_step; (case hr | hσ => (intros; simp only [go_sem, H]; try rfl)); (case hc => exact hcA); intro g u; (try clear u); (try clear g)) | fail
          all_goals try clear H
          refine Exists.intro (i + 1) ⟨⟨by omega, hf⟩, by omega, ?_⟩
          exact wkA
        | false =>
          have hq' : (cl.k != t.k) = true := by rw [bne, hq]; rfl
          rw [hq, if_neg (by decide)] at hf
          all_goals have H := And.intro d2 (And.intro hx (And.intro hy hq'))
          repeat' first | refine awp_seq ?_ | refine awp_block ?_ | refine awp_skip ?_ | (apply regB; (case hd => exact hdA); intro K hK) | (apply ev_guardU; (case hj | hu | hσ => (simp only [go_sem, H]; try rfl))) | ((first | refine awp_cond _ (by rfl) ?_ ?_ | ((first | apply ev_guardT | apply ev_guardF); (case hj | hb => (simp only [go_sem, H]; try rfl)))) <;> (first | refine ttA ?_ | refine ffA ?_ | (intro hb; first | (cases hb; done) | simp only [hb] | skip))) | ((first | apply awp_exit | apply awp_ret); refine tqA ?_) | (refine ev_nil (hK _ ?_); clear hK K) | (apply ev_call0; (case hys => (simp only [go_sem, H]; try rfl)); (case hs => first | exact a2 ..); (case hok | hσ => (simp only [go_sem, H]; try rfl))) | (apply regDB; (case hd => exact hdA); (case' h => (intro K hK; (repeat' first | (apply evd_nil; refine (hK _ ?_); clear hK K) | (apply evd_guardU0; (case hj | hu | hσ => (simp only [go_sem, H]; try rfl))) | (apply evd_guardU; (case hj | hu | hσ => (simp only [go_sem, H]; try rfl))) | (apply evd_skipT0; (case hj | hb | hσ => (simp only [go_sem, H]; try rfl))) | (apply evd_skipF0; (case hj | hb | hσ => (simp only [go_sem, H]; try rfl))) | (apply evd_skipT; (case hj | hb | hσ => (simp only [go_sem, H]; try rfl))) | (apply evd_skipF; (case hj | hb | hσ => (simp only [go_sem, H]; try rfl))) | (apply evd_guardT; (case hj | hb => (simp only [go_sem, H]; try rfl)); (case' h2 => (intro hb; first | (cases hb; done) | (simp only [hb]) | skip)); (case' h1 => (intro hb; first | (cases hb; done) | (simp only [hb]) | skip))) | (apply evd_guardF; (case hj | hb => (simp only [go_sem, H]; try rfl)); (case' h2 => (intro hb; first | (cases hb; done) | (simp only [hb]) | skip)); (case' h1 => (intro hb; first | (cases hb; done) | (simp only [hb]) | skip))) | (apply evd_call0; (case hi | hys => (simp only [go_sem, H]; try rfl)); (case hs => first | exact a2 ..); (case hok | hw | hσ => (simp only [go_sem, H]; try rfl))) | (apply evd_step0; (case hr | hi | hσ => (simp only [go_sem, H]; try rfl)); (case hc => exact hcA)) | (apply evd_step; (case hr | hi | hw | hσ => (intros; simp only [go_sem, H]; try rfl)); (case hc => exact hcA); (case' hk => (intro g u; (try clear u); (try clear g)))) | fail))); (case hB => kernel_rfl)) | (apply ev_step0; (case hr | hσ => (simp only [go_sem, H]; try rfl)); (case hc => exact hcA)) | (apply ev_step; (case hr | hσ => (intros; simp only [go_sem, H]; try rfl)); (case hc => exact hcA); intro g u; (try clear u); (try clear g)) | fail
          all_goals try clear H
          all_goals (refine resR_oneA ?_; simp only [go_sem])
          exact LeA.b hf.symm
  · have d2 : decide ((i : Int) < (ts.length : Int)) = false := decide_eq_false (by omega)
    rw [List.drop_eq_nil_of_le (by simp; omega), suitsM] at hf
    repeat' first | refine awp_seq ?_ | refine awp_block ?_ | refine awp_skip ?_ | (apply regB; (case hd => exact hdA); intro K hK) | (apply ev_guardU; (case hj | hu | hσ => (simp only [go_sem, d2]; try rfl))) | ((first | refine awp_cond _ (by rfl) ?_ ?_ | ((first | apply ev_guardT | apply ev_guardF); (case hj | hb => (simp only [go_sem, d2]; try rfl)))) <;> (first | refine ttA ?_ | refine ffA ?_ | (intro hb; first | (cases hb; done) | simp only [hb] | skip))) | ((first | apply awp_exit | apply awp_ret); refine tqA ?_) | (refine ev_nil (hK _ ?_); clear hK K) | (apply ev_step0; (case hr | hσ => (simp only [go_sem, d2]; try rfl)); (case hc => exact hcA)) | (apply ev_step; (case hr | hσ => (intros; simp only [go_sem, d2]; try rfl)); (case hc => exact hcA); intro g u; (try clear u); (try clear g)) | fail
    all_goals (refine resR_oneA ?_; simp only [go_sem])
    exact LeA.b hf.symm
end
section
set_option linter.unusedVariables false
set_option linter.unusedSimpArgs false
open Go.RowKit
theorem typ_okC {ts : List Ty} {k : Int} {e : Ex} (h : Typ ts k e) : okC e := by
  induction h with
  | con _ _ _ => show (1 : Int) ≠ 6; decide
  | col c _ => show (2 : Int) ≠ 6; decide
  | not _ _ => show (8 : Int) ≠ 6; decide
  | isn _ _ => show (9 : Int) ≠ 6; decide
  | cmp hop _ _ ih1 ih2 => exact fun h => by omega
  | log hop _ _ ih1 ih2 => exact fun _ => ⟨ih1, ih2⟩
  | num hop _ _ ih1 ih2 => exact fun h => by omega
  | pre _ _ ih1 ih2 => exact fun h => by omega
theorem conj_len : ∀ e : Ex, (conj e).length ≤ sizeE e
  | .leaf _ _ _ => Nat.le_refl _
  | .un _ a => by simp only [conj, sizeE, List.length_cons, List.length_nil]; omega
  | .bi op a b => by
    have h1 := conj_len a
    have h2 := conj_len b
    unfold conj
    split
    · rw [List.length_append]; simp only [sizeE]; omega
    · simp only [sizeE, List.length_cons, List.length_nil]; omega
theorem typ_and {ts : List Ty} {k : Int} {e : Ex} (h : Typ ts k e) : ∀ a b : Ex, e = .bi 6 a b → Typ ts 1 a ∧ Typ ts 1 b := by
  cases h with
  | con _ _ _ => intro a b e; cases e
  | col c _ => intro a b e; cases e
  | not _ => intro a b e; cases e
  | isn _ => intro a b e; cases e
  | cmp hop _ _ => intro a b e; cases e; omega
  | log hop h1 h2 => intro a b e; cases e; exact ⟨h1, h2⟩
  | num hop _ _ => intro a b e; cases e; omega
  | pre _ _ => intro a b e; cases e
theorem typ_conj {ts : List Ty} : ∀ (e : Ex), Typ ts 1 e → ∀ p ∈ conj e, Typ ts 1 p
  | .leaf op c v, h, p, hp => by
    rw [show conj (.leaf op c v) = [.leaf op c v] from rfl, List.mem_singleton] at hp
    rw [hp]; exact h
  | .un op a, h, p, hp => by
    rw [show conj (.un op a) = [.un op a] from rfl, List.mem_singleton] at hp
    rw [hp]; exact h
  | .bi op a b, h, p, hp => by
    unfold conj at hp
    split at hp
    · rename_i h6
      have hab : Typ ts 1 a ∧ Typ ts 1 b := typ_and h a b (by rw [h6])
      rcases List.mem_append.1 hp with hp | hp
      · exact typ_conj a hab.1 p hp
      · exact typ_conj b hab.2 p hp
    · rw [List.mem_singleton] at hp
      rw [hp]; exact h
def RowsOk (ts : List Ty) (rows : List (List Vl)) : Prop := rows.length ≤ 1000 ∧ ∀ r ∈ rows, r.length = ts.length ∧ ∀ i, i < ts.length → Drawn (ts.getD i dTy) (r.getD i dV)
theorem RowsOk.take {ts : List Ty} {rows : List (List Vl)} (h : RowsOk ts rows) (n : Nat) : RowsOk ts (rows.take n) :=
  ⟨by rw [List.length_take]; have := h.1; omega, fun r hr => h.2 r (List.mem_of_mem_take hr)⟩
theorem getD_at {α : Type} {l : List α} {d v : α} (h : v ∈ l) : ∃ i, i < l.length ∧ l.getD i d = v := by
  obtain ⟨i, hi, rfl⟩ := List.getElem_of_mem h
  exact ⟨i, hi, by simp [List.getD_eq_getElem?_getD, hi]⟩
theorem RowsOk.vals {ts : List Ty} {rows : List (List Vl)} (h : RowsOk ts rows) : ∀ r ∈ rows, r.length = ts.length ∧ ∀ v ∈ r, VlOk v := by
  intro r hr
  have hh := h.2 r hr
  refine ⟨hh.1, fun v hv => ?_⟩
  obtain ⟨i, hi, rfl⟩ := getD_at (d := dV) hv
  have := hh.2 i (by omega)
  exact wide_ok this.wide this.num
theorem rowM_ok {ts : List Ty} (hts : ∀ t ∈ ts, TyOk t) {b : List Int} (hb : ∀ x ∈ b, 0 ≤ x ∧ x < 256) : (rowM ts b).length = ts.length ∧ ∀ i, i < ts.length → Drawn (ts.getD i dTy) ((rowM ts b).getD i dV) := by
  refine ⟨rowM_len ts b, fun i hi => ?_⟩
  have e : (rowM ts b).getD i dV = cellM ts b i := by
    unfold rowM
    simp [List.getD_eq_getElem?_getD, hi]
  rw [e]
  exact drawn (hts _ (mem_at ts dTy hi)) (byte_mem hb _)
theorem rowsM_ok {ts : List Ty} (hts : ∀ t ∈ ts, TyOk t) {bs : List (List Int)} (hb : ∀ b ∈ bs, ∀ x ∈ b, 0 ≤ x ∧ x < 256) : RowsOk ts (rowsM ts bs) ∧ (rowsM ts bs).length ≤ 12 := by
  have hl : (rowsM ts bs).length ≤ 12 := by unfold rowsM; rw [List.length_map, List.length_take]; omega
  refine ⟨⟨by omega, fun r hr => ?_⟩, hl⟩
  simp only [rowsM, List.mem_map] at hr
  obtain ⟨b, hb', rfl⟩ := hr
  exact rowM_ok hts (hb b (List.mem_of_mem_take hb'))
theorem col_gd {ts : List Ty} {rows : List (List Vl)} (h : RowsOk ts rows) {i : Nat} (hi : i < ts.length) : Gd (ts.getD i dTy).k (colM rows i) := by
  have hd : ∀ v ∈ colM rows i, Drawn (ts.getD i dTy) v := by
    intro v hv
    simp only [colM, List.mem_map] at hv
    obtain ⟨r, hr, rfl⟩ := hv
    exact (h.2 r hr).2 i hi
  exact ⟨fun v hv => (hd v hv).wide, fun v hv => (hd v hv).kind, fun v hv => (hd v hv).num⟩
theorem col_len (rows : List (List Vl)) (i : Nat) : (colM rows i).length = rows.length := by simp [colM]
theorem columns_at {n : Nat} {rows : List (List Vl)} {i : Nat} (h : i < n) : (columnsM n rows).getD i zeroBd = (ofM (colM rows i)).1 := by
  simp [columnsM, List.getD_eq_getElem?_getD, h]
theorem col_is {ts : List Ty} {rows : List (List Vl)} (h : RowsOk ts rows) {i : Nat} (hi : i < ts.length) : IsS (colM rows i) ((columnsM ts.length rows).getD i zeroBd) ∧ (ofM (colM rows i)).2 = 0 := by
  obtain ⟨c, h1, h2⟩ := ofM_is (col_gd h hi) (by rw [col_len]; exact h.1)
  rw [columns_at hi, h1]
  exact ⟨h2, rfl⟩
theorem columns_bd {ts : List Ty} {rows : List (List Vl)} (h : RowsOk ts rows) : ∀ b ∈ columnsM ts.length rows, BdOk b := by
  intro b hb
  obtain ⟨i, hi, rfl⟩ := getD_at (d := zeroBd) hb
  rw [columnsM_len] at hi
  exact (col_is h hi).1.ok (col_gd h hi) (by rw [col_len]; exact h.1)
end
section
set_option linter.unusedVariables false
set_option linter.unusedSimpArgs false
open Go.RowKit
theorem never_append (F : Ex → Sp) : ∀ l m : List Ex, neverM F (l ++ m) = (neverM F l || neverM F m)
  | [], m => by simp [neverM]
  | e :: l, m => by
    simp only [List.cons_append, neverM, never_append F l m]
    split <;> simp
theorem never_conj (B : List Bd) : ∀ e : Ex, neverM (rangeM B) (conj e) = !yesM (rangeM B e)
  | .leaf op c v => by
    rw [show conj (.leaf op c v) = [.leaf op c v] from rfl]
    unfold neverM
    split
    · rename_i h; rw [h]; rfl
    · rename_i h; rw [Bool.not_eq_true] at h; rw [h]; rfl
  | .un op a => by
    rw [show conj (.un op a) = [.un op a] from rfl]
    unfold neverM
    split
    · rename_i h; rw [h]; rfl
    · rename_i h; rw [Bool.not_eq_true] at h; rw [h]; rfl
  | .bi op a b => by
    unfold conj
    split
    · rename_i h6
      subst h6
      rw [never_append, never_conj B a, never_conj B b]
      have e : rangeM B (.bi 6 a b) = andM (rangeM B a) (rangeM B b) := rfl
      rw [e, andM, yes_truth, Bool.not_and]
    · unfold neverM
      split
      · rename_i h; rw [h]; rfl
      · rename_i h; rw [Bool.not_eq_true] at h; rw [h]; rfl
theorem valid_has {b : Bd} (h : validB b = true) (hh : b.has = true) : wideV b.lo = true ∧ wideV b.hi = true ∧ isNull b.lo = false ∧ b.lo.k = b.hi.k ∧ leV b.lo b.hi := by
  unfold validB at h
  rw [hh] at h
  simp only [decide_eq_true_eq, Bool.true_eq_false, if_false] at h
  iterate 9 (split at h; · cases h)
  rename_i h1 h2 h3 h4 h5
  refine ⟨by simpa using h1, by simpa using h2, by simpa using h3, by simpa using h4, ?_⟩
  have : decide (cmpV b.lo b.hi ≤ 0) = true := by simpa using h5
  exact (of_decide_eq_true this : cmpV b.lo b.hi ≤ 0)
theorem valid_no {b : Bd} (h : validB b = true) (hh : b.has = false) : b.lo = nullV ∧ b.hi = nullV := by
  unfold validB at h
  rw [hh] at h
  simp only [if_true] at h
  iterate 4 (split at h; · cases h)
  unfold bareB at h
  simp only [Bool.and_eq_true, beq_iff_eq] at h
  obtain ⟨⟨a1, a2, a3⟩, ⟨b1, b2, b3⟩, _⟩ := h
  obtain ⟨n, bh, ⟨lk, li, ls⟩, ⟨hk, hi, hs⟩, sm⟩ := b
  simp only at a1 a2 a3 b1 b2 b3
  have e1 := noS_eq (s := ls) (by unfold noS; rw [beq_iff_eq]; exact a3)
  have e2 := noS_eq (s := hs) (by unfold noS; rw [beq_iff_eq]; exact b3)
  subst a1; subst a2; subst e1; subst b1; subst b2; subst e2
  exact ⟨rfl, rfl⟩
theorem suits_ok {ts : List Ty} (hts : ∀ t ∈ ts, TyOk t) {B : List Bd} (hB : B.length = ts.length) (hok : ∀ b ∈ B, BdOk b) (h : suitsM ts B (List.range ts.length) = true) : BdsOk ts B := by
  have key : ∀ l : List Nat, suitsM ts B l = true → ∀ i ∈ l, suitOk (ts.getD i dTy) (B.getD i zeroBd) = true := by
    intro l
    induction l with
    | nil => intro _ i hi; cases hi
    | cons a l ih =>
      intro h i hi
      unfold suitsM at h
      split at h
      · rename_i ha
        rcases List.mem_cons.1 hi with rfl | hi
        · exact ha
        · exact ih h i hi
      · cases h
  refine ⟨by omega, fun c hc => ?_⟩
  have hs := key _ h c (by simpa using hc)
  have hb := hok _ (mem_at B zeroBd (by omega : c < B.length))
  have ht := hts _ (mem_at ts dTy hc)
  generalize ts.getD c dTy = t at *
  generalize B.getD c zeroBd = b at *
  unfold suitOk at hs
  split at hs
  · cases hs
  rename_i hv
  rw [Bool.not_eq_false] at hv
  refine ⟨fun hh => ?_, fun hh => valid_no hv hh⟩
  have hh : b.has = true := hh
  rw [hh, if_neg (by decide), beq_iff_eq] at hs
  obtain ⟨w1, w2, w3, w4, w5⟩ := valid_has hv hh
  have k1 := KV.ofWide w1 hb.lo.i (by rw [hs]; exact ht.k)
  have k2 := KV.ofWide w2 hb.hi.i (by rw [← w4, hs]; exact ht.k)
  rw [hs] at k1
  rw [← w4, hs] at k2
  exact ⟨k1, k2, w5⟩
end
section
set_option linter.unusedVariables false
set_option linter.unusedSimpArgs false
open Go.RowKit
attribute [local irreducible] Spec SpecF SpecN
attribute [local irreducible] AWp evOps evD
theorem has_lens3 {m : Mem} {v : Value} {n0 n1 n2 : Nat} {r0 r1 r2 : List (List Dat)} (h : Has m (.agg [.d (.sl n0 r0), .d (.sl n1 r1), .d (.sl n2 r2)]) v) : r1.length ≤ 9223372036854775807 ∧ r2.length ≤ 9223372036854775807 := by
  simp only [Has] at h
  obtain ⟨vs, -, hvs⟩ := h
  match vs, hvs.length with
  | [a, b, c], _ =>
    simp only [HasL] at hvs
    exact ⟨has_len hvs.2.1, has_len hvs.2.2.1⟩
abbrev bds3 (z0 z1 z2 : Bd) : List AV := bd z0 ++ (bd z1 ++ bd z2)
structure Alike (ts : List Ty) (e : Ex) (X : List Bd) : Prop where
  suits : Spec Tryd.prog 20 [.d (tys ts), .d (bds X), .agg (exA e)] (litB (suitsM ts X (List.range ts.length)))
  same : suitsM ts X (List.range ts.length) = true → ∃ x y u : Bool, Spec Tryd.prog 21 [.d (bds X), .agg (exA e)] (.agg [litB x, litB y, litB u]) ∧ Spec Tryd.prog 22 [.d (bds X), .agg (exA e)] (.agg [litB x, litB y, litB u]) ∧ Spec Tryd.prog 23 [.d (bds X), .agg (exA e)] (litB (!y)) ∧ Spec Tryd.prog 24 [.d (bds X), .agg (exA e)] (litB (!y))
theorem alike {ts : List Ty} (hts : ∀ t ∈ ts, TyOk t) (hl : ts.length ≤ 6) {e : Ex} (he : Typ ts 1 e) (hs : sizeE e ≤ 15) {X : List Bd} (hX : X.length = ts.length) (hok : ∀ b ∈ X, BdOk b) : Alike ts e X := by
  refine ⟨f20_spec ts hts hl X hX hok e he (by omega), fun h => ?_⟩
  have o := suits_ok hts hX hok h
  have hc := conj_len e
  have n1 := f23_spec (bds X) e (conj e) (rangeM X) (fun p hp => range_spec o (typ_conj e he p hp)) (f49_spec e (typ_okC he) (by omega)) (by omega)
  rw [never_conj] at n1
  exact ⟨_, _, _, f21_spec _ _ _ (range_spec o he), f22_spec _ _ _ (range_ref o he), n1, f24_spec _ _ _ (range_ref o he)⟩
end
end Go.Proofs.YtopigomfhggkoaaDoor.A
