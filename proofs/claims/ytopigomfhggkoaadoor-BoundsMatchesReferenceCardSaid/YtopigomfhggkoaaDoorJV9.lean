/- Ranges in the reference: the small walks. Ranges of expressions: operator 5. (Written by mk11.py.) Ranges of expressions: operator 10. (Written by mk11.py.) Ranges of expressions: operator 11. (Written by mk11.py.) Ranges of expressions: operator 12. (Written by mk11.py.) Ranges of expressions: operator 6. (Written by mk11.py.) Ranges of expressions: operator 7. (Written by mk11.py.) -/
import Derived.Test.YtopigomfhggkoaaDoorJV8
import Derived.Test.YtopigomfhggkoaaDoorJV4
namespace Go.Proofs.YtopigomfhggkoaaDoor.A
section
set_option linter.unusedVariables false
set_option linter.unusedSimpArgs false
open Go.RowKit
attribute [local irreducible] Spec SpecF SpecN
attribute [local irreducible] AWp evOps evD
theorem f68_spec (n y u : Bool) : Spec Tryd.prog 68 [litB n, litB y, litB u] (.agg (sp (truthM n y u))) := by
  have a1 := f71_spec (!n)
  have a2 := f71_spec y
  cases n <;> cases y
  all_goals
    simp only [Bool.not_true, Bool.not_false] at a1
    refine spec_of_awp (fn := Tryd.f68) Tryd.func68 (by kernel_rfl) rfl ?_
    intro w0 C0
    simp only [Tryd.ntmps68, go_sem]
    repeat' first | refine awp_seq ?_ | refine awp_block ?_ | refine awp_skip ?_ | (apply regB; (case hd => exact hdA); intro K hK) | (apply ev_guardU; (case hj | hu | hσ => (simp only [go_sem]; try rfl))) | ((first | refine awp_cond _ (by rfl) ?_ ?_ | ((first | apply ev_guardT | apply ev_guardF); (case hj | hb => (simp only [go_sem]; try rfl)))) <;> (first | refine ttA ?_ | refine ffA ?_ | (intro hb; first | (cases hb; done) | simp only [hb] | skip))) | ((first | apply awp_exit | apply awp_ret); refine tqA ?_) | (refine ev_nil (hK _ ?_); clear hK K) | (apply ev_call0; (case hys => (simp only [go_sem]; try rfl)); (case hs => first | exact a1 .. | exact a2 ..); (case hok | hσ => (simp only [go_sem]; try rfl))) | (apply ev_step0; (case hr | hσ => (simp only [go_sem]; try rfl)); (case hc => exact hcA)) | (apply ev_step; (case hr | hσ => (intros; simp only [go_sem]; try rfl)); (case hc => exact hcA); intro g u; (try clear u); (try clear g)) | fail
    all_goals (refine resR_oneA ?_; simp only [go_sem])
    exact LeA.refl _
theorem f47_spec (s : Sp) : Spec Tryd.prog 47 [.agg (sp s)] (litB (noM s)) := by
  have a1 := f71_spec false
  obtain ⟨n, h, lo, hi⟩ := s
  cases h
  all_goals
    refine spec_of_awp (fn := Tryd.f47) Tryd.func47 (by kernel_rfl) rfl ?_
    intro w0 C0
    simp only [Tryd.ntmps47, go_sem]
    repeat' first | refine awp_seq ?_ | (apply regB; (case hd => exact hdA); intro K hK) | (apply awp_ret; refine tqA ?_) | (refine ev_nil (hK _ ?_); clear hK K) | (apply regDB; (case hd => exact hdA); (case' h => (intro K hK; (repeat' first | (apply evd_nil; refine (hK _ ?_); clear hK K) | (apply evd_guardU0; (case hj | hu | hσ => (simp only [go_sem]; try rfl))) | (apply evd_guardU; (case hj | hu | hσ => (simp only [go_sem]; try rfl))) | (apply evd_skipT0; (case hj | hb | hσ => (simp only [go_sem]; try rfl))) | (apply evd_skipF0; (case hj | hb | hσ => (simp only [go_sem]; try rfl))) | (apply evd_skipT; (case hj | hb | hσ => (simp only [go_sem]; try rfl))) | (apply evd_skipF; (case hj | hb | hσ => (simp only [go_sem]; try rfl))) | (apply evd_guardT; (case hj | hb => (simp only [go_sem]; try rfl)); (case' h2 => (intro hb; first | (cases hb; done) | (simp only [hb]) | skip)); (case' h1 => (intro hb; first | (cases hb; done) | (simp only [hb]) | skip))) | (apply evd_guardF; (case hj | hb => (simp only [go_sem]; try rfl)); (case' h2 => (intro hb; first | (cases hb; done) | (simp only [hb]) | skip)); (case' h1 => (intro hb; first | (cases hb; done) | (simp only [hb]) | skip))) | (apply evd_call0; (case hi | hys => (simp only [go_sem]; try rfl)); (case hs => first | exact a1 ..); (case hok | hw | hσ => (simp only [go_sem]; try rfl))) | (apply evd_step0; (case hr | hi | hσ => (simp only [go_sem]; try rfl)); (case hc => exact hcA)) | (apply evd_step; (case hr | hi | hw | hσ => (intros; simp only [go_sem]; try rfl)); (case hc => exact hcA); (case' hk => (intro g u; (try clear u); (try clear g)))) | fail))); (case hB => kernel_rfl)) | (apply ev_step0; (case hr | hσ => (simp only [go_sem]; try rfl)); (case hc => exact hcA)) | (apply ev_step; (case hr | hσ => (intros; simp only [go_sem]; try rfl)); (case hc => exact hcA); intro g u; (try clear u); (try clear g)) | fail
    all_goals (refine resR_oneA ?_; simp only [go_sem])
    exact LeA.refl _
theorem f48_spec (s : Sp) : Spec Tryd.prog 48 [.agg (sp s)] (litB (yesM s)) := by
  have a1 := f71_spec true
  obtain ⟨n, h, lo, hi⟩ := s
  cases h
  all_goals
    refine spec_of_awp (fn := Tryd.f48) Tryd.func48 (by kernel_rfl) rfl ?_
    intro w0 C0
    simp only [Tryd.ntmps48, go_sem]
    repeat' first | refine awp_seq ?_ | (apply regB; (case hd => exact hdA); intro K hK) | (apply awp_ret; refine tqA ?_) | (refine ev_nil (hK _ ?_); clear hK K) | (apply regDB; (case hd => exact hdA); (case' h => (intro K hK; (repeat' first | (apply evd_nil; refine (hK _ ?_); clear hK K) | (apply evd_guardU0; (case hj | hu | hσ => (simp only [go_sem]; try rfl))) | (apply evd_guardU; (case hj | hu | hσ => (simp only [go_sem]; try rfl))) | (apply evd_skipT0; (case hj | hb | hσ => (simp only [go_sem]; try rfl))) | (apply evd_skipF0; (case hj | hb | hσ => (simp only [go_sem]; try rfl))) | (apply evd_skipT; (case hj | hb | hσ => (simp only [go_sem]; try rfl))) | (apply evd_skipF; (case hj | hb | hσ => (simp only [go_sem]; try rfl))) | (apply evd_guardT; (case hj | hb => (simp only [go_sem]; try rfl)); (case' h2 => (intro hb; first | (cases hb; done) | (simp only [hb]) | skip)); (case' h1 => (intro hb; first | (cases hb; done) | (simp only [hb]) | skip))) | (apply evd_guardF; (case hj | hb => (simp only [go_sem]; try rfl)); (case' h2 => (intro hb; first | (cases hb; done) | (simp only [hb]) | skip)); (case' h1 => (intro hb; first | (cases hb; done) | (simp only [hb]) | skip))) | (apply evd_call0; (case hi | hys => (simp only [go_sem]; try rfl)); (case hs => first | exact a1 ..); (case hok | hw | hσ => (simp only [go_sem]; try rfl))) | (apply evd_step0; (case hr | hi | hσ => (simp only [go_sem]; try rfl)); (case hc => exact hcA)) | (apply evd_step; (case hr | hi | hw | hσ => (intros; simp only [go_sem]; try rfl)); (case hc => exact hcA); (case' hk => (intro g u; (try clear u); (try clear g)))) | fail))); (case hB => kernel_rfl)) | (apply ev_step0; (case hr | hσ => (simp only [go_sem]; try rfl)); (case hc => exact hcA)) | (apply ev_step; (case hr | hσ => (intros; simp only [go_sem]; try rfl)); (case hc => exact hcA); intro g u; (try clear u); (try clear g)) | fail
    all_goals (refine resR_oneA ?_; simp only [go_sem])
    exact LeA.refl _
theorem f67_spec (s : Sp) : Spec Tryd.prog 67 [.agg (sp s)] (.agg (sp (notM s))) := by
  have a1 := f47_spec s
  have a2 := f48_spec s
  have a3 := f68_spec (yesM s) (noM s) s.null
  unfold notM
  generalize noM s = n at *
  generalize yesM s = y at *
  refine spec_of_awp (fn := Tryd.f67) Tryd.func67 (by kernel_rfl) rfl ?_
  intro w0 C0
  simp only [Tryd.ntmps67, go_sem]
  repeat' first | refine awp_seq ?_ | (apply regB; (case hd => exact hdA); intro K hK) | (apply awp_ret; refine tqA ?_) | (refine ev_nil (hK _ ?_); clear hK K) | (apply regDB; (case hd => exact hdA); (case' h => (intro K hK; (repeat' first | (apply evd_nil; refine (hK _ ?_); clear hK K) | (apply evd_call0; (case hi | hys => (simp only [go_sem]; try rfl)); (case hs => first | exact a1 .. | exact a2 .. | exact a3 ..); (case hok | hw | hσ => (simp only [go_sem]; try rfl))) | (apply evd_step0; (case hr | hi | hσ => (simp only [go_sem]; try rfl)); (case hc => exact hcA)) | (apply evd_step; (case hr | hi | hw | hσ => (intros; simp only [go_sem]; try rfl)); (case hc => exact hcA); (case' hk => (intro g u; (try clear u); (try clear g)))) | fail))); (case hB => kernel_rfl)) | (apply ev_step0; (case hr | hσ => (simp only [go_sem]; try rfl)); (case hc => exact hcA)) | (apply ev_step; (case hr | hσ => (intros; simp only [go_sem]; try rfl)); (case hc => exact hcA); intro g u; (try clear u); (try clear g)) | fail
  all_goals (refine resR_oneA ?_; simp only [go_sem])
  exact LeA.refl _
def logicM (s t : Sp) : Sp := truthM (noM s || noM t) (yesM s && yesM t) ((s.null && t.null || s.null && yesM t) || t.null && yesM s)
set_option maxHeartbeats 16000000 in
theorem f66_spec (s t : Sp) : Spec Tryd.prog 66 [.agg (sp s), .agg (sp t)] (.agg (sp (logicM s t))) := by
  have a1 := f47_spec s
  have a2 := f47_spec t
  have a3 := f48_spec s
  have a4 := f48_spec t
  unfold logicM
  obtain ⟨n1, h1, lo1, hi1⟩ := s
  obtain ⟨n2, h2, lo2, hi2⟩ := t
  generalize noM ⟨n1, h1, lo1, hi1⟩ = x1 at *
  generalize noM ⟨n2, h2, lo2, hi2⟩ = x2 at *
  generalize yesM ⟨n1, h1, lo1, hi1⟩ = y1 at *
  generalize yesM ⟨n2, h2, lo2, hi2⟩ = y2 at *
  cases x1 <;> cases y1 <;> cases y2 <;> cases n1 <;> cases n2
  all_goals
    refine spec_of_awp (fn := Tryd.f66) Tryd.func66 (by kernel_rfl) rfl ?_
    intro w0 C0
    simp only [Tryd.ntmps66, go_sem]
    repeat' first | refine awp_seq ?_ | (apply regB; (case hd => exact hdA); intro K hK) | (apply awp_ret; refine tqA ?_) | (refine ev_nil (hK _ ?_); clear hK K) | (apply regDB; (case hd => exact hdA); (case' h => (intro K hK; (repeat' first | (apply evd_nil; refine (hK _ ?_); clear hK K) | (apply evd_guardU0; (case hj | hu | hσ => (simp only [go_sem]; try rfl))) | (apply evd_guardU; (case hj | hu | hσ => (simp only [go_sem]; try rfl))) | (apply evd_skipT0; (case hj | hb | hσ => (simp only [go_sem]; try rfl))) | (apply evd_skipF0; (case hj | hb | hσ => (simp only [go_sem]; try rfl))) | (apply evd_skipT; (case hj | hb | hσ => (simp only [go_sem]; try rfl))) | (apply evd_skipF; (case hj | hb | hσ => (simp only [go_sem]; try rfl))) | (apply evd_guardT; (case hj | hb => (simp only [go_sem]; try rfl)); (case' h2 => (intro hb; first | (cases hb; done) | (simp only [hb]) | skip)); (case' h1 => (intro hb; first | (cases hb; done) | (simp only [hb]) | skip))) | (apply evd_guardF; (case hj | hb => (simp only [go_sem]; try rfl)); (case' h2 => (intro hb; first | (cases hb; done) | (simp only [hb]) | skip)); (case' h1 => (intro hb; first | (cases hb; done) | (simp only [hb]) | skip))) | (apply evd_call0; (case hi | hys => (simp only [go_sem]; try rfl)); (case hs => first | exact a1 .. | exact a2 .. | exact a3 .. | exact a4 .. | exact f68_spec ..); (case hok | hw | hσ => (simp only [go_sem]; try rfl))) | (apply evd_step0; (case hr | hi | hσ => (simp only [go_sem]; try rfl)); (case hc => exact hcA)) | (apply evd_step; (case hr | hi | hw | hσ => (intros; simp only [go_sem]; try rfl)); (case hc => exact hcA); (case' hk => (intro g u; (try clear u); (try clear g)))) | fail))); (case hB => kernel_rfl)) | (apply ev_step0; (case hr | hσ => (simp only [go_sem]; try rfl)); (case hc => exact hcA)) | (apply ev_step; (case hr | hσ => (intros; simp only [go_sem]; try rfl)); (case hc => exact hcA); intro g u; (try clear u); (try clear g)) | fail
    all_goals (refine resR_oneA ?_; simp only [go_sem])
    exact LeA.refl _
theorem no_truth (n y u : Bool) : noM (truthM n y u) = n := by
  unfold truthM
  cases n <;> cases y <;> simp [noM, isBool] <;> first | exact (eqVl_iff _ _).2 rfl | (rw [← Bool.not_eq_true, eqVl_iff]; simp [boolV]) | skip
theorem yes_truth (n y u : Bool) : yesM (truthM n y u) = y := by
  unfold truthM
  cases n <;> cases y <;> simp [yesM, isBool] <;> first | exact (eqVl_iff _ _).2 rfl | (rw [← Bool.not_eq_true, eqVl_iff]; simp [boolV]) | skip
theorem null_truth (n y u : Bool) : (truthM n y u).null = u := by
  unfold truthM; split <;> rfl
theorem logic_and (s t : Sp) : logicM s t = andM s t := by
  unfold logicM andM
  congr 1
  cases s.null <;> cases t.null <;> cases yesM s <;> cases yesM t <;> rfl
theorem logic_or (s t : Sp) : notM (logicM (notM s) (notM t)) = orM s t := by
  unfold notM logicM orM
  simp only [no_truth, yes_truth, null_truth]
  congr 1
  cases s.null <;> cases t.null <;> cases noM s <;> cases noM t <;> rfl
def numM (lo hi : Int) (u : Bool) : Sp :=
  if (decide (hi < -4000000000000000000) || decide (lo > 4000000000000000000)) = true then ⟨true, false, nullV, nullV⟩
  else ⟨u || !(decide (lo ≥ -4000000000000000000) && decide (hi ≤ 4000000000000000000)), true, ⟨2, clampLo lo, ⟨#[]⟩⟩, ⟨2, clampHi hi, ⟨#[]⟩⟩⟩
set_option maxHeartbeats 8000000 in
theorem f69_spec (lo hi : Int) (u : Bool) : Spec Tryd.prog 69 [litI .i64 lo, litI .i64 hi, litB u] (.agg (sp (numM lo hi u))) := by
  unfold numM
  cases d1 : decide (hi < -4000000000000000000) <;> cases d2 : decide (lo > 4000000000000000000) <;> cases d3 : decide (lo ≥ -4000000000000000000) <;> cases d4 : decide (hi ≤ 4000000000000000000) <;> cases u
  all_goals simp only [Bool.and_self, Bool.and_true, Bool.and_false, Bool.true_or, Bool.false_or, Bool.or_self, Bool.or_true, Bool.or_false, Bool.false_eq_true, Bool.not_true, Bool.not_false, if_true, if_false]
  all_goals
    refine spec_of_awp (fn := Tryd.f69) Tryd.func69 (by kernel_rfl) rfl ?_
    intro w0 C0
    simp only [Tryd.ntmps69, go_sem]
    all_goals have H := And.intro d1 (And.intro d2 (And.intro d3 d4))
    repeat' first | refine awp_seq ?_ | refine awp_block ?_ | refine awp_skip ?_ | (apply regB; (case hd => exact hdA); intro K hK) | (apply ev_guardU; (case hj | hu | hσ => (simp only [go_sem, H]; try rfl))) | ((first | refine awp_cond _ (by rfl) ?_ ?_ | ((first | apply ev_guardT | apply ev_guardF); (case hj | hb => (simp only [go_sem, H]; try rfl)))) <;> (first | refine ttA ?_ | refine ffA ?_ | (intro hb; first | (cases hb; done) | simp only [hb] | skip))) | ((first | apply awp_exit | apply awp_ret); refine tqA ?_) | (refine ev_nil (hK _ ?_); clear hK K) | (apply ev_call0; (case hys => (simp only [go_sem, H]; try rfl)); (case hs => first | exact f28_spec ..); (case hok | hσ => (simp only [go_sem, H]; try rfl))) | (apply ev_step0; (case hr | hσ => (simp only [go_sem, H]; try rfl)); (case hc => exact hcA)) | (apply ev_step; (case hr | hσ => (intros; simp only [go_sem, H]; try rfl)); (case hc => exact hcA); intro g u; (try clear u); (try clear g)) | fail
    all_goals try clear H
    all_goals (refine resR_oneA ?_; simp only [go_sem])
    exact LeA.refl _
theorem f81_spec (a p : Vl) (ha : a.s.size ≤ 4611686018427387904) (hp : p.s.size ≤ 4611686018427387904) : Spec Tryd.prog 81 [.agg (vl a), .agg (vl p)] (litB (hasPre a.s p.s)) := by
  cases d1 : decide ((a.s.size : Int) ≥ (p.s.size : Int)) with
  | false =>
    have d2 : decide ((p.s.size : Int) ≤ (a.s.size : Int)) = false := d1
    rw [hasPre, d1, Bool.false_and]
    refine spec_of_awp (fn := Tryd.f81) Tryd.func81 (by kernel_rfl) rfl ?_
    intro w0 C0
    simp only [Tryd.ntmps81, go_sem]
    repeat' first | refine awp_seq ?_ | (apply regB; (case hd => exact hdA); intro K hK) | (apply awp_ret; refine tqA ?_) | (refine ev_nil (hK _ ?_); clear hK K) | (apply regDB; (case hd => exact hdA); (case' h => (intro K hK; (repeat' first | (apply evd_nil; refine (hK _ ?_); clear hK K) | (apply evd_guardU0; (case hj | hu | hσ => (simp only [go_sem, d2]; try rfl))) | (apply evd_guardU; (case hj | hu | hσ => (simp only [go_sem, d2]; try rfl))) | (apply evd_skipT0; (case hj | hb | hσ => (simp only [go_sem, d2]; try rfl))) | (apply evd_skipF0; (case hj | hb | hσ => (simp only [go_sem, d2]; try rfl))) | (apply evd_skipT; (case hj | hb | hσ => (simp only [go_sem, d2]; try rfl))) | (apply evd_skipF; (case hj | hb | hσ => (simp only [go_sem, d2]; try rfl))) | (apply evd_guardT; (case hj | hb => (simp only [go_sem, d2]; try rfl)); (case' h2 => (intro hb; first | (cases hb; done) | (simp only [hb]) | skip)); (case' h1 => (intro hb; first | (cases hb; done) | (simp only [hb]) | skip))) | (apply evd_guardF; (case hj | hb => (simp only [go_sem, d2]; try rfl)); (case' h2 => (intro hb; first | (cases hb; done) | (simp only [hb]) | skip)); (case' h1 => (intro hb; first | (cases hb; done) | (simp only [hb]) | skip))) | (apply evd_step0; (case hr | hi | hσ => (simp only [go_sem, d2]; try rfl)); (case hc => exact hcA)) | (apply evd_step; (case hr | hi | hw | hσ => (intros; simp only [go_sem, d2]; try rfl)); (case hc => exact hcA); (case' hk => (intro g u; (try clear u); (try clear g)))) | fail))); (case hB => kernel_rfl)) | (apply ev_step0; (case hr | hσ => (simp only [go_sem, d2]; try rfl)); (case hc => exact hcA)) | (apply ev_step; (case hr | hσ => (intros; simp only [go_sem, d2]; try rfl)); (case hc => exact hcA); intro g u; (try clear u); (try clear g)) | fail
    all_goals (refine resR_oneA ?_; simp only [go_sem])
    exact LeA.refl _
  | true =>
    have d2 : decide ((p.s.size : Int) ≤ (a.s.size : Int)) = true := d1
    have h := of_decide_eq_true d1
    rw [hasPre, d1, Bool.true_and]
    refine spec_of_awp (fn := Tryd.f81) Tryd.func81 (by kernel_rfl) rfl ?_
    intro w0 C0
    simp only [Tryd.ntmps81, go_sem]
    repeat' first | refine awp_seq ?_ | (apply regB; (case hd => exact hdA); intro K hK) | (apply awp_ret; refine tqA ?_) | (refine ev_nil (hK _ ?_); clear hK K) | (apply regDB; (case hd => exact hdA); (case' h => (intro K hK; (repeat' first | (apply evd_nil; refine (hK _ ?_); clear hK K) | (apply evd_guardU0; (case hj | hu | hσ => (simp only [go_sem, d2]; try rfl))) | (apply evd_guardU; (case hj | hu | hσ => (simp only [go_sem, d2]; try rfl))) | (apply evd_skipT0; (case hj | hb | hσ => (simp only [go_sem, d2]; try rfl))) | (apply evd_skipF0; (case hj | hb | hσ => (simp only [go_sem, d2]; try rfl))) | (apply evd_skipT; (case hj | hb | hσ => (simp only [go_sem, d2]; try rfl))) | (apply evd_skipF; (case hj | hb | hσ => (simp only [go_sem, d2]; try rfl))) | (apply evd_guardT; (case hj | hb => (simp only [go_sem, d2]; try rfl)); (case' h2 => (intro hb; first | (cases hb; done) | (simp only [hb]) | skip)); (case' h1 => (intro hb; first | (cases hb; done) | (simp only [hb]) | skip))) | (apply evd_guardF; (case hj | hb => (simp only [go_sem, d2]; try rfl)); (case' h2 => (intro hb; first | (cases hb; done) | (simp only [hb]) | skip)); (case' h1 => (intro hb; first | (cases hb; done) | (simp only [hb]) | skip))) | (apply evd_step0; (case hr | hi | hσ => (simp only [go_sem, d2]; try rfl)); (case hc => exact hcA)) | (apply evd_step; (case hr | hi | hw | hσ => (intros; simp only [go_sem, d2]; try rfl)); (case hc => exact hcA); (case' hk => (intro g u; (try clear u); (try clear g)))) | fail))); (case hB => kernel_rfl)) | (apply ev_step0; (case hr | hσ => (simp only [go_sem, d2]; try rfl)); (case hc => exact hcA)) | (apply ev_step; (case hr | hσ => (intros; simp only [go_sem, d2]; try rfl)); (case hc => exact hcA); intro g u; (try clear u); (try clear g)) | fail
    all_goals (refine resR_oneA ?_; simp only [go_sem])
    exact LeA.refl _
end
section
set_option linter.unusedVariables false
set_option linter.unusedSimpArgs false
open Go.RowKit
attribute [local irreducible] Spec SpecF SpecN
attribute [local irreducible] AWp evOps evD
set_option maxHeartbeats 4000000 in
theorem f43_op5 (B : Dat) (e1 e2 : Ex) (s t r : Sp) (h1 : Spec Tryd.prog 43 [.d B, .agg (exA e1)] (.agg (sp s))) (h2 : Spec Tryd.prog 43 [.d B, .agg (exA e2)] (.agg (sp t))) (hf : Spec Tryd.prog 112 [.agg (sp s), .agg (sp t)] (.agg (sp r))) : Spec Tryd.prog 43 [.d B, .agg (exA (.bi 5 e1 e2))] (.agg (sp (strictM s t r))) := by
  obtain ⟨sn, sh, slo, shi⟩ := s
  obtain ⟨tn, th, tlo, thi⟩ := t
  simp only [exA, opE_bi, cE_bi, vE_bi, argsD_bi] at h1 h2 ⊢
  refine spec_of_awp (fn := Tryd.f43) Tryd.func43 (by kernel_rfl) rfl ?_
  intro w0 C0
  simp only [Tryd.ntmps43, go_sem]
  repeat' first | refine awp_seq ?_ | refine awp_block ?_ | refine awp_skip ?_ | (apply regB; (case hd => exact hdA); intro K hK) | (apply ev_guardU; (case hj | hu | hσ => (simp only [go_sem]; try rfl))) | ((first | refine awp_cond _ (by rfl) ?_ ?_ | ((first | apply ev_guardT | apply ev_guardF); (case hj | hb => (simp only [go_sem]; try rfl)))) <;> (first | refine ttA ?_ | refine ffA ?_ | (intro hb; first | (cases hb; done) | simp only [hb] | skip))) | ((first | apply awp_exit | apply awp_ret); refine tqA ?_) | (refine ev_nil (hK _ ?_); clear hK K) | (apply ev_step0; (case hr | hσ => (simp only [go_sem]; try rfl)); (case hc => exact hcA)) | (apply ev_step; (case hr | hσ => (intros; simp only [go_sem]; try rfl)); (case hc => exact hcA); intro g u; (try clear u); (try clear g)) | fail
  rename_i g3 g4
  revert g; intro g6
  refine awp_loopI (fun i : Nat => i ≤ 2) (fun i => 2 - i) (fun i => ⟨[.d B, .any, .any, .ptr 3 g3 0, .ptr 4 g4 0, .any, .ptr 6 g6 0, .any, .any, .any, .any, .any, .any, .any, .any, .any, .any, .any, .any, .any, .any, .any, .any, .any, .any, .any, .any, .any, .any, .any, .any, .any, .any, .any, .any, .any, .any, .any, .any, .d (.sl 6 [exD e1, exD e2]), litI .i64 2, litI .i64 i, .any, .any, .any, .any, .any, .any, .any, .any, .any, .any, .any, .any, .any, .any, .any, .any, .any, .any, .any, .any, .any, .any, .any, .any, .any, .any, .any, .any, .any, .any, .any, .any, .any, .any, .any, .any, .any, .any, .any, .any, .any, .any, .any, .any, .any, .any, .any, .any, .any, .any, .any, .any, .any, .any, .any], [.no, .no, .no, .box g3 (exA (.bi 5 e1 e2)), .box g4 zsp, .no, .box g6 (arrS ⟨sn, sh, slo, shi⟩ ⟨tn, th, tlo, thi⟩ i), .no, .no, .no, .no, .no, .no, .no, .no, .no, .no, .no, .no, .no, .no, .no, .no, .no, .no, .no, .no, .no, .no, .no, .no, .no, .no, .no, .no, .no, .no, .no, .no, .no, .no, .no, .no, .no, .no, .no, .no, .no, .no, .no, .no, .no, .no, .no, .no, .no, .no, .no, .no, .no, .no, .no, .no, .no, .no, .no, .no, .no, .no, .no, .no, .no, .no, .no, .no, .no, .no, .no, .no, .no, .no, .no, .no, .no, .no, .no, .no, .no, .no, .no, .no, .no, .no, .no, .no, .no, .no]⟩) 0 (by omega) ?_ ?_
  · simp only [arrS, exA, opE_bi, cE_bi, vE_bi, argsD_bi]
    exact wkA
  intro i hi
  simp only [litI, litB, litS] at hi h1 h2 hf ⊢
  obtain rfl | rfl | rfl : i = 0 ∨ i = 1 ∨ i = 2 := by omega
  · simp only [arrS, exA, opE_bi, cE_bi, vE_bi, argsD_bi, litI, litB, litS]
    have d1 : decide (((0 : Nat) : Int) < 2) = true := by decide
    repeat' first | refine awp_seq ?_ | refine awp_block ?_ | refine awp_skip ?_ | (apply regB; (case hd => exact hdA); intro K hK) | (apply ev_guardU; (case hj | hu | hσ => (simp only [go_sem, d1]; try rfl))) | ((first | refine awp_cond _ (by rfl) ?_ ?_ | ((first | apply ev_guardT | apply ev_guardF); (case hj | hb => (simp only [go_sem, d1]; try rfl)))) <;> (first | refine ttA ?_ | refine ffA ?_ | (intro hb; first | (cases hb; done) | simp only [hb] | skip))) | ((first | apply awp_exit | apply awp_ret); refine tqA ?_) | (refine ev_nil (hK _ ?_); clear hK K) | (apply ev_call0; (case hys => (simp only [go_sem, d1]; try rfl)); (case hs => first | exact h1 ..); (case hok | hσ => (simp only [go_sem, d1]; try rfl))) | (apply ev_callC; (case hf | hys => (simp only [go_sem, d1]; try rfl)); (case hs => first | exact h1 ..); (case hok | hσ => (simp only [go_sem, d1]; try rfl))) | (apply ev_step0; (case hr | hσ => (simp only [go_sem, d1]; try rfl)); (case hc => exact hcA)) | (apply ev_step; (case hr | hσ => (intros; simp only [go_sem, d1]; try rfl)); (case hc => exact hcA); intro g u; (try clear u); (try clear g)) | fail
    refine Exists.intro 1 ⟨by omega, by omega, ?_⟩
    simp only [arrS, exA, opE_bi, cE_bi, vE_bi, argsD_bi]
    exact wkA
  · simp only [arrS, exA, opE_bi, cE_bi, vE_bi, argsD_bi, litI, litB, litS]
    have d1 : decide (((1 : Nat) : Int) < 2) = true := by decide
    have w1 : IntKind.i64.wrap (((1 : Nat) : Int) + 1) = 2 := by decide
    all_goals have H := And.intro d1 w1
    repeat' first | refine awp_seq ?_ | refine awp_block ?_ | refine awp_skip ?_ | (apply regB; (case hd => exact hdA); intro K hK) | (apply ev_guardU; (case hj | hu | hσ => (simp only [go_sem, H]; try rfl))) | ((first | refine awp_cond _ (by rfl) ?_ ?_ | ((first | apply ev_guardT | apply ev_guardF); (case hj | hb => (simp only [go_sem, H]; try rfl)))) <;> (first | refine ttA ?_ | refine ffA ?_ | (intro hb; first | (cases hb; done) | simp only [hb] | skip))) | ((first | apply awp_exit | apply awp_ret); refine tqA ?_) | (refine ev_nil (hK _ ?_); clear hK K) | (apply ev_call0; (case hys => (simp only [go_sem, H]; try rfl)); (case hs => first | exact h2 ..); (case hok | hσ => (simp only [go_sem, H]; try rfl))) | (apply ev_callC; (case hf | hys => (simp only [go_sem, H]; try rfl)); (case hs => first | exact h2 ..); (case hok | hσ => (simp only [go_sem, H]; try rfl))) | (apply ev_step0; (case hr | hσ => (simp only [go_sem, H]; try rfl)); (case hc => exact hcA)) | (apply ev_step; (case hr | hσ => (intros; simp only [go_sem, H]; try rfl)); (case hc => exact hcA); intro g u; (try clear u); (try clear g)) | fail
    all_goals try clear H
    refine Exists.intro 2 ⟨by omega, by omega, ?_⟩
    simp only [arrS, exA, opE_bi, cE_bi, vE_bi, argsD_bi]
    exact wkA
  simp only [arrS, exA, opE_bi, cE_bi, vE_bi, argsD_bi, litI, litB, litS]
  have d1 : decide (((2 : Nat) : Int) < 2) = false := by decide
  unfold strictM
  cases sh with
  | false =>
    simp only [Bool.false_and, Bool.false_eq_true, if_false]
    cases sn <;> cases tn
    all_goals
      repeat' first | refine awp_seq ?_ | refine awp_block ?_ | refine awp_skip ?_ | (apply regB; (case hd => exact hdA); intro K hK) | (apply ev_guardU; (case hj | hu | hσ => (simp only [go_sem, d1]; try rfl))) | ((first | refine awp_cond _ (by rfl) ?_ ?_ | ((first | apply ev_guardT | apply ev_guardF); (case hj | hb => (simp only [go_sem, d1]; try rfl)))) <;> (first | refine ttA ?_ | refine ffA ?_ | (intro hb; first | (cases hb; done) | simp only [hb] | skip))) | ((first | apply awp_exit | apply awp_ret); refine tqA ?_) | (refine ev_nil (hK _ ?_); clear hK K) | (apply ev_step0; (case hr | hσ => (simp only [go_sem, d1]; try rfl)); (case hc => exact hcA)) | (apply ev_step; (case hr | hσ => (intros; simp only [go_sem, d1]; try rfl)); (case hc => exact hcA); intro g u; (try clear u); (try clear g)) | fail
      all_goals (refine resR_oneA ?_; simp only [go_sem])
      exact LeA.refl _
  | true =>
  cases th with
  | false =>
    simp only [Bool.and_false, Bool.false_eq_true, if_false]
    cases sn <;> cases tn
    all_goals
      repeat' first | refine awp_seq ?_ | refine awp_block ?_ | refine awp_skip ?_ | (apply regB; (case hd => exact hdA); intro K hK) | (apply ev_guardU; (case hj | hu | hσ => (simp only [go_sem, d1]; try rfl))) | ((first | refine awp_cond _ (by rfl) ?_ ?_ | ((first | apply ev_guardT | apply ev_guardF); (case hj | hb => (simp only [go_sem, d1]; try rfl)))) <;> (first | refine ttA ?_ | refine ffA ?_ | (intro hb; first | (cases hb; done) | simp only [hb] | skip))) | ((first | apply awp_exit | apply awp_ret); refine tqA ?_) | (refine ev_nil (hK _ ?_); clear hK K) | (apply ev_step0; (case hr | hσ => (simp only [go_sem, d1]; try rfl)); (case hc => exact hcA)) | (apply ev_step; (case hr | hσ => (intros; simp only [go_sem, d1]; try rfl)); (case hc => exact hcA); intro g u; (try clear u); (try clear g)) | fail
      all_goals (refine resR_oneA ?_; simp only [go_sem])
      exact LeA.refl _
  | true =>
    simp only [Bool.and_self, if_true]
    obtain ⟨rn, rh, rlo, rhi⟩ := r
    cases rn <;> cases sn <;> cases tn
    all_goals
      repeat' first | refine awp_seq ?_ | refine awp_block ?_ | refine awp_skip ?_ | (apply regB; (case hd => exact hdA); intro K hK) | (apply ev_guardU; (case hj | hu | hσ => (simp only [go_sem, d1]; try rfl))) | ((first | refine awp_cond _ (by rfl) ?_ ?_ | ((first | apply ev_guardT | apply ev_guardF); (case hj | hb => (simp only [go_sem, d1]; try rfl)))) <;> (first | refine ttA ?_ | refine ffA ?_ | (intro hb; first | (cases hb; done) | simp only [hb] | skip))) | ((first | apply awp_exit | apply awp_ret); refine tqA ?_) | (refine ev_nil (hK _ ?_); clear hK K) | (apply ev_call0; (case hys => (simp only [go_sem, d1]; try rfl)); (case hs => first | exact hf ..); (case hok | hσ => (simp only [go_sem, d1]; try rfl))) | (apply ev_callC; (case hf | hys => (simp only [go_sem, d1]; try rfl)); (case hs => first | exact hf ..); (case hok | hσ => (simp only [go_sem, d1]; try rfl))) | (apply ev_step0; (case hr | hσ => (simp only [go_sem, d1]; try rfl)); (case hc => exact hcA)) | (apply ev_step; (case hr | hσ => (intros; simp only [go_sem, d1]; try rfl)); (case hc => exact hcA); intro g u; (try clear u); (try clear g)) | fail
      all_goals (refine resR_oneA ?_; simp only [go_sem])
      exact LeA.refl _
end
section
set_option linter.unusedVariables false
set_option linter.unusedSimpArgs false
open Go.RowKit
attribute [local irreducible] Spec SpecF SpecN
attribute [local irreducible] AWp evOps evD
set_option maxHeartbeats 4000000 in
theorem f43_op10 (B : Dat) (e1 e2 : Ex) (s t r : Sp) (h1 : Spec Tryd.prog 43 [.d B, .agg (exA e1)] (.agg (sp s))) (h2 : Spec Tryd.prog 43 [.d B, .agg (exA e2)] (.agg (sp t))) (hf : Spec Tryd.prog 114 [.agg (sp s), .agg (sp t)] (.agg (sp r))) : Spec Tryd.prog 43 [.d B, .agg (exA (.bi 10 e1 e2))] (.agg (sp (strictM s t r))) := by
  obtain ⟨sn, sh, slo, shi⟩ := s
  obtain ⟨tn, th, tlo, thi⟩ := t
  simp only [exA, opE_bi, cE_bi, vE_bi, argsD_bi] at h1 h2 ⊢
  refine spec_of_awp (fn := Tryd.f43) Tryd.func43 (by kernel_rfl) rfl ?_
  intro w0 C0
  simp only [Tryd.ntmps43, go_sem]
  repeat' first | refine awp_seq ?_ | refine awp_block ?_ | refine awp_skip ?_ | (apply regB; (case hd => exact hdA); intro K hK) | (apply ev_guardU; (case hj | hu | hσ => (simp only [go_sem]; try rfl))) | ((first | refine awp_cond _ (by rfl) ?_ ?_ | ((first | apply ev_guardT | apply ev_guardF); (case hj | hb => (simp only [go_sem]; try rfl)))) <;> (first | refine ttA ?_ | refine ffA ?_ | (intro hb; first | (cases hb; done) | simp only [hb] | skip))) | ((first | apply awp_exit | apply awp_ret); refine tqA ?_) | (refine ev_nil (hK _ ?_); clear hK K) | (apply ev_step0; (case hr | hσ => (simp only [go_sem]; try rfl)); (case hc => exact hcA)) | (apply ev_step; (case hr | hσ => (intros; simp only [go_sem]; try rfl)); (case hc => exact hcA); intro g u; (try clear u); (try clear g)) | fail
  rename_i g3 g4
  revert g; intro g6
  refine awp_loopI (fun i : Nat => i ≤ 2) (fun i => 2 - i) (fun i => ⟨[.d B, .any, .any, .ptr 3 g3 0, .ptr 4 g4 0, .any, .ptr 6 g6 0, .any, .any, .any, .any, .any, .any, .any, .any, .any, .any, .any, .any, .any, .any, .any, .any, .any, .any, .any, .any, .any, .any, .any, .any, .any, .any, .any, .any, .any, .any, .any, .any, .d (.sl 6 [exD e1, exD e2]), litI .i64 2, litI .i64 i, .any, .any, .any, .any, .any, .any, .any, .any, .any, .any, .any, .any, .any, .any, .any, .any, .any, .any, .any, .any, .any, .any, .any, .any, .any, .any, .any, .any, .any, .any, .any, .any, .any, .any, .any, .any, .any, .any, .any, .any, .any, .any, .any, .any, .any, .any, .any, .any, .any, .any, .any, .any, .any, .any, .any], [.no, .no, .no, .box g3 (exA (.bi 10 e1 e2)), .box g4 zsp, .no, .box g6 (arrS ⟨sn, sh, slo, shi⟩ ⟨tn, th, tlo, thi⟩ i), .no, .no, .no, .no, .no, .no, .no, .no, .no, .no, .no, .no, .no, .no, .no, .no, .no, .no, .no, .no, .no, .no, .no, .no, .no, .no, .no, .no, .no, .no, .no, .no, .no, .no, .no, .no, .no, .no, .no, .no, .no, .no, .no, .no, .no, .no, .no, .no, .no, .no, .no, .no, .no, .no, .no, .no, .no, .no, .no, .no, .no, .no, .no, .no, .no, .no, .no, .no, .no, .no, .no, .no, .no, .no, .no, .no, .no, .no, .no, .no, .no, .no, .no, .no, .no, .no, .no, .no, .no, .no]⟩) 0 (by omega) ?_ ?_
  · simp only [arrS, exA, opE_bi, cE_bi, vE_bi, argsD_bi]
    exact wkA
  intro i hi
  simp only [litI, litB, litS] at hi h1 h2 hf ⊢
  obtain rfl | rfl | rfl : i = 0 ∨ i = 1 ∨ i = 2 := by omega
  · simp only [arrS, exA, opE_bi, cE_bi, vE_bi, argsD_bi, litI, litB, litS]
    have d1 : decide (((0 : Nat) : Int) < 2) = true := by decide
    repeat' first | refine awp_seq ?_ | refine awp_block ?_ | refine awp_skip ?_ | (apply regB; (case hd => exact hdA); intro K hK) | (apply ev_guardU; (case hj | hu | hσ => (simp only [go_sem, d1]; try rfl))) | ((first | refine awp_cond _ (by rfl) ?_ ?_ | ((first | apply ev_guardT | apply ev_guardF); (case hj | hb => (simp only [go_sem, d1]; try rfl)))) <;> (first | refine ttA ?_ | refine ffA ?_ | (intro hb; first | (cases hb; done) | simp only [hb] | skip))) | ((first | apply awp_exit | apply awp_ret); refine tqA ?_) | (refine ev_nil (hK _ ?_); clear hK K) | (apply ev_call0; (case hys => (simp only [go_sem, d1]; try rfl)); (case hs => first | exact h1 ..); (case hok | hσ => (simp only [go_sem, d1]; try rfl))) | (apply ev_callC; (case hf | hys => (simp only [go_sem, d1]; try rfl)); (case hs => first | exact h1 ..); (case hok | hσ => (simp only [go_sem, d1]; try rfl))) | (apply ev_step0; (case hr | hσ => (simp only [go_sem, d1]; try rfl)); (case hc => exact hcA)) | (apply ev_step; (case hr | hσ => (intros; simp only [go_sem, d1]; try rfl)); (case hc => exact hcA); intro g u; (try clear u); (try clear g)) | fail
    refine Exists.intro 1 ⟨by omega, by omega, ?_⟩
    simp only [arrS, exA, opE_bi, cE_bi, vE_bi, argsD_bi]
    exact wkA
  · simp only [arrS, exA, opE_bi, cE_bi, vE_bi, argsD_bi, litI, litB, litS]
    have d1 : decide (((1 : Nat) : Int) < 2) = true := by decide
    have w1 : IntKind.i64.wrap (((1 : Nat) : Int) + 1) = 2 := by decide
    all_goals have H := And.intro d1 w1
    repeat' first | refine awp_seq ?_ | refine awp_block ?_ | refine awp_skip ?_ | (apply regB; (case hd => exact hdA); intro K hK) | (apply ev_guardU; (case hj | hu | hσ => (simp only [go_sem, H]; try rfl))) | ((first | refine awp_cond _ (by rfl) ?_ ?_ | ((first | apply ev_guardT | apply ev_guardF); (case hj | hb => (simp only [go_sem, H]; try rfl)))) <;> (first | refine ttA ?_ | refine ffA ?_ | (intro hb; first | (cases hb; done) | simp only [hb] | skip))) | ((first | apply awp_exit | apply awp_ret); refine tqA ?_) | (refine ev_nil (hK _ ?_); clear hK K) | (apply ev_call0; (case hys => (simp only [go_sem, H]; try rfl)); (case hs => first | exact h2 ..); (case hok | hσ => (simp only [go_sem, H]; try rfl))) | (apply ev_callC; (case hf | hys => (simp only [go_sem, H]; try rfl)); (case hs => first | exact h2 ..); (case hok | hσ => (simp only [go_sem, H]; try rfl))) | (apply ev_step0; (case hr | hσ => (simp only [go_sem, H]; try rfl)); (case hc => exact hcA)) | (apply ev_step; (case hr | hσ => (intros; simp only [go_sem, H]; try rfl)); (case hc => exact hcA); intro g u; (try clear u); (try clear g)) | fail
    all_goals try clear H
    refine Exists.intro 2 ⟨by omega, by omega, ?_⟩
    simp only [arrS, exA, opE_bi, cE_bi, vE_bi, argsD_bi]
    exact wkA
  simp only [arrS, exA, opE_bi, cE_bi, vE_bi, argsD_bi, litI, litB, litS]
  have d1 : decide (((2 : Nat) : Int) < 2) = false := by decide
  unfold strictM
  cases sh with
  | false =>
    simp only [Bool.false_and, Bool.false_eq_true, if_false]
    cases sn <;> cases tn
    all_goals
      repeat' first | refine awp_seq ?_ | refine awp_block ?_ | refine awp_skip ?_ | (apply regB; (case hd => exact hdA); intro K hK) | (apply ev_guardU; (case hj | hu | hσ => (simp only [go_sem, d1]; try rfl))) | ((first | refine awp_cond _ (by rfl) ?_ ?_ | ((first | apply ev_guardT | apply ev_guardF); (case hj | hb => (simp only [go_sem, d1]; try rfl)))) <;> (first | refine ttA ?_ | refine ffA ?_ | (intro hb; first | (cases hb; done) | simp only [hb] | skip))) | ((first | apply awp_exit | apply awp_ret); refine tqA ?_) | (refine ev_nil (hK _ ?_); clear hK K) | (apply ev_step0; (case hr | hσ => (simp only [go_sem, d1]; try rfl)); (case hc => exact hcA)) | (apply ev_step; (case hr | hσ => (intros; simp only [go_sem, d1]; try rfl)); (case hc => exact hcA); intro g u; (try clear u); (try clear g)) | fail
      all_goals (refine resR_oneA ?_; simp only [go_sem])
      exact LeA.refl _
  | true =>
  cases th with
  | false =>
    simp only [Bool.and_false, Bool.false_eq_true, if_false]
    cases sn <;> cases tn
    all_goals
      repeat' first | refine awp_seq ?_ | refine awp_block ?_ | refine awp_skip ?_ | (apply regB; (case hd => exact hdA); intro K hK) | (apply ev_guardU; (case hj | hu | hσ => (simp only [go_sem, d1]; try rfl))) | ((first | refine awp_cond _ (by rfl) ?_ ?_ | ((first | apply ev_guardT | apply ev_guardF); (case hj | hb => (simp only [go_sem, d1]; try rfl)))) <;> (first | refine ttA ?_ | refine ffA ?_ | (intro hb; first | (cases hb; done) | simp only [hb] | skip))) | ((first | apply awp_exit | apply awp_ret); refine tqA ?_) | (refine ev_nil (hK _ ?_); clear hK K) | (apply ev_step0; (case hr | hσ => (simp only [go_sem, d1]; try rfl)); (case hc => exact hcA)) | (apply ev_step; (case hr | hσ => (intros; simp only [go_sem, d1]; try rfl)); (case hc => exact hcA); intro g u; (try clear u); (try clear g)) | fail
      all_goals (refine resR_oneA ?_; simp only [go_sem])
      exact LeA.refl _
  | true =>
    simp only [Bool.and_self, if_true]
    obtain ⟨rn, rh, rlo, rhi⟩ := r
    cases rn <;> cases sn <;> cases tn
    all_goals
      repeat' first | refine awp_seq ?_ | refine awp_block ?_ | refine awp_skip ?_ | (apply regB; (case hd => exact hdA); intro K hK) | (apply ev_guardU; (case hj | hu | hσ => (simp only [go_sem, d1]; try rfl))) | ((first | refine awp_cond _ (by rfl) ?_ ?_ | ((first | apply ev_guardT | apply ev_guardF); (case hj | hb => (simp only [go_sem, d1]; try rfl)))) <;> (first | refine ttA ?_ | refine ffA ?_ | (intro hb; first | (cases hb; done) | simp only [hb] | skip))) | ((first | apply awp_exit | apply awp_ret); refine tqA ?_) | (refine ev_nil (hK _ ?_); clear hK K) | (apply ev_call0; (case hys => (simp only [go_sem, d1]; try rfl)); (case hs => first | exact hf ..); (case hok | hσ => (simp only [go_sem, d1]; try rfl))) | (apply ev_callC; (case hf | hys => (simp only [go_sem, d1]; try rfl)); (case hs => first | exact hf ..); (case hok | hσ => (simp only [go_sem, d1]; try rfl))) | (apply ev_step0; (case hr | hσ => (simp only [go_sem, d1]; try rfl)); (case hc => exact hcA)) | (apply ev_step; (case hr | hσ => (intros; simp only [go_sem, d1]; try rfl)); (case hc => exact hcA); intro g u; (try clear u); (try clear g)) | fail
      all_goals (refine resR_oneA ?_; simp only [go_sem])
      exact LeA.refl _
end
section
set_option linter.unusedVariables false
set_option linter.unusedSimpArgs false
open Go.RowKit
attribute [local irreducible] Spec SpecF SpecN
attribute [local irreducible] AWp evOps evD
set_option maxHeartbeats 4000000 in
theorem f43_op11 (B : Dat) (e1 e2 : Ex) (s t r : Sp) (h1 : Spec Tryd.prog 43 [.d B, .agg (exA e1)] (.agg (sp s))) (h2 : Spec Tryd.prog 43 [.d B, .agg (exA e2)] (.agg (sp t))) (hf : Spec Tryd.prog 115 [.agg (sp s), .agg (sp t)] (.agg (sp r))) : Spec Tryd.prog 43 [.d B, .agg (exA (.bi 11 e1 e2))] (.agg (sp (strictM s t r))) := by
  obtain ⟨sn, sh, slo, shi⟩ := s
  obtain ⟨tn, th, tlo, thi⟩ := t
  simp only [exA, opE_bi, cE_bi, vE_bi, argsD_bi] at h1 h2 ⊢
  refine spec_of_awp (fn := Tryd.f43) Tryd.func43 (by kernel_rfl) rfl ?_
  intro w0 C0
  simp only [Tryd.ntmps43, go_sem]
  repeat' first | refine awp_seq ?_ | refine awp_block ?_ | refine awp_skip ?_ | (apply regB; (case hd => exact hdA); intro K hK) | (apply ev_guardU; (case hj | hu | hσ => (simp only [go_sem]; try rfl))) | ((first | refine awp_cond _ (by rfl) ?_ ?_ | ((first | apply ev_guardT | apply ev_guardF); (case hj | hb => (simp only [go_sem]; try rfl)))) <;> (first | refine ttA ?_ | refine ffA ?_ | (intro hb; first | (cases hb; done) | simp only [hb] | skip))) | ((first | apply awp_exit | apply awp_ret); refine tqA ?_) | (refine ev_nil (hK _ ?_); clear hK K) | (apply ev_step0; (case hr | hσ => (simp only [go_sem]; try rfl)); (case hc => exact hcA)) | (apply ev_step; (case hr | hσ => (intros; simp only [go_sem]; try rfl)); (case hc => exact hcA); intro g u; (try clear u); (try clear g)) | fail
  rename_i g3 g4
  revert g; intro g6
  refine awp_loopI (fun i : Nat => i ≤ 2) (fun i => 2 - i) (fun i => ⟨[.d B, .any, .any, .ptr 3 g3 0, .ptr 4 g4 0, .any, .ptr 6 g6 0, .any, .any, .any, .any, .any, .any, .any, .any, .any, .any, .any, .any, .any, .any, .any, .any, .any, .any, .any, .any, .any, .any, .any, .any, .any, .any, .any, .any, .any, .any, .any, .any, .d (.sl 6 [exD e1, exD e2]), litI .i64 2, litI .i64 i, .any, .any, .any, .any, .any, .any, .any, .any, .any, .any, .any, .any, .any, .any, .any, .any, .any, .any, .any, .any, .any, .any, .any, .any, .any, .any, .any, .any, .any, .any, .any, .any, .any, .any, .any, .any, .any, .any, .any, .any, .any, .any, .any, .any, .any, .any, .any, .any, .any, .any, .any, .any, .any, .any, .any], [.no, .no, .no, .box g3 (exA (.bi 11 e1 e2)), .box g4 zsp, .no, .box g6 (arrS ⟨sn, sh, slo, shi⟩ ⟨tn, th, tlo, thi⟩ i), .no, .no, .no, .no, .no, .no, .no, .no, .no, .no, .no, .no, .no, .no, .no, .no, .no, .no, .no, .no, .no, .no, .no, .no, .no, .no, .no, .no, .no, .no, .no, .no, .no, .no, .no, .no, .no, .no, .no, .no, .no, .no, .no, .no, .no, .no, .no, .no, .no, .no, .no, .no, .no, .no, .no, .no, .no, .no, .no, .no, .no, .no, .no, .no, .no, .no, .no, .no, .no, .no, .no, .no, .no, .no, .no, .no, .no, .no, .no, .no, .no, .no, .no, .no, .no, .no, .no, .no, .no, .no]⟩) 0 (by omega) ?_ ?_
  · simp only [arrS, exA, opE_bi, cE_bi, vE_bi, argsD_bi]
    exact wkA
  intro i hi
  simp only [litI, litB, litS] at hi h1 h2 hf ⊢
  obtain rfl | rfl | rfl : i = 0 ∨ i = 1 ∨ i = 2 := by omega
  · simp only [arrS, exA, opE_bi, cE_bi, vE_bi, argsD_bi, litI, litB, litS]
    have d1 : decide (((0 : Nat) : Int) < 2) = true := by decide
    repeat' first | refine awp_seq ?_ | refine awp_block ?_ | refine awp_skip ?_ | (apply regB; (case hd => exact hdA); intro K hK) | (apply ev_guardU; (case hj | hu | hσ => (simp only [go_sem, d1]; try rfl))) | ((first | refine awp_cond _ (by rfl) ?_ ?_ | ((first | apply ev_guardT | apply ev_guardF); (case hj | hb => (simp only [go_sem, d1]; try rfl)))) <;> (first | refine ttA ?_ | refine ffA ?_ | (intro hb; first | (cases hb; done) | simp only [hb] | skip))) | ((first | apply awp_exit | apply awp_ret); refine tqA ?_) | (refine ev_nil (hK _ ?_); clear hK K) | (apply ev_call0; (case hys => (simp only [go_sem, d1]; try rfl)); (case hs => first | exact h1 ..); (case hok | hσ => (simp only [go_sem, d1]; try rfl))) | (apply ev_callC; (case hf | hys => (simp only [go_sem, d1]; try rfl)); (case hs => first | exact h1 ..); (case hok | hσ => (simp only [go_sem, d1]; try rfl))) | (apply ev_step0; (case hr | hσ => (simp only [go_sem, d1]; try rfl)); (case hc => exact hcA)) | (apply ev_step; (case hr | hσ => (intros; simp only [go_sem, d1]; try rfl)); (case hc => exact hcA); intro g u; (try clear u); (try clear g)) | fail
    refine Exists.intro 1 ⟨by omega, by omega, ?_⟩
    simp only [arrS, exA, opE_bi, cE_bi, vE_bi, argsD_bi]
    exact wkA
  · simp only [arrS, exA, opE_bi, cE_bi, vE_bi, argsD_bi, litI, litB, litS]
    have d1 : decide (((1 : Nat) : Int) < 2) = true := by decide
    have w1 : IntKind.i64.wrap (((1 : Nat) : Int) + 1) = 2 := by decide
    all_goals have H := And.intro d1 w1
    repeat' first | refine awp_seq ?_ | refine awp_block ?_ | refine awp_skip ?_ | (apply regB; (case hd => exact hdA); intro K hK) | (apply ev_guardU; (case hj | hu | hσ => (simp only [go_sem, H]; try rfl))) | ((first | refine awp_cond _ (by rfl) ?_ ?_ | ((first | apply ev_guardT | apply ev_guardF); (case hj | hb => (simp only [go_sem, H]; try rfl)))) <;> (first | refine ttA ?_ | refine ffA ?_ | (intro hb; first | (cases hb; done) | simp only [hb] | skip))) | ((first | apply awp_exit | apply awp_ret); refine tqA ?_) | (refine ev_nil (hK _ ?_); clear hK K) | (apply ev_call0; (case hys => (simp only [go_sem, H]; try rfl)); (case hs => first | exact h2 ..); (case hok | hσ => (simp only [go_sem, H]; try rfl))) | (apply ev_callC; (case hf | hys => (simp only [go_sem, H]; try rfl)); (case hs => first | exact h2 ..); (case hok | hσ => (simp only [go_sem, H]; try rfl))) | (apply ev_step0; (case hr | hσ => (simp only [go_sem, H]; try rfl)); (case hc => exact hcA)) | (apply ev_step; (case hr | hσ => (intros; simp only [go_sem, H]; try rfl)); (case hc => exact hcA); intro g u; (try clear u); (try clear g)) | fail
    all_goals try clear H
    refine Exists.intro 2 ⟨by omega, by omega, ?_⟩
    simp only [arrS, exA, opE_bi, cE_bi, vE_bi, argsD_bi]
    exact wkA
  simp only [arrS, exA, opE_bi, cE_bi, vE_bi, argsD_bi, litI, litB, litS]
  have d1 : decide (((2 : Nat) : Int) < 2) = false := by decide
  unfold strictM
  cases sh with
  | false =>
    simp only [Bool.false_and, Bool.false_eq_true, if_false]
    cases sn <;> cases tn
    all_goals
      repeat' first | refine awp_seq ?_ | refine awp_block ?_ | refine awp_skip ?_ | (apply regB; (case hd => exact hdA); intro K hK) | (apply ev_guardU; (case hj | hu | hσ => (simp only [go_sem, d1]; try rfl))) | ((first | refine awp_cond _ (by rfl) ?_ ?_ | ((first | apply ev_guardT | apply ev_guardF); (case hj | hb => (simp only [go_sem, d1]; try rfl)))) <;> (first | refine ttA ?_ | refine ffA ?_ | (intro hb; first | (cases hb; done) | simp only [hb] | skip))) | ((first | apply awp_exit | apply awp_ret); refine tqA ?_) | (refine ev_nil (hK _ ?_); clear hK K) | (apply ev_step0; (case hr | hσ => (simp only [go_sem, d1]; try rfl)); (case hc => exact hcA)) | (apply ev_step; (case hr | hσ => (intros; simp only [go_sem, d1]; try rfl)); (case hc => exact hcA); intro g u; (try clear u); (try clear g)) | fail
      all_goals (refine resR_oneA ?_; simp only [go_sem])
      exact LeA.refl _
  | true =>
  cases th with
  | false =>
    simp only [Bool.and_false, Bool.false_eq_true, if_false]
    cases sn <;> cases tn
    all_goals
      repeat' first | refine awp_seq ?_ | refine awp_block ?_ | refine awp_skip ?_ | (apply regB; (case hd => exact hdA); intro K hK) | (apply ev_guardU; (case hj | hu | hσ => (simp only [go_sem, d1]; try rfl))) | ((first | refine awp_cond _ (by rfl) ?_ ?_ | ((first | apply ev_guardT | apply ev_guardF); (case hj | hb => (simp only [go_sem, d1]; try rfl)))) <;> (first | refine ttA ?_ | refine ffA ?_ | (intro hb; first | (cases hb; done) | simp only [hb] | skip))) | ((first | apply awp_exit | apply awp_ret); refine tqA ?_) | (refine ev_nil (hK _ ?_); clear hK K) | (apply ev_step0; (case hr | hσ => (simp only [go_sem, d1]; try rfl)); (case hc => exact hcA)) | (apply ev_step; (case hr | hσ => (intros; simp only [go_sem, d1]; try rfl)); (case hc => exact hcA); intro g u; (try clear u); (try clear g)) | fail
      all_goals (refine resR_oneA ?_; simp only [go_sem])
      exact LeA.refl _
  | true =>
    simp only [Bool.and_self, if_true]
    obtain ⟨rn, rh, rlo, rhi⟩ := r
    cases rn <;> cases sn <;> cases tn
    all_goals
      repeat' first | refine awp_seq ?_ | refine awp_block ?_ | refine awp_skip ?_ | (apply regB; (case hd => exact hdA); intro K hK) | (apply ev_guardU; (case hj | hu | hσ => (simp only [go_sem, d1]; try rfl))) | ((first | refine awp_cond _ (by rfl) ?_ ?_ | ((first | apply ev_guardT | apply ev_guardF); (case hj | hb => (simp only [go_sem, d1]; try rfl)))) <;> (first | refine ttA ?_ | refine ffA ?_ | (intro hb; first | (cases hb; done) | simp only [hb] | skip))) | ((first | apply awp_exit | apply awp_ret); refine tqA ?_) | (refine ev_nil (hK _ ?_); clear hK K) | (apply ev_call0; (case hys => (simp only [go_sem, d1]; try rfl)); (case hs => first | exact hf ..); (case hok | hσ => (simp only [go_sem, d1]; try rfl))) | (apply ev_callC; (case hf | hys => (simp only [go_sem, d1]; try rfl)); (case hs => first | exact hf ..); (case hok | hσ => (simp only [go_sem, d1]; try rfl))) | (apply ev_step0; (case hr | hσ => (simp only [go_sem, d1]; try rfl)); (case hc => exact hcA)) | (apply ev_step; (case hr | hσ => (intros; simp only [go_sem, d1]; try rfl)); (case hc => exact hcA); intro g u; (try clear u); (try clear g)) | fail
      all_goals (refine resR_oneA ?_; simp only [go_sem])
      exact LeA.refl _
end
section
set_option linter.unusedVariables false
set_option linter.unusedSimpArgs false
open Go.RowKit
attribute [local irreducible] Spec SpecF SpecN
attribute [local irreducible] AWp evOps evD
set_option maxHeartbeats 4000000 in
theorem f43_op12 (B : Dat) (e1 e2 : Ex) (s t r : Sp) (h1 : Spec Tryd.prog 43 [.d B, .agg (exA e1)] (.agg (sp s))) (h2 : Spec Tryd.prog 43 [.d B, .agg (exA e2)] (.agg (sp t))) (hf : Spec Tryd.prog 113 [.agg (sp s), .agg (sp t)] (.agg (sp r))) : Spec Tryd.prog 43 [.d B, .agg (exA (.bi 12 e1 e2))] (.agg (sp (strictM s t r))) := by
  obtain ⟨sn, sh, slo, shi⟩ := s
  obtain ⟨tn, th, tlo, thi⟩ := t
  simp only [exA, opE_bi, cE_bi, vE_bi, argsD_bi] at h1 h2 ⊢
  refine spec_of_awp (fn := Tryd.f43) Tryd.func43 (by kernel_rfl) rfl ?_
  intro w0 C0
  simp only [Tryd.ntmps43, go_sem]
  repeat' first | refine awp_seq ?_ | refine awp_block ?_ | refine awp_skip ?_ | (apply regB; (case hd => exact hdA); intro K hK) | (apply ev_guardU; (case hj | hu | hσ => (simp only [go_sem]; try rfl))) | ((first | refine awp_cond _ (by rfl) ?_ ?_ | ((first | apply ev_guardT | apply ev_guardF); (case hj | hb => (simp only [go_sem]; try rfl)))) <;> (first | refine ttA ?_ | refine ffA ?_ | (intro hb; first | (cases hb; done) | simp only [hb] | skip))) | ((first | apply awp_exit | apply awp_ret); refine tqA ?_) | (refine ev_nil (hK _ ?_); clear hK K) | (apply ev_step0; (case hr | hσ => (simp only [go_sem]; try rfl)); (case hc => exact hcA)) | (apply ev_step; (case hr | hσ => (intros; simp only [go_sem]; try rfl)); (case hc => exact hcA); intro g u; (try clear u); (try clear g)) | fail
  rename_i g3 g4
  revert g; intro g6
  refine awp_loopI (fun i : Nat => i ≤ 2) (fun i => 2 - i) (fun i => ⟨[.d B, .any, .any, .ptr 3 g3 0, .ptr 4 g4 0, .any, .ptr 6 g6 0, .any, .any, .any, .any, .any, .any, .any, .any, .any, .any, .any, .any, .any, .any, .any, .any, .any, .any, .any, .any, .any, .any, .any, .any, .any, .any, .any, .any, .any, .any, .any, .any, .d (.sl 6 [exD e1, exD e2]), litI .i64 2, litI .i64 i, .any, .any, .any, .any, .any, .any, .any, .any, .any, .any, .any, .any, .any, .any, .any, .any, .any, .any, .any, .any, .any, .any, .any, .any, .any, .any, .any, .any, .any, .any, .any, .any, .any, .any, .any, .any, .any, .any, .any, .any, .any, .any, .any, .any, .any, .any, .any, .any, .any, .any, .any, .any, .any, .any, .any], [.no, .no, .no, .box g3 (exA (.bi 12 e1 e2)), .box g4 zsp, .no, .box g6 (arrS ⟨sn, sh, slo, shi⟩ ⟨tn, th, tlo, thi⟩ i), .no, .no, .no, .no, .no, .no, .no, .no, .no, .no, .no, .no, .no, .no, .no, .no, .no, .no, .no, .no, .no, .no, .no, .no, .no, .no, .no, .no, .no, .no, .no, .no, .no, .no, .no, .no, .no, .no, .no, .no, .no, .no, .no, .no, .no, .no, .no, .no, .no, .no, .no, .no, .no, .no, .no, .no, .no, .no, .no, .no, .no, .no, .no, .no, .no, .no, .no, .no, .no, .no, .no, .no, .no, .no, .no, .no, .no, .no, .no, .no, .no, .no, .no, .no, .no, .no, .no, .no, .no, .no]⟩) 0 (by omega) ?_ ?_
  · simp only [arrS, exA, opE_bi, cE_bi, vE_bi, argsD_bi]
    exact wkA
  intro i hi
  simp only [litI, litB, litS] at hi h1 h2 hf ⊢
  obtain rfl | rfl | rfl : i = 0 ∨ i = 1 ∨ i = 2 := by omega
  · simp only [arrS, exA, opE_bi, cE_bi, vE_bi, argsD_bi, litI, litB, litS]
    have d1 : decide (((0 : Nat) : Int) < 2) = true := by decide
    repeat' first | refine awp_seq ?_ | refine awp_block ?_ | refine awp_skip ?_ | (apply regB; (case hd => exact hdA); intro K hK) | (apply ev_guardU; (case hj | hu | hσ => (simp only [go_sem, d1]; try rfl))) | ((first | refine awp_cond _ (by rfl) ?_ ?_ | ((first | apply ev_guardT | apply ev_guardF); (case hj | hb => (simp only [go_sem, d1]; try rfl)))) <;> (first | refine ttA ?_ | refine ffA ?_ | (intro hb; first | (cases hb; done) | simp only [hb] | skip))) | ((first | apply awp_exit | apply awp_ret); refine tqA ?_) | (refine ev_nil (hK _ ?_); clear hK K) | (apply ev_call0; (case hys => (simp only [go_sem, d1]; try rfl)); (case hs => first | exact h1 ..); (case hok | hσ => (simp only [go_sem, d1]; try rfl))) | (apply ev_callC; (case hf | hys => (simp only [go_sem, d1]; try rfl)); (case hs => first | exact h1 ..); (case hok | hσ => (simp only [go_sem, d1]; try rfl))) | (apply ev_step0; (case hr | hσ => (simp only [go_sem, d1]; try rfl)); (case hc => exact hcA)) | (apply ev_step; (case hr | hσ => (intros; simp only [go_sem, d1]; try rfl)); (case hc => exact hcA); intro g u; (try clear u); (try clear g)) | fail
    refine Exists.intro 1 ⟨by omega, by omega, ?_⟩
    simp only [arrS, exA, opE_bi, cE_bi, vE_bi, argsD_bi]
    exact wkA
  · simp only [arrS, exA, opE_bi, cE_bi, vE_bi, argsD_bi, litI, litB, litS]
    have d1 : decide (((1 : Nat) : Int) < 2) = true := by decide
    have w1 : IntKind.i64.wrap (((1 : Nat) : Int) + 1) = 2 := by decide
    all_goals have H := And.intro d1 w1
    repeat' first | refine awp_seq ?_ | refine awp_block ?_ | refine awp_skip ?_ | (apply regB; (case hd => exact hdA); intro K hK) | (apply ev_guardU; (case hj | hu | hσ => (simp only [go_sem, H]; try rfl))) | ((first | refine awp_cond _ (by rfl) ?_ ?_ | ((first | apply ev_guardT | apply ev_guardF); (case hj | hb => (simp only [go_sem, H]; try rfl)))) <;> (first | refine ttA ?_ | refine ffA ?_ | (intro hb; first | (cases hb; done) | simp only [hb] | skip))) | ((first | apply awp_exit | apply awp_ret); refine tqA ?_) | (refine ev_nil (hK _ ?_); clear hK K) | (apply ev_call0; (case hys => (simp only [go_sem, H]; try rfl)); (case hs => first | exact h2 ..); (case hok | hσ => (simp only [go_sem, H]; try rfl))) | (apply ev_callC; (case hf | hys => (simp only [go_sem, H]; try rfl)); (case hs => first | exact h2 ..); (case hok | hσ => (simp only [go_sem, H]; try rfl))) | (apply ev_step0; (case hr | hσ => (simp only [go_sem, H]; try rfl)); (case hc => exact hcA)) | (apply ev_step; (case hr | hσ => (intros; simp only [go_sem, H]; try rfl)); (case hc => exact hcA); intro g u; (try clear u); (try clear g)) | fail
    all_goals try clear H
    refine Exists.intro 2 ⟨by omega, by omega, ?_⟩
    simp only [arrS, exA, opE_bi, cE_bi, vE_bi, argsD_bi]
    exact wkA
  simp only [arrS, exA, opE_bi, cE_bi, vE_bi, argsD_bi, litI, litB, litS]
  have d1 : decide (((2 : Nat) : Int) < 2) = false := by decide
  unfold strictM
  cases sh with
  | false =>
    simp only [Bool.false_and, Bool.false_eq_true, if_false]
    cases sn <;> cases tn
    all_goals
      repeat' first | refine awp_seq ?_ | refine awp_block ?_ | refine awp_skip ?_ | (apply regB; (case hd => exact hdA); intro K hK) | (apply ev_guardU; (case hj | hu | hσ => (simp only [go_sem, d1]; try rfl))) | ((first | refine awp_cond _ (by rfl) ?_ ?_ | ((first | apply ev_guardT | apply ev_guardF); (case hj | hb => (simp only [go_sem, d1]; try rfl)))) <;> (first | refine ttA ?_ | refine ffA ?_ | (intro hb; first | (cases hb; done) | simp only [hb] | skip))) | ((first | apply awp_exit | apply awp_ret); refine tqA ?_) | (refine ev_nil (hK _ ?_); clear hK K) | (apply ev_step0; (case hr | hσ => (simp only [go_sem, d1]; try rfl)); (case hc => exact hcA)) | (apply ev_step; (case hr | hσ => (intros; simp only [go_sem, d1]; try rfl)); (case hc => exact hcA); intro g u; (try clear u); (try clear g)) | fail
      all_goals (refine resR_oneA ?_; simp only [go_sem])
      exact LeA.refl _
  | true =>
  cases th with
  | false =>
    simp only [Bool.and_false, Bool.false_eq_true, if_false]
    cases sn <;> cases tn
    all_goals
      repeat' first | refine awp_seq ?_ | refine awp_block ?_ | refine awp_skip ?_ | (apply regB; (case hd => exact hdA); intro K hK) | (apply ev_guardU; (case hj | hu | hσ => (simp only [go_sem, d1]; try rfl))) | ((first | refine awp_cond _ (by rfl) ?_ ?_ | ((first | apply ev_guardT | apply ev_guardF); (case hj | hb => (simp only [go_sem, d1]; try rfl)))) <;> (first | refine ttA ?_ | refine ffA ?_ | (intro hb; first | (cases hb; done) | simp only [hb] | skip))) | ((first | apply awp_exit | apply awp_ret); refine tqA ?_) | (refine ev_nil (hK _ ?_); clear hK K) | (apply ev_step0; (case hr | hσ => (simp only [go_sem, d1]; try rfl)); (case hc => exact hcA)) | (apply ev_step; (case hr | hσ => (intros; simp only [go_sem, d1]; try rfl)); (case hc => exact hcA); intro g u; (try clear u); (try clear g)) | fail
      all_goals (refine resR_oneA ?_; simp only [go_sem])
      exact LeA.refl _
  | true =>
    simp only [Bool.and_self, if_true]
    obtain ⟨rn, rh, rlo, rhi⟩ := r
    cases rn <;> cases sn <;> cases tn
    all_goals
      repeat' first | refine awp_seq ?_ | refine awp_block ?_ | refine awp_skip ?_ | (apply regB; (case hd => exact hdA); intro K hK) | (apply ev_guardU; (case hj | hu | hσ => (simp only [go_sem, d1]; try rfl))) | ((first | refine awp_cond _ (by rfl) ?_ ?_ | ((first | apply ev_guardT | apply ev_guardF); (case hj | hb => (simp only [go_sem, d1]; try rfl)))) <;> (first | refine ttA ?_ | refine ffA ?_ | (intro hb; first | (cases hb; done) | simp only [hb] | skip))) | ((first | apply awp_exit | apply awp_ret); refine tqA ?_) | (refine ev_nil (hK _ ?_); clear hK K) | (apply ev_call0; (case hys => (simp only [go_sem, d1]; try rfl)); (case hs => first | exact hf ..); (case hok | hσ => (simp only [go_sem, d1]; try rfl))) | (apply ev_callC; (case hf | hys => (simp only [go_sem, d1]; try rfl)); (case hs => first | exact hf ..); (case hok | hσ => (simp only [go_sem, d1]; try rfl))) | (apply ev_step0; (case hr | hσ => (simp only [go_sem, d1]; try rfl)); (case hc => exact hcA)) | (apply ev_step; (case hr | hσ => (intros; simp only [go_sem, d1]; try rfl)); (case hc => exact hcA); intro g u; (try clear u); (try clear g)) | fail
      all_goals (refine resR_oneA ?_; simp only [go_sem])
      exact LeA.refl _
end
section
set_option linter.unusedVariables false
set_option linter.unusedSimpArgs false
open Go.RowKit
attribute [local irreducible] Spec SpecF SpecN
attribute [local irreducible] AWp evOps evD
set_option maxHeartbeats 4000000 in
theorem f43_op6 (B : Dat) (e1 e2 : Ex) (s t r : Sp) (h1 : Spec Tryd.prog 43 [.d B, .agg (exA e1)] (.agg (sp s))) (h2 : Spec Tryd.prog 43 [.d B, .agg (exA e2)] (.agg (sp t))) (hf : Spec Tryd.prog 105 [.agg (sp s), .agg (sp t)] (.agg (sp r))) : Spec Tryd.prog 43 [.d B, .agg (exA (.bi 6 e1 e2))] (.agg (sp r)) := by
  simp only [exA, opE_bi, cE_bi, vE_bi, argsD_bi] at h1 h2 ⊢
  refine spec_of_awp (fn := Tryd.f43) Tryd.func43 (by kernel_rfl) rfl ?_
  intro w0 C0
  simp only [Tryd.ntmps43, go_sem]
  repeat' first | refine awp_seq ?_ | refine awp_block ?_ | refine awp_skip ?_ | (apply regB; (case hd => exact hdA); intro K hK) | (apply ev_guardU; (case hj | hu | hσ => (simp only [go_sem]; try rfl))) | ((first | refine awp_cond _ (by rfl) ?_ ?_ | ((first | apply ev_guardT | apply ev_guardF); (case hj | hb => (simp only [go_sem]; try rfl)))) <;> (first | refine ttA ?_ | refine ffA ?_ | (intro hb; first | (cases hb; done) | simp only [hb] | skip))) | ((first | apply awp_exit | apply awp_ret); refine tqA ?_) | (refine ev_nil (hK _ ?_); clear hK K) | (apply ev_step0; (case hr | hσ => (simp only [go_sem]; try rfl)); (case hc => exact hcA)) | (apply ev_step; (case hr | hσ => (intros; simp only [go_sem]; try rfl)); (case hc => exact hcA); intro g u; (try clear u); (try clear g)) | fail
  rename_i g3 g4
  revert g; intro g6
  refine awp_loopI (fun i : Nat => i ≤ 2) (fun i => 2 - i) (fun i => ⟨[.d B, .any, .any, .ptr 3 g3 0, .ptr 4 g4 0, .any, .ptr 6 g6 0, .any, .any, .any, .any, .any, .any, .any, .any, .any, .any, .any, .any, .any, .any, .any, .any, .any, .any, .any, .any, .any, .any, .any, .any, .any, .any, .any, .any, .any, .any, .any, .any, .d (.sl 6 [exD e1, exD e2]), litI .i64 2, litI .i64 i, .any, .any, .any, .any, .any, .any, .any, .any, .any, .any, .any, .any, .any, .any, .any, .any, .any, .any, .any, .any, .any, .any, .any, .any, .any, .any, .any, .any, .any, .any, .any, .any, .any, .any, .any, .any, .any, .any, .any, .any, .any, .any, .any, .any, .any, .any, .any, .any, .any, .any, .any, .any, .any, .any, .any], [.no, .no, .no, .box g3 (exA (.bi 6 e1 e2)), .box g4 zsp, .no, .box g6 (arrS s t i), .no, .no, .no, .no, .no, .no, .no, .no, .no, .no, .no, .no, .no, .no, .no, .no, .no, .no, .no, .no, .no, .no, .no, .no, .no, .no, .no, .no, .no, .no, .no, .no, .no, .no, .no, .no, .no, .no, .no, .no, .no, .no, .no, .no, .no, .no, .no, .no, .no, .no, .no, .no, .no, .no, .no, .no, .no, .no, .no, .no, .no, .no, .no, .no, .no, .no, .no, .no, .no, .no, .no, .no, .no, .no, .no, .no, .no, .no, .no, .no, .no, .no, .no, .no, .no, .no, .no, .no, .no, .no]⟩) 0 (by omega) ?_ ?_
  · simp only [arrS, exA, opE_bi, cE_bi, vE_bi, argsD_bi]
    exact wkA
  intro i hi
  simp only [litI, litB, litS] at hi h1 h2 hf ⊢
  obtain rfl | rfl | rfl : i = 0 ∨ i = 1 ∨ i = 2 := by omega
  · simp only [arrS, exA, opE_bi, cE_bi, vE_bi, argsD_bi, litI, litB, litS]
    have d1 : decide (((0 : Nat) : Int) < 2) = true := by decide
    repeat' first | refine awp_seq ?_ | refine awp_block ?_ | refine awp_skip ?_ | (apply regB; (case hd => exact hdA); intro K hK) | (apply ev_guardU; (case hj | hu | hσ => (simp only [go_sem, d1]; try rfl))) | ((first | refine awp_cond _ (by rfl) ?_ ?_ | ((first | apply ev_guardT | apply ev_guardF); (case hj | hb => (simp only [go_sem, d1]; try rfl)))) <;> (first | refine ttA ?_ | refine ffA ?_ | (intro hb; first | (cases hb; done) | simp only [hb] | skip))) | ((first | apply awp_exit | apply awp_ret); refine tqA ?_) | (refine ev_nil (hK _ ?_); clear hK K) | (apply ev_call0; (case hys => (simp only [go_sem, d1]; try rfl)); (case hs => first | exact h1 ..); (case hok | hσ => (simp only [go_sem, d1]; try rfl))) | (apply ev_callC; (case hf | hys => (simp only [go_sem, d1]; try rfl)); (case hs => first | exact h1 ..); (case hok | hσ => (simp only [go_sem, d1]; try rfl))) | (apply ev_step0; (case hr | hσ => (simp only [go_sem, d1]; try rfl)); (case hc => exact hcA)) | (apply ev_step; (case hr | hσ => (intros; simp only [go_sem, d1]; try rfl)); (case hc => exact hcA); intro g u; (try clear u); (try clear g)) | fail
    refine Exists.intro 1 ⟨by omega, by omega, ?_⟩
    simp only [arrS, exA, opE_bi, cE_bi, vE_bi, argsD_bi]
    exact wkA
  · simp only [arrS, exA, opE_bi, cE_bi, vE_bi, argsD_bi, litI, litB, litS]
    have d1 : decide (((1 : Nat) : Int) < 2) = true := by decide
    have w1 : IntKind.i64.wrap (((1 : Nat) : Int) + 1) = 2 := by decide
    all_goals have H := And.intro d1 w1
    repeat' first | refine awp_seq ?_ | refine awp_block ?_ | refine awp_skip ?_ | (apply regB; (case hd => exact hdA); intro K hK) | (apply ev_guardU; (case hj | hu | hσ => (simp only [go_sem, H]; try rfl))) | ((first | refine awp_cond _ (by rfl) ?_ ?_ | ((first | apply ev_guardT | apply ev_guardF); (case hj | hb => (simp only [go_sem, H]; try rfl)))) <;> (first | refine ttA ?_ | refine ffA ?_ | (intro hb; first | (cases hb; done) | simp only [hb] | skip))) | ((first | apply awp_exit | apply awp_ret); refine tqA ?_) | (refine ev_nil (hK _ ?_); clear hK K) | (apply ev_call0; (case hys => (simp only [go_sem, H]; try rfl)); (case hs => first | exact h2 ..); (case hok | hσ => (simp only [go_sem, H]; try rfl))) | (apply ev_callC; (case hf | hys => (simp only [go_sem, H]; try rfl)); (case hs => first | exact h2 ..); (case hok | hσ => (simp only [go_sem, H]; try rfl))) | (apply ev_step0; (case hr | hσ => (simp only [go_sem, H]; try rfl)); (case hc => exact hcA)) | (apply ev_step; (case hr | hσ => (intros; simp only [go_sem, H]; try rfl)); (case hc => exact hcA); intro g u; (try clear u); (try clear g)) | fail
    all_goals try clear H
    refine Exists.intro 2 ⟨by omega, by omega, ?_⟩
    simp only [arrS, exA, opE_bi, cE_bi, vE_bi, argsD_bi]
    exact wkA
  simp only [arrS, exA, opE_bi, cE_bi, vE_bi, argsD_bi, litI, litB, litS]
  have d1 : decide (((2 : Nat) : Int) < 2) = false := by decide
  repeat' first | refine awp_seq ?_ | refine awp_block ?_ | refine awp_skip ?_ | (apply regB; (case hd => exact hdA); intro K hK) | (apply ev_guardU; (case hj | hu | hσ => (simp only [go_sem, d1]; try rfl))) | ((first | refine awp_cond _ (by rfl) ?_ ?_ | ((first | apply ev_guardT | apply ev_guardF); (case hj | hb => (simp only [go_sem, d1]; try rfl)))) <;> (first | refine ttA ?_ | refine ffA ?_ | (intro hb; first | (cases hb; done) | simp only [hb] | skip))) | ((first | apply awp_exit | apply awp_ret); refine tqA ?_) | (refine ev_nil (hK _ ?_); clear hK K) | (apply ev_call0; (case hys => (simp only [go_sem, d1]; try rfl)); (case hs => first | exact hf ..); (case hok | hσ => (simp only [go_sem, d1]; try rfl))) | (apply ev_callC; (case hf | hys => (simp only [go_sem, d1]; try rfl)); (case hs => first | exact hf ..); (case hok | hσ => (simp only [go_sem, d1]; try rfl))) | (apply ev_step0; (case hr | hσ => (simp only [go_sem, d1]; try rfl)); (case hc => exact hcA)) | (apply ev_step; (case hr | hσ => (intros; simp only [go_sem, d1]; try rfl)); (case hc => exact hcA); intro g u; (try clear u); (try clear g)) | fail
  all_goals (refine resR_oneA ?_; simp only [go_sem])
  exact LeA.refl _
end
section
set_option linter.unusedVariables false
set_option linter.unusedSimpArgs false
open Go.RowKit
attribute [local irreducible] Spec SpecF SpecN
attribute [local irreducible] AWp evOps evD
set_option maxHeartbeats 4000000 in
theorem f43_op7 (B : Dat) (e1 e2 : Ex) (s t r : Sp) (h1 : Spec Tryd.prog 43 [.d B, .agg (exA e1)] (.agg (sp s))) (h2 : Spec Tryd.prog 43 [.d B, .agg (exA e2)] (.agg (sp t))) (hf : Spec Tryd.prog 106 [.agg (sp s), .agg (sp t)] (.agg (sp r))) : Spec Tryd.prog 43 [.d B, .agg (exA (.bi 7 e1 e2))] (.agg (sp r)) := by
  simp only [exA, opE_bi, cE_bi, vE_bi, argsD_bi] at h1 h2 ⊢
  refine spec_of_awp (fn := Tryd.f43) Tryd.func43 (by kernel_rfl) rfl ?_
  intro w0 C0
  simp only [Tryd.ntmps43, go_sem]
  repeat' first | refine awp_seq ?_ | refine awp_block ?_ | refine awp_skip ?_ | (apply regB; (case hd => exact hdA); intro K hK) | (apply ev_guardU; (case hj | hu | hσ => (simp only [go_sem]; try rfl))) | ((first | refine awp_cond _ (by rfl) ?_ ?_ | ((first | apply ev_guardT | apply ev_guardF); (case hj | hb => (simp only [go_sem]; try rfl)))) <;> (first | refine ttA ?_ | refine ffA ?_ | (intro hb; first | (cases hb; done) | simp only [hb] | skip))) | ((first | apply awp_exit | apply awp_ret); refine tqA ?_) | (refine ev_nil (hK _ ?_); clear hK K) | (apply ev_step0; (case hr | hσ => (simp only [go_sem]; try rfl)); (case hc => exact hcA)) | (apply ev_step; (case hr | hσ => (intros; simp only [go_sem]; try rfl)); (case hc => exact hcA); intro g u; (try clear u); (try clear g)) | fail
  rename_i g3 g4
  revert g; intro g6
  refine awp_loopI (fun i : Nat => i ≤ 2) (fun i => 2 - i) (fun i => ⟨[.d B, .any, .any, .ptr 3 g3 0, .ptr 4 g4 0, .any, .ptr 6 g6 0, .any, .any, .any, .any, .any, .any, .any, .any, .any, .any, .any, .any, .any, .any, .any, .any, .any, .any, .any, .any, .any, .any, .any, .any, .any, .any, .any, .any, .any, .any, .any, .any, .d (.sl 6 [exD e1, exD e2]), litI .i64 2, litI .i64 i, .any, .any, .any, .any, .any, .any, .any, .any, .any, .any, .any, .any, .any, .any, .any, .any, .any, .any, .any, .any, .any, .any, .any, .any, .any, .any, .any, .any, .any, .any, .any, .any, .any, .any, .any, .any, .any, .any, .any, .any, .any, .any, .any, .any, .any, .any, .any, .any, .any, .any, .any, .any, .any, .any, .any], [.no, .no, .no, .box g3 (exA (.bi 7 e1 e2)), .box g4 zsp, .no, .box g6 (arrS s t i), .no, .no, .no, .no, .no, .no, .no, .no, .no, .no, .no, .no, .no, .no, .no, .no, .no, .no, .no, .no, .no, .no, .no, .no, .no, .no, .no, .no, .no, .no, .no, .no, .no, .no, .no, .no, .no, .no, .no, .no, .no, .no, .no, .no, .no, .no, .no, .no, .no, .no, .no, .no, .no, .no, .no, .no, .no, .no, .no, .no, .no, .no, .no, .no, .no, .no, .no, .no, .no, .no, .no, .no, .no, .no, .no, .no, .no, .no, .no, .no, .no, .no, .no, .no, .no, .no, .no, .no, .no, .no]⟩) 0 (by omega) ?_ ?_
  · simp only [arrS, exA, opE_bi, cE_bi, vE_bi, argsD_bi]
    exact wkA
  intro i hi
  simp only [litI, litB, litS] at hi h1 h2 hf ⊢
  obtain rfl | rfl | rfl : i = 0 ∨ i = 1 ∨ i = 2 := by omega
  · simp only [arrS, exA, opE_bi, cE_bi, vE_bi, argsD_bi, litI, litB, litS]
    have d1 : decide (((0 : Nat) : Int) < 2) = true := by decide
    repeat' first | refine awp_seq ?_ | refine awp_block ?_ | refine awp_skip ?_ | (apply regB; (case hd => exact hdA); intro K hK) | (apply ev_guardU; (case hj | hu | hσ => (simp only [go_sem, d1]; try rfl))) | ((first | refine awp_cond _ (by rfl) ?_ ?_ | ((first | apply ev_guardT | apply ev_guardF); (case hj | hb => (simp only [go_sem, d1]; try rfl)))) <;> (first | refine ttA ?_ | refine ffA ?_ | (intro hb; first | (cases hb; done) | simp only [hb] | skip))) | ((first | apply awp_exit | apply awp_ret); refine tqA ?_) | (refine ev_nil (hK _ ?_); clear hK K) | (apply ev_call0; (case hys => (simp only [go_sem, d1]; try rfl)); (case hs => first | exact h1 ..); (case hok | hσ => (simp only [go_sem, d1]; try rfl))) | (apply ev_callC; (case hf | hys => (simp only [go_sem, d1]; try rfl)); (case hs => first | exact h1 ..); (case hok | hσ => (simp only [go_sem, d1]; try rfl))) | (apply ev_step0; (case hr | hσ => (simp only [go_sem, d1]; try rfl)); (case hc => exact hcA)) | (apply ev_step; (case hr | hσ => (intros; simp only [go_sem, d1]; try rfl)); (case hc => exact hcA); intro g u; (try clear u); (try clear g)) | fail
    refine Exists.intro 1 ⟨by omega, by omega, ?_⟩
    simp only [arrS, exA, opE_bi, cE_bi, vE_bi, argsD_bi]
    exact wkA
  · simp only [arrS, exA, opE_bi, cE_bi, vE_bi, argsD_bi, litI, litB, litS]
    have d1 : decide (((1 : Nat) : Int) < 2) = true := by decide
    have w1 : IntKind.i64.wrap (((1 : Nat) : Int) + 1) = 2 := by decide
    all_goals have H := And.intro d1 w1
    repeat' first | refine awp_seq ?_ | refine awp_block ?_ | refine awp_skip ?_ | (apply regB; (case hd => exact hdA); intro K hK) | (apply ev_guardU; (case hj | hu | hσ => (simp only [go_sem, H]; try rfl))) | ((first | refine awp_cond _ (by rfl) ?_ ?_ | ((first | apply ev_guardT | apply ev_guardF); (case hj | hb => (simp only [go_sem, H]; try rfl)))) <;> (first | refine ttA ?_ | refine ffA ?_ | (intro hb; first | (cases hb; done) | simp only [hb] | skip))) | ((first | apply awp_exit | apply awp_ret); refine tqA ?_) | (refine ev_nil (hK _ ?_); clear hK K) | (apply ev_call0; (case hys => (simp only [go_sem, H]; try rfl)); (case hs => first | exact h2 ..); (case hok | hσ => (simp only [go_sem, H]; try rfl))) | (apply ev_callC; (case hf | hys => (simp only [go_sem, H]; try rfl)); (case hs => first | exact h2 ..); (case hok | hσ => (simp only [go_sem, H]; try rfl))) | (apply ev_step0; (case hr | hσ => (simp only [go_sem, H]; try rfl)); (case hc => exact hcA)) | (apply ev_step; (case hr | hσ => (intros; simp only [go_sem, H]; try rfl)); (case hc => exact hcA); intro g u; (try clear u); (try clear g)) | fail
    all_goals try clear H
    refine Exists.intro 2 ⟨by omega, by omega, ?_⟩
    simp only [arrS, exA, opE_bi, cE_bi, vE_bi, argsD_bi]
    exact wkA
  simp only [arrS, exA, opE_bi, cE_bi, vE_bi, argsD_bi, litI, litB, litS]
  have d1 : decide (((2 : Nat) : Int) < 2) = false := by decide
  repeat' first | refine awp_seq ?_ | refine awp_block ?_ | refine awp_skip ?_ | (apply regB; (case hd => exact hdA); intro K hK) | (apply ev_guardU; (case hj | hu | hσ => (simp only [go_sem, d1]; try rfl))) | ((first | refine awp_cond _ (by rfl) ?_ ?_ | ((first | apply ev_guardT | apply ev_guardF); (case hj | hb => (simp only [go_sem, d1]; try rfl)))) <;> (first | refine ttA ?_ | refine ffA ?_ | (intro hb; first | (cases hb; done) | simp only [hb] | skip))) | ((first | apply awp_exit | apply awp_ret); refine tqA ?_) | (refine ev_nil (hK _ ?_); clear hK K) | (apply ev_call0; (case hys => (simp only [go_sem, d1]; try rfl)); (case hs => first | exact hf ..); (case hok | hσ => (simp only [go_sem, d1]; try rfl))) | (apply ev_callC; (case hf | hys => (simp only [go_sem, d1]; try rfl)); (case hs => first | exact hf ..); (case hok | hσ => (simp only [go_sem, d1]; try rfl))) | (apply ev_step0; (case hr | hσ => (simp only [go_sem, d1]; try rfl)); (case hc => exact hcA)) | (apply ev_step; (case hr | hσ => (intros; simp only [go_sem, d1]; try rfl)); (case hc => exact hcA); intro g u; (try clear u); (try clear g)) | fail
  all_goals (refine resR_oneA ?_; simp only [go_sem])
  exact LeA.refl _
end
end Go.Proofs.YtopigomfhggkoaaDoor.A
