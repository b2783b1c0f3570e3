/- Ranges: the other operators: the walks. Ranges: prefixes: the walks. Ranges of typed expressions: the plain law. Valid bounds in the reference: the walk. (Written by mk46.py.) -/
import Derived.Test.YtopigomfhggkoaaDoorJV3
import Derived.Test.YtopigomfhggkoaaDoorJV1
import Derived.Test.YtopigomfhggkoaaDoorJV6
import Derived.Test.YtopigomfhggkoaaDoorJV2
import Derived.Test.YtopigomfhggkoaaDoorJV5
namespace Go.Proofs.YtopigomfhggkoaaDoor.A
section
set_option linter.unusedVariables false
set_option linter.unusedSimpArgs false
open Go.RowKit
attribute [local irreducible] Spec SpecF SpecN
attribute [local irreducible] AWp evOps evD
def notM (s : Sp) : Sp := truthM (yesM s) (noM s) s.null
def isNullM (s : Sp) : Sp := truthM s.has s.null false
def mostM (s t : Sp) : Sp := truthM (decide (cmpV s.hi t.lo > 0)) (decide (cmpV s.lo t.hi ≤ 0)) false
theorem f107_spec (s t : Sp) : Spec Tryd.prog 107 [.agg (sp s), .agg (sp t)] (.agg (sp (notM s))) := by
  have a1 := f44_spec s
  have a2 := f45_spec s
  have a3 := f109_spec (yesM s) (noM s) s.null
  refine spec_of_awp (fn := Tryd.f107) Tryd.func107 (by kernel_rfl) rfl ?_
  intro w0 C0
  simp only [Tryd.ntmps107, go_sem]
  repeat' first | refine awp_seq ?_ | (apply regB; (case hd => exact hdA); intro K hK) | (apply awp_ret; refine tqA ?_) | (refine ev_nil (hK _ ?_); clear hK K) | (apply regDB; (case hd => exact hdA); (case' h => (intro K hK; (repeat' first | (apply evd_nil; refine (hK _ ?_); clear hK K) | (apply evd_call0; (case hi | hys => (simp only [go_sem]; try rfl)); (case hs => first | exact a1 .. | exact a2 .. | exact a3 ..); (case hok | hw | hσ => (simp only [go_sem]; try rfl))) | (apply evd_step0; (case hr | hi | hσ => (simp only [go_sem]; try rfl)); (case hc => exact hcA)) | (apply evd_step; (case hr | hi | hw | hσ => (intros; simp only [go_sem]; try rfl)); (case hc => exact hcA); (case' hk => (intro g u; (try clear u); (try clear g)))) | fail))); (case hB => kernel_rfl)) | (apply ev_step0; (case hr | hσ => (simp only [go_sem]; try rfl)); (case hc => exact hcA)) | (apply ev_step; (case hr | hσ => (intros; simp only [go_sem]; try rfl)); (case hc => exact hcA); intro g u; (try clear u); (try clear g)) | fail
  all_goals (refine resR_oneA ?_; simp only [go_sem])
  exact LeA.refl _
theorem f108_spec (s t : Sp) : Spec Tryd.prog 108 [.agg (sp s), .agg (sp t)] (.agg (sp (isNullM s))) := by
  have a3 := f109_spec s.has s.null false
  refine spec_of_awp (fn := Tryd.f108) Tryd.func108 (by kernel_rfl) rfl ?_
  intro w0 C0
  simp only [Tryd.ntmps108, go_sem]
  repeat' first | refine awp_seq ?_ | (apply regB; (case hd => exact hdA); intro K hK) | (apply awp_ret; refine tqA ?_) | (refine ev_nil (hK _ ?_); clear hK K) | (apply ev_call0; (case hys => (simp only [go_sem]; try rfl)); (case hs => first | exact a3 ..); (case hok | hσ => (simp only [go_sem]; try rfl))) | (apply ev_step0; (case hr | hσ => (simp only [go_sem]; try rfl)); (case hc => exact hcA)) | (apply ev_step; (case hr | hσ => (intros; simp only [go_sem]; try rfl)); (case hc => exact hcA); intro g u; (try clear u); (try clear g)) | fail
  all_goals (refine resR_oneA ?_; simp only [go_sem])
  exact LeA.refl _
theorem f112_spec (s t : Sp) : Spec Tryd.prog 112 [.agg (sp s), .agg (sp t)] (.agg (sp (mostM s t))) := by
  have a1 := f41_spec s.hi t.lo
  have a2 := f41_spec s.lo t.hi
  have a3 := f109_spec (decide (cmpV s.hi t.lo > 0)) (decide (cmpV s.lo t.hi ≤ 0)) false
  refine spec_of_awp (fn := Tryd.f112) Tryd.func112 (by kernel_rfl) rfl ?_
  intro w0 C0
  simp only [Tryd.ntmps112, go_sem]
  repeat' first | refine awp_seq ?_ | (apply regB; (case hd => exact hdA); intro K hK) | (apply awp_ret; refine tqA ?_) | (refine ev_nil (hK _ ?_); clear hK K) | (apply regDB; (case hd => exact hdA); (case' h => (intro K hK; (repeat' first | (apply evd_nil; refine (hK _ ?_); clear hK K) | (apply evd_call0; (case hi | hys => (simp only [go_sem]; try rfl)); (case hs => first | exact a1 .. | exact a2 .. | exact a3 ..); (case hok | hw | hσ => (simp only [go_sem]; try rfl))) | (apply evd_step0; (case hr | hi | hσ => (simp only [go_sem]; try rfl)); (case hc => exact hcA)) | (apply evd_step; (case hr | hi | hw | hσ => (intros; simp only [go_sem]; try rfl)); (case hc => exact hcA); (case' hk => (intro g u; (try clear u); (try clear g)))) | fail))); (case hB => kernel_rfl)) | (apply ev_step0; (case hr | hσ => (simp only [go_sem]; try rfl)); (case hc => exact hcA)) | (apply ev_step; (case hr | hσ => (intros; simp only [go_sem]; try rfl)); (case hc => exact hcA); intro g u; (try clear u); (try clear g)) | fail
  all_goals (refine resR_oneA ?_; simp only [go_sem])
  exact LeA.refl _
def clampLo (n : Int) : Int := if n < -4000000000000000000 then -4000000000000000000 else n
def clampHi (n : Int) : Int := if n > 4000000000000000000 then 4000000000000000000 else n
def numbersM (lo hi : Int) : Sp :=
  if (decide (lo ≤ 4000000000000000000) && decide (hi ≥ -4000000000000000000)) = true then ⟨decide (lo < -4000000000000000000) || decide (hi > 4000000000000000000), true, ⟨2, clampLo lo, ⟨#[]⟩⟩, ⟨2, clampHi hi, ⟨#[]⟩⟩⟩
  else ⟨decide (lo < -4000000000000000000) || decide (hi > 4000000000000000000), false, nullV, nullV⟩
set_option maxHeartbeats 8000000 in
theorem f118_spec (lo hi : Int) : Spec Tryd.prog 118 [litI .i64 lo, litI .i64 hi] (.agg (sp (numbersM lo hi))) := by
  unfold numbersM
  cases d1 : decide (lo < -4000000000000000000) <;> cases d2 : decide (hi > 4000000000000000000) <;> cases d3 : decide (lo ≤ 4000000000000000000) <;> cases d4 : decide (hi ≥ -4000000000000000000)
  all_goals simp only [Bool.and_self, Bool.and_true, Bool.and_false, Bool.true_or, Bool.false_or, Bool.or_self, Bool.false_eq_true, if_true, if_false]
  all_goals
    refine spec_of_awp (fn := Tryd.f118) Tryd.func118 (by kernel_rfl) rfl ?_
    intro w0 C0
    simp only [Tryd.ntmps118, go_sem]
    all_goals have H := And.intro d1 (And.intro d2 (And.intro d3 d4))
    repeat' first | refine awp_seq ?_ | refine awp_block ?_ | refine awp_skip ?_ | (apply regB; (case hd => exact hdA); intro K hK) | (apply ev_guardU; (case hj | hu | hσ => (simp only [go_sem, H]; try rfl))) | ((first | refine awp_cond _ (by rfl) ?_ ?_ | ((first | apply ev_guardT | apply ev_guardF); (case hj | hb => (simp only [go_sem, H]; try rfl)))) <;> (first | refine ttA ?_ | refine ffA ?_ | (intro hb; first | (cases hb; done) | simp only [hb] | skip))) | ((first | apply awp_exit | apply awp_ret); refine tqA ?_) | (refine ev_nil (hK _ ?_); clear hK K) | (apply ev_step0; (case hr | hσ => (simp only [go_sem, H]; try rfl)); (case hc => exact hcA)) | (apply ev_step; (case hr | hσ => (intros; simp only [go_sem, H]; try rfl)); (case hc => exact hcA); intro g u; (try clear u); (try clear g)) | fail
    all_goals try clear H
    all_goals (refine resR_oneA ?_; simp only [go_sem])
    exact LeA.refl _
theorem f114_spec (s t : Sp) (h1 : -9223372036854775808 ≤ s.lo.i + t.lo.i ∧ s.lo.i + t.lo.i ≤ 9223372036854775807) (h2 : -9223372036854775808 ≤ s.hi.i + t.hi.i ∧ s.hi.i + t.hi.i ≤ 9223372036854775807) : Spec Tryd.prog 114 [.agg (sp s), .agg (sp t)] (.agg (sp (numbersM (s.lo.i + t.lo.i) (s.hi.i + t.hi.i)))) := by
  have w1 : IntKind.i64.wrap (s.lo.i + t.lo.i) = s.lo.i + t.lo.i := wrap_id h1
  have w2 : IntKind.i64.wrap (s.hi.i + t.hi.i) = s.hi.i + t.hi.i := wrap_id h2
  have a1 := f118_spec (s.lo.i + t.lo.i) (s.hi.i + t.hi.i)
  refine spec_of_awp (fn := Tryd.f114) Tryd.func114 (by kernel_rfl) rfl ?_
  intro w0 C0
  simp only [Tryd.ntmps114, go_sem]
  all_goals have H := And.intro w1 w2
  repeat' first | refine awp_seq ?_ | (apply regB; (case hd => exact hdA); intro K hK) | (apply awp_ret; refine tqA ?_) | (refine ev_nil (hK _ ?_); clear hK K) | (apply ev_call0; (case hys => (simp only [go_sem, H]; try rfl)); (case hs => first | exact a1 ..); (case hok | hσ => (simp only [go_sem, H]; try rfl))) | (apply ev_step0; (case hr | hσ => (simp only [go_sem, H]; try rfl)); (case hc => exact hcA)) | (apply ev_step; (case hr | hσ => (intros; simp only [go_sem, H]; try rfl)); (case hc => exact hcA); intro g u; (try clear u); (try clear g)) | fail
  all_goals try clear H
  all_goals (refine resR_oneA ?_; simp only [go_sem])
  exact LeA.refl _
theorem f115_spec (s t : Sp) (h1 : -9223372036854775808 ≤ s.lo.i - t.hi.i ∧ s.lo.i - t.hi.i ≤ 9223372036854775807) (h2 : -9223372036854775808 ≤ s.hi.i - t.lo.i ∧ s.hi.i - t.lo.i ≤ 9223372036854775807) : Spec Tryd.prog 115 [.agg (sp s), .agg (sp t)] (.agg (sp (numbersM (s.lo.i - t.hi.i) (s.hi.i - t.lo.i)))) := by
  have w1 : IntKind.i64.wrap (s.lo.i - t.hi.i) = s.lo.i - t.hi.i := wrap_id h1
  have w2 : IntKind.i64.wrap (s.hi.i - t.lo.i) = s.hi.i - t.lo.i := wrap_id h2
  have a1 := f118_spec (s.lo.i - t.hi.i) (s.hi.i - t.lo.i)
  refine spec_of_awp (fn := Tryd.f115) Tryd.func115 (by kernel_rfl) rfl ?_
  intro w0 C0
  simp only [Tryd.ntmps115, go_sem]
  all_goals have H := And.intro w1 w2
  repeat' first | refine awp_seq ?_ | (apply regB; (case hd => exact hdA); intro K hK) | (apply awp_ret; refine tqA ?_) | (refine ev_nil (hK _ ?_); clear hK K) | (apply ev_call0; (case hys => (simp only [go_sem, H]; try rfl)); (case hs => first | exact a1 ..); (case hok | hσ => (simp only [go_sem, H]; try rfl))) | (apply ev_step0; (case hr | hσ => (simp only [go_sem, H]; try rfl)); (case hc => exact hcA)) | (apply ev_step; (case hr | hσ => (intros; simp only [go_sem, H]; try rfl)); (case hc => exact hcA); intro g u; (try clear u); (try clear g)) | fail
  all_goals try clear H
  all_goals (refine resR_oneA ?_; simp only [go_sem])
  exact LeA.refl _
def andM (s t : Sp) : Sp := truthM (noM s || noM t) (yesM s && yesM t) ((s.null && (t.null || yesM t)) || (t.null && yesM s))
def orM (s t : Sp) : Sp := truthM (noM s && noM t) (yesM s || yesM t) ((s.null && (t.null || noM t)) || (t.null && noM s))
set_option maxHeartbeats 16000000 in
theorem f105_spec (s t : Sp) : Spec Tryd.prog 105 [.agg (sp s), .agg (sp t)] (.agg (sp (andM s t))) := by
  have a1 := f44_spec s
  have a2 := f44_spec t
  have a3 := f45_spec s
  have a4 := f45_spec t
  unfold andM
  obtain ⟨n1, h1, lo1, hi1⟩ := s
  obtain ⟨n2, h2, lo2, hi2⟩ := t
  generalize noM ⟨n1, h1, lo1, hi1⟩ = x1 at *
  generalize noM ⟨n2, h2, lo2, hi2⟩ = x2 at *
  generalize yesM ⟨n1, h1, lo1, hi1⟩ = y1 at *
  generalize yesM ⟨n2, h2, lo2, hi2⟩ = y2 at *
  cases x1 <;> cases y1 <;> cases y2 <;> cases n1 <;> cases n2
  all_goals
    refine spec_of_awp (fn := Tryd.f105) Tryd.func105 (by kernel_rfl) rfl ?_
    intro w0 C0
    simp only [Tryd.ntmps105, go_sem]
    repeat' first | refine awp_seq ?_ | (apply regB; (case hd => exact hdA); intro K hK) | (apply awp_ret; refine tqA ?_) | (refine ev_nil (hK _ ?_); clear hK K) | (apply regDB; (case hd => exact hdA); (case' h => (intro K hK; (repeat' first | (apply evd_nil; refine (hK _ ?_); clear hK K) | (apply evd_guardU0; (case hj | hu | hσ => (simp only [go_sem]; try rfl))) | (apply evd_guardU; (case hj | hu | hσ => (simp only [go_sem]; try rfl))) | (apply evd_skipT0; (case hj | hb | hσ => (simp only [go_sem]; try rfl))) | (apply evd_skipF0; (case hj | hb | hσ => (simp only [go_sem]; try rfl))) | (apply evd_skipT; (case hj | hb | hσ => (simp only [go_sem]; try rfl))) | (apply evd_skipF; (case hj | hb | hσ => (simp only [go_sem]; try rfl))) | (apply evd_guardT; (case hj | hb => (simp only [go_sem]; try rfl)); (case' h2 => (intro hb; first | (cases hb; done) | (simp only [hb]) | skip)); (case' h1 => (intro hb; first | (cases hb; done) | (simp only [hb]) | skip))) | (apply evd_guardF; (case hj | hb => (simp only [go_sem]; try rfl)); (case' h2 => (intro hb; first | (cases hb; done) | (simp only [hb]) | skip)); (case' h1 => (intro hb; first | (cases hb; done) | (simp only [hb]) | skip))) | (apply evd_call0; (case hi | hys => (simp only [go_sem]; try rfl)); (case hs => first | exact a1 .. | exact a2 .. | exact a3 .. | exact a4 .. | exact f109_spec ..); (case hok | hw | hσ => (simp only [go_sem]; try rfl))) | (apply evd_step0; (case hr | hi | hσ => (simp only [go_sem]; try rfl)); (case hc => exact hcA)) | (apply evd_step; (case hr | hi | hw | hσ => (intros; simp only [go_sem]; try rfl)); (case hc => exact hcA); (case' hk => (intro g u; (try clear u); (try clear g)))) | fail))); (case hB => kernel_rfl)) | (apply ev_step0; (case hr | hσ => (simp only [go_sem]; try rfl)); (case hc => exact hcA)) | (apply ev_step; (case hr | hσ => (intros; simp only [go_sem]; try rfl)); (case hc => exact hcA); intro g u; (try clear u); (try clear g)) | fail
    all_goals (refine resR_oneA ?_; simp only [go_sem])
    exact LeA.refl _
set_option maxHeartbeats 16000000 in
theorem f106_spec (s t : Sp) : Spec Tryd.prog 106 [.agg (sp s), .agg (sp t)] (.agg (sp (orM s t))) := by
  have a1 := f44_spec s
  have a2 := f44_spec t
  have a3 := f45_spec s
  have a4 := f45_spec t
  unfold orM
  obtain ⟨n1, h1, lo1, hi1⟩ := s
  obtain ⟨n2, h2, lo2, hi2⟩ := t
  generalize noM ⟨n1, h1, lo1, hi1⟩ = x1 at *
  generalize noM ⟨n2, h2, lo2, hi2⟩ = x2 at *
  generalize yesM ⟨n1, h1, lo1, hi1⟩ = y1 at *
  generalize yesM ⟨n2, h2, lo2, hi2⟩ = y2 at *
  cases x1 <;> cases x2 <;> cases y1 <;> cases n1 <;> cases n2
  all_goals
    refine spec_of_awp (fn := Tryd.f106) Tryd.func106 (by kernel_rfl) rfl ?_
    intro w0 C0
    simp only [Tryd.ntmps106, go_sem]
    repeat' first | refine awp_seq ?_ | (apply regB; (case hd => exact hdA); intro K hK) | (apply awp_ret; refine tqA ?_) | (refine ev_nil (hK _ ?_); clear hK K) | (apply regDB; (case hd => exact hdA); (case' h => (intro K hK; (repeat' first | (apply evd_nil; refine (hK _ ?_); clear hK K) | (apply evd_guardU0; (case hj | hu | hσ => (simp only [go_sem]; try rfl))) | (apply evd_guardU; (case hj | hu | hσ => (simp only [go_sem]; try rfl))) | (apply evd_skipT0; (case hj | hb | hσ => (simp only [go_sem]; try rfl))) | (apply evd_skipF0; (case hj | hb | hσ => (simp only [go_sem]; try rfl))) | (apply evd_skipT; (case hj | hb | hσ => (simp only [go_sem]; try rfl))) | (apply evd_skipF; (case hj | hb | hσ => (simp only [go_sem]; try rfl))) | (apply evd_guardT; (case hj | hb => (simp only [go_sem]; try rfl)); (case' h2 => (intro hb; first | (cases hb; done) | (simp only [hb]) | skip)); (case' h1 => (intro hb; first | (cases hb; done) | (simp only [hb]) | skip))) | (apply evd_guardF; (case hj | hb => (simp only [go_sem]; try rfl)); (case' h2 => (intro hb; first | (cases hb; done) | (simp only [hb]) | skip)); (case' h1 => (intro hb; first | (cases hb; done) | (simp only [hb]) | skip))) | (apply evd_call0; (case hi | hys => (simp only [go_sem]; try rfl)); (case hs => first | exact a1 .. | exact a2 .. | exact a3 .. | exact a4 .. | exact f109_spec ..); (case hok | hw | hσ => (simp only [go_sem]; try rfl))) | (apply evd_step0; (case hr | hi | hσ => (simp only [go_sem]; try rfl)); (case hc => exact hcA)) | (apply evd_step; (case hr | hi | hw | hσ => (intros; simp only [go_sem]; try rfl)); (case hc => exact hcA); (case' hk => (intro g u; (try clear u); (try clear g)))) | fail))); (case hB => kernel_rfl)) | (apply ev_step0; (case hr | hσ => (simp only [go_sem]; try rfl)); (case hc => exact hcA)) | (apply ev_step; (case hr | hσ => (intros; simp only [go_sem]; try rfl)); (case hc => exact hcA); intro g u; (try clear u); (try clear g)) | fail
    all_goals (refine resR_oneA ?_; simp only [go_sem])
    exact LeA.refl _
end
section
set_option linter.unusedVariables false
set_option linter.unusedSimpArgs false
open Go.RowKit
attribute [local irreducible] Spec SpecF SpecN
attribute [local irreducible] AWp evOps evD
theorem f119_spec (s p : ByteArray) (hs : s.size ≤ 4611686018427387904) (hp : p.size ≤ 4611686018427387904) : Spec Tryd.prog 119 [litS s, litS p] (litB (decide ((s.size : Int) ≥ (p.size : Int)) && ((s.extract 0 p.size).toList == p.toList))) := by
  cases d1 : decide ((s.size : Int) ≥ (p.size : Int)) with
  | false =>
    refine spec_of_awp (fn := Tryd.f119) Tryd.func119 (by kernel_rfl) rfl ?_
    intro w0 C0
    simp only [Tryd.ntmps119, go_sem]
    repeat' first | refine awp_seq ?_ | refine awp_block ?_ | refine awp_skip ?_ | refine awp_label ?_ | refine awp_scope (by rfl) ?_ | (apply regB; (case hd => exact hdA); intro K hK) | (apply ev_guardU; (case hj | hu | hσ => (simp only [go_sem, d1]; try rfl))) | ((first | refine awp_cond _ (by rfl) ?_ ?_ | ((first | apply ev_guardT | apply ev_guardF); (case hj | hb => (simp only [go_sem, d1]; try rfl)))) <;> (first | refine ttA ?_ | refine ffA ?_ | (intro hb; first | (cases hb; done) | simp only [hb] | skip))) | ((first | apply awp_exit | apply awp_ret); refine tqA ?_) | (refine ev_nil (hK _ ?_); clear hK K) | (apply ev_step0; (case hr | hσ => (simp only [go_sem, d1]; try rfl)); (case hc => exact hcA)) | (apply ev_step; (case hr | hσ => (intros; simp only [go_sem, d1]; try rfl)); (case hc => exact hcA); intro g u; (try clear u); (try clear g)) | fail
    all_goals (refine resR_oneA ?_; simp only [go_sem])
    exact LeA.refl _
  | true =>
    have h := of_decide_eq_true d1
    refine spec_of_awp (fn := Tryd.f119) Tryd.func119 (by kernel_rfl) rfl ?_
    intro w0 C0
    simp only [Tryd.ntmps119, go_sem]
    repeat' first | refine awp_seq ?_ | refine awp_block ?_ | refine awp_skip ?_ | refine awp_label ?_ | refine awp_scope (by rfl) ?_ | (apply regB; (case hd => exact hdA); intro K hK) | (apply ev_guardU; (case hj | hu | hσ => (simp only [go_sem, d1]; try rfl))) | ((first | refine awp_cond _ (by rfl) ?_ ?_ | ((first | apply ev_guardT | apply ev_guardF); (case hj | hb => (simp only [go_sem, d1]; try rfl)))) <;> (first | refine ttA ?_ | refine ffA ?_ | (intro hb; first | (cases hb; done) | simp only [hb] | skip))) | ((first | apply awp_exit | apply awp_ret); refine tqA ?_) | (refine ev_nil (hK _ ?_); clear hK K) | (apply ev_step0; (case hr | hσ => (simp only [go_sem, d1]; try rfl)); (case hc => exact hcA)) | (apply ev_step; (case hr | hσ => (intros; simp only [go_sem, d1]; try rfl)); (case hc => exact hcA); intro g u; (try clear u); (try clear g)) | fail
    all_goals (refine resR_oneA ?_; simp only [go_sem])
    exact LeA.refl _
abbrev hasPre (s p : ByteArray) : Bool := decide ((s.size : Int) ≥ (p.size : Int)) && ((s.extract 0 p.size).toList == p.toList)
theorem f117_spec (s p : ByteArray) (hs : s.size ≤ 4611686018427387904) (hp : p.size ≤ 4611686018427387904) : Spec Tryd.prog 117 [litS s, litS p] (litB (hasPre s p)) := by
  have h := f119_spec s p hs hp
  refine spec_of_awp (fn := Tryd.f117) Tryd.func117 (by kernel_rfl) rfl ?_
  intro w0 C0
  simp only [Tryd.ntmps117, go_sem]
  repeat' first | refine awp_seq ?_ | (apply regB; (case hd => exact hdA); intro K hK) | (apply awp_ret; refine tqA ?_) | (refine ev_nil (hK _ ?_); clear hK K) | (apply ev_call0; (case hys => (simp only [go_sem]; try rfl)); (case hs => first | exact h ..); (case hok | hσ => (simp only [go_sem]; try rfl))) | (apply ev_step0; (case hr | hσ => (simp only [go_sem]; try rfl)); (case hc => exact hcA)) | (apply ev_step; (case hr | hσ => (intros; simp only [go_sem]; try rfl)); (case hc => exact hcA); intro g u; (try clear u); (try clear g)) | fail
  all_goals (refine resR_oneA ?_; simp only [go_sem])
  exact LeA.refl _
abbrev geS (a b : ByteArray) : Bool := !Op.bytesLess a.toList b.toList
abbrev leS (a b : ByteArray) : Bool := Op.bytesLess a.toList b.toList || a.toList == b.toList
def prefixM (s t : Sp) : Sp :=
  if eqVl t.lo t.hi = false then truthM true true false
  else truthM (!hasPre s.lo.s t.lo.s || !hasPre s.hi.s t.lo.s) (geS s.hi.s t.lo.s && (leS s.lo.s t.lo.s || hasPre s.lo.s t.lo.s)) false
set_option maxHeartbeats 8000000 in
theorem f113_spec (s t : Sp) (h1 : s.lo.s.size ≤ 4611686018427387904) (h2 : s.hi.s.size ≤ 4611686018427387904) (h3 : t.lo.s.size ≤ 4611686018427387904) : Spec Tryd.prog 113 [.agg (sp s), .agg (sp t)] (.agg (sp (prefixM s t))) := by
  have a1 := f116_spec t
  have a2 := f117_spec s.lo.s t.lo.s h1 h3
  have a3 := f117_spec s.hi.s t.lo.s h2 h3
  unfold prefixM
  cases e : eqVl t.lo t.hi with
  | false =>
    rw [e] at a1
    rw [if_pos rfl]
    refine spec_of_awp (fn := Tryd.f113) Tryd.func113 (by kernel_rfl) rfl ?_
    intro w0 C0
    simp only [Tryd.ntmps113, go_sem]
    repeat' first | refine awp_seq ?_ | refine awp_block ?_ | refine awp_skip ?_ | (apply regB; (case hd => exact hdA); intro K hK) | (apply ev_guardU; (case hj | hu | hσ => (simp only [go_sem]; try rfl))) | ((first | refine awp_cond _ (by rfl) ?_ ?_ | ((first | apply ev_guardT | apply ev_guardF); (case hj | hb => (simp only [go_sem]; try rfl)))) <;> (first | refine ttA ?_ | refine ffA ?_ | (intro hb; first | (cases hb; done) | simp only [hb] | skip))) | ((first | apply awp_exit | apply awp_ret); refine tqA ?_) | (refine ev_nil (hK _ ?_); clear hK K) | (apply ev_call0; (case hys => (simp only [go_sem]; try rfl)); (case hs => first | exact a1 .. | exact f109_spec ..); (case hok | hσ => (simp only [go_sem]; try rfl))) | (apply ev_step0; (case hr | hσ => (simp only [go_sem]; try rfl)); (case hc => exact hcA)) | (apply ev_step; (case hr | hσ => (intros; simp only [go_sem]; try rfl)); (case hc => exact hcA); intro g u; (try clear u); (try clear g)) | fail
    all_goals (refine resR_oneA ?_; simp only [go_sem])
    exact LeA.refl _
  | true =>
    rw [e] at a1
    rw [if_neg (by decide)]
    generalize hasPre s.lo.s t.lo.s = p1 at *
    generalize hasPre s.hi.s t.lo.s = p2 at *
    have q1 : (!Op.bytesLess s.hi.s.toList t.lo.s.toList) = geS s.hi.s t.lo.s := rfl
    have q2 : (Op.bytesLess s.lo.s.toList t.lo.s.toList || s.lo.s.toList == t.lo.s.toList) = leS s.lo.s t.lo.s := rfl
    cases c1 : geS s.hi.s t.lo.s <;> cases c2 : leS s.lo.s t.lo.s <;> rw [c1] at q1 <;> rw [c2] at q2 <;> cases p1 <;> cases p2
    all_goals
      refine spec_of_awp (fn := Tryd.f113) Tryd.func113 (by kernel_rfl) rfl ?_
      intro w0 C0
      simp only [Tryd.ntmps113, go_sem]
      all_goals have H := And.intro q1 q2
      repeat' first | refine awp_seq ?_ | refine awp_block ?_ | refine awp_skip ?_ | (apply regB; (case hd => exact hdA); intro K hK) | (apply ev_guardU; (case hj | hu | hσ => (simp only [go_sem, H]; try rfl))) | ((first | refine awp_cond _ (by rfl) ?_ ?_ | ((first | apply ev_guardT | apply ev_guardF); (case hj | hb => (simp only [go_sem, H]; try rfl)))) <;> (first | refine ttA ?_ | refine ffA ?_ | (intro hb; first | (cases hb; done) | simp only [hb] | skip))) | ((first | apply awp_exit | apply awp_ret); refine tqA ?_) | (refine ev_nil (hK _ ?_); clear hK K) | (apply ev_call0; (case hys => (simp only [go_sem, H]; try rfl)); (case hs => first | exact a1 .. | exact a2 .. | exact a3 .. | exact f109_spec ..); (case hok | hσ => (simp only [go_sem, H]; try rfl))) | (apply regDB; (case hd => exact hdA); (case' h => (intro K hK; (repeat' first | (apply evd_nil; refine (hK _ ?_); clear hK K) | (apply evd_call0; (case hi | hys => (simp only [go_sem, H]; try rfl)); (case hs => first | exact a1 .. | exact a2 .. | exact a3 .. | exact f109_spec ..); (case hok | hw | hσ => (simp only [go_sem, H]; try rfl))) | (apply evd_step0; (case hr | hi | hσ => (simp only [go_sem, H]; try rfl)); (case hc => exact hcA)) | (apply evd_step; (case hr | hi | hw | hσ => (intros; simp only [go_sem, H]; try rfl)); (case hc => exact hcA); (case' hk => (intro g u; (try clear u); (try clear g)))) | fail))); (case hB => kernel_rfl)) | (apply ev_step0; (case hr | hσ => (simp only [go_sem, H]; try rfl)); (case hc => exact hcA)) | (apply ev_step; (case hr | hσ => (intros; simp only [go_sem, H]; try rfl)); (case hc => exact hcA); intro g u; (try clear u); (try clear g)) | fail
      all_goals try clear H
      all_goals (refine resR_oneA ?_; simp only [go_sem])
      exact LeA.refl _
end
section
set_option linter.unusedVariables false
set_option linter.unusedSimpArgs false
open Go.RowKit
structure KS (k : Int) (s : Sp) : Prop where
  has : s.has = true → KV k s.lo ∧ KV k s.hi ∧ leV s.lo s.hi
  no : s.has = false → s.lo = nullV ∧ s.hi = nullV
theorem KS.nul {k : Int} (n : Bool) : KS k ⟨n, false, nullV, nullV⟩ := ⟨(fun h => by cases h), fun _ => ⟨rfl, rfl⟩⟩
theorem leV_bool {a b : Bool} : leV (boolV a) (boolV b) ↔ (a = true → b = true) := by
  unfold leV
  rw [cmp_same]
  cases a <;> cases b <;> simp [cmpW, boolV, cmpI, cmpL]
theorem KS.truth (n y u : Bool) : KS 1 (truthM n y u) := by
  unfold truthM
  cases n <;> cases y <;> refine ⟨fun h => ?_, fun h => ?_⟩ <;> first | (exact ⟨rfl, rfl⟩) | (cases h; done) | (refine ⟨KV.ofBool _, KV.ofBool _, leV_bool.2 ?_⟩; simp)
theorem leV_num {a b : Vl} (ha : KV 2 a) (hb : KV 2 b) : leV a b ↔ a.i ≤ b.i := by
  obtain ⟨ak, ai, az⟩ := a
  obtain ⟨bk, bi, bz⟩ := b
  have h1 := ha.kd
  have h2 := hb.kd
  have h3 := (ha.num rfl).2.2
  have h4 := (hb.num rfl).2.2
  simp only at h1 h2 h3 h4
  subst h1; subst h2; subst h3; subst h4
  unfold leV
  rw [cmp_same]
  unfold cmpW
  simp only [ne_eq, not_true, if_false]
  by_cases h : ai = bi
  · simp [h, cmpL]
  · simp only [h, not_false_eq_true, if_true]
    unfold cmpI
    split
    · simp; omega
    · split
      · simp; omega
      · omega
theorem leV_text {a b : Vl} (ha : KV 3 a) (hb : KV 3 b) : leV a b ↔ cmpL (bs a.s) (bs b.s) ≤ 0 := by
  unfold leV
  rw [cmp_same]
  unfold cmpW
  rw [ha.kd, hb.kd, ha.text rfl, hb.text rfl]
  simp
theorem KS.numbers {lo hi : Int} (h : lo ≤ hi) : KS 2 (numbersM lo hi) := by
  unfold numbersM
  split
  · rename_i hh
    rw [Bool.and_eq_true, decide_eq_true_eq, decide_eq_true_eq] at hh
    have k1 : KV 2 ⟨2, clampLo lo, ⟨#[]⟩⟩ := KV.ofNum (by unfold clampLo; split <;> omega) (by unfold clampLo; split <;> omega)
    have k2 : KV 2 ⟨2, clampHi hi, ⟨#[]⟩⟩ := KV.ofNum (by unfold clampHi; split <;> omega) (by unfold clampHi; split <;> omega)
    refine ⟨fun _ => ⟨k1, k2, (leV_num k1 k2).2 ?_⟩, fun h => by cases h⟩
    unfold clampLo clampHi
    simp only
    split <;> split <;> omega
  · exact KS.nul _
theorem KS.strict {k : Int} {s t r : Sp} (h : (s.has && t.has) = true → KS k r) : KS k (strictM s t r) := by
  unfold strictM
  split
  · rename_i hh
    exact ⟨(h hh).has, (h hh).no⟩
  · exact KS.nul _
structure SubS (s t : Sp) : Prop where
  null : s.null = true → t.null = true
  has : s.has = true → t.has = true ∧ leV t.lo s.lo ∧ leV s.hi t.hi
theorem noM_iff (s : Sp) : noM s = true ↔ s.has = true ∧ s.lo = boolV false := by
  unfold noM isBool
  rw [Bool.and_eq_true, eqVl_iff]
theorem yesM_iff (s : Sp) : yesM s = true ↔ s.has = true ∧ s.hi = boolV true := by
  unfold yesM isBool
  rw [Bool.and_eq_true, eqVl_iff]
theorem SubS.no {s t : Sp} (h : SubS s t) (ht : KS 1 t) (hn : noM s = true) : noM t = true := by
  rw [noM_iff] at hn ⊢
  have h1 := h.has hn.1
  obtain ⟨b, hb⟩ := (ht.has h1.1).1.bool rfl
  refine ⟨h1.1, ?_⟩
  rw [hb] at h1 ⊢
  have := h1.2.1
  rw [hn.2, leV_bool] at this
  cases b with
  | false => rfl
  | true => cases this rfl
theorem SubS.yes {s t : Sp} (h : SubS s t) (ht : KS 1 t) (hn : yesM s = true) : yesM t = true := by
  rw [yesM_iff] at hn ⊢
  have h1 := h.has hn.1
  obtain ⟨b, hb⟩ := (ht.has h1.1).2.1.bool rfl
  refine ⟨h1.1, ?_⟩
  rw [hb] at h1 ⊢
  have := h1.2.2
  rw [hn.2, leV_bool] at this
  rw [this rfl]
theorem SubS.truth {n y u n' y' u' : Bool} (h1 : n = true → n' = true) (h2 : y = true → y' = true) (h3 : u = true → u' = true) : SubS (truthM n y u) (truthM n' y' u') := by
  unfold truthM
  cases n <;> cases y <;> cases n' <;> cases y' <;> first | exact absurd (h1 rfl) (by decide) | exact absurd (h2 rfl) (by decide) | (refine ⟨h3, fun h => ?_⟩; first | (cases h; done) | (refine ⟨rfl, leV_bool.2 ?_, leV_bool.2 ?_⟩ <;> simp))
theorem SubS.strict {s t r s' t' r' : Sp} (hs : SubS s s') (ht : SubS t t') (h : (s.has && t.has) = true → SubS r r') : SubS (strictM s t r) (strictM s' t' r') := by
  unfold strictM
  cases hh : (s.has && t.has) with
  | true =>
    have e := hh
    rw [Bool.and_eq_true] at hh
    rw [if_pos rfl, if_pos (by rw [Bool.and_eq_true]; exact ⟨(hs.has hh.1).1, (ht.has hh.2).1⟩)]
    have hr := h e
    refine ⟨fun hn => ?_, hr.has⟩
    simp only [Bool.or_eq_true] at hn ⊢
    rcases hn with (hn | hn) | hn
    · exact .inl (.inl (hr.null hn))
    · exact .inl (.inr (hs.null hn))
    · exact .inr (ht.null hn)
  | false =>
    rw [if_neg (by decide)]
    refine ⟨fun hn => ?_, fun hn => by cases hn⟩
    simp only [Bool.or_eq_true] at hn
    split <;> simp only [Bool.or_eq_true]
    · rcases hn with hn | hn
      · exact .inl (.inr (hs.null hn))
      · exact .inr (ht.null hn)
    · rcases hn with hn | hn
      · exact .inl (hs.null hn)
      · exact .inr (ht.null hn)
theorem SubS.and {s t s' t' : Sp} (hs : SubS s s') (ht : SubS t t') (ks : KS 1 s') (kt : KS 1 t') : SubS (andM s t) (andM s' t') := by
  unfold andM
  refine SubS.truth (fun h => ?_) (fun h => ?_) (fun h => ?_) <;> simp only [Bool.or_eq_true, Bool.and_eq_true] at h ⊢
  · exact h.imp (hs.no ks) (ht.no kt)
  · exact ⟨hs.yes ks h.1, ht.yes kt h.2⟩
  · exact h.imp (fun h => ⟨hs.null h.1, h.2.imp ht.null (ht.yes kt)⟩) (fun h => ⟨ht.null h.1, hs.yes ks h.2⟩)
theorem SubS.or {s t s' t' : Sp} (hs : SubS s s') (ht : SubS t t') (ks : KS 1 s') (kt : KS 1 t') : SubS (orM s t) (orM s' t') := by
  unfold orM
  refine SubS.truth (fun h => ?_) (fun h => ?_) (fun h => ?_) <;> simp only [Bool.or_eq_true, Bool.and_eq_true] at h ⊢
  · exact ⟨hs.no ks h.1, ht.no kt h.2⟩
  · exact h.imp (hs.yes ks) (ht.yes kt)
  · exact h.imp (fun h => ⟨hs.null h.1, h.2.imp ht.null (ht.no kt)⟩) (fun h => ⟨ht.null h.1, hs.no ks h.2⟩)
theorem SubS.not {s s' : Sp} (hs : SubS s s') (ks : KS 1 s') : SubS (notM s) (notM s') :=
  SubS.truth (hs.yes ks) (hs.no ks) hs.null
theorem SubS.isn {s s' : Sp} (hs : SubS s s') : SubS (isNullM s) (isNullM s') :=
  SubS.truth (fun h => (hs.has h).1) hs.null (fun h => h)
theorem leV_lt_trans {a b c d : Vl} (h1 : leV a b) (h2 : cmpV b c < 0) (h3 : leV c d) : cmpV a d < 0 := by
  by_cases h : cmpV a d < 0
  · exact h
  have h4 := leV_not h
  have h5 : leV c b := leV_trans h3 (leV_trans h4 h1)
  have h6 := leV_anti h5 (leV_lt h2)
  rw [h6, cmpV_cmp.self] at h2
  omega
theorem ge_iff {a b : Vl} : cmpV a b ≥ 0 ↔ leV b a := by
  constructor
  · intro h; exact leV_not (by omega)
  · intro h
    by_cases h0 : cmpV a b < 0
    · have := leV_anti (leV_lt h0) h
      rw [this, cmpV_cmp.self] at h0; omega
    · omega
theorem SubS.equal {s t s' t' : Sp} (l1 : leV s'.lo s.lo) (l2 : leV s.hi s'.hi) (l3 : leV t'.lo t.lo) (l4 : leV t.hi t'.hi) (ls : leV s.lo s.hi) (lt : leV t.lo t.hi) : SubS (equalM s t) (equalM s' t') := by
  unfold equalM
  refine SubS.truth (fun h => ?_) (fun h => ?_) (fun h => h)
  · rcases h' : (!eqVl s'.lo s'.hi || !eqVl t'.lo t'.hi || !eqVl s'.lo t'.lo) with _ | _
    · simp only [Bool.or_eq_false_iff, Bool.not_eq_false', eqVl_iff] at h'
      obtain ⟨⟨h1, h2⟩, h3⟩ := h'
      rw [← h1] at l2
      rw [← h2] at l4
      have e1 : s.lo = s'.lo := leV_anti (leV_trans ls l2) l1
      have e2 : t.lo = t'.lo := leV_anti (leV_trans lt l4) l3
      have e3 : s.lo = s.hi := leV_anti ls (leV_trans l2 l1)
      have e4 : t.lo = t.hi := leV_anti lt (leV_trans l4 l3)
      rw [(eqVl_iff _ _).2 e3, (eqVl_iff _ _).2 e4, (eqVl_iff _ _).2 (show s.lo = t.lo by rw [e1, e2, h3])] at h
      cases h
    · rfl
  · unfold apartM at h ⊢
    simp only [Bool.not_eq_true', Bool.or_eq_false_iff, decide_eq_false_iff_not] at h ⊢
    obtain ⟨h1, h2⟩ := h
    exact ⟨fun h => h1 (leV_lt_trans l2 h l3), fun h => h2 (leV_lt_trans l4 h l1)⟩
theorem clampLo_mono {a b : Int} (h : a ≤ b) : clampLo a ≤ clampLo b := by unfold clampLo; split <;> split <;> omega
theorem clampHi_mono {a b : Int} (h : a ≤ b) : clampHi a ≤ clampHi b := by unfold clampHi; split <;> split <;> omega
theorem SubS.numbers {lo hi lo' hi' : Int} (h : lo ≤ hi) (h1 : lo' ≤ lo) (h2 : hi ≤ hi') : SubS (numbersM lo hi) (numbersM lo' hi') := by
  have k1 := KS.numbers h
  have k2 := KS.numbers (show lo' ≤ hi' by omega)
  unfold numbersM at *
  cases hh : (decide (lo ≤ 4000000000000000000) && decide (hi ≥ -4000000000000000000)) with
  | true =>
    rw [hh, if_pos rfl] at k1
    have e : (decide (lo' ≤ 4000000000000000000) && decide (hi' ≥ -4000000000000000000)) = true := by
      simp only [Bool.and_eq_true, decide_eq_true_eq] at hh ⊢; omega
    rw [e, if_pos rfl] at k2 ⊢
    rw [if_pos rfl]
    refine ⟨fun h => ?_, fun _ => ⟨rfl, ?_, ?_⟩⟩
    · simp only [Bool.or_eq_true, decide_eq_true_eq] at h ⊢; omega
    · exact (leV_num (k2.has rfl).1 (k1.has rfl).1).2 (clampLo_mono h1)
    · exact (leV_num (k1.has rfl).2.1 (k2.has rfl).2.1).2 (clampHi_mono h2)
  | false =>
    rw [if_neg (by decide)]
    refine ⟨fun h => ?_, fun h => by cases h⟩
    simp only [Bool.or_eq_true, decide_eq_true_eq] at h
    split <;> simp only [Bool.or_eq_true, decide_eq_true_eq] <;> omega
theorem cmpL_anti (a b : ByteArray) : cmpL (bs a) (bs b) < 0 ↔ 0 < cmpL (bs b) (bs a) := cmpS_cmp.anti a b
theorem geS_iff (a b : ByteArray) : geS a b = true ↔ cmpL (bs b) (bs a) ≤ 0 := by
  have h := cmpL_eq (bs a) (bs b)
  have h2 := cmpL_anti a b
  have h3 := cmpL_anti b a
  unfold geS
  rw [ByteArray.toList_eq, ByteArray.toList_eq, Bool.not_eq_true', ← Bool.not_eq_true]
  constructor
  · intro hh
    rw [if_neg hh] at h
    by_cases h0 : cmpL (bs b) (bs a) > 0
    · have := h2.2 h0
      rw [h] at this
      split at this <;> omega
    · omega
  · intro hh h1
    rw [if_pos h1] at h
    have := h2.1 (by rw [h]; omega)
    omega
theorem leS_iff (a b : ByteArray) : leS a b = true ↔ cmpL (bs a) (bs b) ≤ 0 := by
  have h := cmpL_eq (bs a) (bs b)
  unfold leS
  rw [ByteArray.toList_eq, ByteArray.toList_eq, Bool.or_eq_true]
  constructor
  · rintro (hh | hh)
    · rw [if_pos hh] at h; omega
    · rw [if_pos hh] at h
      split at h <;> omega
  · intro hh
    by_cases h1 : Op.bytesLess (bs a) (bs b) = true
    · exact .inl h1
    · rw [if_neg h1] at h
      split at h
      · rename_i h2; exact .inr h2
      · omega
end
section
set_option linter.unusedVariables false
set_option linter.unusedSimpArgs false
open Go.RowKit
attribute [local irreducible] Spec SpecF SpecN
attribute [local irreducible] AWp evOps evD
theorem f37_same (a b : Vl) (ha : a.s.size ≤ 4611686018427387904) (hb : b.s.size ≤ 4611686018427387904) : Spec Tryd.prog 37 [.agg (vl a), .agg (vl b)] (litI .i64 (cmpV a b)) := by
  rw [cmp_same]; exact f37_spec a b ha hb
theorem wide_isNull {v : Vl} (h : wideV v = true) : isNull v = (v.k == 0) := by
  unfold isNull
  by_cases h0 : v.k = 0
  · unfold wideV checkV at h
    rw [if_pos h0] at h
    rw [h, h0]; rfl
  · rw [show (v.k == 0) = false by simpa using h0]; rfl
def validR (b : Bd) : Bool :=
  if decide (b.nulls < 0) = true then false else if decide (b.nulls > 4000000000000000000) = true then false else if decide (b.sum > 4000000000000000000) = true then false else if decide (b.sum < -4000000000000000000) = true then false
  else if b.has = false then (if ((b.lo.k == 0) && ((b.lo.i == 0) && noS b.lo.s)) = false then false else if ((b.hi.k == 0) && ((b.hi.i == 0) && noS b.hi.s)) = false then false else (b.sum == 0))
  else if wideV b.lo = false then false else if wideV b.hi = false then false else if (b.lo.k == b.hi.k) = false then false else if (b.lo.k != 0) = false then false else if decide (cmpV b.lo b.hi ≤ 0) = false then false
  else if (b.lo.k == 2) = true then true else (b.sum == 0)
theorem validR_eq (b : Bd) : validR b = validB b := by
  unfold validR validB bareB
  cases h1 : wideV b.lo with
  | false =>
    generalize ((b.lo.k == 0) && ((b.lo.i == 0) && noS b.lo.s)) = x
    generalize ((b.hi.k == 0) && ((b.hi.i == 0) && noS b.hi.s)) = y
    cases b.has <;> cases x <;> cases y <;> simp
  | true =>
    rw [wide_isNull h1]
    generalize ((b.lo.k == 0) && ((b.lo.i == 0) && noS b.lo.s)) = x
    generalize ((b.hi.k == 0) && ((b.hi.i == 0) && noS b.hi.s)) = y
    cases b.has <;> cases x <;> cases y <;> cases (b.lo.k == b.hi.k) <;> cases hz : (b.lo.k == 0) <;> simp [hz, bne]
set_option maxHeartbeats 8000000 in
theorem f17_spec (b : Bd) (hlo : VlOk b.lo) (hhi : VlOk b.hi) : Spec Tryd.prog 17 [.agg (bd b)] (litB (validB b)) := by
  have a1 := f36_spec b.lo hlo.i hlo.s
  have a2 := f36_spec b.hi hhi.i hhi.s
  have a3 := f37_same b.lo b.hi hlo.s hhi.s
  rw [← validR_eq]
  unfold validR
  obtain ⟨n1, hn1⟩ : ∃ n1, ((b.lo.k == 0) && ((b.lo.i == 0) && noS b.lo.s)) = n1 := ⟨_, rfl⟩
  obtain ⟨n2, hn2⟩ : ∃ n2, ((b.hi.k == 0) && ((b.hi.i == 0) && noS b.hi.s)) = n2 := ⟨_, rfl⟩
  have hq : ((b.lo.k == 0) && ((b.lo.i == 0) && (b.lo.s.toList == (⟨#[]⟩ : ByteArray).toList))) = n1 := hn1
  have hr : ((b.hi.k == 0) && ((b.hi.i == 0) && (b.hi.s.toList == (⟨#[]⟩ : ByteArray).toList))) = n2 := hn2
  rw [hn1, hn2]
  clear hn1 hn2
  cases d1 : (decide (b.nulls < 0)) with
  | true =>
    simp only [d1, if_true, if_false, Bool.false_eq_true, reduceCtorEq, Bool.true_eq_false]
    refine spec_of_awp (fn := Tryd.f17) Tryd.func17 (by kernel_rfl) rfl ?_
    intro w0 C0
    simp only [Tryd.ntmps17, go_sem]
    all_goals have H := And.intro d1 (And.intro hq hr)
    repeat' first | refine awp_seq ?_ | refine awp_block ?_ | refine awp_skip ?_ | (apply regB; (case hd => exact hdA); intro K hK) | (apply ev_guardU; (case hj | hu | hσ => (simp only [go_sem, H]; try rfl))) | ((first | refine awp_cond _ (by rfl) ?_ ?_ | ((first | apply ev_guardT | apply ev_guardF); (case hj | hb => (simp only [go_sem, H]; try rfl)))) <;> (first | refine ttA ?_ | refine ffA ?_ | (intro hb; first | (cases hb; done) | simp only [hb] | skip))) | ((first | apply awp_exit | apply awp_ret); refine tqA ?_) | (refine ev_nil (hK _ ?_); clear hK K) | (apply ev_step0; (case hr | hσ => (simp only [go_sem, H]; try rfl)); (case hc => exact hcA)) | (apply ev_step; (case hr | hσ => (intros; simp only [go_sem, H]; try rfl)); (case hc => exact hcA); intro g u; (try clear u); (try clear g)) | fail
    all_goals try clear H
    all_goals (refine resR_oneA ?_; simp only [go_sem])
    exact LeA.refl _
  | false =>
  cases d2 : (decide (b.nulls > 4000000000000000000)) with
  | true =>
    simp only [d1, d2, if_true, if_false, Bool.false_eq_true, reduceCtorEq, Bool.true_eq_false]
    refine spec_of_awp (fn := Tryd.f17) Tryd.func17 (by kernel_rfl) rfl ?_
    intro w0 C0
    simp only [Tryd.ntmps17, go_sem]
    all_goals have H := And.intro d1 (And.intro d2 (And.intro hq hr))
    repeat' first | refine awp_seq ?_ | refine awp_block ?_ | refine awp_skip ?_ | (apply regB; (case hd => exact hdA); intro K hK) | (apply ev_guardU; (case hj | hu | hσ => (simp only [go_sem, H]; try rfl))) | ((first | refine awp_cond _ (by rfl) ?_ ?_ | ((first | apply ev_guardT | apply ev_guardF); (case hj | hb => (simp only [go_sem, H]; try rfl)))) <;> (first | refine ttA ?_ | refine ffA ?_ | (intro hb; first | (cases hb; done) | simp only [hb] | skip))) | ((first | apply awp_exit | apply awp_ret); refine tqA ?_) | (refine ev_nil (hK _ ?_); clear hK K) | (apply ev_step0; (case hr | hσ => (simp only [go_sem, H]; try rfl)); (case hc => exact hcA)) | (apply ev_step; (case hr | hσ => (intros; simp only [go_sem, H]; try rfl)); (case hc => exact hcA); intro g u; (try clear u); (try clear g)) | fail
    all_goals try clear H
    all_goals (refine resR_oneA ?_; simp only [go_sem])
    exact LeA.refl _
  | false =>
  cases d3 : (decide (b.sum > 4000000000000000000)) with
  | true =>
    simp only [d1, d2, d3, if_true, if_false, Bool.false_eq_true, reduceCtorEq, Bool.true_eq_false]
    refine spec_of_awp (fn := Tryd.f17) Tryd.func17 (by kernel_rfl) rfl ?_
    intro w0 C0
    simp only [Tryd.ntmps17, go_sem]
    all_goals have H := And.intro d1 (And.intro d2 (And.intro d3 (And.intro hq hr)))
    repeat' first | refine awp_seq ?_ | refine awp_block ?_ | refine awp_skip ?_ | (apply regB; (case hd => exact hdA); intro K hK) | (apply ev_guardU; (case hj | hu | hσ => (simp only [go_sem, H]; try rfl))) | ((first | refine awp_cond _ (by rfl) ?_ ?_ | ((first | apply ev_guardT | apply ev_guardF); (case hj | hb => (simp only [go_sem, H]; try rfl)))) <;> (first | refine ttA ?_ | refine ffA ?_ | (intro hb; first | (cases hb; done) | simp only [hb] | skip))) | ((first | apply awp_exit | apply awp_ret); refine tqA ?_) | (refine ev_nil (hK _ ?_); clear hK K) | (apply ev_step0; (case hr | hσ => (simp only [go_sem, H]; try rfl)); (case hc => exact hcA)) | (apply ev_step; (case hr | hσ => (intros; simp only [go_sem, H]; try rfl)); (case hc => exact hcA); intro g u; (try clear u); (try clear g)) | fail
    all_goals try clear H
    all_goals (refine resR_oneA ?_; simp only [go_sem])
    exact LeA.refl _
  | false =>
  cases d4 : (decide (b.sum < -4000000000000000000)) with
  | true =>
    simp only [d1, d2, d3, d4, if_true, if_false, Bool.false_eq_true, reduceCtorEq, Bool.true_eq_false]
    refine spec_of_awp (fn := Tryd.f17) Tryd.func17 (by kernel_rfl) rfl ?_
    intro w0 C0
    simp only [Tryd.ntmps17, go_sem]
    all_goals have H := And.intro d1 (And.intro d2 (And.intro d3 (And.intro d4 (And.intro hq hr))))
    repeat' first | refine awp_seq ?_ | refine awp_block ?_ | refine awp_skip ?_ | (apply regB; (case hd => exact hdA); intro K hK) | (apply ev_guardU; (case hj | hu | hσ => (simp only [go_sem, H]; try rfl))) | ((first | refine awp_cond _ (by rfl) ?_ ?_ | ((first | apply ev_guardT | apply ev_guardF); (case hj | hb => (simp only [go_sem, H]; try rfl)))) <;> (first | refine ttA ?_ | refine ffA ?_ | (intro hb; first | (cases hb; done) | simp only [hb] | skip))) | ((first | apply awp_exit | apply awp_ret); refine tqA ?_) | (refine ev_nil (hK _ ?_); clear hK K) | (apply ev_step0; (case hr | hσ => (simp only [go_sem, H]; try rfl)); (case hc => exact hcA)) | (apply ev_step; (case hr | hσ => (intros; simp only [go_sem, H]; try rfl)); (case hc => exact hcA); intro g u; (try clear u); (try clear g)) | fail
    all_goals try clear H
    all_goals (refine resR_oneA ?_; simp only [go_sem])
    exact LeA.refl _
  | false =>
  cases hh : b.has with
  | false =>
    cases n1 with
    | false =>
      simp only [d1, d2, d3, d4, hh, if_true, if_false, Bool.false_eq_true, reduceCtorEq, Bool.true_eq_false]
      refine spec_of_awp (fn := Tryd.f17) Tryd.func17 (by kernel_rfl) rfl ?_
      intro w0 C0
      simp only [Tryd.ntmps17, go_sem]
      all_goals have H := And.intro d1 (And.intro d2 (And.intro d3 (And.intro d4 (And.intro hh (And.intro hq hr)))))
      repeat' first | refine awp_seq ?_ | refine awp_block ?_ | refine awp_skip ?_ | (apply regB; (case hd => exact hdA); intro K hK) | (apply ev_guardU; (case hj | hu | hσ => (simp only [go_sem, H]; try rfl))) | ((first | refine awp_cond _ (by rfl) ?_ ?_ | ((first | apply ev_guardT | apply ev_guardF); (case hj | hb => (simp only [go_sem, H]; try rfl)))) <;> (first | refine ttA ?_ | refine ffA ?_ | (intro hb; first | (cases hb; done) | simp only [hb] | skip))) | ((first | apply awp_exit | apply awp_ret); refine tqA ?_) | (refine ev_nil (hK _ ?_); clear hK K) | (apply ev_call0; (case hys => (simp only [go_sem, H]; try rfl)); (case hs => first | exact f27_spec ..); (case hok | hσ => (simp only [go_sem, H]; try rfl))) | (apply regDB; (case hd => exact hdA); (case' h => (intro K hK; (repeat' first | (apply evd_nil; refine (hK _ ?_); clear hK K) | (apply evd_guardU0; (case hj | hu | hσ => (simp only [go_sem, H]; try rfl))) | (apply evd_guardU; (case hj | hu | hσ => (simp only [go_sem, H]; try rfl))) | (apply evd_skipT0; (case hj | hb | hσ => (simp only [go_sem, H]; try rfl))) | (apply evd_skipF0; (case hj | hb | hσ => (simp only [go_sem, H]; try rfl))) | (apply evd_skipT; (case hj | hb | hσ => (simp only [go_sem, H]; try rfl))) | (apply evd_skipF; (case hj | hb | hσ => (simp only [go_sem, H]; try rfl))) | (apply evd_guardT; (case hj | hb => (simp only [go_sem, H]; try rfl)); (case' h2 => (intro hb; first | (cases hb; done) | (simp only [hb]) | skip)); (case' h1 => (intro hb; first | (cases hb; done) | (simp only [hb]) | skip))) | (apply evd_guardF; (case hj | hb => (simp only [go_sem, H]; try rfl)); (case' h2 => (intro hb; first | (cases hb; done) | (simp only [hb]) | skip)); (case' h1 => (intro hb; first | (cases hb; done) | (simp only [hb]) | skip))) | (apply evd_call0; (case hi | hys => (simp only [go_sem, H]; try rfl)); (case hs => first | exact f27_spec ..); (case hok | hw | hσ => (simp only [go_sem, H]; try rfl))) | (apply evd_step0; (case hr | hi | hσ => (simp only [go_sem, H]; try rfl)); (case hc => exact hcA)) | (apply evd_step; (case hr | hi | hw | hσ => (intros; simp only [go_sem, H]; try rfl)); (case hc => exact hcA); (case' hk => (intro g u; (try clear u); (try clear g)))) | fail))); (case hB => kernel_rfl)) | (apply ev_step0; (case hr | hσ => (simp only [go_sem, H]; try rfl)); (case hc => exact hcA)) | (apply ev_step; (case hr | hσ => (intros; simp only [go_sem, H]; try rfl)); (case hc => exact hcA); intro g u; (try clear u); (try clear g)) | fail
      all_goals try clear H
      all_goals (refine resR_oneA ?_; simp only [go_sem])
      exact LeA.refl _
    | true =>
    cases n2 with
    | false =>
      simp only [d1, d2, d3, d4, hh, if_true, if_false, Bool.false_eq_true, reduceCtorEq, Bool.true_eq_false]
      refine spec_of_awp (fn := Tryd.f17) Tryd.func17 (by kernel_rfl) rfl ?_
      intro w0 C0
      simp only [Tryd.ntmps17, go_sem]
      all_goals have H := And.intro d1 (And.intro d2 (And.intro d3 (And.intro d4 (And.intro hh (And.intro hq hr)))))
      repeat' first | refine awp_seq ?_ | refine awp_block ?_ | refine awp_skip ?_ | (apply regB; (case hd => exact hdA); intro K hK) | (apply ev_guardU; (case hj | hu | hσ => (simp only [go_sem, H]; try rfl))) | ((first | refine awp_cond _ (by rfl) ?_ ?_ | ((first | apply ev_guardT | apply ev_guardF); (case hj | hb => (simp only [go_sem, H]; try rfl)))) <;> (first | refine ttA ?_ | refine ffA ?_ | (intro hb; first | (cases hb; done) | simp only [hb] | skip))) | ((first | apply awp_exit | apply awp_ret); refine tqA ?_) | (refine ev_nil (hK _ ?_); clear hK K) | (apply ev_call0; (case hys => (simp only [go_sem, H]; try rfl)); (case hs => first | exact f27_spec ..); (case hok | hσ => (simp only [go_sem, H]; try rfl))) | (apply regDB; (case hd => exact hdA); (case' h => (intro K hK; (repeat' first | (apply evd_nil; refine (hK _ ?_); clear hK K) | (apply evd_guardU0; (case hj | hu | hσ => (simp only [go_sem, H]; try rfl))) | (apply evd_guardU; (case hj | hu | hσ => (simp only [go_sem, H]; try rfl))) | (apply evd_skipT0; (case hj | hb | hσ => (simp only [go_sem, H]; try rfl))) | (apply evd_skipF0; (case hj | hb | hσ => (simp only [go_sem, H]; try rfl))) | (apply evd_skipT; (case hj | hb | hσ => (simp only [go_sem, H]; try rfl))) | (apply evd_skipF; (case hj | hb | hσ => (simp only [go_sem, H]; try rfl))) | (apply evd_guardT; (case hj | hb => (simp only [go_sem, H]; try rfl)); (case' h2 => (intro hb; first | (cases hb; done) | (simp only [hb]) | skip)); (case' h1 => (intro hb; first | (cases hb; done) | (simp only [hb]) | skip))) | (apply evd_guardF; (case hj | hb => (simp only [go_sem, H]; try rfl)); (case' h2 => (intro hb; first | (cases hb; done) | (simp only [hb]) | skip)); (case' h1 => (intro hb; first | (cases hb; done) | (simp only [hb]) | skip))) | (apply evd_call0; (case hi | hys => (simp only [go_sem, H]; try rfl)); (case hs => first | exact f27_spec ..); (case hok | hw | hσ => (simp only [go_sem, H]; try rfl))) | (apply evd_step0; (case hr | hi | hσ => (simp only [go_sem, H]; try rfl)); (case hc => exact hcA)) | (apply evd_step; (case hr | hi | hw | hσ => (intros; simp only [go_sem, H]; try rfl)); (case hc => exact hcA); (case' hk => (intro g u; (try clear u); (try clear g)))) | fail))); (case hB => kernel_rfl)) | (apply ev_step0; (case hr | hσ => (simp only [go_sem, H]; try rfl)); (case hc => exact hcA)) | (apply ev_step; (case hr | hσ => (intros; simp only [go_sem, H]; try rfl)); (case hc => exact hcA); intro g u; (try clear u); (try clear g)) | fail
      all_goals try clear H
      all_goals (refine resR_oneA ?_; simp only [go_sem])
      exact LeA.refl _
    | true =>
    cases s0 : (b.sum == 0) with
    | true =>
      simp only [d1, d2, d3, d4, hh, s0, if_true, if_false, Bool.false_eq_true, reduceCtorEq, Bool.true_eq_false]
      refine spec_of_awp (fn := Tryd.f17) Tryd.func17 (by kernel_rfl) rfl ?_
      intro w0 C0
      simp only [Tryd.ntmps17, go_sem]
      all_goals have H := And.intro d1 (And.intro d2 (And.intro d3 (And.intro d4 (And.intro hh (And.intro s0 (And.intro hq hr))))))
      repeat' first | refine awp_seq ?_ | refine awp_block ?_ | refine awp_skip ?_ | (apply regB; (case hd => exact hdA); intro K hK) | (apply ev_guardU; (case hj | hu | hσ => (simp only [go_sem, H]; try rfl))) | ((first | refine awp_cond _ (by rfl) ?_ ?_ | ((first | apply ev_guardT | apply ev_guardF); (case hj | hb => (simp only [go_sem, H]; try rfl)))) <;> (first | refine ttA ?_ | refine ffA ?_ | (intro hb; first | (cases hb; done) | simp only [hb] | skip))) | ((first | apply awp_exit | apply awp_ret); refine tqA ?_) | (refine ev_nil (hK _ ?_); clear hK K) | (apply ev_call0; (case hys => (simp only [go_sem, H]; try rfl)); (case hs => first | exact f27_spec ..); (case hok | hσ => (simp only [go_sem, H]; try rfl))) | (apply regDB; (case hd => exact hdA); (case' h => (intro K hK; (repeat' first | (apply evd_nil; refine (hK _ ?_); clear hK K) | (apply evd_guardU0; (case hj | hu | hσ => (simp only [go_sem, H]; try rfl))) | (apply evd_guardU; (case hj | hu | hσ => (simp only [go_sem, H]; try rfl))) | (apply evd_skipT0; (case hj | hb | hσ => (simp only [go_sem, H]; try rfl))) | (apply evd_skipF0; (case hj | hb | hσ => (simp only [go_sem, H]; try rfl))) | (apply evd_skipT; (case hj | hb | hσ => (simp only [go_sem, H]; try rfl))) | (apply evd_skipF; (case hj | hb | hσ => (simp only [go_sem, H]; try rfl))) | (apply evd_guardT; (case hj | hb => (simp only [go_sem, H]; try rfl)); (case' h2 => (intro hb; first | (cases hb; done) | (simp only [hb]) | skip)); (case' h1 => (intro hb; first | (cases hb; done) | (simp only [hb]) | skip))) | (apply evd_guardF; (case hj | hb => (simp only [go_sem, H]; try rfl)); (case' h2 => (intro hb; first | (cases hb; done) | (simp only [hb]) | skip)); (case' h1 => (intro hb; first | (cases hb; done) | (simp only [hb]) | skip))) | (apply evd_call0; (case hi | hys => (simp only [go_sem, H]; try rfl)); (case hs => first | exact f27_spec ..); (case hok | hw | hσ => (simp only [go_sem, H]; try rfl))) | (apply evd_step0; (case hr | hi | hσ => (simp only [go_sem, H]; try rfl)); (case hc => exact hcA)) | (apply evd_step; (case hr | hi | hw | hσ => (intros; simp only [go_sem, H]; try rfl)); (case hc => exact hcA); (case' hk => (intro g u; (try clear u); (try clear g)))) | fail))); (case hB => kernel_rfl)) | (apply ev_step0; (case hr | hσ => (simp only [go_sem, H]; try rfl)); (case hc => exact hcA)) | (apply ev_step; (case hr | hσ => (intros; simp only [go_sem, H]; try rfl)); (case hc => exact hcA); intro g u; (try clear u); (try clear g)) | fail
      all_goals try clear H
      all_goals (refine resR_oneA ?_; simp only [go_sem])
      exact LeA.refl _
    | false =>
      simp only [d1, d2, d3, d4, hh, s0, if_true, if_false, Bool.false_eq_true, reduceCtorEq, Bool.true_eq_false]
      refine spec_of_awp (fn := Tryd.f17) Tryd.func17 (by kernel_rfl) rfl ?_
      intro w0 C0
      simp only [Tryd.ntmps17, go_sem]
      all_goals have H := And.intro d1 (And.intro d2 (And.intro d3 (And.intro d4 (And.intro hh (And.intro s0 (And.intro hq hr))))))
      repeat' first | refine awp_seq ?_ | refine awp_block ?_ | refine awp_skip ?_ | (apply regB; (case hd => exact hdA); intro K hK) | (apply ev_guardU; (case hj | hu | hσ => (simp only [go_sem, H]; try rfl))) | ((first | refine awp_cond _ (by rfl) ?_ ?_ | ((first | apply ev_guardT | apply ev_guardF); (case hj | hb => (simp only [go_sem, H]; try rfl)))) <;> (first | refine ttA ?_ | refine ffA ?_ | (intro hb; first | (cases hb; done) | simp only [hb] | skip))) | ((first | apply awp_exit | apply awp_ret); refine tqA ?_) | (refine ev_nil (hK _ ?_); clear hK K) | (apply ev_call0; (case hys => (simp only [go_sem, H]; try rfl)); (case hs => first | exact f27_spec ..); (case hok | hσ => (simp only [go_sem, H]; try rfl))) | (apply regDB; (case hd => exact hdA); (case' h => (intro K hK; (repeat' first | (apply evd_nil; refine (hK _ ?_); clear hK K) | (apply evd_guardU0; (case hj | hu | hσ => (simp only [go_sem, H]; try rfl))) | (apply evd_guardU; (case hj | hu | hσ => (simp only [go_sem, H]; try rfl))) | (apply evd_skipT0; (case hj | hb | hσ => (simp only [go_sem, H]; try rfl))) | (apply evd_skipF0; (case hj | hb | hσ => (simp only [go_sem, H]; try rfl))) | (apply evd_skipT; (case hj | hb | hσ => (simp only [go_sem, H]; try rfl))) | (apply evd_skipF; (case hj | hb | hσ => (simp only [go_sem, H]; try rfl))) | (apply evd_guardT; (case hj | hb => (simp only [go_sem, H]; try rfl)); (case' h2 => (intro hb; first | (cases hb; done) | (simp only [hb]) | skip)); (case' h1 => (intro hb; first | (cases hb; done) | (simp only [hb]) | skip))) | (apply evd_guardF; (case hj | hb => (simp only [go_sem, H]; try rfl)); (case' h2 => (intro hb; first | (cases hb; done) | (simp only [hb]) | skip)); (case' h1 => (intro hb; first | (cases hb; done) | (simp only [hb]) | skip))) | (apply evd_call0; (case hi | hys => (simp only [go_sem, H]; try rfl)); (case hs => first | exact f27_spec ..); (case hok | hw | hσ => (simp only [go_sem, H]; try rfl))) | (apply evd_step0; (case hr | hi | hσ => (simp only [go_sem, H]; try rfl)); (case hc => exact hcA)) | (apply evd_step; (case hr | hi | hw | hσ => (intros; simp only [go_sem, H]; try rfl)); (case hc => exact hcA); (case' hk => (intro g u; (try clear u); (try clear g)))) | fail))); (case hB => kernel_rfl)) | (apply ev_step0; (case hr | hσ => (simp only [go_sem, H]; try rfl)); (case hc => exact hcA)) | (apply ev_step; (case hr | hσ => (intros; simp only [go_sem, H]; try rfl)); (case hc => exact hcA); intro g u; (try clear u); (try clear g)) | fail
      all_goals try clear H
      all_goals (refine resR_oneA ?_; simp only [go_sem])
      exact LeA.refl _
  | true =>
    cases w1 : (wideV b.lo) with
    | false =>
      rw [w1] at a1
      simp only [d1, d2, d3, d4, hh, w1, if_true, if_false, Bool.false_eq_true, reduceCtorEq, Bool.true_eq_false]
      refine spec_of_awp (fn := Tryd.f17) Tryd.func17 (by kernel_rfl) rfl ?_
      intro w0 C0
      simp only [Tryd.ntmps17, go_sem]
      all_goals have H := And.intro d1 (And.intro d2 (And.intro d3 (And.intro d4 (And.intro hh (And.intro hq hr)))))
      repeat' first | refine awp_seq ?_ | refine awp_block ?_ | refine awp_skip ?_ | (apply regB; (case hd => exact hdA); intro K hK) | (apply ev_guardU; (case hj | hu | hσ => (simp only [go_sem, H]; try rfl))) | ((first | refine awp_cond _ (by rfl) ?_ ?_ | ((first | apply ev_guardT | apply ev_guardF); (case hj | hb => (simp only [go_sem, H]; try rfl)))) <;> (first | refine ttA ?_ | refine ffA ?_ | (intro hb; first | (cases hb; done) | simp only [hb] | skip))) | ((first | apply awp_exit | apply awp_ret); refine tqA ?_) | (refine ev_nil (hK _ ?_); clear hK K) | (apply ev_call0; (case hys => (simp only [go_sem, H]; try rfl)); (case hs => first | exact a1 ..); (case hok | hσ => (simp only [go_sem, H]; try rfl))) | (apply ev_step0; (case hr | hσ => (simp only [go_sem, H]; try rfl)); (case hc => exact hcA)) | (apply ev_step; (case hr | hσ => (intros; simp only [go_sem, H]; try rfl)); (case hc => exact hcA); intro g u; (try clear u); (try clear g)) | fail
      all_goals try clear H
      all_goals (refine resR_oneA ?_; simp only [go_sem])
      exact LeA.refl _
    | true =>
    cases w2 : (wideV b.hi) with
    | false =>
      rw [w1] at a1
      rw [w2] at a2
      simp only [d1, d2, d3, d4, hh, w1, w2, if_true, if_false, Bool.false_eq_true, reduceCtorEq, Bool.true_eq_false]
      refine spec_of_awp (fn := Tryd.f17) Tryd.func17 (by kernel_rfl) rfl ?_
      intro w0 C0
      simp only [Tryd.ntmps17, go_sem]
      all_goals have H := And.intro d1 (And.intro d2 (And.intro d3 (And.intro d4 (And.intro hh (And.intro hq hr)))))
      repeat' first | refine awp_seq ?_ | refine awp_block ?_ | refine awp_skip ?_ | (apply regB; (case hd => exact hdA); intro K hK) | (apply ev_guardU; (case hj | hu | hσ => (simp only [go_sem, H]; try rfl))) | ((first | refine awp_cond _ (by rfl) ?_ ?_ | ((first | apply ev_guardT | apply ev_guardF); (case hj | hb => (simp only [go_sem, H]; try rfl)))) <;> (first | refine ttA ?_ | refine ffA ?_ | (intro hb; first | (cases hb; done) | simp only [hb] | skip))) | ((first | apply awp_exit | apply awp_ret); refine tqA ?_) | (refine ev_nil (hK _ ?_); clear hK K) | (apply ev_call0; (case hys => (simp only [go_sem, H]; try rfl)); (case hs => first | exact a1 .. | exact a2 ..); (case hok | hσ => (simp only [go_sem, H]; try rfl))) | (apply ev_step0; (case hr | hσ => (simp only [go_sem, H]; try rfl)); (case hc => exact hcA)) | (apply ev_step; (case hr | hσ => (intros; simp only [go_sem, H]; try rfl)); (case hc => exact hcA); intro g u; (try clear u); (try clear g)) | fail
      all_goals try clear H
      all_goals (refine resR_oneA ?_; simp only [go_sem])
      exact LeA.refl _
    | true =>
    cases kk : (b.lo.k == b.hi.k) with
    | false =>
      rw [w1] at a1
      rw [w2] at a2
      simp only [d1, d2, d3, d4, hh, w1, w2, kk, if_true, if_false, Bool.false_eq_true, reduceCtorEq, Bool.true_eq_false]
      refine spec_of_awp (fn := Tryd.f17) Tryd.func17 (by kernel_rfl) rfl ?_
      intro w0 C0
      simp only [Tryd.ntmps17, go_sem]
      all_goals have H := And.intro d1 (And.intro d2 (And.intro d3 (And.intro d4 (And.intro hh (And.intro kk (And.intro hq hr))))))
      repeat' first | refine awp_seq ?_ | refine awp_block ?_ | refine awp_skip ?_ | (apply regB; (case hd => exact hdA); intro K hK) | (apply ev_guardU; (case hj | hu | hσ => (simp only [go_sem, H]; try rfl))) | ((first | refine awp_cond _ (by rfl) ?_ ?_ | ((first | apply ev_guardT | apply ev_guardF); (case hj | hb => (simp only [go_sem, H]; try rfl)))) <;> (first | refine ttA ?_ | refine ffA ?_ | (intro hb; first | (cases hb; done) | simp only [hb] | skip))) | ((first | apply awp_exit | apply awp_ret); refine tqA ?_) | (refine ev_nil (hK _ ?_); clear hK K) | (apply ev_call0; (case hys => (simp only [go_sem, H]; try rfl)); (case hs => first | exact a1 .. | exact a2 ..); (case hok | hσ => (simp only [go_sem, H]; try rfl))) | (apply ev_step0; (case hr | hσ => (simp only [go_sem, H]; try rfl)); (case hc => exact hcA)) | (apply ev_step; (case hr | hσ => (intros; simp only [go_sem, H]; try rfl)); (case hc => exact hcA); intro g u; (try clear u); (try clear g)) | fail
      all_goals try clear H
      all_goals (refine resR_oneA ?_; simp only [go_sem])
      exact LeA.refl _
    | true =>
    cases nz : (b.lo.k != 0) with
    | false =>
      rw [w1] at a1
      rw [w2] at a2
      simp only [d1, d2, d3, d4, hh, w1, w2, kk, nz, if_true, if_false, Bool.false_eq_true, reduceCtorEq, Bool.true_eq_false]
      refine spec_of_awp (fn := Tryd.f17) Tryd.func17 (by kernel_rfl) rfl ?_
      intro w0 C0
      simp only [Tryd.ntmps17, go_sem]
      all_goals have H := And.intro d1 (And.intro d2 (And.intro d3 (And.intro d4 (And.intro hh (And.intro kk (And.intro nz (And.intro hq hr)))))))
      repeat' first | refine awp_seq ?_ | refine awp_block ?_ | refine awp_skip ?_ | (apply regB; (case hd => exact hdA); intro K hK) | (apply ev_guardU; (case hj | hu | hσ => (simp only [go_sem, H]; try rfl))) | ((first | refine awp_cond _ (by rfl) ?_ ?_ | ((first | apply ev_guardT | apply ev_guardF); (case hj | hb => (simp only [go_sem, H]; try rfl)))) <;> (first | refine ttA ?_ | refine ffA ?_ | (intro hb; first | (cases hb; done) | simp only [hb] | skip))) | ((first | apply awp_exit | apply awp_ret); refine tqA ?_) | (refine ev_nil (hK _ ?_); clear hK K) | (apply ev_call0; (case hys => (simp only [go_sem, H]; try rfl)); (case hs => first | exact a1 .. | exact a2 ..); (case hok | hσ => (simp only [go_sem, H]; try rfl))) | (apply ev_step0; (case hr | hσ => (simp only [go_sem, H]; try rfl)); (case hc => exact hcA)) | (apply ev_step; (case hr | hσ => (intros; simp only [go_sem, H]; try rfl)); (case hc => exact hcA); intro g u; (try clear u); (try clear g)) | fail
      all_goals try clear H
      all_goals (refine resR_oneA ?_; simp only [go_sem])
      exact LeA.refl _
    | true =>
    cases cc : (decide (cmpV b.lo b.hi ≤ 0)) with
    | false =>
      rw [w1] at a1
      rw [w2] at a2
      simp only [d1, d2, d3, d4, hh, w1, w2, kk, nz, cc, if_true, if_false, Bool.false_eq_true, reduceCtorEq, Bool.true_eq_false]
      refine spec_of_awp (fn := Tryd.f17) Tryd.func17 (by kernel_rfl) rfl ?_
      intro w0 C0
      simp only [Tryd.ntmps17, go_sem]
      all_goals have H := And.intro d1 (And.intro d2 (And.intro d3 (And.intro d4 (And.intro hh (And.intro kk (And.intro nz (And.intro cc (And.intro hq hr))))))))
      repeat' first | refine awp_seq ?_ | refine awp_block ?_ | refine awp_skip ?_ | (apply regB; (case hd => exact hdA); intro K hK) | (apply ev_guardU; (case hj | hu | hσ => (simp only [go_sem, H]; try rfl))) | ((first | refine awp_cond _ (by rfl) ?_ ?_ | ((first | apply ev_guardT | apply ev_guardF); (case hj | hb => (simp only [go_sem, H]; try rfl)))) <;> (first | refine ttA ?_ | refine ffA ?_ | (intro hb; first | (cases hb; done) | simp only [hb] | skip))) | ((first | apply awp_exit | apply awp_ret); refine tqA ?_) | (refine ev_nil (hK _ ?_); clear hK K) | (apply ev_call0; (case hys => (simp only [go_sem, H]; try rfl)); (case hs => first | exact a1 .. | exact a2 .. | exact a3 ..); (case hok | hσ => (simp only [go_sem, H]; try rfl))) | (apply ev_step0; (case hr | hσ => (simp only [go_sem, H]; try rfl)); (case hc => exact hcA)) | (apply ev_step; (case hr | hσ => (intros; simp only [go_sem, H]; try rfl)); (case hc => exact hcA); intro g u; (try clear u); (try clear g)) | fail
      all_goals try clear H
      all_goals (refine resR_oneA ?_; simp only [go_sem])
      exact LeA.refl _
    | true =>
    cases k2 : (b.lo.k == 2) with
    | true =>
      cases s0 : (b.sum == 0) with
      | true =>
        rw [w1] at a1
        rw [w2] at a2
        simp only [d1, d2, d3, d4, hh, w1, w2, kk, nz, cc, k2, s0, if_true, if_false, Bool.false_eq_true, reduceCtorEq, Bool.true_eq_false]
        refine spec_of_awp (fn := Tryd.f17) Tryd.func17 (by kernel_rfl) rfl ?_
        intro w0 C0
        simp only [Tryd.ntmps17, go_sem]
        all_goals have H := And.intro d1 (And.intro d2 (And.intro d3 (And.intro d4 (And.intro hh (And.intro kk (And.intro nz (And.intro cc (And.intro k2 (And.intro s0 (And.intro hq hr))))))))))
        repeat' first | refine awp_seq ?_ | refine awp_block ?_ | refine awp_skip ?_ | (apply regB; (case hd => exact hdA); intro K hK) | (apply ev_guardU; (case hj | hu | hσ => (simp only [go_sem, H]; try rfl))) | ((first | refine awp_cond _ (by rfl) ?_ ?_ | ((first | apply ev_guardT | apply ev_guardF); (case hj | hb => (simp only [go_sem, H]; try rfl)))) <;> (first | refine ttA ?_ | refine ffA ?_ | (intro hb; first | (cases hb; done) | simp only [hb] | skip))) | ((first | apply awp_exit | apply awp_ret); refine tqA ?_) | (refine ev_nil (hK _ ?_); clear hK K) | (apply ev_call0; (case hys => (simp only [go_sem, H]; try rfl)); (case hs => first | exact a1 .. | exact a2 .. | exact a3 ..); (case hok | hσ => (simp only [go_sem, H]; try rfl))) | (apply ev_step0; (case hr | hσ => (simp only [go_sem, H]; try rfl)); (case hc => exact hcA)) | (apply ev_step; (case hr | hσ => (intros; simp only [go_sem, H]; try rfl)); (case hc => exact hcA); intro g u; (try clear u); (try clear g)) | fail
        all_goals try clear H
        all_goals (refine resR_oneA ?_; simp only [go_sem])
        exact LeA.refl _
      | false =>
        rw [w1] at a1
        rw [w2] at a2
        simp only [d1, d2, d3, d4, hh, w1, w2, kk, nz, cc, k2, s0, if_true, if_false, Bool.false_eq_true, reduceCtorEq, Bool.true_eq_false]
        refine spec_of_awp (fn := Tryd.f17) Tryd.func17 (by kernel_rfl) rfl ?_
        intro w0 C0
        simp only [Tryd.ntmps17, go_sem]
        all_goals have H := And.intro d1 (And.intro d2 (And.intro d3 (And.intro d4 (And.intro hh (And.intro kk (And.intro nz (And.intro cc (And.intro k2 (And.intro s0 (And.intro hq hr))))))))))
        repeat' first | refine awp_seq ?_ | refine awp_block ?_ | refine awp_skip ?_ | (apply regB; (case hd => exact hdA); intro K hK) | (apply ev_guardU; (case hj | hu | hσ => (simp only [go_sem, H]; try rfl))) | ((first | refine awp_cond _ (by rfl) ?_ ?_ | ((first | apply ev_guardT | apply ev_guardF); (case hj | hb => (simp only [go_sem, H]; try rfl)))) <;> (first | refine ttA ?_ | refine ffA ?_ | (intro hb; first | (cases hb; done) | simp only [hb] | skip))) | ((first | apply awp_exit | apply awp_ret); refine tqA ?_) | (refine ev_nil (hK _ ?_); clear hK K) | (apply ev_call0; (case hys => (simp only [go_sem, H]; try rfl)); (case hs => first | exact a1 .. | exact a2 .. | exact a3 ..); (case hok | hσ => (simp only [go_sem, H]; try rfl))) | (apply ev_step0; (case hr | hσ => (simp only [go_sem, H]; try rfl)); (case hc => exact hcA)) | (apply ev_step; (case hr | hσ => (intros; simp only [go_sem, H]; try rfl)); (case hc => exact hcA); intro g u; (try clear u); (try clear g)) | fail
        all_goals try clear H
        all_goals (refine resR_oneA ?_; simp only [go_sem])
        exact LeA.refl _
    | false =>
      cases s0 : (b.sum == 0) with
      | true =>
        rw [w1] at a1
        rw [w2] at a2
        simp only [d1, d2, d3, d4, hh, w1, w2, kk, nz, cc, k2, s0, if_true, if_false, Bool.false_eq_true, reduceCtorEq, Bool.true_eq_false]
        refine spec_of_awp (fn := Tryd.f17) Tryd.func17 (by kernel_rfl) rfl ?_
        intro w0 C0
        simp only [Tryd.ntmps17, go_sem]
        all_goals have H := And.intro d1 (And.intro d2 (And.intro d3 (And.intro d4 (And.intro hh (And.intro kk (And.intro nz (And.intro cc (And.intro k2 (And.intro s0 (And.intro hq hr))))))))))
        repeat' first | refine awp_seq ?_ | refine awp_block ?_ | refine awp_skip ?_ | (apply regB; (case hd => exact hdA); intro K hK) | (apply ev_guardU; (case hj | hu | hσ => (simp only [go_sem, H]; try rfl))) | ((first | refine awp_cond _ (by rfl) ?_ ?_ | ((first | apply ev_guardT | apply ev_guardF); (case hj | hb => (simp only [go_sem, H]; try rfl)))) <;> (first | refine ttA ?_ | refine ffA ?_ | (intro hb; first | (cases hb; done) | simp only [hb] | skip))) | ((first | apply awp_exit | apply awp_ret); refine tqA ?_) | (refine ev_nil (hK _ ?_); clear hK K) | (apply ev_call0; (case hys => (simp only [go_sem, H]; try rfl)); (case hs => first | exact a1 .. | exact a2 .. | exact a3 ..); (case hok | hσ => (simp only [go_sem, H]; try rfl))) | (apply ev_step0; (case hr | hσ => (simp only [go_sem, H]; try rfl)); (case hc => exact hcA)) | (apply ev_step; (case hr | hσ => (intros; simp only [go_sem, H]; try rfl)); (case hc => exact hcA); intro g u; (try clear u); (try clear g)) | fail
        all_goals try clear H
        all_goals (refine resR_oneA ?_; simp only [go_sem])
        exact LeA.refl _
      | false =>
        rw [w1] at a1
        rw [w2] at a2
        simp only [d1, d2, d3, d4, hh, w1, w2, kk, nz, cc, k2, s0, if_true, if_false, Bool.false_eq_true, reduceCtorEq, Bool.true_eq_false]
        refine spec_of_awp (fn := Tryd.f17) Tryd.func17 (by kernel_rfl) rfl ?_
        intro w0 C0
        simp only [Tryd.ntmps17, go_sem]
        all_goals have H := And.intro d1 (And.intro d2 (And.intro d3 (And.intro d4 (And.intro hh (And.intro kk (And.intro nz (And.intro cc (And.intro k2 (And.intro s0 (And.intro hq hr))))))))))
        repeat' first | refine awp_seq ?_ | refine awp_block ?_ | refine awp_skip ?_ | (apply regB; (case hd => exact hdA); intro K hK) | (apply ev_guardU; (case hj | hu | hσ => (simp only [go_sem, H]; try rfl))) | ((first | refine awp_cond _ (by rfl) ?_ ?_ | ((first | apply ev_guardT | apply ev_guardF); (case hj | hb => (simp only [go_sem, H]; try rfl)))) <;> (first | refine ttA ?_ | refine ffA ?_ | (intro hb; first | (cases hb; done) | simp only [hb] | skip))) | ((first | apply awp_exit | apply awp_ret); refine tqA ?_) | (refine ev_nil (hK _ ?_); clear hK K) | (apply ev_call0; (case hys => (simp only [go_sem, H]; try rfl)); (case hs => first | exact a1 .. | exact a2 .. | exact a3 ..); (case hok | hσ => (simp only [go_sem, H]; try rfl))) | (apply ev_step0; (case hr | hσ => (simp only [go_sem, H]; try rfl)); (case hc => exact hcA)) | (apply ev_step; (case hr | hσ => (intros; simp only [go_sem, H]; try rfl)); (case hc => exact hcA); intro g u; (try clear u); (try clear g)) | fail
        all_goals try clear H
        all_goals (refine resR_oneA ?_; simp only [go_sem])
        exact LeA.refl _
end
end Go.Proofs.YtopigomfhggkoaaDoor.A
