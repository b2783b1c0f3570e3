/- Which values are wide: the walks. Sums: the walks. -/
import Derived.Test.YtopigomfhggkoaaDoorJV0
namespace Go.Proofs.YtopigomfhggkoaaDoor.A
section
set_option linter.unusedVariables false
set_option linter.unusedSimpArgs false
open Go.RowKit
attribute [local irreducible] Spec SpecF SpecN
attribute [local irreducible] AWp evOps evD
abbrev bs (s : ByteArray) : List UInt8 := s.data.toList
theorem byteAt_nat (s : ByteArray) (i : Nat) : byteAt s (i : Int) = (((bs s).getD i 0).toNat : Int) := rfl
def plainB (b : UInt8) : Bool := decide (32 ≤ b) && decide (b ≤ 126)
def graphicB (s : ByteArray) : Bool := (bs s).all plainB
theorem f124_spec (s : ByteArray) (hs : s.size ≤ 4611686018427387904) : Spec Tryd.prog 124 [litS s] (litB (graphicB s)) := by
  have hl : (bs s).length = s.size := by simp
  refine spec_of_awp (fn := Tryd.f124) Tryd.func124 (by kernel_rfl) rfl ?_
  intro w0 C0
  simp only [Tryd.ntmps124, go_sem]
  repeat' first | refine awp_seq ?_ | refine awp_block ?_ | refine awp_skip ?_ | (apply regB; (case hd => exact hdA); intro K hK) | (apply ev_guardU; (case hj | hu | hσ => (simp only [go_sem]; try rfl))) | ((first | refine awp_cond _ (by rfl) ?_ ?_ | ((first | apply ev_guardT | apply ev_guardF); (case hj | hb => (simp only [go_sem]; try rfl)))) <;> (first | refine ttA ?_ | refine ffA ?_ | (intro hb; first | (cases hb; done) | simp only [hb] | skip))) | ((first | apply awp_exit | apply awp_ret); refine tqA ?_) | (refine ev_nil (hK _ ?_); clear hK K) | (apply ev_step0; (case hr | hσ => (simp only [go_sem]; try rfl)); (case hc => exact hcA)) | (apply ev_step; (case hr | hσ => (intros; simp only [go_sem]; try rfl)); (case hc => exact hcA); intro g u; (try clear u); (try clear g)) | fail
  refine awp_loopI (fun i : Nat => i ≤ s.size ∧ graphicB s = ((bs s).drop i).all plainB) (fun i => s.size - i) (fun i => ⟨[litS s, .any, litB false, .any, litS s, litI .i64 s.size, litI .i64 i, .any, .any, .any, .any, .any, .any, .any, .any, .any, .any, .any, .any, .any], [.no, .no, .no, .no, .no, .no, .no, .no, .no, .no, .no, .no, .no, .no, .no, .no, .no, .no, .no, .no]⟩) 0 ⟨by omega, rfl⟩ ?_ ?_
  · exact wkA
  rintro i ⟨hi, hfi⟩
  simp only [litI, litB, litS] at hi hfi ⊢
  by_cases hlt : i < s.size
  rotate_left
  have hdec : decide ((i : Int) < (s.size : Int)) = false := by simp; omega
  · repeat' first | refine awp_seq ?_ | refine awp_block ?_ | refine awp_skip ?_ | (apply regB; (case hd => exact hdA); intro K hK) | (apply ev_guardU; (case hj | hu | hσ => (simp only [go_sem, hdec]; try rfl))) | ((first | refine awp_cond _ (by rfl) ?_ ?_ | ((first | apply ev_guardT | apply ev_guardF); (case hj | hb => (simp only [go_sem, hdec]; try rfl)))) <;> (first | refine ttA ?_ | refine ffA ?_ | (intro hb; first | (cases hb; done) | simp only [hb] | skip))) | ((first | apply awp_exit | apply awp_ret); refine tqA ?_) | (refine ev_nil (hK _ ?_); clear hK K) | (apply ev_step0; (case hr | hσ => (simp only [go_sem, hdec]; try rfl)); (case hc => exact hcA)) | (apply ev_step; (case hr | hσ => (intros; simp only [go_sem, hdec]; try rfl)); (case hc => exact hcA); intro g u; (try clear u); (try clear g)) | fail
    all_goals (refine resR_oneA ?_; simp only [go_sem])
    refine LeA.b ?_
    rw [hfi, List.drop_eq_nil_of_le (by omega)]; rfl
  have hdec : decide ((i : Int) < (s.size : Int)) = true := by simp; omega
  have hx := byteAt_nat s i
  rw [drop_at (bs s) 0 (by omega), List.all_cons] at hfi
  generalize (bs s).getD i 0 = x at *
  have e1 : (32 ≤ x) ↔ 32 ≤ x.toNat := UInt8.le_iff_toNat_le
  have e2 : (x ≤ 126) ↔ x.toNat ≤ 126 := UInt8.le_iff_toNat_le
  by_cases h1 : (x.toNat : Int) < 32
  · have d1 : decide ((x.toNat : Int) < 32) = true := decide_eq_true h1
    have hp : plainB x = false := by simp [plainB, e1]; omega
    all_goals have H := And.intro hdec (And.intro hx d1)
    repeat' first | refine awp_seq ?_ | refine awp_block ?_ | refine awp_skip ?_ | (apply regB; (case hd => exact hdA); intro K hK) | (apply ev_guardU; (case hj | hu | hσ => (simp only [go_sem, H]; try rfl))) | ((first | refine awp_cond _ (by rfl) ?_ ?_ | ((first | apply ev_guardT | apply ev_guardF); (case hj | hb => (simp only [go_sem, H]; try rfl)))) <;> (first | refine ttA ?_ | refine ffA ?_ | (intro hb; first | (cases hb; done) | simp only [hb] | skip))) | ((first | apply awp_exit | apply awp_ret); refine tqA ?_) | (refine ev_nil (hK _ ?_); clear hK K) | (apply ev_step0; (case hr | hσ => (simp only [go_sem, H]; try rfl)); (case hc => exact hcA)) | (apply ev_step; (case hr | hσ => (intros; simp only [go_sem, H]; try rfl)); (case hc => exact hcA); intro g u; (try clear u); (try clear g)) | fail
    all_goals try clear H
    all_goals (refine resR_oneA ?_; simp only [go_sem])
    refine LeA.b ?_
    rw [hfi, hp]; rfl
  · have d1 : decide ((x.toNat : Int) < 32) = false := decide_eq_false h1
    by_cases h2 : 126 < (x.toNat : Int)
    · have d2 : decide ((126 : Int) < (x.toNat : Int)) = true := decide_eq_true h2
      have hp : plainB x = false := by simp [plainB, e2]; omega
      all_goals have H := And.intro hdec (And.intro hx (And.intro d1 d2))
      repeat' first | refine awp_seq ?_ | refine awp_block ?_ | refine awp_skip ?_ | (apply regB; (case hd => exact hdA); intro K hK) | (apply ev_guardU; (case hj | hu | hσ => (simp only [go_sem, H]; try rfl))) | ((first | refine awp_cond _ (by rfl) ?_ ?_ | ((first | apply ev_guardT | apply ev_guardF); (case hj | hb => (simp only [go_sem, H]; try rfl)))) <;> (first | refine ttA ?_ | refine ffA ?_ | (intro hb; first | (cases hb; done) | simp only [hb] | skip))) | ((first | apply awp_exit | apply awp_ret); refine tqA ?_) | (refine ev_nil (hK _ ?_); clear hK K) | (apply ev_step0; (case hr | hσ => (simp only [go_sem, H]; try rfl)); (case hc => exact hcA)) | (apply ev_step; (case hr | hσ => (intros; simp only [go_sem, H]; try rfl)); (case hc => exact hcA); intro g u; (try clear u); (try clear g)) | fail
      all_goals try clear H
      all_goals (refine resR_oneA ?_; simp only [go_sem])
      refine LeA.b ?_
      rw [hfi, hp]; rfl
    · have d2 : decide ((126 : Int) < (x.toNat : Int)) = false := decide_eq_false h2
      have hp : plainB x = true := by simp [plainB, e1, e2]; omega
      all_goals have H := And.intro hdec (And.intro hx (And.intro d1 d2))
      repeat' first | refine awp_seq ?_ | refine awp_block ?_ | refine awp_skip ?_ | (apply regB; (case hd => exact hdA); intro K hK) | (apply ev_guardU; (case hj | hu | hσ => (simp only [go_sem, H]; try rfl))) | ((first | refine awp_cond _ (by rfl) ?_ ?_ | ((first | apply ev_guardT | apply ev_guardF); (case hj | hb => (simp only [go_sem, H]; try rfl)))) <;> (first | refine ttA ?_ | refine ffA ?_ | (intro hb; first | (cases hb; done) | simp only [hb] | skip))) | ((first | apply awp_exit | apply awp_ret); refine tqA ?_) | (refine ev_nil (hK _ ?_); clear hK K) | (apply ev_step0; (case hr | hσ => (simp only [go_sem, H]; try rfl)); (case hc => exact hcA)) | (apply ev_step; (case hr | hσ => (intros; simp only [go_sem, H]; try rfl)); (case hc => exact hcA); intro g u; (try clear u); (try clear g)) | fail
      all_goals try clear H
      refine Exists.intro (i + 1) ⟨⟨by omega, ?_⟩, by omega, ?_⟩
      · rw [hfi, hp]; rfl
      · exact wkA
abbrev noS (s : ByteArray) : Bool := s.toList == (⟨#[]⟩ : ByteArray).toList
theorem f120_spec (v : Vl) (m : Int) : Spec Tryd.prog 120 [.agg (vl v), litI .i64 m] (litB ((v.k == 0) && ((v.i == 0) && noS v.s))) := by
  refine spec_of_awp (fn := Tryd.f120) Tryd.func120 (by kernel_rfl) rfl ?_
  intro w0 C0
  simp only [Tryd.ntmps120, go_sem]
  repeat' first | refine awp_seq ?_ | (apply regB; (case hd => exact hdA); intro K hK) | (apply awp_ret; refine tqA ?_) | (refine ev_nil (hK _ ?_); clear hK K) | (apply ev_step0; (case hr | hσ => (simp only [go_sem]; try rfl)); (case hc => exact hcA)) | (apply ev_step; (case hr | hσ => (intros; simp only [go_sem]; try rfl)); (case hc => exact hcA); intro g u; (try clear u); (try clear g)) | fail
  all_goals (refine resR_oneA ?_; simp only [go_sem])
  refine LeA.b ?_
  rfl
theorem f121_spec (v : Vl) (m : Int) : Spec Tryd.prog 121 [.agg (vl v), litI .i64 m] (litB ((andNotI .i64 v.i 1 == 0) && noS v.s)) := by
  cases h : (andNotI .i64 v.i 1 == 0)
  · refine spec_of_awp (fn := Tryd.f121) Tryd.func121 (by kernel_rfl) rfl ?_
    intro w0 C0
    simp only [Tryd.ntmps121, go_sem]
    repeat' first | refine awp_seq ?_ | (apply regB; (case hd => exact hdA); intro K hK) | (apply ev_guardU; (case hj | hu | hσ => (simp only [go_sem, h]; try rfl))) | ((((first | apply ev_guardT | apply ev_guardF); (case hj | hb => (simp only [go_sem, h]; try rfl)))) <;> (first | refine ttA ?_ | refine ffA ?_ | (intro hb; first | (cases hb; done) | simp only [hb] | skip))) | (apply awp_ret; refine tqA ?_) | (refine ev_nil (hK _ ?_); clear hK K) | (apply ev_step0; (case hr | hσ => (simp only [go_sem, h]; try rfl)); (case hc => exact hcA)) | (apply ev_step; (case hr | hσ => (intros; simp only [go_sem, h]; try rfl)); (case hc => exact hcA); intro g u; (try clear u); (try clear g)) | fail
    all_goals (refine resR_oneA ?_; simp only [go_sem])
    exact LeA.refl _
  · refine spec_of_awp (fn := Tryd.f121) Tryd.func121 (by kernel_rfl) rfl ?_
    intro w0 C0
    simp only [Tryd.ntmps121, go_sem]
    repeat' first | refine awp_seq ?_ | (apply regB; (case hd => exact hdA); intro K hK) | (apply ev_guardU; (case hj | hu | hσ => (simp only [go_sem, h]; try rfl))) | ((((first | apply ev_guardT | apply ev_guardF); (case hj | hb => (simp only [go_sem, h]; try rfl)))) <;> (first | refine ttA ?_ | refine ffA ?_ | (intro hb; first | (cases hb; done) | simp only [hb] | skip))) | (apply awp_ret; refine tqA ?_) | (refine ev_nil (hK _ ?_); clear hK K) | (apply ev_step0; (case hr | hσ => (simp only [go_sem, h]; try rfl)); (case hc => exact hcA)) | (apply ev_step; (case hr | hσ => (intros; simp only [go_sem, h]; try rfl)); (case hc => exact hcA); intro g u; (try clear u); (try clear g)) | fail
    all_goals (refine resR_oneA ?_; simp only [go_sem])
    refine LeA.b ?_
    first | rfl | (simp; done)
theorem f122_spec (v : Vl) (m : Int) (hm : 0 ≤ m ∧ m < 9223372036854775808) : Spec Tryd.prog 122 [.agg (vl v), litI .i64 m] (litB (decide (-m ≤ v.i) && decide (v.i ≤ m) && noS v.s)) := by
  have w : IntKind.i64.wrap (0 - m) = -m := by rw [wrap_id (by omega)]; omega
  show Spec _ _ _ (litB (decide (v.i ≥ -m) && decide (v.i ≤ m) && noS v.s))
  cases h1 : decide (v.i ≥ -m) <;> cases h2 : decide (v.i ≤ m)
  all_goals
    refine spec_of_awp (fn := Tryd.f122) Tryd.func122 (by kernel_rfl) rfl ?_
    intro w0 C0
    simp only [Tryd.ntmps122, go_sem]
    all_goals have H := And.intro w (And.intro h1 h2)
    repeat' first | refine awp_seq ?_ | (apply regB; (case hd => exact hdA); intro K hK) | (apply ev_guardU; (case hj | hu | hσ => (simp only [go_sem, H]; try rfl))) | ((((first | apply ev_guardT | apply ev_guardF); (case hj | hb => (simp only [go_sem, H]; try rfl)))) <;> (first | refine ttA ?_ | refine ffA ?_ | (intro hb; first | (cases hb; done) | simp only [hb] | skip))) | (apply awp_ret; refine tqA ?_) | (refine ev_nil (hK _ ?_); clear hK K) | (apply ev_step0; (case hr | hσ => (simp only [go_sem, H]; try rfl)); (case hc => exact hcA)) | (apply ev_step; (case hr | hσ => (intros; simp only [go_sem, H]; try rfl)); (case hc => exact hcA); intro g u; (try clear u); (try clear g)) | fail
    all_goals try clear H
    all_goals (refine resR_oneA ?_; simp only [go_sem])
    refine LeA.b ?_
    first | rfl | (simp; done)
theorem f123_spec (v : Vl) (m : Int) (hs : v.s.size ≤ 4611686018427387904) : Spec Tryd.prog 123 [.agg (vl v), litI .i64 m] (litB ((v.i == 0) && decide ((v.s.size : Int) ≤ 40) && graphicB v.s)) := by
  have h124 := f124_spec v.s hs
  cases h1 : (v.i == 0) <;> cases h2 : decide ((v.s.size : Int) ≤ 40)
  all_goals
    refine spec_of_awp (fn := Tryd.f123) Tryd.func123 (by kernel_rfl) rfl ?_
    intro w0 C0
    simp only [Tryd.ntmps123, go_sem]
    all_goals have H := And.intro h1 h2
    repeat' first | refine awp_seq ?_ | (apply regB; (case hd => exact hdA); intro K hK) | (apply ev_guardU; (case hj | hu | hσ => (simp only [go_sem, H]; try rfl))) | ((((first | apply ev_guardT | apply ev_guardF); (case hj | hb => (simp only [go_sem, H]; try rfl)))) <;> (first | refine ttA ?_ | refine ffA ?_ | (intro hb; first | (cases hb; done) | simp only [hb] | skip))) | (apply awp_ret; refine tqA ?_) | (refine ev_nil (hK _ ?_); clear hK K) | (apply ev_call0; (case hys => (simp only [go_sem, H]; try rfl)); (case hs => first | exact h124 ..); (case hok | hσ => (simp only [go_sem, H]; try rfl))) | (apply ev_step0; (case hr | hσ => (simp only [go_sem, H]; try rfl)); (case hc => exact hcA)) | (apply ev_step; (case hr | hσ => (intros; simp only [go_sem, H]; try rfl)); (case hc => exact hcA); intro g u; (try clear u); (try clear g)) | fail
    all_goals try clear H
    all_goals (refine resR_oneA ?_; simp only [go_sem])
    refine LeA.b ?_
    first | rfl | (simp; done)
def checkV (v : Vl) (m : Int) : Bool :=
  if v.k = 0 then (v.i == 0) && noS v.s
  else if v.k = 1 then (andNotI .i64 v.i 1 == 0) && noS v.s
  else if v.k = 2 then decide (v.i ≥ -m) && decide (v.i ≤ m) && noS v.s
  else if v.k = 3 then (v.i == 0) && decide ((v.s.size : Int) ≤ 40) && graphicB v.s
  else false
theorem f60_spec (v : Vl) (m : Int) (hm : 0 ≤ m ∧ m < 9223372036854775808) (hs : v.s.size ≤ 4611686018427387904) : Spec Tryd.prog 60 [.agg (vl v), litI .i64 m] (litB (checkV v m)) := by
  obtain ⟨k, i, s⟩ := v
  have h120 := f120_spec ⟨k, i, s⟩ m
  have h121 := f121_spec ⟨k, i, s⟩ m
  have h122 := f122_spec ⟨k, i, s⟩ m hm
  have h123 := f123_spec ⟨k, i, s⟩ m hs
  unfold checkV
  simp only at h120 h121 h122 h123 ⊢
  by_cases h0 : k < 0
  · have d0 : decide (k ≥ 0) = false := decide_eq_false (by omega)
    rw [if_neg (by omega), if_neg (by omega), if_neg (by omega), if_neg (by omega)]
    refine spec_of_awp (fn := Tryd.f60) Tryd.func60 (by kernel_rfl) rfl ?_
    intro w0 C0
    simp only [Tryd.ntmps60, go_sem]
    repeat' first | refine awp_seq ?_ | (apply regB; (case hd => exact hdA); intro K hK) | (apply awp_ret; refine tqA ?_) | (refine ev_nil (hK _ ?_); clear hK K) | (apply regDB; (case hd => exact hdA); (case' h => (intro K hK; (repeat' first | (apply evd_nil; refine (hK _ ?_); clear hK K) | (apply evd_guardU0; (case hj | hu | hσ => (simp only [go_sem, d0]; try rfl))) | (apply evd_guardU; (case hj | hu | hσ => (simp only [go_sem, d0]; try rfl))) | (apply evd_skipT0; (case hj | hb | hσ => (simp only [go_sem, d0]; try rfl))) | (apply evd_skipF0; (case hj | hb | hσ => (simp only [go_sem, d0]; try rfl))) | (apply evd_skipT; (case hj | hb | hσ => (simp only [go_sem, d0]; try rfl))) | (apply evd_skipF; (case hj | hb | hσ => (simp only [go_sem, d0]; try rfl))) | (apply evd_guardT; (case hj | hb => (simp only [go_sem, d0]; try rfl)); (case' h2 => (intro hb; first | (cases hb; done) | (simp only [hb]) | skip)); (case' h1 => (intro hb; first | (cases hb; done) | (simp only [hb]) | skip))) | (apply evd_guardF; (case hj | hb => (simp only [go_sem, d0]; try rfl)); (case' h2 => (intro hb; first | (cases hb; done) | (simp only [hb]) | skip)); (case' h1 => (intro hb; first | (cases hb; done) | (simp only [hb]) | skip))) | (apply evd_step0; (case hr | hi | hσ => (simp only [go_sem, d0]; try rfl)); (case hc => exact hcA)) | (apply evd_step; (case hr | hi | hw | hσ => (intros; simp only [go_sem, d0]; try rfl)); (case hc => exact hcA); (case' hk => (intro g u; (try clear u); (try clear g)))) | fail))); (case hB => kernel_rfl)) | (apply ev_step0; (case hr | hσ => (simp only [go_sem, d0]; try rfl)); (case hc => exact hcA)) | (apply ev_step; (case hr | hσ => (intros; simp only [go_sem, d0]; try rfl)); (case hc => exact hcA); intro g u; (try clear u); (try clear g)) | fail
    all_goals (refine resR_oneA ?_; simp only [go_sem])
    exact LeA.refl _
  have d0 : decide (k ≥ 0) = true := decide_eq_true (by omega)
  by_cases h4 : k < 4
  · have d4 : decide (k < 4) = true := decide_eq_true h4
    obtain rfl | rfl | rfl | rfl : k = 0 ∨ k = 1 ∨ k = 2 ∨ k = 3 := by omega
    · rw [if_pos rfl]
      rw [show ((0 : Int) == 0) = true from rfl, Bool.true_and] at h120
      generalize ((i == 0) && noS s) = q at *
      refine spec_of_awp (fn := Tryd.f60) Tryd.func60 (by kernel_rfl) rfl ?_
      intro w0 C0
      simp only [Tryd.ntmps60, go_sem]
      all_goals have H := And.intro d0 d4
      repeat' first | refine awp_seq ?_ | (apply regB; (case hd => exact hdA); intro K hK) | (apply awp_ret; refine tqA ?_) | (refine ev_nil (hK _ ?_); clear hK K) | (apply regDB; (case hd => exact hdA); (case' h => (intro K hK; (repeat' first | (apply evd_nil; refine (hK _ ?_); clear hK K) | (apply evd_guardU0; (case hj | hu | hσ => (simp only [go_sem, H]; try rfl))) | (apply evd_guardU; (case hj | hu | hσ => (simp only [go_sem, H]; try rfl))) | (apply evd_skipT0; (case hj | hb | hσ => (simp only [go_sem, H]; try rfl))) | (apply evd_skipF0; (case hj | hb | hσ => (simp only [go_sem, H]; try rfl))) | (apply evd_skipT; (case hj | hb | hσ => (simp only [go_sem, H]; try rfl))) | (apply evd_skipF; (case hj | hb | hσ => (simp only [go_sem, H]; try rfl))) | (apply evd_guardT; (case hj | hb => (simp only [go_sem, H]; try rfl)); (case' h2 => (intro hb; first | (cases hb; done) | (simp only [hb]) | skip)); (case' h1 => (intro hb; first | (cases hb; done) | (simp only [hb]) | skip))) | (apply evd_guardF; (case hj | hb => (simp only [go_sem, H]; try rfl)); (case' h2 => (intro hb; first | (cases hb; done) | (simp only [hb]) | skip)); (case' h1 => (intro hb; first | (cases hb; done) | (simp only [hb]) | skip))) | (apply evd_callC; (case hf | hi | hys => (simp only [go_sem, H]; try rfl)); (case hs => first | exact h120 ..); (case hok | hw | hσ => (simp only [go_sem, H]; try rfl))) | (apply evd_step0; (case hr | hi | hσ => (simp only [go_sem, H]; try rfl)); (case hc => exact hcA)) | (apply evd_step; (case hr | hi | hw | hσ => (intros; simp only [go_sem, H]; try rfl)); (case hc => exact hcA); (case' hk => (intro g u; (try clear u); (try clear g)))) | fail))); (case hB => kernel_rfl)) | (apply ev_step0; (case hr | hσ => (simp only [go_sem, H]; try rfl)); (case hc => exact hcA)) | (apply ev_step; (case hr | hσ => (intros; simp only [go_sem, H]; try rfl)); (case hc => exact hcA); intro g u; (try clear u); (try clear g)) | fail
      all_goals try clear H
      all_goals (refine resR_oneA ?_; simp only [go_sem])
      exact LeA.refl _
    · rw [if_neg (by omega), if_pos rfl]
      generalize ((andNotI .i64 i 1 == 0) && noS s) = q at *
      refine spec_of_awp (fn := Tryd.f60) Tryd.func60 (by kernel_rfl) rfl ?_
      intro w0 C0
      simp only [Tryd.ntmps60, go_sem]
      all_goals have H := And.intro d0 d4
      repeat' first | refine awp_seq ?_ | (apply regB; (case hd => exact hdA); intro K hK) | (apply awp_ret; refine tqA ?_) | (refine ev_nil (hK _ ?_); clear hK K) | (apply regDB; (case hd => exact hdA); (case' h => (intro K hK; (repeat' first | (apply evd_nil; refine (hK _ ?_); clear hK K) | (apply evd_guardU0; (case hj | hu | hσ => (simp only [go_sem, H]; try rfl))) | (apply evd_guardU; (case hj | hu | hσ => (simp only [go_sem, H]; try rfl))) | (apply evd_skipT0; (case hj | hb | hσ => (simp only [go_sem, H]; try rfl))) | (apply evd_skipF0; (case hj | hb | hσ => (simp only [go_sem, H]; try rfl))) | (apply evd_skipT; (case hj | hb | hσ => (simp only [go_sem, H]; try rfl))) | (apply evd_skipF; (case hj | hb | hσ => (simp only [go_sem, H]; try rfl))) | (apply evd_guardT; (case hj | hb => (simp only [go_sem, H]; try rfl)); (case' h2 => (intro hb; first | (cases hb; done) | (simp only [hb]) | skip)); (case' h1 => (intro hb; first | (cases hb; done) | (simp only [hb]) | skip))) | (apply evd_guardF; (case hj | hb => (simp only [go_sem, H]; try rfl)); (case' h2 => (intro hb; first | (cases hb; done) | (simp only [hb]) | skip)); (case' h1 => (intro hb; first | (cases hb; done) | (simp only [hb]) | skip))) | (apply evd_callC; (case hf | hi | hys => (simp only [go_sem, H]; try rfl)); (case hs => first | exact h121 ..); (case hok | hw | hσ => (simp only [go_sem, H]; try rfl))) | (apply evd_step0; (case hr | hi | hσ => (simp only [go_sem, H]; try rfl)); (case hc => exact hcA)) | (apply evd_step; (case hr | hi | hw | hσ => (intros; simp only [go_sem, H]; try rfl)); (case hc => exact hcA); (case' hk => (intro g u; (try clear u); (try clear g)))) | fail))); (case hB => kernel_rfl)) | (apply ev_step0; (case hr | hσ => (simp only [go_sem, H]; try rfl)); (case hc => exact hcA)) | (apply ev_step; (case hr | hσ => (intros; simp only [go_sem, H]; try rfl)); (case hc => exact hcA); intro g u; (try clear u); (try clear g)) | fail
      all_goals try clear H
      all_goals (refine resR_oneA ?_; simp only [go_sem])
      exact LeA.refl _
    · rw [if_neg (by omega), if_neg (by omega), if_pos rfl]
      generalize (decide (i ≥ -m) && decide (i ≤ m) && noS s) = q at *
      refine spec_of_awp (fn := Tryd.f60) Tryd.func60 (by kernel_rfl) rfl ?_
      intro w0 C0
      simp only [Tryd.ntmps60, go_sem]
      all_goals have H := And.intro d0 d4
      repeat' first | refine awp_seq ?_ | (apply regB; (case hd => exact hdA); intro K hK) | (apply awp_ret; refine tqA ?_) | (refine ev_nil (hK _ ?_); clear hK K) | (apply regDB; (case hd => exact hdA); (case' h => (intro K hK; (repeat' first | (apply evd_nil; refine (hK _ ?_); clear hK K) | (apply evd_guardU0; (case hj | hu | hσ => (simp only [go_sem, H]; try rfl))) | (apply evd_guardU; (case hj | hu | hσ => (simp only [go_sem, H]; try rfl))) | (apply evd_skipT0; (case hj | hb | hσ => (simp only [go_sem, H]; try rfl))) | (apply evd_skipF0; (case hj | hb | hσ => (simp only [go_sem, H]; try rfl))) | (apply evd_skipT; (case hj | hb | hσ => (simp only [go_sem, H]; try rfl))) | (apply evd_skipF; (case hj | hb | hσ => (simp only [go_sem, H]; try rfl))) | (apply evd_guardT; (case hj | hb => (simp only [go_sem, H]; try rfl)); (case' h2 => (intro hb; first | (cases hb; done) | (simp only [hb]) | skip)); (case' h1 => (intro hb; first | (cases hb; done) | (simp only [hb]) | skip))) | (apply evd_guardF; (case hj | hb => (simp only [go_sem, H]; try rfl)); (case' h2 => (intro hb; first | (cases hb; done) | (simp only [hb]) | skip)); (case' h1 => (intro hb; first | (cases hb; done) | (simp only [hb]) | skip))) | (apply evd_callC; (case hf | hi | hys => (simp only [go_sem, H]; try rfl)); (case hs => first | exact h122 ..); (case hok | hw | hσ => (simp only [go_sem, H]; try rfl))) | (apply evd_step0; (case hr | hi | hσ => (simp only [go_sem, H]; try rfl)); (case hc => exact hcA)) | (apply evd_step; (case hr | hi | hw | hσ => (intros; simp only [go_sem, H]; try rfl)); (case hc => exact hcA); (case' hk => (intro g u; (try clear u); (try clear g)))) | fail))); (case hB => kernel_rfl)) | (apply ev_step0; (case hr | hσ => (simp only [go_sem, H]; try rfl)); (case hc => exact hcA)) | (apply ev_step; (case hr | hσ => (intros; simp only [go_sem, H]; try rfl)); (case hc => exact hcA); intro g u; (try clear u); (try clear g)) | fail
      all_goals try clear H
      all_goals (refine resR_oneA ?_; simp only [go_sem])
      exact LeA.refl _
    · rw [if_neg (by omega), if_neg (by omega), if_neg (by omega), if_pos rfl]
      generalize ((i == 0) && decide ((s.size : Int) ≤ 40) && graphicB s) = q at *
      refine spec_of_awp (fn := Tryd.f60) Tryd.func60 (by kernel_rfl) rfl ?_
      intro w0 C0
      simp only [Tryd.ntmps60, go_sem]
      all_goals have H := And.intro d0 d4
      repeat' first | refine awp_seq ?_ | (apply regB; (case hd => exact hdA); intro K hK) | (apply awp_ret; refine tqA ?_) | (refine ev_nil (hK _ ?_); clear hK K) | (apply regDB; (case hd => exact hdA); (case' h => (intro K hK; (repeat' first | (apply evd_nil; refine (hK _ ?_); clear hK K) | (apply evd_guardU0; (case hj | hu | hσ => (simp only [go_sem, H]; try rfl))) | (apply evd_guardU; (case hj | hu | hσ => (simp only [go_sem, H]; try rfl))) | (apply evd_skipT0; (case hj | hb | hσ => (simp only [go_sem, H]; try rfl))) | (apply evd_skipF0; (case hj | hb | hσ => (simp only [go_sem, H]; try rfl))) | (apply evd_skipT; (case hj | hb | hσ => (simp only [go_sem, H]; try rfl))) | (apply evd_skipF; (case hj | hb | hσ => (simp only [go_sem, H]; try rfl))) | (apply evd_guardT; (case hj | hb => (simp only [go_sem, H]; try rfl)); (case' h2 => (intro hb; first | (cases hb; done) | (simp only [hb]) | skip)); (case' h1 => (intro hb; first | (cases hb; done) | (simp only [hb]) | skip))) | (apply evd_guardF; (case hj | hb => (simp only [go_sem, H]; try rfl)); (case' h2 => (intro hb; first | (cases hb; done) | (simp only [hb]) | skip)); (case' h1 => (intro hb; first | (cases hb; done) | (simp only [hb]) | skip))) | (apply evd_callC; (case hf | hi | hys => (simp only [go_sem, H]; try rfl)); (case hs => first | exact h123 ..); (case hok | hw | hσ => (simp only [go_sem, H]; try rfl))) | (apply evd_step0; (case hr | hi | hσ => (simp only [go_sem, H]; try rfl)); (case hc => exact hcA)) | (apply evd_step; (case hr | hi | hw | hσ => (intros; simp only [go_sem, H]; try rfl)); (case hc => exact hcA); (case' hk => (intro g u; (try clear u); (try clear g)))) | fail))); (case hB => kernel_rfl)) | (apply ev_step0; (case hr | hσ => (simp only [go_sem, H]; try rfl)); (case hc => exact hcA)) | (apply ev_step; (case hr | hσ => (intros; simp only [go_sem, H]; try rfl)); (case hc => exact hcA); intro g u; (try clear u); (try clear g)) | fail
      all_goals try clear H
      all_goals (refine resR_oneA ?_; simp only [go_sem])
      exact LeA.refl _
  · have d4 : decide (k < 4) = false := decide_eq_false h4
    rw [if_neg (by omega), if_neg (by omega), if_neg (by omega), if_neg (by omega)]
    refine spec_of_awp (fn := Tryd.f60) Tryd.func60 (by kernel_rfl) rfl ?_
    intro w0 C0
    simp only [Tryd.ntmps60, go_sem]
    all_goals have H := And.intro d0 d4
    repeat' first | refine awp_seq ?_ | (apply regB; (case hd => exact hdA); intro K hK) | (apply awp_ret; refine tqA ?_) | (refine ev_nil (hK _ ?_); clear hK K) | (apply regDB; (case hd => exact hdA); (case' h => (intro K hK; (repeat' first | (apply evd_nil; refine (hK _ ?_); clear hK K) | (apply evd_guardU0; (case hj | hu | hσ => (simp only [go_sem, H]; try rfl))) | (apply evd_guardU; (case hj | hu | hσ => (simp only [go_sem, H]; try rfl))) | (apply evd_skipT0; (case hj | hb | hσ => (simp only [go_sem, H]; try rfl))) | (apply evd_skipF0; (case hj | hb | hσ => (simp only [go_sem, H]; try rfl))) | (apply evd_skipT; (case hj | hb | hσ => (simp only [go_sem, H]; try rfl))) | (apply evd_skipF; (case hj | hb | hσ => (simp only [go_sem, H]; try rfl))) | (apply evd_guardT; (case hj | hb => (simp only [go_sem, H]; try rfl)); (case' h2 => (intro hb; first | (cases hb; done) | (simp only [hb]) | skip)); (case' h1 => (intro hb; first | (cases hb; done) | (simp only [hb]) | skip))) | (apply evd_guardF; (case hj | hb => (simp only [go_sem, H]; try rfl)); (case' h2 => (intro hb; first | (cases hb; done) | (simp only [hb]) | skip)); (case' h1 => (intro hb; first | (cases hb; done) | (simp only [hb]) | skip))) | (apply evd_step0; (case hr | hi | hσ => (simp only [go_sem, H]; try rfl)); (case hc => exact hcA)) | (apply evd_step; (case hr | hi | hw | hσ => (intros; simp only [go_sem, H]; try rfl)); (case hc => exact hcA); (case' hk => (intro g u; (try clear u); (try clear g)))) | fail))); (case hB => kernel_rfl)) | (apply ev_step0; (case hr | hσ => (simp only [go_sem, H]; try rfl)); (case hc => exact hcA)) | (apply ev_step; (case hr | hσ => (intros; simp only [go_sem, H]; try rfl)); (case hc => exact hcA); intro g u; (try clear u); (try clear g)) | fail
    all_goals try clear H
    all_goals (refine resR_oneA ?_; simp only [go_sem])
    exact LeA.refl _
abbrev wideV (v : Vl) : Bool := checkV v 4000000000000000000
theorem f40_spec (v : Vl) (hs : v.s.size ≤ 4611686018427387904) : Spec Tryd.prog 40 [.agg (vl v)] (litB (wideV v)) := by
  have h60 := f60_spec v 4000000000000000000 (by decide) hs
  refine spec_of_awp (fn := Tryd.f40) Tryd.func40 (by kernel_rfl) rfl ?_
  intro w0 C0
  simp only [Tryd.ntmps40, go_sem]
  repeat' first | refine awp_seq ?_ | (apply regB; (case hd => exact hdA); intro K hK) | (apply awp_ret; refine tqA ?_) | (refine ev_nil (hK _ ?_); clear hK K) | (apply ev_call0; (case hys => (simp only [go_sem]; try rfl)); (case hs => first | exact h60 ..); (case hok | hσ => (simp only [go_sem]; try rfl))) | (apply ev_step0; (case hr | hσ => (simp only [go_sem]; try rfl)); (case hc => exact hcA)) | (apply ev_step; (case hr | hσ => (intros; simp only [go_sem]; try rfl)); (case hc => exact hcA); intro g u; (try clear u); (try clear g)) | fail
  all_goals (refine resR_oneA ?_; simp only [go_sem])
  exact LeA.refl _
end
section
set_option linter.unusedVariables false
set_option linter.unusedSimpArgs false
open Go.RowKit
attribute [local irreducible] Spec SpecF SpecN
attribute [local irreducible] AWp evOps evD
theorem wrap_u64 (n : Int) : IntKind.u64.wrap n = n % 18446744073709551616 := by
  simp [IntKind.wrap, IntKind.bits, IntKind.signed]
theorem find82 : Extern.find Tryd.f82 = (Go.Extern.MathBitsCarry.rows.head?).map (·.2) := by kernel_rfl
theorem next82 : Extern.findNext Tryd.f82 = none := by kernel_rfl
theorem f82_spec (x y c : Int) (hx : 0 ≤ x) (hy : 0 ≤ y) (hc : c = 0 ∨ c = 1) : SpecE Tryd.prog 82 [litI .u64 x, litI .u64 y, litI .u64 c] (.tup [litI .u64 ((x + y + c) % 18446744073709551616), litI .u64 ((x + y + c) / 18446744073709551616)]) := by
  intro m vs hv
  obtain ⟨a, b, d, rfl⟩ : ∃ a b d, vs = [a, b, d] := by
    have := hv.length
    match vs, this with
    | [a, b, d], _ => exact ⟨a, b, d, rfl⟩
  simp only [HasL, litI] at hv
  obtain ⟨h1, h2, h3, -⟩ := hv
  have h1 := has_lit h1
  have h2 := has_lit h2
  have h3 := has_lit h3
  subst h1; subst h2; subst h3
  refine ⟨.tuple #[.int .u64 ((x + y + c) % 18446744073709551616), .int .u64 ((x + y + c) / 18446744073709551616)], fun w => ?_, fun m' => ?_⟩
  · rw [run_callFunc_extern Tryd.func82 (by kernel_rfl) (by kernel_rfl) next82 find82]
    have hc' : ¬ c.toNat > 1 := by omega
    have e1 : ((x.toNat + y.toNat + c.toNat : Nat) : Int) = x + y + c := by omega
    have e2 : (((x.toNat + y.toNat + c.toNat) % 18446744073709551616 : Nat) : Int) = (x + y + c) % 18446744073709551616 := by omega
    have e3 : (((x.toNat + y.toNat + c.toNat) / 18446744073709551616 : Nat) : Int) = (x + y + c) / 18446744073709551616 := by omega
    have em : Extern.MathBitsCarry.m64 = 18446744073709551616 := by decide
    have e4 : (Extern.MathBitsCarry.three "Add64" #[.int .u64 x, .int .u64 y, .int .u64 c]).run Tryd.prog w = .ok (x.toNat, y.toNat, c.toNat) w := by
      rcases hc with rfl | rfl <;> rfl
    simp only [Sem.run_bind, e4, Sem.run_pure, Result.andThen_ok, Extern.MathBitsCarry.pair, em, Int.ofNat_eq_natCast, e2, e3]
  · simp only [Has, HasL, litI]
    exact ⟨[_, _], rfl, has_lit_mk _ rfl, has_lit_mk _ rfl, trivial⟩
def small (n : Int) : Bool := decide (-4000000000000000000 ≤ n) && decide (n ≤ 4000000000000000000)
theorem small_iff {n : Int} : small n = true ↔ -4000000000000000000 ≤ n ∧ n ≤ 4000000000000000000 := by
  simp [small]
theorem small_not {n : Int} : small n = false ↔ ¬ (-4000000000000000000 ≤ n ∧ n ≤ 4000000000000000000) := by
  rw [← small_iff]; simp
def sumL (l : List Int) : Int := l.foldr (· + ·) 0
def sumD (l : List Int) : Int × Int := if (l.all small && small (sumL l)) = true then (sumL l, 0) else (0, 2)
theorem sumL_take (l : List Int) {i : Nat} (h : i < l.length) : sumL (l.take (i + 1)) = sumL (l.take i) + l.getD i 0 := by
  induction l generalizing i with
  | nil => simp at h
  | cons a l ih =>
    cases i with
    | zero => simp [sumL]
    | succ i =>
      have := ih (i := i) (by simpa using h)
      simp only [List.take_succ_cons, sumL, List.foldr_cons, List.getD_cons_succ] at this ⊢
      omega
theorem sumL_bd : ∀ {l : List Int}, l.all small = true → -(4000000000000000000 * l.length) ≤ sumL l ∧ sumL l ≤ 4000000000000000000 * l.length
  | [], _ => by simp [sumL]
  | a :: l, h => by
    simp only [List.all_cons, Bool.and_eq_true] at h
    have h1 := small_iff.1 h.1
    have h2 := sumL_bd h.2
    simp only [sumL, List.foldr_cons, List.length_cons] at h2 ⊢
    push_cast
    omega
theorem take_all (l : List Int) {i : Nat} (h : i < l.length) : (l.take (i + 1)).all small = ((l.take i).all small && small (l.getD i 0)) := by
  induction l generalizing i with
  | nil => simp at h
  | cons a l ih =>
    cases i with
    | zero => simp
    | succ i =>
      have := ih (i := i) (by simpa using h)
      simp only [List.take_succ_cons, List.all_cons, List.getD_cons_succ] at this ⊢
      rw [this, Bool.and_assoc]
theorem all_at {l : List Int} (h : l.all small = true) {i : Nat} (hi : i < l.length) : small (l.getD i 0) = true := by
  rw [List.getD_eq_getElem?_getD, List.getElem?_eq_getElem hi]
  exact List.all_eq_true.1 h _ (List.getElem_mem hi)
theorem not_all {l : List Int} {i : Nat} (hi : i < l.length) (h : small (l.getD i 0) = false) : l.all small = false := by
  rcases hb : l.all small with _ | _
  · rfl
  · rw [all_at hb hi] at h; cases h
set_option maxHeartbeats 8000000 in
theorem f75_spec (l : List Int) (hb : ∀ x ∈ l, -9223372036854775808 ≤ x ∧ x ≤ 9223372036854775807) (hl : l.length ≤ 4611686018427387904) : Spec Tryd.prog 75 [.d (ints l)] (.tup [litI .i64 (sumD l).1, litI .i64 (sumD l).2]) := by
  refine spec_of_awp (fn := Tryd.f75) Tryd.func75 (by kernel_rfl) rfl ?_
  intro w0 C0
  simp only [Tryd.ntmps75, go_sem]
  repeat' first | refine awp_seq ?_ | refine awp_block ?_ | refine awp_skip ?_ | (apply regB; (case hd => exact hdA); intro K hK) | (apply ev_guardU; (case hj | hu | hσ => (simp only [go_sem]; try rfl))) | ((first | refine awp_cond _ (by rfl) ?_ ?_ | ((first | apply ev_guardT | apply ev_guardF); (case hj | hb => (simp only [go_sem]; try rfl)))) <;> (first | refine ttA ?_ | refine ffA ?_ | (intro hb; first | (cases hb; done) | simp only [hb] | skip))) | ((first | apply awp_exit | apply awp_ret); refine tqA ?_) | (refine ev_nil (hK _ ?_); clear hK K) | (apply ev_step0; (case hr | hσ => (simp only [go_sem]; try rfl)); (case hc => exact hcA)) | (apply ev_step; (case hr | hσ => (intros; simp only [go_sem]; try rfl)); (case hc => exact hcA); intro g u; (try clear u); (try clear g)) | fail
  refine awp_loopI (fun i : Nat => i ≤ l.length ∧ (l.take i).all small = true) (fun i => l.length - i) (fun i => ⟨[.d (ints l), .any, litI .i64 0, litI .i64 0, litI .u64 ((sumL (l.take i) / 18446744073709551616) % 18446744073709551616), litI .u64 (sumL (l.take i) % 18446744073709551616), .any, .any, .any, .any, .any, .d (ints l), litI .i64 l.length, litI .i64 i, .any, .any, .any, .any, .any, .any, .any, .any, .any, .any, .any, .any, .any, .any, .any, .any, .any, .any, .any, .any, .any, .any, .any, .any, .any, .any, .any, .any, .any, .any, .any, .any, .any, .any, .any, .any, .any, .any, .any, .any, .any, .any, .any, .any, .any, .any, .any, .any, .any, .any, .any], [.no, .no, .no, .no, .no, .no, .no, .no, .no, .no, .no, .no, .no, .no, .no, .no, .no, .no, .no, .no, .no, .no, .no, .no, .no, .no, .no, .no, .no, .no, .no, .no, .no, .no, .no, .no, .no, .no, .no, .no, .no, .no, .no, .no, .no, .no, .no, .no, .no, .no, .no, .no, .no, .no, .no, .no, .no, .no, .no, .no, .no, .no, .no, .no, .no]⟩) 0 ⟨by omega, rfl⟩ ?_ ?_
  · exact wkA
  rintro i ⟨hi, hal⟩
  simp only [litI, litB]
  by_cases hlt : i < l.length
  rotate_left
  have hdec : decide ((i : Int) < (l.length : Int)) = false := by simp; omega
  · have hil : i = l.length := by omega
    subst hil
    rw [List.take_length] at hal ⊢
    have hbd := sumL_bd hal
    unfold sumD
    rw [hal, Bool.true_and]
    have hn : IntKind.i64.wrap (sumL l % 18446744073709551616) = (sumL l % 18446744073709551616 + 9223372036854775808) % 18446744073709551616 - 9223372036854775808 := by rw [IntKind.wrap_i64]
    obtain ⟨a, ha⟩ : ∃ a, sumL l = a := ⟨_, rfl⟩
    obtain ⟨n, hn'⟩ : ∃ n, IntKind.i64.wrap (sumL l % 18446744073709551616) = n := ⟨_, rfl⟩
    obtain ⟨hw, hhi⟩ : ∃ x, (sumL l / 18446744073709551616) % 18446744073709551616 = x := ⟨_, rfl⟩
    obtain ⟨lo, hlo⟩ : ∃ x, sumL l % 18446744073709551616 = x := ⟨_, rfl⟩
    rw [hn'] at hn
    rw [hhi, hlo]
    rw [hlo] at hn'
    rw [ha] at hn hhi hbd hlo ⊢
    generalize l.length = len at *
    cases hsm : small a with
    | true =>
      rw [small_iff] at hsm
      have hna : n = a := by omega
      rw [if_pos rfl]
      have d3 : decide (n < -4000000000000000000) = false := decide_eq_false (by omega)
      have d4 : decide (n > 4000000000000000000) = false := decide_eq_false (by omega)
      by_cases h0 : n < 0
      · have d1 : decide (n < 0) = true := decide_eq_true h0
        have d2 : decide (n ≥ 0) = false := decide_eq_false (by omega)
        have c1 : (hw != 18446744073709551615) = false := by simp; omega
        all_goals have H := And.intro hdec (And.intro hn' (And.intro d1 (And.intro d2 (And.intro d3 (And.intro d4 c1)))))
        repeat' first | refine awp_seq ?_ | refine awp_block ?_ | refine awp_skip ?_ | (apply regB; (case hd => exact hdA); intro K hK) | (apply ev_guardU; (case hj | hu | hσ => (simp only [go_sem, H]; try rfl))) | ((first | refine awp_cond _ (by rfl) ?_ ?_ | ((first | apply ev_guardT | apply ev_guardF); (case hj | hb => (simp only [go_sem, H]; try rfl)))) <;> (first | refine ttA ?_ | refine ffA ?_ | (intro hb; first | (cases hb; done) | simp only [hb] | skip))) | ((first | apply awp_exit | apply awp_ret); refine tqA ?_) | (refine ev_nil (hK _ ?_); clear hK K) | (apply ev_step0; (case hr | hσ => (simp only [go_sem, H]; try rfl)); (case hc => exact hcA)) | (apply ev_step; (case hr | hσ => (intros; simp only [go_sem, H]; try rfl)); (case hc => exact hcA); intro g u; (try clear u); (try clear g)) | fail
        all_goals try clear H
        all_goals (refine resR_moreA ?_; simp only [go_sem])
        refine ⟨LeA.i hna, LeA.refl _, trivial⟩
      · have d1 : decide (n < 0) = false := decide_eq_false h0
        have d2 : decide (n ≥ 0) = true := decide_eq_true (by omega)
        have c1 : (hw != 0) = false := by simp; omega
        all_goals have H := And.intro hdec (And.intro hn' (And.intro d1 (And.intro d2 (And.intro d3 (And.intro d4 c1)))))
        repeat' first | refine awp_seq ?_ | refine awp_block ?_ | refine awp_skip ?_ | (apply regB; (case hd => exact hdA); intro K hK) | (apply ev_guardU; (case hj | hu | hσ => (simp only [go_sem, H]; try rfl))) | ((first | refine awp_cond _ (by rfl) ?_ ?_ | ((first | apply ev_guardT | apply ev_guardF); (case hj | hb => (simp only [go_sem, H]; try rfl)))) <;> (first | refine ttA ?_ | refine ffA ?_ | (intro hb; first | (cases hb; done) | simp only [hb] | skip))) | ((first | apply awp_exit | apply awp_ret); refine tqA ?_) | (refine ev_nil (hK _ ?_); clear hK K) | (apply ev_step0; (case hr | hσ => (simp only [go_sem, H]; try rfl)); (case hc => exact hcA)) | (apply ev_step; (case hr | hσ => (intros; simp only [go_sem, H]; try rfl)); (case hc => exact hcA); intro g u; (try clear u); (try clear g)) | fail
        all_goals try clear H
        all_goals (refine resR_moreA ?_; simp only [go_sem])
        refine ⟨LeA.i hna, LeA.refl _, trivial⟩
    | false =>
      rw [small_not] at hsm
      rw [if_neg Bool.false_ne_true]
      by_cases h0 : n < 0
      · have d1 : decide (n < 0) = true := decide_eq_true h0
        have d2 : decide (n ≥ 0) = false := decide_eq_false (by omega)
        cases c1 : (hw != 18446744073709551615) with
        | true =>
          all_goals have H := And.intro hdec (And.intro hn' (And.intro d1 (And.intro d2 c1)))
          repeat' first | refine awp_seq ?_ | refine awp_block ?_ | refine awp_skip ?_ | (apply regB; (case hd => exact hdA); intro K hK) | (apply ev_guardU; (case hj | hu | hσ => (simp only [go_sem, H]; try rfl))) | ((first | refine awp_cond _ (by rfl) ?_ ?_ | ((first | apply ev_guardT | apply ev_guardF); (case hj | hb => (simp only [go_sem, H]; try rfl)))) <;> (first | refine ttA ?_ | refine ffA ?_ | (intro hb; first | (cases hb; done) | simp only [hb] | skip))) | ((first | apply awp_exit | apply awp_ret); refine tqA ?_) | (refine ev_nil (hK _ ?_); clear hK K) | (apply ev_step0; (case hr | hσ => (simp only [go_sem, H]; try rfl)); (case hc => exact hcA)) | (apply ev_step; (case hr | hσ => (intros; simp only [go_sem, H]; try rfl)); (case hc => exact hcA); intro g u; (try clear u); (try clear g)) | fail
          all_goals try clear H
          all_goals (refine resR_moreA ?_; simp only [go_sem])
          refine ⟨LeA.refl _, LeA.refl _, trivial⟩
        | false =>
          have c1' : hw = 18446744073709551615 := by simpa using c1
          have d3 : decide (n < -4000000000000000000) = true := decide_eq_true (by omega)
          all_goals have H := And.intro hdec (And.intro hn' (And.intro d1 (And.intro d2 (And.intro c1 d3))))
          repeat' first | refine awp_seq ?_ | refine awp_block ?_ | refine awp_skip ?_ | (apply regB; (case hd => exact hdA); intro K hK) | (apply ev_guardU; (case hj | hu | hσ => (simp only [go_sem, H]; try rfl))) | ((first | refine awp_cond _ (by rfl) ?_ ?_ | ((first | apply ev_guardT | apply ev_guardF); (case hj | hb => (simp only [go_sem, H]; try rfl)))) <;> (first | refine ttA ?_ | refine ffA ?_ | (intro hb; first | (cases hb; done) | simp only [hb] | skip))) | ((first | apply awp_exit | apply awp_ret); refine tqA ?_) | (refine ev_nil (hK _ ?_); clear hK K) | (apply ev_step0; (case hr | hσ => (simp only [go_sem, H]; try rfl)); (case hc => exact hcA)) | (apply ev_step; (case hr | hσ => (intros; simp only [go_sem, H]; try rfl)); (case hc => exact hcA); intro g u; (try clear u); (try clear g)) | fail
          all_goals try clear H
          all_goals (refine resR_moreA ?_; simp only [go_sem])
          refine ⟨LeA.refl _, LeA.refl _, trivial⟩
      · have d1 : decide (n < 0) = false := decide_eq_false h0
        have d2 : decide (n ≥ 0) = true := decide_eq_true (by omega)
        cases c1 : (hw != 0) with
        | true =>
          all_goals have H := And.intro hdec (And.intro hn' (And.intro d1 (And.intro d2 c1)))
          repeat' first | refine awp_seq ?_ | refine awp_block ?_ | refine awp_skip ?_ | (apply regB; (case hd => exact hdA); intro K hK) | (apply ev_guardU; (case hj | hu | hσ => (simp only [go_sem, H]; try rfl))) | ((first | refine awp_cond _ (by rfl) ?_ ?_ | ((first | apply ev_guardT | apply ev_guardF); (case hj | hb => (simp only [go_sem, H]; try rfl)))) <;> (first | refine ttA ?_ | refine ffA ?_ | (intro hb; first | (cases hb; done) | simp only [hb] | skip))) | ((first | apply awp_exit | apply awp_ret); refine tqA ?_) | (refine ev_nil (hK _ ?_); clear hK K) | (apply ev_step0; (case hr | hσ => (simp only [go_sem, H]; try rfl)); (case hc => exact hcA)) | (apply ev_step; (case hr | hσ => (intros; simp only [go_sem, H]; try rfl)); (case hc => exact hcA); intro g u; (try clear u); (try clear g)) | fail
          all_goals try clear H
          all_goals (refine resR_moreA ?_; simp only [go_sem])
          refine ⟨LeA.refl _, LeA.refl _, trivial⟩
        | false =>
          have c1' : hw = 0 := by simpa using c1
          have d3 : decide (n < -4000000000000000000) = false := decide_eq_false (by omega)
          have d4 : decide (n > 4000000000000000000) = true := decide_eq_true (by omega)
          all_goals have H := And.intro hdec (And.intro hn' (And.intro d1 (And.intro d2 (And.intro c1 (And.intro d3 d4)))))
          repeat' first | refine awp_seq ?_ | refine awp_block ?_ | refine awp_skip ?_ | (apply regB; (case hd => exact hdA); intro K hK) | (apply ev_guardU; (case hj | hu | hσ => (simp only [go_sem, H]; try rfl))) | ((first | refine awp_cond _ (by rfl) ?_ ?_ | ((first | apply ev_guardT | apply ev_guardF); (case hj | hb => (simp only [go_sem, H]; try rfl)))) <;> (first | refine ttA ?_ | refine ffA ?_ | (intro hb; first | (cases hb; done) | simp only [hb] | skip))) | ((first | apply awp_exit | apply awp_ret); refine tqA ?_) | (refine ev_nil (hK _ ?_); clear hK K) | (apply ev_step0; (case hr | hσ => (simp only [go_sem, H]; try rfl)); (case hc => exact hcA)) | (apply ev_step; (case hr | hσ => (intros; simp only [go_sem, H]; try rfl)); (case hc => exact hcA); intro g u; (try clear u); (try clear g)) | fail
          all_goals try clear H
          all_goals (refine resR_moreA ?_; simp only [go_sem])
          refine ⟨LeA.refl _, LeA.refl _, trivial⟩
  have hdec : decide ((i : Int) < (l.length : Int)) = true := by simp; omega
  have hx := ints_at l hlt
  have hm : l.getD i 0 ∈ l := by rw [List.getD_eq_getElem?_getD, List.getElem?_eq_getElem hlt]; exact List.getElem_mem hlt
  have hxb := hb _ hm
  have hta := take_all l hlt
  have hst := sumL_take l hlt
  have hbd := sumL_bd hal
  have htl : (l.take i).length = i := by rw [List.length_take]; omega
  rw [htl] at hbd
  have hna := not_all hlt
  generalize l.getD i 0 = x at *
  cases hsm : small x with
  | false =>
    have hno := hna hsm
    rw [small_not] at hsm
    unfold sumD
    rw [hno, Bool.false_and, if_neg Bool.false_ne_true]
    by_cases h1 : x < -4000000000000000000
    · have d1 : decide (x < -4000000000000000000) = true := decide_eq_true h1
      all_goals have H := And.intro hdec (And.intro hx d1)
      repeat' first | refine awp_seq ?_ | refine awp_block ?_ | refine awp_skip ?_ | (apply regB; (case hd => exact hdA); intro K hK) | (apply ev_guardU; (case hj | hu | hσ => (simp only [go_sem, H]; try rfl))) | ((first | refine awp_cond _ (by rfl) ?_ ?_ | ((first | apply ev_guardT | apply ev_guardF); (case hj | hb => (simp only [go_sem, H]; try rfl)))) <;> (first | refine ttA ?_ | refine ffA ?_ | (intro hb; first | (cases hb; done) | simp only [hb] | skip))) | ((first | apply awp_exit | apply awp_ret); refine tqA ?_) | (refine ev_nil (hK _ ?_); clear hK K) | (apply ev_step0; (case hr | hσ => (simp only [go_sem, H]; try rfl)); (case hc => exact hcA)) | (apply ev_step; (case hr | hσ => (intros; simp only [go_sem, H]; try rfl)); (case hc => exact hcA); intro g u; (try clear u); (try clear g)) | fail
      all_goals try clear H
      all_goals (refine resR_moreA ?_; simp only [go_sem])
      refine ⟨LeA.refl _, LeA.refl _, trivial⟩
    · have d1 : decide (x < -4000000000000000000) = false := decide_eq_false h1
      have d2 : decide (x > 4000000000000000000) = true := decide_eq_true (by omega)
      all_goals have H := And.intro hdec (And.intro hx (And.intro d1 d2))
      repeat' first | refine awp_seq ?_ | refine awp_block ?_ | refine awp_skip ?_ | (apply regB; (case hd => exact hdA); intro K hK) | (apply ev_guardU; (case hj | hu | hσ => (simp only [go_sem, H]; try rfl))) | ((first | refine awp_cond _ (by rfl) ?_ ?_ | ((first | apply ev_guardT | apply ev_guardF); (case hj | hb => (simp only [go_sem, H]; try rfl)))) <;> (first | refine ttA ?_ | refine ffA ?_ | (intro hb; first | (cases hb; done) | simp only [hb] | skip))) | ((first | apply awp_exit | apply awp_ret); refine tqA ?_) | (refine ev_nil (hK _ ?_); clear hK K) | (apply ev_step0; (case hr | hσ => (simp only [go_sem, H]; try rfl)); (case hc => exact hcA)) | (apply ev_step; (case hr | hσ => (intros; simp only [go_sem, H]; try rfl)); (case hc => exact hcA); intro g u; (try clear u); (try clear g)) | fail
      all_goals try clear H
      all_goals (refine resR_moreA ?_; simp only [go_sem])
      refine ⟨LeA.refl _, LeA.refl _, trivial⟩
  | true =>
    rw [hal, hsm] at hta
    rw [small_iff] at hsm
    have d1 : decide (x < -4000000000000000000) = false := decide_eq_false (by omega)
    have d2 : decide (x > 4000000000000000000) = false := decide_eq_false (by omega)
    obtain ⟨lo, hlo⟩ : ∃ y, sumL (l.take i) % 18446744073709551616 = y := ⟨_, rfl⟩
    obtain ⟨hi', hhi⟩ : ∃ y, (sumL (l.take i) / 18446744073709551616) % 18446744073709551616 = y := ⟨_, rfl⟩
    obtain ⟨un, hun⟩ : ∃ y, x % 18446744073709551616 = y := ⟨_, rfl⟩
    obtain ⟨us, hus⟩ : ∃ y, (if x < 0 then (18446744073709551615 : Int) else 0) = y := ⟨_, rfl⟩
    obtain ⟨cr, hcr⟩ : ∃ y, (lo + un + 0) / 18446744073709551616 = y := ⟨_, rfl⟩
    have a1 := f82_spec lo un 0 (by omega) (by omega) (.inl rfl)
    have hc01 : cr = 0 ∨ cr = 1 := by omega
    have a2 := f82_spec hi' us cr (by omega) (by rw [← hus]; split <;> omega) hc01
    have w1 : IntKind.u64.wrap x = un := by rw [wrap_u64, hun]
    rw [hcr] at a1
    have e1 : (lo + un + 0) % 18446744073709551616 = sumL (l.take (i + 1)) % 18446744073709551616 := by rw [hst]; omega
    have e2 : (hi' + us + cr) % 18446744073709551616 = (sumL (l.take (i + 1)) / 18446744073709551616) % 18446744073709551616 := by
      rw [hst]
      by_cases hneg : x < 0
      · rw [if_pos hneg] at hus; omega
      · rw [if_neg hneg] at hus; omega
    rw [e1] at a1
    rw [e2] at a2
    rw [hlo, hhi]
    by_cases hneg : x < 0
    · have d3 : decide (x < 0) = true := decide_eq_true hneg
      rw [if_pos hneg] at hus
      subst hus
      all_goals have H := And.intro hdec (And.intro hx (And.intro d1 (And.intro d2 (And.intro d3 w1))))
      repeat' first | refine awp_seq ?_ | refine awp_block ?_ | refine awp_skip ?_ | (apply regB; (case hd => exact hdA); intro K hK) | (apply ev_guardU; (case hj | hu | hσ => (simp only [go_sem, H]; try rfl))) | ((first | refine awp_cond _ (by rfl) ?_ ?_ | ((first | apply ev_guardT | apply ev_guardF); (case hj | hb => (simp only [go_sem, H]; try rfl)))) <;> (first | refine ttA ?_ | refine ffA ?_ | (intro hb; first | (cases hb; done) | simp only [hb] | skip))) | ((first | apply awp_exit | apply awp_ret); refine tqA ?_) | (refine ev_nil (hK _ ?_); clear hK K) | (apply ev_callE0; (case hys => (simp only [go_sem, H]; try rfl)); (case hs => first | exact a1 | exact a2); (case hσ => (simp only [go_sem, H]; try rfl))) | (apply ev_step0; (case hr | hσ => (simp only [go_sem, H]; try rfl)); (case hc => exact hcA)) | (apply ev_step; (case hr | hσ => (intros; simp only [go_sem, H]; try rfl)); (case hc => exact hcA); intro g u; (try clear u); (try clear g)) | fail
      all_goals try clear H
      refine Exists.intro (i + 1) ⟨⟨by omega, hta⟩, by omega, ?_⟩
      exact wkA
    · have d3 : decide (x < 0) = false := decide_eq_false hneg
      rw [if_neg hneg] at hus
      subst hus
      all_goals have H := And.intro hdec (And.intro hx (And.intro d1 (And.intro d2 (And.intro d3 w1))))
      repeat' first | refine awp_seq ?_ | refine awp_block ?_ | refine awp_skip ?_ | (apply regB; (case hd => exact hdA); intro K hK) | (apply ev_guardU; (case hj | hu | hσ => (simp only [go_sem, H]; try rfl))) | ((first | refine awp_cond _ (by rfl) ?_ ?_ | ((first | apply ev_guardT | apply ev_guardF); (case hj | hb => (simp only [go_sem, H]; try rfl)))) <;> (first | refine ttA ?_ | refine ffA ?_ | (intro hb; first | (cases hb; done) | simp only [hb] | skip))) | ((first | apply awp_exit | apply awp_ret); refine tqA ?_) | (refine ev_nil (hK _ ?_); clear hK K) | (apply ev_callE0; (case hys => (simp only [go_sem, H]; try rfl)); (case hs => first | exact a1 | exact a2); (case hσ => (simp only [go_sem, H]; try rfl))) | (apply ev_step0; (case hr | hσ => (simp only [go_sem, H]; try rfl)); (case hc => exact hcA)) | (apply ev_step; (case hr | hσ => (intros; simp only [go_sem, H]; try rfl)); (case hc => exact hcA); intro g u; (try clear u); (try clear g)) | fail
      all_goals try clear H
      refine Exists.intro (i + 1) ⟨⟨by omega, hta⟩, by omega, ?_⟩
      exact wkA
theorem f55_spec (l : List Int) (hb : ∀ x ∈ l, -9223372036854775808 ≤ x ∧ x ≤ 9223372036854775807) (hl : l.length ≤ 4611686018427387904) : Spec Tryd.prog 55 [.d (ints l)] (.tup [litI .i64 (sumD l).1, litI .i64 (sumD l).2]) := by
  have h75 := f75_spec l hb hl
  rcases hs : (l.all small && small (sumL l)) with _ | _
  · have e : sumD l = (0, 2) := by unfold sumD; rw [hs, if_neg Bool.false_ne_true]
    rw [e] at h75 ⊢
    refine spec_of_awp (fn := Tryd.f55) Tryd.func55 (by kernel_rfl) rfl ?_
    intro w0 C0
    simp only [Tryd.ntmps55, go_sem]
    repeat' first | refine awp_seq ?_ | refine awp_block ?_ | refine awp_skip ?_ | (apply regB; (case hd => exact hdA); intro K hK) | ((refine awp_cond _ (by rfl) ?_ ?_) <;> (first | refine ttA ?_ | refine ffA ?_ | (intro hb; first | (cases hb; done) | simp only [hb] | skip))) | ((first | apply awp_exit | apply awp_ret); refine tqA ?_) | (refine ev_nil (hK _ ?_); clear hK K) | (apply ev_call0; (case hys => (simp only [go_sem]; try rfl)); (case hs => first | exact h75 ..); (case hok | hσ => (simp only [go_sem]; try rfl))) | (apply ev_step0; (case hr | hσ => (simp only [go_sem]; try rfl)); (case hc => exact hcA)) | (apply ev_step; (case hr | hσ => (intros; simp only [go_sem]; try rfl)); (case hc => exact hcA); intro g u; (try clear u); (try clear g)) | fail
    all_goals (refine resR_moreA ?_; simp only [go_sem])
    exact ⟨LeA.refl _, LeA.refl _, trivial⟩
  · have e : sumD l = (sumL l, 0) := by unfold sumD; rw [hs, if_pos rfl]
    rw [e] at h75 ⊢
    refine spec_of_awp (fn := Tryd.f55) Tryd.func55 (by kernel_rfl) rfl ?_
    intro w0 C0
    simp only [Tryd.ntmps55, go_sem]
    repeat' first | refine awp_seq ?_ | refine awp_block ?_ | refine awp_skip ?_ | (apply regB; (case hd => exact hdA); intro K hK) | ((refine awp_cond _ (by rfl) ?_ ?_) <;> (first | refine ttA ?_ | refine ffA ?_ | (intro hb; first | (cases hb; done) | simp only [hb] | skip))) | ((first | apply awp_exit | apply awp_ret); refine tqA ?_) | (refine ev_nil (hK _ ?_); clear hK K) | (apply ev_call0; (case hys => (simp only [go_sem]; try rfl)); (case hs => first | exact h75 ..); (case hok | hσ => (simp only [go_sem]; try rfl))) | (apply ev_step0; (case hr | hσ => (simp only [go_sem]; try rfl)); (case hc => exact hcA)) | (apply ev_step; (case hr | hσ => (intros; simp only [go_sem]; try rfl)); (case hc => exact hcA); intro g u; (try clear u); (try clear g)) | fail
    all_goals (refine resR_moreA ?_; simp only [go_sem])
    exact ⟨LeA.refl _, LeA.refl _, trivial⟩
end
end Go.Proofs.YtopigomfhggkoaaDoor.A
