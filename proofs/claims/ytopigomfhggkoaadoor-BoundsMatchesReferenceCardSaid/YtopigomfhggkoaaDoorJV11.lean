/- Ranges of expressions in the reference: the walk of RangeOf. (Written by mk64.py.) -/
import Derived.Test.YtopigomfhggkoaaDoorJV10
import Derived.Test.YtopigomfhggkoaaDoorJV4
namespace Go.Proofs.YtopigomfhggkoaaDoor.A
section
set_option linter.unusedVariables false
set_option linter.unusedSimpArgs false
open Go.RowKit
attribute [local irreducible] Spec SpecF SpecN
attribute [local irreducible] AWp evOps evD
abbrev spD (s : Sp) : List Dat := [.lit (.bool s.null), .lit (.bool s.has), .lit (.int .i64 s.lo.k), .lit (.int .i64 s.lo.i), .lit (.string s.lo.s), .lit (.int .i64 s.hi.k), .lit (.int .i64 s.hi.i), .lit (.string s.hi.s)]
set_option maxRecDepth 100000 in
theorem f46_const (B : Dat) (c : Int) (v : Vl) : Spec Tryd.prog 46 [.d B, .agg (exA (.leaf 1 c v))] (.agg (sp ⟨false, true, v, v⟩)) := by
  simp only [exA, opE, cE, vE, argsD]
  refine spec_of_awp (fn := Tryd.f46) Tryd.func46 (by kernel_rfl) rfl ?_
  intro w0 C0
  simp only [Tryd.ntmps46, go_sem]
  repeat' first | refine awp_seq ?_ | refine awp_block ?_ | refine awp_skip ?_ | (apply regB; (case hd => exact hdA); intro K hK) | (apply ev_guardU; (case hj | hu | hσ => (simp only [go_sem]; try rfl))) | ((first | refine awp_cond _ (by rfl) ?_ ?_ | ((first | apply ev_guardT | apply ev_guardF); (case hj | hb => (simp only [go_sem]; try rfl)))) <;> (first | refine ttA ?_ | refine ffA ?_ | (intro hb; first | (cases hb; done) | simp only [hb] | skip))) | ((first | apply awp_exit | apply awp_ret); refine tqA ?_) | (refine ev_nil (hK _ ?_); clear hK K) | (apply ev_step0; (case hr | hσ => (simp only [go_sem]; try rfl)); (case hc => exact hcA)) | (apply ev_step; (case hr | hσ => (intros; simp only [go_sem]; try rfl)); (case hc => exact hcA); intro g u; (try clear u); (try clear g)) | fail
  all_goals (refine resR_oneA ?_; simp only [go_sem])
  exact LeA.refl _
set_option maxRecDepth 100000 in
theorem f46_col (l : List Bd) (c : Nat) (v : Vl) (hc : c < l.length) : Spec Tryd.prog 46 [.d (bds l), .agg (exA (.leaf 2 (c : Int) v))] (.agg (sp (colS (l.getD c zeroBd)))) := by
  have hx := bds_at l hc
  generalize l.getD c zeroBd = b at *
  simp only [exA, opE, cE, vE, argsD]
  refine spec_of_awp (fn := Tryd.f46) Tryd.func46 (by kernel_rfl) rfl ?_
  intro w0 C0
  simp only [Tryd.ntmps46, go_sem]
  repeat' first | refine awp_seq ?_ | refine awp_block ?_ | refine awp_skip ?_ | (apply regB; (case hd => exact hdA); intro K hK) | (apply ev_guardU; (case hj | hu | hσ => (simp only [go_sem, hx]; try rfl))) | ((first | refine awp_cond _ (by rfl) ?_ ?_ | ((first | apply ev_guardT | apply ev_guardF); (case hj | hb => (simp only [go_sem, hx]; try rfl)))) <;> (first | refine ttA ?_ | refine ffA ?_ | (intro hb; first | (cases hb; done) | simp only [hb] | skip))) | ((first | apply awp_exit | apply awp_ret); refine tqA ?_) | (refine ev_nil (hK _ ?_); clear hK K) | (apply ev_step0; (case hr | hσ => (simp only [go_sem, hx]; try rfl)); (case hc => exact hcA)) | (apply ev_step; (case hr | hσ => (intros; simp only [go_sem, hx]; try rfl)); (case hc => exact hcA); intro g u; (try clear u); (try clear g)) | fail
  all_goals (refine resR_oneA ?_; simp only [go_sem])
  exact LeA.refl _
set_option maxRecDepth 100000 in
set_option maxHeartbeats 8000000 in
theorem f46_un (B : Dat) (op : Int) (p : Ex) (s : Sp) (hop : op = 8 ∨ op = 9) (hp : Spec Tryd.prog 46 [.d B, .agg (exA p)] (.agg (sp s))) : Spec Tryd.prog 46 [.d B, .agg (exA (.un op p))] (.agg (sp (if op = 8 then notM s else isNullM s))) := by
  have e1 : (op == 1) = false := by simp; omega
  have e2 : (op == 2) = false := by simp; omega
  have a1 := f67_spec s
  have a2 := f68_spec s.has s.null false
  simp only [exA, opE_un, cE_un, vE_un, argsD_un] at hp ⊢
  refine spec_of_awp (fn := Tryd.f46) Tryd.func46 (by kernel_rfl) rfl ?_
  intro w0 C0
  simp only [Tryd.ntmps46, go_sem]
  all_goals have H := And.intro e1 e2
  repeat' first | refine awp_seq ?_ | refine awp_block ?_ | refine awp_skip ?_ | (apply regB; (case hd => exact hdA); intro K hK) | (apply ev_guardU; (case hj | hu | hσ => (simp only [go_sem, H]; try rfl))) | ((first | refine awp_cond _ (by rfl) ?_ ?_ | ((first | apply ev_guardT | apply ev_guardF); (case hj | hb => (simp only [go_sem, H]; try rfl)))) <;> (first | refine ttA ?_ | refine ffA ?_ | (intro hb; first | (cases hb; done) | simp only [hb] | skip))) | ((first | apply awp_exit | apply awp_ret); refine tqA ?_) | (refine ev_nil (hK _ ?_); clear hK K) | (apply ev_step0; (case hr | hσ => (simp only [go_sem, H]; try rfl)); (case hc => exact hcA)) | (apply ev_step; (case hr | hσ => (intros; simp only [go_sem, H]; try rfl)); (case hc => exact hcA); intro g u; (try clear u); (try clear g)) | fail
  all_goals try clear H
  rename_i g3
  revert g; intro g4
  revert u; intro u0
  refine awp_loopI (fun j : Nat × Value => j.1 ≤ 1) (fun j => 1 - j.1) (fun j => ⟨[.d B, .any, .any, .ptr 3 g3 0, .ptr 4 g4 0, .any, .own 34 j.2, litI .i64 (j.1 : Int), .any, .any, .any, .any, .any, .any, .any, .any, .any, .any, .any, .any, .any, .any, .any, .any, .any, .any, .any, .any, .any, .any, .any, .any, .any, .any, .any, .any, .any, .any, .any, .any, .any, .any, .any, .any, .any, .any, .any, .any, .any, .any, .any, .any, .any, .any, .any, .any, .any, .any, .any, .any, .any, .any, .any, .any, .any, .any, .any, .any, .any, .any, .any, .any, .any, .any, .any, .any, .any, .any, .any, .any, .any, .any, .any, .any, .any, .any, .any, .any, .any, .any, .any, .any, .any, .any, .any, .any, .any, .any, .any, .any, .any, .any, .any, .any, .any, .any, .any, .any, .any, .any, .any, .any, .any, .any, .any, .any, .any, .any, .any, .any, .any, .any, .any, .any, .any, .any, .any, .any, .any, .any, .any, .any, .any, .any, .any, .any, .any, .any, .any, .any, .any, .any, .any, .any, .any, .any, .any, .any, .any, .any, .any, .any, .any, .any, .any, .any, .any, .any, .any, .any, .any, .any, .any, .any, .any, .any, .any, .any, .any, .any, .any, .any, .any, .any, .any, .any, .any, .any, .any, .any, .any, .any, .any, .any, .any, .any, .any, .any, .any, .any, .any, .any, .any, .any, .any, .any], [.no, .no, .no, .box g3 (exA (.un op p)), .box g4 zsp, .no, .no, .no, .no, .no, .no, .no, .no, .no, .no, .no, .no, .no, .no, .no, .no, .no, .no, .no, .no, .no, .no, .no, .no, .no, .no, .no, .no, .no, .row j.2 90 8 ((([s] : List Sp).take j.1).map spD), .no, .no, .no, .no, .no, .no, .no, .no, .no, .no, .no, .no, .no, .no, .no, .no, .no, .no, .no, .no, .no, .no, .no, .no, .no, .no, .no, .no, .no, .no, .no, .no, .no, .no, .no, .no, .no, .no, .no, .no, .no, .no, .no, .no, .no, .no, .no, .no, .no, .no, .no, .no, .no, .no, .no, .no, .no, .no, .no, .no, .no, .no, .no, .no, .no, .no, .no, .no, .no, .no, .no, .no, .no, .no, .no, .no, .no, .no, .no, .no, .no, .no, .no, .no, .no, .no, .no, .no, .no, .no, .no, .no, .no, .no, .no, .no, .no, .no, .no, .no, .no, .no, .no, .no, .no, .no, .no, .no, .no, .no, .no, .no, .no, .no, .no, .no, .no, .no, .no, .no, .no, .no, .no, .no, .no, .no, .no, .no, .no, .no, .no, .no, .no, .no, .no, .no, .no, .no, .no, .no, .no, .no, .no, .no, .no, .no, .no, .no, .no, .no, .no, .no, .no, .no, .no, .no, .no, .no, .no, .no, .no]⟩) (0, u0) (by simp) ?_ ?_
  · simp only [exA, opE_un, cE_un, vE_un, argsD_un, List.take_zero, List.take_succ_cons, List.map_cons, List.map_nil]
    exact wkA
  rintro ⟨j, u⟩ hj
  simp only [litI, litB, litS] at hj hp ⊢
  obtain rfl | rfl : j = 0 ∨ j = 1 := by omega
  · simp only [exA, opE_un, cE_un, vE_un, argsD_un, List.take_zero, List.take_succ_cons, List.map_cons, List.map_nil, litI, litB, litS]
    have d1 : decide (((0 : Nat) : Int) < ((1 : Nat) : Int)) = true := by decide
    have w1 : IntKind.i64.wrap (((0 : Nat) : Int) + 1) = 1 := by decide
    all_goals have H := And.intro d1 w1
    repeat' first | refine awp_seq ?_ | refine awp_block ?_ | refine awp_skip ?_ | (apply regB; (case hd => exact hdA); intro K hK) | (apply ev_guardU; (case hj | hu | hσ => (simp only [go_sem, H]; try rfl))) | ((first | refine awp_cond _ (by rfl) ?_ ?_ | ((first | apply ev_guardT | apply ev_guardF); (case hj | hb => (simp only [go_sem, H]; try rfl)))) <;> (first | refine ttA ?_ | refine ffA ?_ | (intro hb; first | (cases hb; done) | simp only [hb] | skip))) | ((first | apply awp_exit | apply awp_ret); refine tqA ?_) | (refine ev_nil (hK _ ?_); clear hK K) | (apply ev_call0; (case hys => (simp only [go_sem, H]; try rfl)); (case hs => first | exact hp ..); (case hok | hσ => (simp only [go_sem, H]; try rfl))) | (apply ev_step0; (case hr | hσ => (simp only [go_sem, H]; try rfl)); (case hc => exact hcA)) | (apply ev_step; (case hr | hσ => (intros; simp only [go_sem, H]; try rfl)); (case hc => exact hcA); intro g u; (try clear u); (try clear g)) | fail
    all_goals try clear H
    refine Exists.intro (1, u) ⟨by simp, by simp, ?_⟩
    simp only [exA, opE_un, cE_un, vE_un, argsD_un, List.take_zero, List.take_succ_cons, List.map_cons, List.map_nil]
    exact wkA
  simp only [exA, opE_un, cE_un, vE_un, argsD_un, List.take_zero, List.take_succ_cons, List.map_cons, List.map_nil, litI, litB, litS]
  have d1 : decide (((1 : Nat) : Int) < ((1 : Nat) : Int)) = false := by decide
  rcases hop with rfl | rfl
  · rw [if_pos rfl]
    repeat' first | refine awp_seq ?_ | refine awp_block ?_ | refine awp_skip ?_ | (apply regB; (case hd => exact hdA); intro K hK) | (apply ev_guardU; (case hj | hu | hσ => (simp only [go_sem, d1]; try rfl))) | ((first | refine awp_cond _ (by rfl) ?_ ?_ | ((first | apply ev_guardT | apply ev_guardF); (case hj | hb => (simp only [go_sem, d1]; try rfl)))) <;> (first | refine ttA ?_ | refine ffA ?_ | (intro hb; first | (cases hb; done) | simp only [hb] | skip))) | ((first | apply awp_exit | apply awp_ret); refine tqA ?_) | (refine ev_nil (hK _ ?_); clear hK K) | (apply ev_call0; (case hys => (simp only [go_sem, d1]; try rfl)); (case hs => first | exact a1 ..); (case hok | hσ => (simp only [go_sem, d1]; try rfl))) | (apply regDB; (case hd => exact hdA); (case' h => (intro K hK; (repeat' first | (apply evd_nil; refine (hK _ ?_); clear hK K) | (apply evd_guardU0; (case hj | hu | hσ => (simp only [go_sem, d1]; try rfl))) | (apply evd_guardU; (case hj | hu | hσ => (simp only [go_sem, d1]; try rfl))) | (apply evd_skipT0; (case hj | hb | hσ => (simp only [go_sem, d1]; try rfl))) | (apply evd_skipF0; (case hj | hb | hσ => (simp only [go_sem, d1]; try rfl))) | (apply evd_skipT; (case hj | hb | hσ => (simp only [go_sem, d1]; try rfl))) | (apply evd_skipF; (case hj | hb | hσ => (simp only [go_sem, d1]; try rfl))) | (apply evd_guardT; (case hj | hb => (simp only [go_sem, d1]; try rfl)); (case' h2 => (intro hb; first | (cases hb; done) | (simp only [hb]) | skip)); (case' h1 => (intro hb; first | (cases hb; done) | (simp only [hb]) | skip))) | (apply evd_guardF; (case hj | hb => (simp only [go_sem, d1]; try rfl)); (case' h2 => (intro hb; first | (cases hb; done) | (simp only [hb]) | skip)); (case' h1 => (intro hb; first | (cases hb; done) | (simp only [hb]) | skip))) | (apply evd_call0; (case hi | hys => (simp only [go_sem, d1]; try rfl)); (case hs => first | exact a1 ..); (case hok | hw | hσ => (simp only [go_sem, d1]; try rfl))) | (apply evd_step0; (case hr | hi | hσ => (simp only [go_sem, d1]; try rfl)); (case hc => exact hcA)) | (apply evd_step; (case hr | hi | hw | hσ => (intros; simp only [go_sem, d1]; try rfl)); (case hc => exact hcA); (case' hk => (intro g u; (try clear u); (try clear g)))) | fail))); (case hB => kernel_rfl)) | (apply ev_step0; (case hr | hσ => (simp only [go_sem, d1]; try rfl)); (case hc => exact hcA)) | (apply ev_step; (case hr | hσ => (intros; simp only [go_sem, d1]; try rfl)); (case hc => exact hcA); intro g u; (try clear u); (try clear g)) | fail
    all_goals (refine resR_oneA ?_; simp only [go_sem])
    exact LeA.refl _
  · rw [if_neg (by decide)]
    repeat' first | refine awp_seq ?_ | refine awp_block ?_ | refine awp_skip ?_ | (apply regB; (case hd => exact hdA); intro K hK) | (apply ev_guardU; (case hj | hu | hσ => (simp only [go_sem, d1]; try rfl))) | ((first | refine awp_cond _ (by rfl) ?_ ?_ | ((first | apply ev_guardT | apply ev_guardF); (case hj | hb => (simp only [go_sem, d1]; try rfl)))) <;> (first | refine ttA ?_ | refine ffA ?_ | (intro hb; first | (cases hb; done) | simp only [hb] | skip))) | ((first | apply awp_exit | apply awp_ret); refine tqA ?_) | (refine ev_nil (hK _ ?_); clear hK K) | (apply ev_call0; (case hys => (simp only [go_sem, d1]; try rfl)); (case hs => first | exact a2 ..); (case hok | hσ => (simp only [go_sem, d1]; try rfl))) | (apply regDB; (case hd => exact hdA); (case' h => (intro K hK; (repeat' first | (apply evd_nil; refine (hK _ ?_); clear hK K) | (apply evd_guardU0; (case hj | hu | hσ => (simp only [go_sem, d1]; try rfl))) | (apply evd_guardU; (case hj | hu | hσ => (simp only [go_sem, d1]; try rfl))) | (apply evd_skipT0; (case hj | hb | hσ => (simp only [go_sem, d1]; try rfl))) | (apply evd_skipF0; (case hj | hb | hσ => (simp only [go_sem, d1]; try rfl))) | (apply evd_skipT; (case hj | hb | hσ => (simp only [go_sem, d1]; try rfl))) | (apply evd_skipF; (case hj | hb | hσ => (simp only [go_sem, d1]; try rfl))) | (apply evd_guardT; (case hj | hb => (simp only [go_sem, d1]; try rfl)); (case' h2 => (intro hb; first | (cases hb; done) | (simp only [hb]) | skip)); (case' h1 => (intro hb; first | (cases hb; done) | (simp only [hb]) | skip))) | (apply evd_guardF; (case hj | hb => (simp only [go_sem, d1]; try rfl)); (case' h2 => (intro hb; first | (cases hb; done) | (simp only [hb]) | skip)); (case' h1 => (intro hb; first | (cases hb; done) | (simp only [hb]) | skip))) | (apply evd_call0; (case hi | hys => (simp only [go_sem, d1]; try rfl)); (case hs => first | exact a2 ..); (case hok | hw | hσ => (simp only [go_sem, d1]; try rfl))) | (apply evd_step0; (case hr | hi | hσ => (simp only [go_sem, d1]; try rfl)); (case hc => exact hcA)) | (apply evd_step; (case hr | hi | hw | hσ => (intros; simp only [go_sem, d1]; try rfl)); (case hc => exact hcA); (case' hk => (intro g u; (try clear u); (try clear g)))) | fail))); (case hB => kernel_rfl)) | (apply ev_step0; (case hr | hσ => (simp only [go_sem, d1]; try rfl)); (case hc => exact hcA)) | (apply ev_step; (case hr | hσ => (intros; simp only [go_sem, d1]; try rfl)); (case hc => exact hcA); intro g u; (try clear u); (try clear g)) | fail
    all_goals (refine resR_oneA ?_; simp only [go_sem])
    exact LeA.refl _
set_option maxRecDepth 100000 in
set_option maxHeartbeats 8000000 in
theorem f46_logic (B : Dat) (op : Int) (p q : Ex) (s t : Sp) (hop : op = 6 ∨ op = 7) (hp : Spec Tryd.prog 46 [.d B, .agg (exA p)] (.agg (sp s))) (hq : Spec Tryd.prog 46 [.d B, .agg (exA q)] (.agg (sp t))) : Spec Tryd.prog 46 [.d B, .agg (exA (.bi op p q))] (.agg (sp (biM op s t))) := by
  have e1 : (op == 1) = false := by simp; omega
  have e2 : (op == 2) = false := by simp; omega
  have a1 := f66_spec s t
  have b1 := f67_spec s
  have b2 := f67_spec t
  have b3 := f66_spec (notM s) (notM t)
  have b4 := f67_spec (logicM (notM s) (notM t))
  rw [logic_or] at b4
  rw [logic_and] at a1
  simp only [exA, opE_bi, cE_bi, vE_bi, argsD_bi] at hp hq ⊢
  refine spec_of_awp (fn := Tryd.f46) Tryd.func46 (by kernel_rfl) rfl ?_
  intro w0 C0
  simp only [Tryd.ntmps46, go_sem]
  all_goals have H := And.intro e1 e2
  repeat' first | refine awp_seq ?_ | refine awp_block ?_ | refine awp_skip ?_ | (apply regB; (case hd => exact hdA); intro K hK) | (apply ev_guardU; (case hj | hu | hσ => (simp only [go_sem, H]; try rfl))) | ((first | refine awp_cond _ (by rfl) ?_ ?_ | ((first | apply ev_guardT | apply ev_guardF); (case hj | hb => (simp only [go_sem, H]; try rfl)))) <;> (first | refine ttA ?_ | refine ffA ?_ | (intro hb; first | (cases hb; done) | simp only [hb] | skip))) | ((first | apply awp_exit | apply awp_ret); refine tqA ?_) | (refine ev_nil (hK _ ?_); clear hK K) | (apply ev_step0; (case hr | hσ => (simp only [go_sem, H]; try rfl)); (case hc => exact hcA)) | (apply ev_step; (case hr | hσ => (intros; simp only [go_sem, H]; try rfl)); (case hc => exact hcA); intro g u; (try clear u); (try clear g)) | fail
  all_goals try clear H
  rename_i g3
  revert g; intro g4
  revert u; intro u0
  refine awp_loopI (fun j : Nat × Value => j.1 ≤ 2) (fun j => 2 - j.1) (fun j => ⟨[.d B, .any, .any, .ptr 3 g3 0, .ptr 4 g4 0, .any, .own 34 j.2, litI .i64 (j.1 : Int), .any, .any, .any, .any, .any, .any, .any, .any, .any, .any, .any, .any, .any, .any, .any, .any, .any, .any, .any, .any, .any, .any, .any, .any, .any, .any, .any, .any, .any, .any, .any, .any, .any, .any, .any, .any, .any, .any, .any, .any, .any, .any, .any, .any, .any, .any, .any, .any, .any, .any, .any, .any, .any, .any, .any, .any, .any, .any, .any, .any, .any, .any, .any, .any, .any, .any, .any, .any, .any, .any, .any, .any, .any, .any, .any, .any, .any, .any, .any, .any, .any, .any, .any, .any, .any, .any, .any, .any, .any, .any, .any, .any, .any, .any, .any, .any, .any, .any, .any, .any, .any, .any, .any, .any, .any, .any, .any, .any, .any, .any, .any, .any, .any, .any, .any, .any, .any, .any, .any, .any, .any, .any, .any, .any, .any, .any, .any, .any, .any, .any, .any, .any, .any, .any, .any, .any, .any, .any, .any, .any, .any, .any, .any, .any, .any, .any, .any, .any, .any, .any, .any, .any, .any, .any, .any, .any, .any, .any, .any, .any, .any, .any, .any, .any, .any, .any, .any, .any, .any, .any, .any, .any, .any, .any, .any, .any, .any, .any, .any, .any, .any, .any, .any, .any, .any, .any, .any, .any], [.no, .no, .no, .box g3 (exA (.bi op p q)), .box g4 zsp, .no, .no, .no, .no, .no, .no, .no, .no, .no, .no, .no, .no, .no, .no, .no, .no, .no, .no, .no, .no, .no, .no, .no, .no, .no, .no, .no, .no, .no, .row j.2 90 8 ((([s, t] : List Sp).take j.1).map spD), .no, .no, .no, .no, .no, .no, .no, .no, .no, .no, .no, .no, .no, .no, .no, .no, .no, .no, .no, .no, .no, .no, .no, .no, .no, .no, .no, .no, .no, .no, .no, .no, .no, .no, .no, .no, .no, .no, .no, .no, .no, .no, .no, .no, .no, .no, .no, .no, .no, .no, .no, .no, .no, .no, .no, .no, .no, .no, .no, .no, .no, .no, .no, .no, .no, .no, .no, .no, .no, .no, .no, .no, .no, .no, .no, .no, .no, .no, .no, .no, .no, .no, .no, .no, .no, .no, .no, .no, .no, .no, .no, .no, .no, .no, .no, .no, .no, .no, .no, .no, .no, .no, .no, .no, .no, .no, .no, .no, .no, .no, .no, .no, .no, .no, .no, .no, .no, .no, .no, .no, .no, .no, .no, .no, .no, .no, .no, .no, .no, .no, .no, .no, .no, .no, .no, .no, .no, .no, .no, .no, .no, .no, .no, .no, .no, .no, .no, .no, .no, .no, .no, .no, .no, .no, .no, .no, .no, .no, .no, .no, .no]⟩) (0, u0) (by simp) ?_ ?_
  · simp only [exA, opE_bi, cE_bi, vE_bi, argsD_bi, List.take_zero, List.take_succ_cons, List.map_cons, List.map_nil]
    exact wkA
  rintro ⟨j, u⟩ hj
  simp only [litI, litB, litS] at hj hp hq ⊢
  obtain rfl | rfl | rfl : j = 0 ∨ j = 1 ∨ j = 2 := by omega
  · simp only [exA, opE_bi, cE_bi, vE_bi, argsD_bi, List.take_zero, List.take_succ_cons, List.map_cons, List.map_nil, litI, litB, litS]
    have d1 : decide (((0 : Nat) : Int) < ((2 : Nat) : Int)) = true := by decide
    have w1 : IntKind.i64.wrap (((0 : Nat) : Int) + 1) = 1 := by decide
    all_goals have H := And.intro d1 w1
    repeat' first | refine awp_seq ?_ | refine awp_block ?_ | refine awp_skip ?_ | (apply regB; (case hd => exact hdA); intro K hK) | (apply ev_guardU; (case hj | hu | hσ => (simp only [go_sem, H]; try rfl))) | ((first | refine awp_cond _ (by rfl) ?_ ?_ | ((first | apply ev_guardT | apply ev_guardF); (case hj | hb => (simp only [go_sem, H]; try rfl)))) <;> (first | refine ttA ?_ | refine ffA ?_ | (intro hb; first | (cases hb; done) | simp only [hb] | skip))) | ((first | apply awp_exit | apply awp_ret); refine tqA ?_) | (refine ev_nil (hK _ ?_); clear hK K) | (apply ev_call0; (case hys => (simp only [go_sem, H]; try rfl)); (case hs => first | exact hp ..); (case hok | hσ => (simp only [go_sem, H]; try rfl))) | (apply ev_step0; (case hr | hσ => (simp only [go_sem, H]; try rfl)); (case hc => exact hcA)) | (apply ev_step; (case hr | hσ => (intros; simp only [go_sem, H]; try rfl)); (case hc => exact hcA); intro g u; (try clear u); (try clear g)) | fail
    all_goals try clear H
    refine Exists.intro (1, u) ⟨by simp, by simp, ?_⟩
    simp only [exA, opE_bi, cE_bi, vE_bi, argsD_bi, List.take_zero, List.take_succ_cons, List.map_cons, List.map_nil]
    exact wkA
  · simp only [exA, opE_bi, cE_bi, vE_bi, argsD_bi, List.take_zero, List.take_succ_cons, List.map_cons, List.map_nil, litI, litB, litS]
    have d1 : decide (((1 : Nat) : Int) < ((2 : Nat) : Int)) = true := by decide
    have w1 : IntKind.i64.wrap (((1 : Nat) : Int) + 1) = 2 := by decide
    all_goals have H := And.intro d1 w1
    repeat' first | refine awp_seq ?_ | refine awp_block ?_ | refine awp_skip ?_ | (apply regB; (case hd => exact hdA); intro K hK) | (apply ev_guardU; (case hj | hu | hσ => (simp only [go_sem, H]; try rfl))) | ((first | refine awp_cond _ (by rfl) ?_ ?_ | ((first | apply ev_guardT | apply ev_guardF); (case hj | hb => (simp only [go_sem, H]; try rfl)))) <;> (first | refine ttA ?_ | refine ffA ?_ | (intro hb; first | (cases hb; done) | simp only [hb] | skip))) | ((first | apply awp_exit | apply awp_ret); refine tqA ?_) | (refine ev_nil (hK _ ?_); clear hK K) | (apply ev_call0; (case hys => (simp only [go_sem, H]; try rfl)); (case hs => first | exact hq ..); (case hok | hσ => (simp only [go_sem, H]; try rfl))) | (apply ev_step0; (case hr | hσ => (simp only [go_sem, H]; try rfl)); (case hc => exact hcA)) | (apply ev_step; (case hr | hσ => (intros; simp only [go_sem, H]; try rfl)); (case hc => exact hcA); intro g u; (try clear u); (try clear g)) | fail
    all_goals try clear H
    refine Exists.intro (2, u) ⟨by simp, by simp, ?_⟩
    simp only [exA, opE_bi, cE_bi, vE_bi, argsD_bi, List.take_zero, List.take_succ_cons, List.map_cons, List.map_nil]
    exact wkA
  simp only [exA, opE_bi, cE_bi, vE_bi, argsD_bi, List.take_zero, List.take_succ_cons, List.map_cons, List.map_nil, litI, litB, litS]
  have d1 : decide (((2 : Nat) : Int) < ((2 : Nat) : Int)) = false := by decide
  rcases hop with rfl | rfl
  · rw [show biM 6 s t = andM s t from rfl]
    repeat' first | refine awp_seq ?_ | refine awp_block ?_ | refine awp_skip ?_ | (apply regB; (case hd => exact hdA); intro K hK) | (apply ev_guardU; (case hj | hu | hσ => (simp only [go_sem, d1]; try rfl))) | ((first | refine awp_cond _ (by rfl) ?_ ?_ | ((first | apply ev_guardT | apply ev_guardF); (case hj | hb => (simp only [go_sem, d1]; try rfl)))) <;> (first | refine ttA ?_ | refine ffA ?_ | (intro hb; first | (cases hb; done) | simp only [hb] | skip))) | ((first | apply awp_exit | apply awp_ret); refine tqA ?_) | (refine ev_nil (hK _ ?_); clear hK K) | (apply ev_call0; (case hys => (simp only [go_sem, d1]; try rfl)); (case hs => first | exact a1 ..); (case hok | hσ => (simp only [go_sem, d1]; try rfl))) | (apply regDB; (case hd => exact hdA); (case' h => (intro K hK; (repeat' first | (apply evd_nil; refine (hK _ ?_); clear hK K) | (apply evd_guardU0; (case hj | hu | hσ => (simp only [go_sem, d1]; try rfl))) | (apply evd_guardU; (case hj | hu | hσ => (simp only [go_sem, d1]; try rfl))) | (apply evd_skipT0; (case hj | hb | hσ => (simp only [go_sem, d1]; try rfl))) | (apply evd_skipF0; (case hj | hb | hσ => (simp only [go_sem, d1]; try rfl))) | (apply evd_skipT; (case hj | hb | hσ => (simp only [go_sem, d1]; try rfl))) | (apply evd_skipF; (case hj | hb | hσ => (simp only [go_sem, d1]; try rfl))) | (apply evd_guardT; (case hj | hb => (simp only [go_sem, d1]; try rfl)); (case' h2 => (intro hb; first | (cases hb; done) | (simp only [hb]) | skip)); (case' h1 => (intro hb; first | (cases hb; done) | (simp only [hb]) | skip))) | (apply evd_guardF; (case hj | hb => (simp only [go_sem, d1]; try rfl)); (case' h2 => (intro hb; first | (cases hb; done) | (simp only [hb]) | skip)); (case' h1 => (intro hb; first | (cases hb; done) | (simp only [hb]) | skip))) | (apply evd_call0; (case hi | hys => (simp only [go_sem, d1]; try rfl)); (case hs => first | exact a1 ..); (case hok | hw | hσ => (simp only [go_sem, d1]; try rfl))) | (apply evd_step0; (case hr | hi | hσ => (simp only [go_sem, d1]; try rfl)); (case hc => exact hcA)) | (apply evd_step; (case hr | hi | hw | hσ => (intros; simp only [go_sem, d1]; try rfl)); (case hc => exact hcA); (case' hk => (intro g u; (try clear u); (try clear g)))) | fail))); (case hB => kernel_rfl)) | (apply ev_step0; (case hr | hσ => (simp only [go_sem, d1]; try rfl)); (case hc => exact hcA)) | (apply ev_step; (case hr | hσ => (intros; simp only [go_sem, d1]; try rfl)); (case hc => exact hcA); intro g u; (try clear u); (try clear g)) | fail
    all_goals (refine resR_oneA ?_; simp only [go_sem])
    exact LeA.refl _
  · rw [show biM 7 s t = orM s t from rfl]
    repeat' first | refine awp_seq ?_ | refine awp_block ?_ | refine awp_skip ?_ | (apply regB; (case hd => exact hdA); intro K hK) | (apply ev_guardU; (case hj | hu | hσ => (simp only [go_sem, d1]; try rfl))) | ((first | refine awp_cond _ (by rfl) ?_ ?_ | ((first | apply ev_guardT | apply ev_guardF); (case hj | hb => (simp only [go_sem, d1]; try rfl)))) <;> (first | refine ttA ?_ | refine ffA ?_ | (intro hb; first | (cases hb; done) | simp only [hb] | skip))) | ((first | apply awp_exit | apply awp_ret); refine tqA ?_) | (refine ev_nil (hK _ ?_); clear hK K) | (apply ev_call0; (case hys => (simp only [go_sem, d1]; try rfl)); (case hs => first | exact b1 .. | exact b2 .. | exact b3 .. | exact b4 ..); (case hok | hσ => (simp only [go_sem, d1]; try rfl))) | (apply regDB; (case hd => exact hdA); (case' h => (intro K hK; (repeat' first | (apply evd_nil; refine (hK _ ?_); clear hK K) | (apply evd_guardU0; (case hj | hu | hσ => (simp only [go_sem, d1]; try rfl))) | (apply evd_guardU; (case hj | hu | hσ => (simp only [go_sem, d1]; try rfl))) | (apply evd_skipT0; (case hj | hb | hσ => (simp only [go_sem, d1]; try rfl))) | (apply evd_skipF0; (case hj | hb | hσ => (simp only [go_sem, d1]; try rfl))) | (apply evd_skipT; (case hj | hb | hσ => (simp only [go_sem, d1]; try rfl))) | (apply evd_skipF; (case hj | hb | hσ => (simp only [go_sem, d1]; try rfl))) | (apply evd_guardT; (case hj | hb => (simp only [go_sem, d1]; try rfl)); (case' h2 => (intro hb; first | (cases hb; done) | (simp only [hb]) | skip)); (case' h1 => (intro hb; first | (cases hb; done) | (simp only [hb]) | skip))) | (apply evd_guardF; (case hj | hb => (simp only [go_sem, d1]; try rfl)); (case' h2 => (intro hb; first | (cases hb; done) | (simp only [hb]) | skip)); (case' h1 => (intro hb; first | (cases hb; done) | (simp only [hb]) | skip))) | (apply evd_call0; (case hi | hys => (simp only [go_sem, d1]; try rfl)); (case hs => first | exact b1 .. | exact b2 .. | exact b3 .. | exact b4 ..); (case hok | hw | hσ => (simp only [go_sem, d1]; try rfl))) | (apply evd_step0; (case hr | hi | hσ => (simp only [go_sem, d1]; try rfl)); (case hc => exact hcA)) | (apply evd_step; (case hr | hi | hw | hσ => (intros; simp only [go_sem, d1]; try rfl)); (case hc => exact hcA); (case' hk => (intro g u; (try clear u); (try clear g)))) | fail))); (case hB => kernel_rfl)) | (apply ev_step0; (case hr | hσ => (simp only [go_sem, d1]; try rfl)); (case hc => exact hcA)) | (apply ev_step; (case hr | hσ => (intros; simp only [go_sem, d1]; try rfl)); (case hc => exact hcA); intro g u; (try clear u); (try clear g)) | fail
    all_goals (refine resR_oneA ?_; simp only [go_sem])
    exact LeA.refl _
set_option maxRecDepth 100000 in
set_option maxHeartbeats 8000000 in
theorem f46_none (B : Dat) (op : Int) (p q : Ex) (s t : Sp) (hop : (3 ≤ op ∧ op ≤ 5) ∨ (10 ≤ op ∧ op ≤ 12)) (hb : (s.has && t.has) = false) (hp : Spec Tryd.prog 46 [.d B, .agg (exA p)] (.agg (sp s))) (hq : Spec Tryd.prog 46 [.d B, .agg (exA q)] (.agg (sp t))) : Spec Tryd.prog 46 [.d B, .agg (exA (.bi op p q))] (.agg (sp ⟨s.null || t.null, false, nullV, nullV⟩)) := by
  have e1 : (op == 1) = false := by simp; omega
  have e2 : (op == 2) = false := by simp; omega
  have e6 : (op == 6) = false := by simp; omega
  have e7 : (op == 7) = false := by simp; omega
  have e8 : (op == 8) = false := by simp; omega
  have e9 : (op == 9) = false := by simp; omega
  obtain ⟨n1, h1, lo1, hi1⟩ := s
  obtain ⟨n2, h2, lo2, hi2⟩ := t
  simp only at hb
  simp only [exA, opE_bi, cE_bi, vE_bi, argsD_bi] at hp hq ⊢
  refine spec_of_awp (fn := Tryd.f46) Tryd.func46 (by kernel_rfl) rfl ?_
  intro w0 C0
  simp only [Tryd.ntmps46, go_sem]
  all_goals have H := And.intro e1 e2
  repeat' first | refine awp_seq ?_ | refine awp_block ?_ | refine awp_skip ?_ | (apply regB; (case hd => exact hdA); intro K hK) | (apply ev_guardU; (case hj | hu | hσ => (simp only [go_sem, H]; try rfl))) | ((first | refine awp_cond _ (by rfl) ?_ ?_ | ((first | apply ev_guardT | apply ev_guardF); (case hj | hb => (simp only [go_sem, H]; try rfl)))) <;> (first | refine ttA ?_ | refine ffA ?_ | (intro hb; first | (cases hb; done) | simp only [hb] | skip))) | ((first | apply awp_exit | apply awp_ret); refine tqA ?_) | (refine ev_nil (hK _ ?_); clear hK K) | (apply ev_step0; (case hr | hσ => (simp only [go_sem, H]; try rfl)); (case hc => exact hcA)) | (apply ev_step; (case hr | hσ => (intros; simp only [go_sem, H]; try rfl)); (case hc => exact hcA); intro g u; (try clear u); (try clear g)) | fail
  all_goals try clear H
  rename_i g3
  revert g; intro g4
  revert u; intro u0
  refine awp_loopI (fun j : Nat × Value => j.1 ≤ 2) (fun j => 2 - j.1) (fun j => ⟨[.d B, .any, .any, .ptr 3 g3 0, .ptr 4 g4 0, .any, .own 34 j.2, litI .i64 (j.1 : Int), .any, .any, .any, .any, .any, .any, .any, .any, .any, .any, .any, .any, .any, .any, .any, .any, .any, .any, .any, .any, .any, .any, .any, .any, .any, .any, .any, .any, .any, .any, .any, .any, .any, .any, .any, .any, .any, .any, .any, .any, .any, .any, .any, .any, .any, .any, .any, .any, .any, .any, .any, .any, .any, .any, .any, .any, .any, .any, .any, .any, .any, .any, .any, .any, .any, .any, .any, .any, .any, .any, .any, .any, .any, .any, .any, .any, .any, .any, .any, .any, .any, .any, .any, .any, .any, .any, .any, .any, .any, .any, .any, .any, .any, .any, .any, .any, .any, .any, .any, .any, .any, .any, .any, .any, .any, .any, .any, .any, .any, .any, .any, .any, .any, .any, .any, .any, .any, .any, .any, .any, .any, .any, .any, .any, .any, .any, .any, .any, .any, .any, .any, .any, .any, .any, .any, .any, .any, .any, .any, .any, .any, .any, .any, .any, .any, .any, .any, .any, .any, .any, .any, .any, .any, .any, .any, .any, .any, .any, .any, .any, .any, .any, .any, .any, .any, .any, .any, .any, .any, .any, .any, .any, .any, .any, .any, .any, .any, .any, .any, .any, .any, .any, .any, .any, .any, .any, .any, .any], [.no, .no, .no, .box g3 (exA (.bi op p q)), .box g4 zsp, .no, .no, .no, .no, .no, .no, .no, .no, .no, .no, .no, .no, .no, .no, .no, .no, .no, .no, .no, .no, .no, .no, .no, .no, .no, .no, .no, .no, .no, .row j.2 90 8 ((([⟨n1, h1, lo1, hi1⟩, ⟨n2, h2, lo2, hi2⟩] : List Sp).take j.1).map spD), .no, .no, .no, .no, .no, .no, .no, .no, .no, .no, .no, .no, .no, .no, .no, .no, .no, .no, .no, .no, .no, .no, .no, .no, .no, .no, .no, .no, .no, .no, .no, .no, .no, .no, .no, .no, .no, .no, .no, .no, .no, .no, .no, .no, .no, .no, .no, .no, .no, .no, .no, .no, .no, .no, .no, .no, .no, .no, .no, .no, .no, .no, .no, .no, .no, .no, .no, .no, .no, .no, .no, .no, .no, .no, .no, .no, .no, .no, .no, .no, .no, .no, .no, .no, .no, .no, .no, .no, .no, .no, .no, .no, .no, .no, .no, .no, .no, .no, .no, .no, .no, .no, .no, .no, .no, .no, .no, .no, .no, .no, .no, .no, .no, .no, .no, .no, .no, .no, .no, .no, .no, .no, .no, .no, .no, .no, .no, .no, .no, .no, .no, .no, .no, .no, .no, .no, .no, .no, .no, .no, .no, .no, .no, .no, .no, .no, .no, .no, .no, .no, .no, .no, .no, .no, .no, .no, .no, .no, .no, .no, .no]⟩) (0, u0) (by simp) ?_ ?_
  · simp only [exA, opE_bi, cE_bi, vE_bi, argsD_bi, List.take_zero, List.take_succ_cons, List.map_cons, List.map_nil]
    exact wkA
  rintro ⟨j, u⟩ hj
  simp only [litI, litB, litS] at hj hp hq ⊢
  obtain rfl | rfl | rfl : j = 0 ∨ j = 1 ∨ j = 2 := by omega
  · simp only [exA, opE_bi, cE_bi, vE_bi, argsD_bi, List.take_zero, List.take_succ_cons, List.map_cons, List.map_nil, litI, litB, litS]
    have d1 : decide (((0 : Nat) : Int) < ((2 : Nat) : Int)) = true := by decide
    have w1 : IntKind.i64.wrap (((0 : Nat) : Int) + 1) = 1 := by decide
    all_goals have H := And.intro d1 w1
    repeat' first | refine awp_seq ?_ | refine awp_block ?_ | refine awp_skip ?_ | (apply regB; (case hd => exact hdA); intro K hK) | (apply ev_guardU; (case hj | hu | hσ => (simp only [go_sem, H]; try rfl))) | ((first | refine awp_cond _ (by rfl) ?_ ?_ | ((first | apply ev_guardT | apply ev_guardF); (case hj | hb => (simp only [go_sem, H]; try rfl)))) <;> (first | refine ttA ?_ | refine ffA ?_ | (intro hb; first | (cases hb; done) | simp only [hb] | skip))) | ((first | apply awp_exit | apply awp_ret); refine tqA ?_) | (refine ev_nil (hK _ ?_); clear hK K) | (apply ev_call0; (case hys => (simp only [go_sem, H]; try rfl)); (case hs => first | exact hp ..); (case hok | hσ => (simp only [go_sem, H]; try rfl))) | (apply ev_step0; (case hr | hσ => (simp only [go_sem, H]; try rfl)); (case hc => exact hcA)) | (apply ev_step; (case hr | hσ => (intros; simp only [go_sem, H]; try rfl)); (case hc => exact hcA); intro g u; (try clear u); (try clear g)) | fail
    all_goals try clear H
    refine Exists.intro (1, u) ⟨by simp, by simp, ?_⟩
    simp only [exA, opE_bi, cE_bi, vE_bi, argsD_bi, List.take_zero, List.take_succ_cons, List.map_cons, List.map_nil]
    exact wkA
  · simp only [exA, opE_bi, cE_bi, vE_bi, argsD_bi, List.take_zero, List.take_succ_cons, List.map_cons, List.map_nil, litI, litB, litS]
    have d1 : decide (((1 : Nat) : Int) < ((2 : Nat) : Int)) = true := by decide
    have w1 : IntKind.i64.wrap (((1 : Nat) : Int) + 1) = 2 := by decide
    all_goals have H := And.intro d1 w1
    repeat' first | refine awp_seq ?_ | refine awp_block ?_ | refine awp_skip ?_ | (apply regB; (case hd => exact hdA); intro K hK) | (apply ev_guardU; (case hj | hu | hσ => (simp only [go_sem, H]; try rfl))) | ((first | refine awp_cond _ (by rfl) ?_ ?_ | ((first | apply ev_guardT | apply ev_guardF); (case hj | hb => (simp only [go_sem, H]; try rfl)))) <;> (first | refine ttA ?_ | refine ffA ?_ | (intro hb; first | (cases hb; done) | simp only [hb] | skip))) | ((first | apply awp_exit | apply awp_ret); refine tqA ?_) | (refine ev_nil (hK _ ?_); clear hK K) | (apply ev_call0; (case hys => (simp only [go_sem, H]; try rfl)); (case hs => first | exact hq ..); (case hok | hσ => (simp only [go_sem, H]; try rfl))) | (apply ev_step0; (case hr | hσ => (simp only [go_sem, H]; try rfl)); (case hc => exact hcA)) | (apply ev_step; (case hr | hσ => (intros; simp only [go_sem, H]; try rfl)); (case hc => exact hcA); intro g u; (try clear u); (try clear g)) | fail
    all_goals try clear H
    refine Exists.intro (2, u) ⟨by simp, by simp, ?_⟩
    simp only [exA, opE_bi, cE_bi, vE_bi, argsD_bi, List.take_zero, List.take_succ_cons, List.map_cons, List.map_nil]
    exact wkA
  simp only [exA, opE_bi, cE_bi, vE_bi, argsD_bi, List.take_zero, List.take_succ_cons, List.map_cons, List.map_nil, litI, litB, litS]
  have d1 : decide (((2 : Nat) : Int) < ((2 : Nat) : Int)) = false := by decide
  clear hp hq
  cases n1 <;> cases h1
  all_goals first | (rw [Bool.true_and] at hb; subst hb) | skip
  all_goals
    all_goals have H := And.intro d1 (And.intro e6 (And.intro e7 (And.intro e8 e9)))
    repeat' first | refine awp_seq ?_ | refine awp_block ?_ | refine awp_skip ?_ | (apply regB; (case hd => exact hdA); intro K hK) | (apply ev_guardU; (case hj | hu | hσ => (simp only [go_sem, H]; try rfl))) | ((first | refine awp_cond _ (by rfl) ?_ ?_ | ((first | apply ev_guardT | apply ev_guardF); (case hj | hb => (simp only [go_sem, H]; try rfl)))) <;> (first | refine ttA ?_ | refine ffA ?_ | (intro hb; first | (cases hb; done) | simp only [hb] | skip))) | ((first | apply awp_exit | apply awp_ret); refine tqA ?_) | (refine ev_nil (hK _ ?_); clear hK K) | (apply regDB; (case hd => exact hdA); (case' h => (intro K hK; (repeat' first | (apply evd_nil; refine (hK _ ?_); clear hK K) | (apply evd_guardU0; (case hj | hu | hσ => (simp only [go_sem, H]; try rfl))) | (apply evd_guardU; (case hj | hu | hσ => (simp only [go_sem, H]; try rfl))) | (apply evd_skipT0; (case hj | hb | hσ => (simp only [go_sem, H]; try rfl))) | (apply evd_skipF0; (case hj | hb | hσ => (simp only [go_sem, H]; try rfl))) | (apply evd_skipT; (case hj | hb | hσ => (simp only [go_sem, H]; try rfl))) | (apply evd_skipF; (case hj | hb | hσ => (simp only [go_sem, H]; try rfl))) | (apply evd_guardT; (case hj | hb => (simp only [go_sem, H]; try rfl)); (case' h2 => (intro hb; first | (cases hb; done) | (simp only [hb]) | skip)); (case' h1 => (intro hb; first | (cases hb; done) | (simp only [hb]) | skip))) | (apply evd_guardF; (case hj | hb => (simp only [go_sem, H]; try rfl)); (case' h2 => (intro hb; first | (cases hb; done) | (simp only [hb]) | skip)); (case' h1 => (intro hb; first | (cases hb; done) | (simp only [hb]) | skip))) | (apply evd_step0; (case hr | hi | hσ => (simp only [go_sem, H]; try rfl)); (case hc => exact hcA)) | (apply evd_step; (case hr | hi | hw | hσ => (intros; simp only [go_sem, H]; try rfl)); (case hc => exact hcA); (case' hk => (intro g u; (try clear u); (try clear g)))) | fail))); (case hB => kernel_rfl)) | (apply ev_step0; (case hr | hσ => (simp only [go_sem, H]; try rfl)); (case hc => exact hcA)) | (apply ev_step; (case hr | hσ => (intros; simp only [go_sem, H]; try rfl)); (case hc => exact hcA); intro g u; (try clear u); (try clear g)) | fail
    all_goals try clear H
    all_goals (refine resR_oneA ?_; simp only [go_sem])
    exact LeA.refl _
set_option maxRecDepth 100000 in
set_option maxHeartbeats 8000000 in
theorem f46_cmp (B : Dat) (op : Int) (p q : Ex) (s t : Sp) (r : Sp) (hop : (3 ≤ op ∧ op ≤ 5) ∨ (10 ≤ op ∧ op ≤ 12)) (hn : op ≠ 10 ∧ op ≠ 11) (hs : s.has = true) (ht : t.has = true) (hp : Spec Tryd.prog 46 [.d B, .agg (exA p)] (.agg (sp s))) (hq : Spec Tryd.prog 46 [.d B, .agg (exA q)] (.agg (sp t))) (hr : Spec Tryd.prog 70 [litI .i64 op, .agg (sp s), .agg (sp t)] (.agg (sp r))) : Spec Tryd.prog 46 [.d B, .agg (exA (.bi op p q))] (.agg (sp r)) := by
  have e1 : (op == 1) = false := by simp; omega
  have e2 : (op == 2) = false := by simp; omega
  have e6 : (op == 6) = false := by simp; omega
  have e7 : (op == 7) = false := by simp; omega
  have e8 : (op == 8) = false := by simp; omega
  have e9 : (op == 9) = false := by simp; omega
  have e10 : (op == 10) = false := by simp; omega
  have e11 : (op == 11) = false := by simp; omega
  obtain ⟨n1, h1, lo1, hi1⟩ := s
  obtain ⟨n2, h2, lo2, hi2⟩ := t
  simp only at hs ht
  subst hs; subst ht
  simp only [exA, opE_bi, cE_bi, vE_bi, argsD_bi] at hp hq ⊢
  refine spec_of_awp (fn := Tryd.f46) Tryd.func46 (by kernel_rfl) rfl ?_
  intro w0 C0
  simp only [Tryd.ntmps46, go_sem]
  all_goals have H := And.intro e1 e2
  repeat' first | refine awp_seq ?_ | refine awp_block ?_ | refine awp_skip ?_ | (apply regB; (case hd => exact hdA); intro K hK) | (apply ev_guardU; (case hj | hu | hσ => (simp only [go_sem, H]; try rfl))) | ((first | refine awp_cond _ (by rfl) ?_ ?_ | ((first | apply ev_guardT | apply ev_guardF); (case hj | hb => (simp only [go_sem, H]; try rfl)))) <;> (first | refine ttA ?_ | refine ffA ?_ | (intro hb; first | (cases hb; done) | simp only [hb] | skip))) | ((first | apply awp_exit | apply awp_ret); refine tqA ?_) | (refine ev_nil (hK _ ?_); clear hK K) | (apply ev_step0; (case hr | hσ => (simp only [go_sem, H]; try rfl)); (case hc => exact hcA)) | (apply ev_step; (case hr | hσ => (intros; simp only [go_sem, H]; try rfl)); (case hc => exact hcA); intro g u; (try clear u); (try clear g)) | fail
  all_goals try clear H
  rename_i g3
  revert g; intro g4
  revert u; intro u0
  refine awp_loopI (fun j : Nat × Value => j.1 ≤ 2) (fun j => 2 - j.1) (fun j => ⟨[.d B, .any, .any, .ptr 3 g3 0, .ptr 4 g4 0, .any, .own 34 j.2, litI .i64 (j.1 : Int), .any, .any, .any, .any, .any, .any, .any, .any, .any, .any, .any, .any, .any, .any, .any, .any, .any, .any, .any, .any, .any, .any, .any, .any, .any, .any, .any, .any, .any, .any, .any, .any, .any, .any, .any, .any, .any, .any, .any, .any, .any, .any, .any, .any, .any, .any, .any, .any, .any, .any, .any, .any, .any, .any, .any, .any, .any, .any, .any, .any, .any, .any, .any, .any, .any, .any, .any, .any, .any, .any, .any, .any, .any, .any, .any, .any, .any, .any, .any, .any, .any, .any, .any, .any, .any, .any, .any, .any, .any, .any, .any, .any, .any, .any, .any, .any, .any, .any, .any, .any, .any, .any, .any, .any, .any, .any, .any, .any, .any, .any, .any, .any, .any, .any, .any, .any, .any, .any, .any, .any, .any, .any, .any, .any, .any, .any, .any, .any, .any, .any, .any, .any, .any, .any, .any, .any, .any, .any, .any, .any, .any, .any, .any, .any, .any, .any, .any, .any, .any, .any, .any, .any, .any, .any, .any, .any, .any, .any, .any, .any, .any, .any, .any, .any, .any, .any, .any, .any, .any, .any, .any, .any, .any, .any, .any, .any, .any, .any, .any, .any, .any, .any, .any, .any, .any, .any, .any, .any], [.no, .no, .no, .box g3 (exA (.bi op p q)), .box g4 zsp, .no, .no, .no, .no, .no, .no, .no, .no, .no, .no, .no, .no, .no, .no, .no, .no, .no, .no, .no, .no, .no, .no, .no, .no, .no, .no, .no, .no, .no, .row j.2 90 8 ((([⟨n1, true, lo1, hi1⟩, ⟨n2, true, lo2, hi2⟩] : List Sp).take j.1).map spD), .no, .no, .no, .no, .no, .no, .no, .no, .no, .no, .no, .no, .no, .no, .no, .no, .no, .no, .no, .no, .no, .no, .no, .no, .no, .no, .no, .no, .no, .no, .no, .no, .no, .no, .no, .no, .no, .no, .no, .no, .no, .no, .no, .no, .no, .no, .no, .no, .no, .no, .no, .no, .no, .no, .no, .no, .no, .no, .no, .no, .no, .no, .no, .no, .no, .no, .no, .no, .no, .no, .no, .no, .no, .no, .no, .no, .no, .no, .no, .no, .no, .no, .no, .no, .no, .no, .no, .no, .no, .no, .no, .no, .no, .no, .no, .no, .no, .no, .no, .no, .no, .no, .no, .no, .no, .no, .no, .no, .no, .no, .no, .no, .no, .no, .no, .no, .no, .no, .no, .no, .no, .no, .no, .no, .no, .no, .no, .no, .no, .no, .no, .no, .no, .no, .no, .no, .no, .no, .no, .no, .no, .no, .no, .no, .no, .no, .no, .no, .no, .no, .no, .no, .no, .no, .no, .no, .no, .no, .no, .no, .no]⟩) (0, u0) (by simp) ?_ ?_
  · simp only [exA, opE_bi, cE_bi, vE_bi, argsD_bi, List.take_zero, List.take_succ_cons, List.map_cons, List.map_nil]
    exact wkA
  rintro ⟨j, u⟩ hj
  simp only [litI, litB, litS] at hj hp hq ⊢
  obtain rfl | rfl | rfl : j = 0 ∨ j = 1 ∨ j = 2 := by omega
  · simp only [exA, opE_bi, cE_bi, vE_bi, argsD_bi, List.take_zero, List.take_succ_cons, List.map_cons, List.map_nil, litI, litB, litS]
    have d1 : decide (((0 : Nat) : Int) < ((2 : Nat) : Int)) = true := by decide
    have w1 : IntKind.i64.wrap (((0 : Nat) : Int) + 1) = 1 := by decide
    all_goals have H := And.intro d1 w1
    repeat' first | refine awp_seq ?_ | refine awp_block ?_ | refine awp_skip ?_ | (apply regB; (case hd => exact hdA); intro K hK) | (apply ev_guardU; (case hj | hu | hσ => (simp only [go_sem, H]; try rfl))) | ((first | refine awp_cond _ (by rfl) ?_ ?_ | ((first | apply ev_guardT | apply ev_guardF); (case hj | hb => (simp only [go_sem, H]; try rfl)))) <;> (first | refine ttA ?_ | refine ffA ?_ | (intro hb; first | (cases hb; done) | simp only [hb] | skip))) | ((first | apply awp_exit | apply awp_ret); refine tqA ?_) | (refine ev_nil (hK _ ?_); clear hK K) | (apply ev_call0; (case hys => (simp only [go_sem, H]; try rfl)); (case hs => first | exact hp ..); (case hok | hσ => (simp only [go_sem, H]; try rfl))) | (apply ev_step0; (case hr | hσ => (simp only [go_sem, H]; try rfl)); (case hc => exact hcA)) | (apply ev_step; (case hr | hσ => (intros; simp only [go_sem, H]; try rfl)); (case hc => exact hcA); intro g u; (try clear u); (try clear g)) | fail
    all_goals try clear H
    refine Exists.intro (1, u) ⟨by simp, by simp, ?_⟩
    simp only [exA, opE_bi, cE_bi, vE_bi, argsD_bi, List.take_zero, List.take_succ_cons, List.map_cons, List.map_nil]
    exact wkA
  · simp only [exA, opE_bi, cE_bi, vE_bi, argsD_bi, List.take_zero, List.take_succ_cons, List.map_cons, List.map_nil, litI, litB, litS]
    have d1 : decide (((1 : Nat) : Int) < ((2 : Nat) : Int)) = true := by decide
    have w1 : IntKind.i64.wrap (((1 : Nat) : Int) + 1) = 2 := by decide
    all_goals have H := And.intro d1 w1
    repeat' first | refine awp_seq ?_ | refine awp_block ?_ | refine awp_skip ?_ | (apply regB; (case hd => exact hdA); intro K hK) | (apply ev_guardU; (case hj | hu | hσ => (simp only [go_sem, H]; try rfl))) | ((first | refine awp_cond _ (by rfl) ?_ ?_ | ((first | apply ev_guardT | apply ev_guardF); (case hj | hb => (simp only [go_sem, H]; try rfl)))) <;> (first | refine ttA ?_ | refine ffA ?_ | (intro hb; first | (cases hb; done) | simp only [hb] | skip))) | ((first | apply awp_exit | apply awp_ret); refine tqA ?_) | (refine ev_nil (hK _ ?_); clear hK K) | (apply ev_call0; (case hys => (simp only [go_sem, H]; try rfl)); (case hs => first | exact hq ..); (case hok | hσ => (simp only [go_sem, H]; try rfl))) | (apply ev_step0; (case hr | hσ => (simp only [go_sem, H]; try rfl)); (case hc => exact hcA)) | (apply ev_step; (case hr | hσ => (intros; simp only [go_sem, H]; try rfl)); (case hc => exact hcA); intro g u; (try clear u); (try clear g)) | fail
    all_goals try clear H
    refine Exists.intro (2, u) ⟨by simp, by simp, ?_⟩
    simp only [exA, opE_bi, cE_bi, vE_bi, argsD_bi, List.take_zero, List.take_succ_cons, List.map_cons, List.map_nil]
    exact wkA
  simp only [exA, opE_bi, cE_bi, vE_bi, argsD_bi, List.take_zero, List.take_succ_cons, List.map_cons, List.map_nil, litI, litB, litS]
  have d1 : decide (((2 : Nat) : Int) < ((2 : Nat) : Int)) = false := by decide
  clear hp hq
  all_goals have H := And.intro d1 (And.intro e6 (And.intro e7 (And.intro e8 (And.intro e9 (And.intro e10 e11)))))
  repeat' first | refine awp_seq ?_ | refine awp_block ?_ | refine awp_skip ?_ | (apply regB; (case hd => exact hdA); intro K hK) | (apply ev_guardU; (case hj | hu | hσ => (simp only [go_sem, H]; try rfl))) | ((first | refine awp_cond _ (by rfl) ?_ ?_ | ((first | apply ev_guardT | apply ev_guardF); (case hj | hb => (simp only [go_sem, H]; try rfl)))) <;> (first | refine ttA ?_ | refine ffA ?_ | (intro hb; first | (cases hb; done) | simp only [hb] | skip))) | ((first | apply awp_exit | apply awp_ret); refine tqA ?_) | (refine ev_nil (hK _ ?_); clear hK K) | (apply ev_call0; (case hys => (simp only [go_sem, H]; try rfl)); (case hs => first | exact hr ..); (case hok | hσ => (simp only [go_sem, H]; try rfl))) | (apply regDB; (case hd => exact hdA); (case' h => (intro K hK; (repeat' first | (apply evd_nil; refine (hK _ ?_); clear hK K) | (apply evd_guardU0; (case hj | hu | hσ => (simp only [go_sem, H]; try rfl))) | (apply evd_guardU; (case hj | hu | hσ => (simp only [go_sem, H]; try rfl))) | (apply evd_skipT0; (case hj | hb | hσ => (simp only [go_sem, H]; try rfl))) | (apply evd_skipF0; (case hj | hb | hσ => (simp only [go_sem, H]; try rfl))) | (apply evd_skipT; (case hj | hb | hσ => (simp only [go_sem, H]; try rfl))) | (apply evd_skipF; (case hj | hb | hσ => (simp only [go_sem, H]; try rfl))) | (apply evd_guardT; (case hj | hb => (simp only [go_sem, H]; try rfl)); (case' h2 => (intro hb; first | (cases hb; done) | (simp only [hb]) | skip)); (case' h1 => (intro hb; first | (cases hb; done) | (simp only [hb]) | skip))) | (apply evd_guardF; (case hj | hb => (simp only [go_sem, H]; try rfl)); (case' h2 => (intro hb; first | (cases hb; done) | (simp only [hb]) | skip)); (case' h1 => (intro hb; first | (cases hb; done) | (simp only [hb]) | skip))) | (apply evd_call0; (case hi | hys => (simp only [go_sem, H]; try rfl)); (case hs => first | exact hr ..); (case hok | hw | hσ => (simp only [go_sem, H]; try rfl))) | (apply evd_step0; (case hr | hi | hσ => (simp only [go_sem, H]; try rfl)); (case hc => exact hcA)) | (apply evd_step; (case hr | hi | hw | hσ => (intros; simp only [go_sem, H]; try rfl)); (case hc => exact hcA); (case' hk => (intro g u; (try clear u); (try clear g)))) | fail))); (case hB => kernel_rfl)) | (apply ev_step0; (case hr | hσ => (simp only [go_sem, H]; try rfl)); (case hc => exact hcA)) | (apply ev_step; (case hr | hσ => (intros; simp only [go_sem, H]; try rfl)); (case hc => exact hcA); intro g u; (try clear u); (try clear g)) | fail
  all_goals try clear H
  all_goals (refine resR_oneA ?_; simp only [go_sem])
  exact LeA.refl _
set_option maxRecDepth 100000 in
set_option maxHeartbeats 16000000 in
theorem f46_num (B : Dat) (op : Int) (p q : Ex) (s t : Sp) (hop : op = 10 ∨ op = 11) (hs : s.has = true) (ht : t.has = true) (hS : KS 2 s) (hT : KS 2 t) (hp : Spec Tryd.prog 46 [.d B, .agg (exA p)] (.agg (sp s))) (hq : Spec Tryd.prog 46 [.d B, .agg (exA q)] (.agg (sp t))) : Spec Tryd.prog 46 [.d B, .agg (exA (.bi op p q))] (.agg (sp (biM op s t))) := by
  have e1 : (op == 1) = false := by simp; omega
  have e2 : (op == 2) = false := by simp; omega
  have e6 : (op == 6) = false := by simp; omega
  have e7 : (op == 7) = false := by simp; omega
  have e8 : (op == 8) = false := by simp; omega
  have e9 : (op == 9) = false := by simp; omega
  have b1 := hS.lo_bd
  have b2 := hT.lo_bd
  have hb : (s.has && t.has) = true := by rw [hs, ht]; rfl
  have o1 := (leV_num (hS.has hs).1 (hS.has hs).2.1).1 (hS.has hs).2.2
  have o2 := (leV_num (hT.has ht).1 (hT.has ht).2.1).1 (hT.has ht).2.2
  have r10 : biM 10 s t = numM (s.lo.i + t.lo.i) (s.hi.i + t.hi.i) (s.null || t.null) := by rw [num_strict s t _ _ hb (by omega)]; rfl
  have r11 : biM 11 s t = numM (s.lo.i - t.hi.i) (s.hi.i - t.lo.i) (s.null || t.null) := by rw [num_strict s t _ _ hb (by omega)]; rfl
  obtain ⟨n1, h1, lo1, hi1⟩ := s
  obtain ⟨n2, h2, lo2, hi2⟩ := t
  simp only at hs ht b1 b2 r10 r11
  subst hs; subst ht
  have w1 : IntKind.i64.wrap (lo1.i + lo2.i) = lo1.i + lo2.i := wrap_id (by omega)
  have w2 : IntKind.i64.wrap (hi1.i + hi2.i) = hi1.i + hi2.i := wrap_id (by omega)
  have w3 : IntKind.i64.wrap (lo1.i - hi2.i) = lo1.i - hi2.i := wrap_id (by omega)
  have w4 : IntKind.i64.wrap (hi1.i - lo2.i) = hi1.i - lo2.i := wrap_id (by omega)
  simp only [exA, opE_bi, cE_bi, vE_bi, argsD_bi] at hp hq ⊢
  refine spec_of_awp (fn := Tryd.f46) Tryd.func46 (by kernel_rfl) rfl ?_
  intro w0 C0
  simp only [Tryd.ntmps46, go_sem]
  all_goals have H := And.intro e1 e2
  repeat' first | refine awp_seq ?_ | refine awp_block ?_ | refine awp_skip ?_ | (apply regB; (case hd => exact hdA); intro K hK) | (apply ev_guardU; (case hj | hu | hσ => (simp only [go_sem, H]; try rfl))) | ((first | refine awp_cond _ (by rfl) ?_ ?_ | ((first | apply ev_guardT | apply ev_guardF); (case hj | hb => (simp only [go_sem, H]; try rfl)))) <;> (first | refine ttA ?_ | refine ffA ?_ | (intro hb; first | (cases hb; done) | simp only [hb] | skip))) | ((first | apply awp_exit | apply awp_ret); refine tqA ?_) | (refine ev_nil (hK _ ?_); clear hK K) | (apply ev_step0; (case hr | hσ => (simp only [go_sem, H]; try rfl)); (case hc => exact hcA)) | (apply ev_step; (case hr | hσ => (intros; simp only [go_sem, H]; try rfl)); (case hc => exact hcA); intro g u; (try clear u); (try clear g)) | fail
  all_goals try clear H
  rename_i g3
  revert g; intro g4
  revert u; intro u0
  refine awp_loopI (fun j : Nat × Value => j.1 ≤ 2) (fun j => 2 - j.1) (fun j => ⟨[.d B, .any, .any, .ptr 3 g3 0, .ptr 4 g4 0, .any, .own 34 j.2, litI .i64 (j.1 : Int), .any, .any, .any, .any, .any, .any, .any, .any, .any, .any, .any, .any, .any, .any, .any, .any, .any, .any, .any, .any, .any, .any, .any, .any, .any, .any, .any, .any, .any, .any, .any, .any, .any, .any, .any, .any, .any, .any, .any, .any, .any, .any, .any, .any, .any, .any, .any, .any, .any, .any, .any, .any, .any, .any, .any, .any, .any, .any, .any, .any, .any, .any, .any, .any, .any, .any, .any, .any, .any, .any, .any, .any, .any, .any, .any, .any, .any, .any, .any, .any, .any, .any, .any, .any, .any, .any, .any, .any, .any, .any, .any, .any, .any, .any, .any, .any, .any, .any, .any, .any, .any, .any, .any, .any, .any, .any, .any, .any, .any, .any, .any, .any, .any, .any, .any, .any, .any, .any, .any, .any, .any, .any, .any, .any, .any, .any, .any, .any, .any, .any, .any, .any, .any, .any, .any, .any, .any, .any, .any, .any, .any, .any, .any, .any, .any, .any, .any, .any, .any, .any, .any, .any, .any, .any, .any, .any, .any, .any, .any, .any, .any, .any, .any, .any, .any, .any, .any, .any, .any, .any, .any, .any, .any, .any, .any, .any, .any, .any, .any, .any, .any, .any, .any, .any, .any, .any, .any, .any], [.no, .no, .no, .box g3 (exA (.bi op p q)), .box g4 zsp, .no, .no, .no, .no, .no, .no, .no, .no, .no, .no, .no, .no, .no, .no, .no, .no, .no, .no, .no, .no, .no, .no, .no, .no, .no, .no, .no, .no, .no, .row j.2 90 8 ((([⟨n1, true, lo1, hi1⟩, ⟨n2, true, lo2, hi2⟩] : List Sp).take j.1).map spD), .no, .no, .no, .no, .no, .no, .no, .no, .no, .no, .no, .no, .no, .no, .no, .no, .no, .no, .no, .no, .no, .no, .no, .no, .no, .no, .no, .no, .no, .no, .no, .no, .no, .no, .no, .no, .no, .no, .no, .no, .no, .no, .no, .no, .no, .no, .no, .no, .no, .no, .no, .no, .no, .no, .no, .no, .no, .no, .no, .no, .no, .no, .no, .no, .no, .no, .no, .no, .no, .no, .no, .no, .no, .no, .no, .no, .no, .no, .no, .no, .no, .no, .no, .no, .no, .no, .no, .no, .no, .no, .no, .no, .no, .no, .no, .no, .no, .no, .no, .no, .no, .no, .no, .no, .no, .no, .no, .no, .no, .no, .no, .no, .no, .no, .no, .no, .no, .no, .no, .no, .no, .no, .no, .no, .no, .no, .no, .no, .no, .no, .no, .no, .no, .no, .no, .no, .no, .no, .no, .no, .no, .no, .no, .no, .no, .no, .no, .no, .no, .no, .no, .no, .no, .no, .no, .no, .no, .no, .no, .no, .no]⟩) (0, u0) (by simp) ?_ ?_
  · simp only [exA, opE_bi, cE_bi, vE_bi, argsD_bi, List.take_zero, List.take_succ_cons, List.map_cons, List.map_nil]
    exact wkA
  rintro ⟨j, u⟩ hj
  simp only [litI, litB, litS] at hj hp hq ⊢
  obtain rfl | rfl | rfl : j = 0 ∨ j = 1 ∨ j = 2 := by omega
  · simp only [exA, opE_bi, cE_bi, vE_bi, argsD_bi, List.take_zero, List.take_succ_cons, List.map_cons, List.map_nil, litI, litB, litS]
    have d1 : decide (((0 : Nat) : Int) < ((2 : Nat) : Int)) = true := by decide
    have w1 : IntKind.i64.wrap (((0 : Nat) : Int) + 1) = 1 := by decide
    all_goals have H := And.intro d1 w1
    repeat' first | refine awp_seq ?_ | refine awp_block ?_ | refine awp_skip ?_ | (apply regB; (case hd => exact hdA); intro K hK) | (apply ev_guardU; (case hj | hu | hσ => (simp only [go_sem, H]; try rfl))) | ((first | refine awp_cond _ (by rfl) ?_ ?_ | ((first | apply ev_guardT | apply ev_guardF); (case hj | hb => (simp only [go_sem, H]; try rfl)))) <;> (first | refine ttA ?_ | refine ffA ?_ | (intro hb; first | (cases hb; done) | simp only [hb] | skip))) | ((first | apply awp_exit | apply awp_ret); refine tqA ?_) | (refine ev_nil (hK _ ?_); clear hK K) | (apply ev_call0; (case hys => (simp only [go_sem, H]; try rfl)); (case hs => first | exact hp ..); (case hok | hσ => (simp only [go_sem, H]; try rfl))) | (apply ev_step0; (case hr | hσ => (simp only [go_sem, H]; try rfl)); (case hc => exact hcA)) | (apply ev_step; (case hr | hσ => (intros; simp only [go_sem, H]; try rfl)); (case hc => exact hcA); intro g u; (try clear u); (try clear g)) | fail
    all_goals try clear H
    refine Exists.intro (1, u) ⟨by simp, by simp, ?_⟩
    simp only [exA, opE_bi, cE_bi, vE_bi, argsD_bi, List.take_zero, List.take_succ_cons, List.map_cons, List.map_nil]
    exact wkA
  · simp only [exA, opE_bi, cE_bi, vE_bi, argsD_bi, List.take_zero, List.take_succ_cons, List.map_cons, List.map_nil, litI, litB, litS]
    have d1 : decide (((1 : Nat) : Int) < ((2 : Nat) : Int)) = true := by decide
    have w1 : IntKind.i64.wrap (((1 : Nat) : Int) + 1) = 2 := by decide
    all_goals have H := And.intro d1 w1
    repeat' first | refine awp_seq ?_ | refine awp_block ?_ | refine awp_skip ?_ | (apply regB; (case hd => exact hdA); intro K hK) | (apply ev_guardU; (case hj | hu | hσ => (simp only [go_sem, H]; try rfl))) | ((first | refine awp_cond _ (by rfl) ?_ ?_ | ((first | apply ev_guardT | apply ev_guardF); (case hj | hb => (simp only [go_sem, H]; try rfl)))) <;> (first | refine ttA ?_ | refine ffA ?_ | (intro hb; first | (cases hb; done) | simp only [hb] | skip))) | ((first | apply awp_exit | apply awp_ret); refine tqA ?_) | (refine ev_nil (hK _ ?_); clear hK K) | (apply ev_call0; (case hys => (simp only [go_sem, H]; try rfl)); (case hs => first | exact hq ..); (case hok | hσ => (simp only [go_sem, H]; try rfl))) | (apply ev_step0; (case hr | hσ => (simp only [go_sem, H]; try rfl)); (case hc => exact hcA)) | (apply ev_step; (case hr | hσ => (intros; simp only [go_sem, H]; try rfl)); (case hc => exact hcA); intro g u; (try clear u); (try clear g)) | fail
    all_goals try clear H
    refine Exists.intro (2, u) ⟨by simp, by simp, ?_⟩
    simp only [exA, opE_bi, cE_bi, vE_bi, argsD_bi, List.take_zero, List.take_succ_cons, List.map_cons, List.map_nil]
    exact wkA
  simp only [exA, opE_bi, cE_bi, vE_bi, argsD_bi, List.take_zero, List.take_succ_cons, List.map_cons, List.map_nil, litI, litB, litS]
  have d1 : decide (((2 : Nat) : Int) < ((2 : Nat) : Int)) = false := by decide
  clear hp hq
  rcases hop with rfl | rfl
  · rw [r10]
    cases n1
    all_goals
      all_goals have H := And.intro d1 (And.intro e6 (And.intro e7 (And.intro e8 (And.intro e9 (And.intro w1 w2)))))
      repeat' first | refine awp_seq ?_ | refine awp_block ?_ | refine awp_skip ?_ | (apply regB; (case hd => exact hdA); intro K hK) | (apply ev_guardU; (case hj | hu | hσ => (simp only [go_sem, H]; try rfl))) | ((first | refine awp_cond _ (by rfl) ?_ ?_ | ((first | apply ev_guardT | apply ev_guardF); (case hj | hb => (simp only [go_sem, H]; try rfl)))) <;> (first | refine ttA ?_ | refine ffA ?_ | (intro hb; first | (cases hb; done) | simp only [hb] | skip))) | ((first | apply awp_exit | apply awp_ret); refine tqA ?_) | (refine ev_nil (hK _ ?_); clear hK K) | (apply ev_call0; (case hys => (simp only [go_sem, H]; try rfl)); (case hs => first | exact f69_spec ..); (case hok | hσ => (simp only [go_sem, H]; try rfl))) | (apply regDB; (case hd => exact hdA); (case' h => (intro K hK; (repeat' first | (apply evd_nil; refine (hK _ ?_); clear hK K) | (apply evd_guardU0; (case hj | hu | hσ => (simp only [go_sem, H]; try rfl))) | (apply evd_guardU; (case hj | hu | hσ => (simp only [go_sem, H]; try rfl))) | (apply evd_skipT0; (case hj | hb | hσ => (simp only [go_sem, H]; try rfl))) | (apply evd_skipF0; (case hj | hb | hσ => (simp only [go_sem, H]; try rfl))) | (apply evd_skipT; (case hj | hb | hσ => (simp only [go_sem, H]; try rfl))) | (apply evd_skipF; (case hj | hb | hσ => (simp only [go_sem, H]; try rfl))) | (apply evd_guardT; (case hj | hb => (simp only [go_sem, H]; try rfl)); (case' h2 => (intro hb; first | (cases hb; done) | (simp only [hb]) | skip)); (case' h1 => (intro hb; first | (cases hb; done) | (simp only [hb]) | skip))) | (apply evd_guardF; (case hj | hb => (simp only [go_sem, H]; try rfl)); (case' h2 => (intro hb; first | (cases hb; done) | (simp only [hb]) | skip)); (case' h1 => (intro hb; first | (cases hb; done) | (simp only [hb]) | skip))) | (apply evd_call0; (case hi | hys => (simp only [go_sem, H]; try rfl)); (case hs => first | exact f69_spec ..); (case hok | hw | hσ => (simp only [go_sem, H]; try rfl))) | (apply evd_step0; (case hr | hi | hσ => (simp only [go_sem, H]; try rfl)); (case hc => exact hcA)) | (apply evd_step; (case hr | hi | hw | hσ => (intros; simp only [go_sem, H]; try rfl)); (case hc => exact hcA); (case' hk => (intro g u; (try clear u); (try clear g)))) | fail))); (case hB => kernel_rfl)) | (apply ev_step0; (case hr | hσ => (simp only [go_sem, H]; try rfl)); (case hc => exact hcA)) | (apply ev_step; (case hr | hσ => (intros; simp only [go_sem, H]; try rfl)); (case hc => exact hcA); intro g u; (try clear u); (try clear g)) | fail
      all_goals try clear H
      all_goals (refine resR_oneA ?_; simp only [go_sem])
      exact LeA.refl _
  · rw [r11]
    cases n1
    all_goals
      all_goals have H := And.intro d1 (And.intro e6 (And.intro e7 (And.intro e8 (And.intro e9 (And.intro w3 w4)))))
      repeat' first | refine awp_seq ?_ | refine awp_block ?_ | refine awp_skip ?_ | (apply regB; (case hd => exact hdA); intro K hK) | (apply ev_guardU; (case hj | hu | hσ => (simp only [go_sem, H]; try rfl))) | ((first | refine awp_cond _ (by rfl) ?_ ?_ | ((first | apply ev_guardT | apply ev_guardF); (case hj | hb => (simp only [go_sem, H]; try rfl)))) <;> (first | refine ttA ?_ | refine ffA ?_ | (intro hb; first | (cases hb; done) | simp only [hb] | skip))) | ((first | apply awp_exit | apply awp_ret); refine tqA ?_) | (refine ev_nil (hK _ ?_); clear hK K) | (apply ev_call0; (case hys => (simp only [go_sem, H]; try rfl)); (case hs => first | exact f69_spec ..); (case hok | hσ => (simp only [go_sem, H]; try rfl))) | (apply regDB; (case hd => exact hdA); (case' h => (intro K hK; (repeat' first | (apply evd_nil; refine (hK _ ?_); clear hK K) | (apply evd_guardU0; (case hj | hu | hσ => (simp only [go_sem, H]; try rfl))) | (apply evd_guardU; (case hj | hu | hσ => (simp only [go_sem, H]; try rfl))) | (apply evd_skipT0; (case hj | hb | hσ => (simp only [go_sem, H]; try rfl))) | (apply evd_skipF0; (case hj | hb | hσ => (simp only [go_sem, H]; try rfl))) | (apply evd_skipT; (case hj | hb | hσ => (simp only [go_sem, H]; try rfl))) | (apply evd_skipF; (case hj | hb | hσ => (simp only [go_sem, H]; try rfl))) | (apply evd_guardT; (case hj | hb => (simp only [go_sem, H]; try rfl)); (case' h2 => (intro hb; first | (cases hb; done) | (simp only [hb]) | skip)); (case' h1 => (intro hb; first | (cases hb; done) | (simp only [hb]) | skip))) | (apply evd_guardF; (case hj | hb => (simp only [go_sem, H]; try rfl)); (case' h2 => (intro hb; first | (cases hb; done) | (simp only [hb]) | skip)); (case' h1 => (intro hb; first | (cases hb; done) | (simp only [hb]) | skip))) | (apply evd_call0; (case hi | hys => (simp only [go_sem, H]; try rfl)); (case hs => first | exact f69_spec ..); (case hok | hw | hσ => (simp only [go_sem, H]; try rfl))) | (apply evd_step0; (case hr | hi | hσ => (simp only [go_sem, H]; try rfl)); (case hc => exact hcA)) | (apply evd_step; (case hr | hi | hw | hσ => (intros; simp only [go_sem, H]; try rfl)); (case hc => exact hcA); (case' hk => (intro g u; (try clear u); (try clear g)))) | fail))); (case hB => kernel_rfl)) | (apply ev_step0; (case hr | hσ => (simp only [go_sem, H]; try rfl)); (case hc => exact hcA)) | (apply ev_step; (case hr | hσ => (intros; simp only [go_sem, H]; try rfl)); (case hc => exact hcA); intro g u; (try clear u); (try clear g)) | fail
      all_goals try clear H
      all_goals (refine resR_oneA ?_; simp only [go_sem])
      exact LeA.refl _
theorem KS.spsz {k : Int} {s : Sp} (h : KS k s) : SpSz s := ⟨h.sizes.1, h.sizes.2⟩
theorem f46_strict (B : Dat) (op : Int) (p q : Ex) (s t : Sp) (hop : op = 3 ∨ op = 4 ∨ op = 5 ∨ (op = 12 ∧ KS 3 s ∧ KS 3 t)) (hs : SpSz s) (ht : SpSz t) (hp : Spec Tryd.prog 46 [.d B, .agg (exA p)] (.agg (sp s))) (hq : Spec Tryd.prog 46 [.d B, .agg (exA q)] (.agg (sp t))) : Spec Tryd.prog 46 [.d B, .agg (exA (.bi op p q))] (.agg (sp (biM op s t))) := by
  have hop' : (3 ≤ op ∧ op ≤ 5) ∨ (10 ≤ op ∧ op ≤ 12) := by rcases hop with h | h | h | h <;> omega
  have hno : op ≠ 10 ∧ op ≠ 11 := by rcases hop with h | h | h | h <;> omega
  cases hb : (s.has && t.has) with
  | true =>
    have hb' := hb
    rw [Bool.and_eq_true] at hb'
    rw [← comp_strict op s t hb hop]
    refine f46_cmp B op p q s t _ hop' hno hb'.1 hb'.2 hp hq ?_
    rcases hop with rfl | rfl | rfl | ⟨rfl, _⟩
    · exact f70_eq s t hs ht
    · exact f70_lt 4 (.inl rfl) s t hs ht
    · exact f70_lt 5 (.inr rfl) s t hs ht
    · exact f70_pre s t hs ht
  | false =>
    have e : biM op s t = ⟨s.null || t.null, false, nullV, nullV⟩ := by
      have e1 : ∀ r, strictM s t r = ⟨s.null || t.null, false, nullV, nullV⟩ := fun r => by unfold strictM; rw [if_neg (by rw [hb]; decide)]
      unfold biM
      rcases hop with rfl | rfl | rfl | ⟨rfl, _⟩
      · rw [if_pos rfl, e1]
      · rw [if_neg (by decide), if_pos rfl, e1]
      · rw [if_neg (by decide), if_neg (by decide), if_pos rfl, e1]
      · rw [if_neg (by decide), if_neg (by decide), if_neg (by decide), if_neg (by decide), if_neg (by decide), if_neg (by decide), if_neg (by decide), e1]
    rw [e]
    exact f46_none B op p q s t hop' hb hp hq
theorem f46_nums (B : Dat) (op : Int) (p q : Ex) (s t : Sp) (hop : op = 10 ∨ op = 11) (hS : KS 2 s) (hT : KS 2 t) (hp : Spec Tryd.prog 46 [.d B, .agg (exA p)] (.agg (sp s))) (hq : Spec Tryd.prog 46 [.d B, .agg (exA q)] (.agg (sp t))) : Spec Tryd.prog 46 [.d B, .agg (exA (.bi op p q))] (.agg (sp (biM op s t))) := by
  cases hb : (s.has && t.has) with
  | true =>
    have hb' := hb
    rw [Bool.and_eq_true] at hb'
    exact f46_num B op p q s t hop hb'.1 hb'.2 hS hT hp hq
  | false =>
    have e : biM op s t = ⟨s.null || t.null, false, nullV, nullV⟩ := by
      have e1 : ∀ r, strictM s t r = ⟨s.null || t.null, false, nullV, nullV⟩ := fun r => by unfold strictM; rw [if_neg (by rw [hb]; decide)]
      unfold biM
      rcases hop with rfl | rfl
      · rw [if_neg (by decide), if_neg (by decide), if_neg (by decide), if_neg (by decide), if_neg (by decide), if_pos rfl, e1]
      · rw [if_neg (by decide), if_neg (by decide), if_neg (by decide), if_neg (by decide), if_neg (by decide), if_neg (by decide), if_pos rfl, e1]
    rw [e]
    exact f46_none B op p q s t (by omega) hb hp hq
theorem range_ref {ts : List Ty} {B : List Bd} (hB : BdsOk ts B) {k : Int} {e : Ex} (h : Typ ts k e) : Spec Tryd.prog 46 [.d (bds B), .agg (exA e)] (.agg (sp (rangeM B e))) := by
  induction h with
  | con hk hv hval => exact f46_const _ _ _
  | col c hc => exact f46_col B c nullV (by have := hB.1; omega)
  | not _ ih => exact f46_un _ 8 _ _ (.inl rfl) ih
  | isn _ ih => exact f46_un _ 9 _ _ (.inr rfl) ih
  | cmp hop h1 h2 ih1 ih2 => exact f46_strict _ _ _ _ _ _ (by rcases hop with h | h | h <;> simp [h]) (range_ks hB h1).spsz (range_ks hB h2).spsz ih1 ih2
  | log hop h1 h2 ih1 ih2 => exact f46_logic _ _ _ _ _ _ hop ih1 ih2
  | num hop h1 h2 ih1 ih2 => exact f46_nums _ _ _ _ _ _ hop (range_ks hB h1) (range_ks hB h2) ih1 ih2
  | pre h1 h2 ih1 ih2 => exact f46_strict _ 12 _ _ _ _ (.inr (.inr (.inr ⟨rfl, range_ks hB h1, range_ks hB h2⟩))) (range_ks hB h1).spsz (range_ks hB h2).spsz ih1 ih2
theorem f22_spec (B : Dat) (e : Ex) (s : Sp) (h : Spec Tryd.prog 46 [.d B, .agg (exA e)] (.agg (sp s))) : Spec Tryd.prog 22 [.d B, .agg (exA e)] (.agg (truthsM s)) := by
  have a1 := f47_spec s
  have a2 := f48_spec s
  unfold truthsM
  generalize noM s = n at *
  generalize yesM s = y at *
  simp only [exA] at h ⊢
  refine spec_of_awp (fn := Tryd.f22) Tryd.func22 (by kernel_rfl) rfl ?_
  intro w0 C0
  simp only [Tryd.ntmps22, go_sem]
  repeat' first | refine awp_seq ?_ | (apply regB; (case hd => exact hdA); intro K hK) | (apply awp_ret; refine tqA ?_) | (refine ev_nil (hK _ ?_); clear hK K) | (apply ev_call0; (case hys => (simp only [go_sem]; try rfl)); (case hs => first | exact h .. | exact a1 .. | exact a2 ..); (case hok | hσ => (simp only [go_sem]; try rfl))) | (apply regDB; (case hd => exact hdA); (case' h => (intro K hK; (repeat' first | (apply evd_nil; refine (hK _ ?_); clear hK K) | (apply evd_call0; (case hi | hys => (simp only [go_sem]; try rfl)); (case hs => first | exact h .. | exact a1 .. | exact a2 ..); (case hok | hw | hσ => (simp only [go_sem]; try rfl))) | (apply evd_step0; (case hr | hi | hσ => (simp only [go_sem]; try rfl)); (case hc => exact hcA)) | (apply evd_step; (case hr | hi | hw | hσ => (intros; simp only [go_sem]; try rfl)); (case hc => exact hcA); (case' hk => (intro g u; (try clear u); (try clear g)))) | fail))); (case hB => kernel_rfl)) | (apply ev_step0; (case hr | hσ => (simp only [go_sem]; try rfl)); (case hc => exact hcA)) | (apply ev_step; (case hr | hσ => (intros; simp only [go_sem]; try rfl)); (case hc => exact hcA); intro g u; (try clear u); (try clear g)) | fail
  all_goals (refine resR_oneA ?_; simp only [go_sem])
  exact LeA.refl _
theorem f24_spec (B : Dat) (e : Ex) (s : Sp) (h : Spec Tryd.prog 46 [.d B, .agg (exA e)] (.agg (sp s))) : Spec Tryd.prog 24 [.d B, .agg (exA e)] (litB (!yesM s)) := by
  have a2 := f48_spec s
  generalize yesM s = y at *
  simp only [exA] at h ⊢
  refine spec_of_awp (fn := Tryd.f24) Tryd.func24 (by kernel_rfl) rfl ?_
  intro w0 C0
  simp only [Tryd.ntmps24, go_sem]
  repeat' first | refine awp_seq ?_ | (apply regB; (case hd => exact hdA); intro K hK) | (apply awp_ret; refine tqA ?_) | (refine ev_nil (hK _ ?_); clear hK K) | (apply ev_call0; (case hys => (simp only [go_sem]; try rfl)); (case hs => first | exact h .. | exact a2 ..); (case hok | hσ => (simp only [go_sem]; try rfl))) | (apply ev_step0; (case hr | hσ => (simp only [go_sem]; try rfl)); (case hc => exact hcA)) | (apply ev_step; (case hr | hσ => (intros; simp only [go_sem]; try rfl)); (case hc => exact hcA); intro g u; (try clear u); (try clear g)) | fail
  all_goals (refine resR_oneA ?_; simp only [go_sem])
  exact LeA.refl _
end
end Go.Proofs.YtopigomfhggkoaaDoor.A
