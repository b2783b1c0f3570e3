/- Ranges of expressions: the walk of rangeOf. (Written by mk11.py.) Ranges of expressions: operator 3. (Written by mk11.py.) Ranges of expressions: operator 4. (Written by mk11.py.) Made expressions; conjuncts; Truths and Never: the walks. Examples: what they compute. Examples: the calls. Examples: the walk. Values that bytes describe: the walk. Positions, types, constants: the walks. -/
import Derived.Test.YtopigomfhggkoaaDoorJV3
import Derived.Test.YtopigomfhggkoaaDoorJV2
namespace Go.Proofs.YtopigomfhggkoaaDoor.A
section
set_option linter.unusedVariables false
set_option linter.unusedSimpArgs false
open Go.RowKit
attribute [local irreducible] Spec SpecF SpecN
attribute [local irreducible] AWp evOps evD
inductive Ex where
  | leaf (op c : Int) (v : Vl)
  | un (op : Int) (a : Ex)
  | bi (op : Int) (a b : Ex)
def opE : Ex → Int
  | .leaf op _ _ => op
  | .un op _ => op
  | .bi op _ _ => op
def cE : Ex → Int
  | .leaf _ c _ => c
  | _ => 0
def vE : Ex → Vl
  | .leaf _ _ v => v
  | _ => nullV
def argsD : Ex → Dat
  | .leaf _ _ _ => .lit (.slice none 0 0)
  | .un _ a => .sl 6 [[.lit (.int .i64 (opE a)), .lit (.int .i64 (cE a)), .lit (.int .i64 (vE a).k), .lit (.int .i64 (vE a).i), .lit (.string (vE a).s), argsD a]]
  | .bi _ a b => .sl 6 [[.lit (.int .i64 (opE a)), .lit (.int .i64 (cE a)), .lit (.int .i64 (vE a).k), .lit (.int .i64 (vE a).i), .lit (.string (vE a).s), argsD a], [.lit (.int .i64 (opE b)), .lit (.int .i64 (cE b)), .lit (.int .i64 (vE b).k), .lit (.int .i64 (vE b).i), .lit (.string (vE b).s), argsD b]]
theorem opE_bi (op : Int) (a b : Ex) : opE (.bi op a b) = op := rfl
theorem cE_bi (op : Int) (a b : Ex) : cE (.bi op a b) = 0 := rfl
theorem vE_bi (op : Int) (a b : Ex) : vE (.bi op a b) = nullV := rfl
theorem opE_un (op : Int) (a : Ex) : opE (.un op a) = op := rfl
theorem cE_un (op : Int) (a : Ex) : cE (.un op a) = 0 := rfl
theorem vE_un (op : Int) (a : Ex) : vE (.un op a) = nullV := rfl
abbrev exD (a : Ex) : List Dat := [.lit (.int .i64 (opE a)), .lit (.int .i64 (cE a)), .lit (.int .i64 (vE a).k), .lit (.int .i64 (vE a).i), .lit (.string (vE a).s), argsD a]
abbrev exA (a : Ex) : List AV := [litI .i64 (opE a), litI .i64 (cE a), litI .i64 (vE a).k, litI .i64 (vE a).i, litS (vE a).s, .d (argsD a)]
theorem argsD_bi (op : Int) (a b : Ex) : argsD (.bi op a b) = .sl 6 [exD a, exD b] := rfl
theorem argsD_un (op : Int) (a : Ex) : argsD (.un op a) = .sl 6 [exD a] := rfl
abbrev bds (l : List Bd) : Dat := .sl 9 (l.map bdD)
theorem bds_at (l : List Bd) {i : Nat} (h : i < l.length) : (l.map bdD).getD i [] = bdD (l.getD i zeroBd) := by
  simp [List.getD_eq_getElem?_getD, h]
theorem f43_const (B : Dat) (c : Int) (v : Vl) : Spec Tryd.prog 43 [.d B, .agg (exA (.leaf 1 c v))] (.agg (sp ⟨false, true, v, v⟩)) := by
  simp only [exA, opE, cE, vE, argsD]
  refine spec_of_awp (fn := Tryd.f43) Tryd.func43 (by kernel_rfl) rfl ?_
  intro w0 C0
  simp only [Tryd.ntmps43, go_sem]
  repeat' first | refine awp_seq ?_ | refine awp_block ?_ | refine awp_skip ?_ | (apply regB; (case hd => exact hdA); intro K hK) | (apply ev_guardU; (case hj | hu | hσ => (simp only [go_sem]; try rfl))) | ((first | refine awp_cond _ (by rfl) ?_ ?_ | ((first | apply ev_guardT | apply ev_guardF); (case hj | hb => (simp only [go_sem]; try rfl)))) <;> (first | refine ttA ?_ | refine ffA ?_ | (intro hb; first | (cases hb; done) | simp only [hb] | skip))) | ((first | apply awp_exit | apply awp_ret); refine tqA ?_) | (refine ev_nil (hK _ ?_); clear hK K) | (apply ev_step0; (case hr | hσ => (simp only [go_sem]; try rfl)); (case hc => exact hcA)) | (apply ev_step; (case hr | hσ => (intros; simp only [go_sem]; try rfl)); (case hc => exact hcA); intro g u; (try clear u); (try clear g)) | fail
  all_goals (refine resR_oneA ?_; simp only [go_sem])
  exact LeA.refl _
theorem f43_col (l : List Bd) (c : Nat) (v : Vl) (hc : c < l.length) : Spec Tryd.prog 43 [.d (bds l), .agg (exA (.leaf 2 (c : Int) v))] (.agg (sp ⟨decide ((l.getD c zeroBd).nulls > 0), (l.getD c zeroBd).has, (l.getD c zeroBd).lo, (l.getD c zeroBd).hi⟩)) := by
  have hx := bds_at l hc
  generalize l.getD c zeroBd = b at *
  simp only [exA, opE, cE, vE, argsD]
  refine spec_of_awp (fn := Tryd.f43) Tryd.func43 (by kernel_rfl) rfl ?_
  intro w0 C0
  simp only [Tryd.ntmps43, go_sem]
  repeat' first | refine awp_seq ?_ | refine awp_block ?_ | refine awp_skip ?_ | (apply regB; (case hd => exact hdA); intro K hK) | (apply ev_guardU; (case hj | hu | hσ => (simp only [go_sem, hx]; try rfl))) | ((first | refine awp_cond _ (by rfl) ?_ ?_ | ((first | apply ev_guardT | apply ev_guardF); (case hj | hb => (simp only [go_sem, hx]; try rfl)))) <;> (first | refine ttA ?_ | refine ffA ?_ | (intro hb; first | (cases hb; done) | simp only [hb] | skip))) | ((first | apply awp_exit | apply awp_ret); refine tqA ?_) | (refine ev_nil (hK _ ?_); clear hK K) | (apply ev_step0; (case hr | hσ => (simp only [go_sem, hx]; try rfl)); (case hc => exact hcA)) | (apply ev_step; (case hr | hσ => (intros; simp only [go_sem, hx]; try rfl)); (case hc => exact hcA); intro g u; (try clear u); (try clear g)) | fail
  all_goals (refine resR_oneA ?_; simp only [go_sem])
  exact LeA.refl _
abbrev zsp : List AV := [litB false, litB false, litI .i64 0, litI .i64 0, litS ⟨#[]⟩, litI .i64 0, litI .i64 0, litS ⟨#[]⟩]
def strictM (s t r : Sp) : Sp := if (s.has && t.has) = true then ⟨r.null || s.null || t.null, r.has, r.lo, r.hi⟩ else ⟨s.null || t.null, false, nullV, nullV⟩
def arrS (s t : Sp) (i : Nat) : List AV := match i with
  | 0 => zsp ++ zsp
  | 1 => sp s ++ zsp
  | _ => sp s ++ sp t
end
section
set_option linter.unusedVariables false
set_option linter.unusedSimpArgs false
open Go.RowKit
attribute [local irreducible] Spec SpecF SpecN
attribute [local irreducible] AWp evOps evD
set_option maxHeartbeats 4000000 in
theorem f43_op3 (B : Dat) (e1 e2 : Ex) (s t r : Sp) (h1 : Spec Tryd.prog 43 [.d B, .agg (exA e1)] (.agg (sp s))) (h2 : Spec Tryd.prog 43 [.d B, .agg (exA e2)] (.agg (sp t))) (hf : Spec Tryd.prog 110 [.agg (sp s), .agg (sp t)] (.agg (sp r))) : Spec Tryd.prog 43 [.d B, .agg (exA (.bi 3 e1 e2))] (.agg (sp (strictM s t r))) := by
  obtain ⟨sn, sh, slo, shi⟩ := s
  obtain ⟨tn, th, tlo, thi⟩ := t
  simp only [exA, opE_bi, cE_bi, vE_bi, argsD_bi] at h1 h2 ⊢
  refine spec_of_awp (fn := Tryd.f43) Tryd.func43 (by kernel_rfl) rfl ?_
  intro w0 C0
  simp only [Tryd.ntmps43, go_sem]
  repeat' first | refine awp_seq ?_ | refine awp_block ?_ | refine awp_skip ?_ | (apply regB; (case hd => exact hdA); intro K hK) | (apply ev_guardU; (case hj | hu | hσ => (simp only [go_sem]; try rfl))) | ((first | refine awp_cond _ (by rfl) ?_ ?_ | ((first | apply ev_guardT | apply ev_guardF); (case hj | hb => (simp only [go_sem]; try rfl)))) <;> (first | refine ttA ?_ | refine ffA ?_ | (intro hb; first | (cases hb; done) | simp only [hb] | skip))) | ((first | apply awp_exit | apply awp_ret); refine tqA ?_) | (refine ev_nil (hK _ ?_); clear hK K) | (apply ev_step0; (case hr | hσ => (simp only [go_sem]; try rfl)); (case hc => exact hcA)) | (apply ev_step; (case hr | hσ => (intros; simp only [go_sem]; try rfl)); (case hc => exact hcA); intro g u; (try clear u); (try clear g)) | fail
  rename_i g3 g4
  revert g; intro g6
  refine awp_loopI (fun i : Nat => i ≤ 2) (fun i => 2 - i) (fun i => ⟨[.d B, .any, .any, .ptr 3 g3 0, .ptr 4 g4 0, .any, .ptr 6 g6 0, .any, .any, .any, .any, .any, .any, .any, .any, .any, .any, .any, .any, .any, .any, .any, .any, .any, .any, .any, .any, .any, .any, .any, .any, .any, .any, .any, .any, .any, .any, .any, .any, .d (.sl 6 [exD e1, exD e2]), litI .i64 2, litI .i64 i, .any, .any, .any, .any, .any, .any, .any, .any, .any, .any, .any, .any, .any, .any, .any, .any, .any, .any, .any, .any, .any, .any, .any, .any, .any, .any, .any, .any, .any, .any, .any, .any, .any, .any, .any, .any, .any, .any, .any, .any, .any, .any, .any, .any, .any, .any, .any, .any, .any, .any, .any, .any, .any, .any, .any], [.no, .no, .no, .box g3 (exA (.bi 3 e1 e2)), .box g4 zsp, .no, .box g6 (arrS ⟨sn, sh, slo, shi⟩ ⟨tn, th, tlo, thi⟩ i), .no, .no, .no, .no, .no, .no, .no, .no, .no, .no, .no, .no, .no, .no, .no, .no, .no, .no, .no, .no, .no, .no, .no, .no, .no, .no, .no, .no, .no, .no, .no, .no, .no, .no, .no, .no, .no, .no, .no, .no, .no, .no, .no, .no, .no, .no, .no, .no, .no, .no, .no, .no, .no, .no, .no, .no, .no, .no, .no, .no, .no, .no, .no, .no, .no, .no, .no, .no, .no, .no, .no, .no, .no, .no, .no, .no, .no, .no, .no, .no, .no, .no, .no, .no, .no, .no, .no, .no, .no, .no]⟩) 0 (by omega) ?_ ?_
  · simp only [arrS, exA, opE_bi, cE_bi, vE_bi, argsD_bi]
    exact wkA
  intro i hi
  simp only [litI, litB, litS] at hi h1 h2 hf ⊢
  obtain rfl | rfl | rfl : i = 0 ∨ i = 1 ∨ i = 2 := by omega
  · simp only [arrS, exA, opE_bi, cE_bi, vE_bi, argsD_bi, litI, litB, litS]
    have d1 : decide (((0 : Nat) : Int) < 2) = true := by decide
    repeat' first | refine awp_seq ?_ | refine awp_block ?_ | refine awp_skip ?_ | (apply regB; (case hd => exact hdA); intro K hK) | (apply ev_guardU; (case hj | hu | hσ => (simp only [go_sem, d1]; try rfl))) | ((first | refine awp_cond _ (by rfl) ?_ ?_ | ((first | apply ev_guardT | apply ev_guardF); (case hj | hb => (simp only [go_sem, d1]; try rfl)))) <;> (first | refine ttA ?_ | refine ffA ?_ | (intro hb; first | (cases hb; done) | simp only [hb] | skip))) | ((first | apply awp_exit | apply awp_ret); refine tqA ?_) | (refine ev_nil (hK _ ?_); clear hK K) | (apply ev_call0; (case hys => (simp only [go_sem, d1]; try rfl)); (case hs => first | exact h1 ..); (case hok | hσ => (simp only [go_sem, d1]; try rfl))) | (apply ev_callC; (case hf | hys => (simp only [go_sem, d1]; try rfl)); (case hs => first | exact h1 ..); (case hok | hσ => (simp only [go_sem, d1]; try rfl))) | (apply ev_step0; (case hr | hσ => (simp only [go_sem, d1]; try rfl)); (case hc => exact hcA)) | (apply ev_step; (case hr | hσ => (intros; simp only [go_sem, d1]; try rfl)); (case hc => exact hcA); intro g u; (try clear u); (try clear g)) | fail
    refine Exists.intro 1 ⟨by omega, by omega, ?_⟩
    simp only [arrS, exA, opE_bi, cE_bi, vE_bi, argsD_bi]
    exact wkA
  · simp only [arrS, exA, opE_bi, cE_bi, vE_bi, argsD_bi, litI, litB, litS]
    have d1 : decide (((1 : Nat) : Int) < 2) = true := by decide
    have w1 : IntKind.i64.wrap (((1 : Nat) : Int) + 1) = 2 := by decide
    all_goals have H := And.intro d1 w1
    repeat' first | refine awp_seq ?_ | refine awp_block ?_ | refine awp_skip ?_ | (apply regB; (case hd => exact hdA); intro K hK) | (apply ev_guardU; (case hj | hu | hσ => (simp only [go_sem, H]; try rfl))) | ((first | refine awp_cond _ (by rfl) ?_ ?_ | ((first | apply ev_guardT | apply ev_guardF); (case hj | hb => (simp only [go_sem, H]; try rfl)))) <;> (first | refine ttA ?_ | refine ffA ?_ | (intro hb; first | (cases hb; done) | simp only [hb] | skip))) | ((first | apply awp_exit | apply awp_ret); refine tqA ?_) | (refine ev_nil (hK _ ?_); clear hK K) | (apply ev_call0; (case hys => (simp only [go_sem, H]; try rfl)); (case hs => first | exact h2 ..); (case hok | hσ => (simp only [go_sem, H]; try rfl))) | (apply ev_callC; (case hf | hys => (simp only [go_sem, H]; try rfl)); (case hs => first | exact h2 ..); (case hok | hσ => (simp only [go_sem, H]; try rfl))) | (apply ev_step0; (case hr | hσ => (simp only [go_sem, H]; try rfl)); (case hc => exact hcA)) | (apply ev_step; (case hr | hσ => (intros; simp only [go_sem, H]; try rfl)); (case hc => exact hcA); intro g u; (try clear u); (try clear g)) | fail
    all_goals try clear H
    refine Exists.intro 2 ⟨by omega, by omega, ?_⟩
    simp only [arrS, exA, opE_bi, cE_bi, vE_bi, argsD_bi]
    exact wkA
  simp only [arrS, exA, opE_bi, cE_bi, vE_bi, argsD_bi, litI, litB, litS]
  have d1 : decide (((2 : Nat) : Int) < 2) = false := by decide
  unfold strictM
  cases sh with
  | false =>
    simp only [Bool.false_and, Bool.false_eq_true, if_false]
    cases sn <;> cases tn
    all_goals
      repeat' first | refine awp_seq ?_ | refine awp_block ?_ | refine awp_skip ?_ | (apply regB; (case hd => exact hdA); intro K hK) | (apply ev_guardU; (case hj | hu | hσ => (simp only [go_sem, d1]; try rfl))) | ((first | refine awp_cond _ (by rfl) ?_ ?_ | ((first | apply ev_guardT | apply ev_guardF); (case hj | hb => (simp only [go_sem, d1]; try rfl)))) <;> (first | refine ttA ?_ | refine ffA ?_ | (intro hb; first | (cases hb; done) | simp only [hb] | skip))) | ((first | apply awp_exit | apply awp_ret); refine tqA ?_) | (refine ev_nil (hK _ ?_); clear hK K) | (apply ev_step0; (case hr | hσ => (simp only [go_sem, d1]; try rfl)); (case hc => exact hcA)) | (apply ev_step; (case hr | hσ => (intros; simp only [go_sem, d1]; try rfl)); (case hc => exact hcA); intro g u; (try clear u); (try clear g)) | fail
      all_goals (refine resR_oneA ?_; simp only [go_sem])
      exact LeA.refl _
  | true =>
  cases th with
  | false =>
    simp only [Bool.and_false, Bool.false_eq_true, if_false]
    cases sn <;> cases tn
    all_goals
      repeat' first | refine awp_seq ?_ | refine awp_block ?_ | refine awp_skip ?_ | (apply regB; (case hd => exact hdA); intro K hK) | (apply ev_guardU; (case hj | hu | hσ => (simp only [go_sem, d1]; try rfl))) | ((first | refine awp_cond _ (by rfl) ?_ ?_ | ((first | apply ev_guardT | apply ev_guardF); (case hj | hb => (simp only [go_sem, d1]; try rfl)))) <;> (first | refine ttA ?_ | refine ffA ?_ | (intro hb; first | (cases hb; done) | simp only [hb] | skip))) | ((first | apply awp_exit | apply awp_ret); refine tqA ?_) | (refine ev_nil (hK _ ?_); clear hK K) | (apply ev_step0; (case hr | hσ => (simp only [go_sem, d1]; try rfl)); (case hc => exact hcA)) | (apply ev_step; (case hr | hσ => (intros; simp only [go_sem, d1]; try rfl)); (case hc => exact hcA); intro g u; (try clear u); (try clear g)) | fail
      all_goals (refine resR_oneA ?_; simp only [go_sem])
      exact LeA.refl _
  | true =>
    simp only [Bool.and_self, if_true]
    obtain ⟨rn, rh, rlo, rhi⟩ := r
    cases rn <;> cases sn <;> cases tn
    all_goals
      repeat' first | refine awp_seq ?_ | refine awp_block ?_ | refine awp_skip ?_ | (apply regB; (case hd => exact hdA); intro K hK) | (apply ev_guardU; (case hj | hu | hσ => (simp only [go_sem, d1]; try rfl))) | ((first | refine awp_cond _ (by rfl) ?_ ?_ | ((first | apply ev_guardT | apply ev_guardF); (case hj | hb => (simp only [go_sem, d1]; try rfl)))) <;> (first | refine ttA ?_ | refine ffA ?_ | (intro hb; first | (cases hb; done) | simp only [hb] | skip))) | ((first | apply awp_exit | apply awp_ret); refine tqA ?_) | (refine ev_nil (hK _ ?_); clear hK K) | (apply ev_call0; (case hys => (simp only [go_sem, d1]; try rfl)); (case hs => first | exact hf ..); (case hok | hσ => (simp only [go_sem, d1]; try rfl))) | (apply ev_callC; (case hf | hys => (simp only [go_sem, d1]; try rfl)); (case hs => first | exact hf ..); (case hok | hσ => (simp only [go_sem, d1]; try rfl))) | (apply ev_step0; (case hr | hσ => (simp only [go_sem, d1]; try rfl)); (case hc => exact hcA)) | (apply ev_step; (case hr | hσ => (intros; simp only [go_sem, d1]; try rfl)); (case hc => exact hcA); intro g u; (try clear u); (try clear g)) | fail
      all_goals (refine resR_oneA ?_; simp only [go_sem])
      exact LeA.refl _
end
section
set_option linter.unusedVariables false
set_option linter.unusedSimpArgs false
open Go.RowKit
attribute [local irreducible] Spec SpecF SpecN
attribute [local irreducible] AWp evOps evD
set_option maxHeartbeats 4000000 in
theorem f43_op4 (B : Dat) (e1 e2 : Ex) (s t r : Sp) (h1 : Spec Tryd.prog 43 [.d B, .agg (exA e1)] (.agg (sp s))) (h2 : Spec Tryd.prog 43 [.d B, .agg (exA e2)] (.agg (sp t))) (hf : Spec Tryd.prog 111 [.agg (sp s), .agg (sp t)] (.agg (sp r))) : Spec Tryd.prog 43 [.d B, .agg (exA (.bi 4 e1 e2))] (.agg (sp (strictM s t r))) := by
  obtain ⟨sn, sh, slo, shi⟩ := s
  obtain ⟨tn, th, tlo, thi⟩ := t
  simp only [exA, opE_bi, cE_bi, vE_bi, argsD_bi] at h1 h2 ⊢
  refine spec_of_awp (fn := Tryd.f43) Tryd.func43 (by kernel_rfl) rfl ?_
  intro w0 C0
  simp only [Tryd.ntmps43, go_sem]
  repeat' first | refine awp_seq ?_ | refine awp_block ?_ | refine awp_skip ?_ | (apply regB; (case hd => exact hdA); intro K hK) | (apply ev_guardU; (case hj | hu | hσ => (simp only [go_sem]; try rfl))) | ((first | refine awp_cond _ (by rfl) ?_ ?_ | ((first | apply ev_guardT | apply ev_guardF); (case hj | hb => (simp only [go_sem]; try rfl)))) <;> (first | refine ttA ?_ | refine ffA ?_ | (intro hb; first | (cases hb; done) | simp only [hb] | skip))) | ((first | apply awp_exit | apply awp_ret); refine tqA ?_) | (refine ev_nil (hK _ ?_); clear hK K) | (apply ev_step0; (case hr | hσ => (simp only [go_sem]; try rfl)); (case hc => exact hcA)) | (apply ev_step; (case hr | hσ => (intros; simp only [go_sem]; try rfl)); (case hc => exact hcA); intro g u; (try clear u); (try clear g)) | fail
  rename_i g3 g4
  revert g; intro g6
  refine awp_loopI (fun i : Nat => i ≤ 2) (fun i => 2 - i) (fun i => ⟨[.d B, .any, .any, .ptr 3 g3 0, .ptr 4 g4 0, .any, .ptr 6 g6 0, .any, .any, .any, .any, .any, .any, .any, .any, .any, .any, .any, .any, .any, .any, .any, .any, .any, .any, .any, .any, .any, .any, .any, .any, .any, .any, .any, .any, .any, .any, .any, .any, .d (.sl 6 [exD e1, exD e2]), litI .i64 2, litI .i64 i, .any, .any, .any, .any, .any, .any, .any, .any, .any, .any, .any, .any, .any, .any, .any, .any, .any, .any, .any, .any, .any, .any, .any, .any, .any, .any, .any, .any, .any, .any, .any, .any, .any, .any, .any, .any, .any, .any, .any, .any, .any, .any, .any, .any, .any, .any, .any, .any, .any, .any, .any, .any, .any, .any, .any], [.no, .no, .no, .box g3 (exA (.bi 4 e1 e2)), .box g4 zsp, .no, .box g6 (arrS ⟨sn, sh, slo, shi⟩ ⟨tn, th, tlo, thi⟩ i), .no, .no, .no, .no, .no, .no, .no, .no, .no, .no, .no, .no, .no, .no, .no, .no, .no, .no, .no, .no, .no, .no, .no, .no, .no, .no, .no, .no, .no, .no, .no, .no, .no, .no, .no, .no, .no, .no, .no, .no, .no, .no, .no, .no, .no, .no, .no, .no, .no, .no, .no, .no, .no, .no, .no, .no, .no, .no, .no, .no, .no, .no, .no, .no, .no, .no, .no, .no, .no, .no, .no, .no, .no, .no, .no, .no, .no, .no, .no, .no, .no, .no, .no, .no, .no, .no, .no, .no, .no, .no]⟩) 0 (by omega) ?_ ?_
  · simp only [arrS, exA, opE_bi, cE_bi, vE_bi, argsD_bi]
    exact wkA
  intro i hi
  simp only [litI, litB, litS] at hi h1 h2 hf ⊢
  obtain rfl | rfl | rfl : i = 0 ∨ i = 1 ∨ i = 2 := by omega
  · simp only [arrS, exA, opE_bi, cE_bi, vE_bi, argsD_bi, litI, litB, litS]
    have d1 : decide (((0 : Nat) : Int) < 2) = true := by decide
    repeat' first | refine awp_seq ?_ | refine awp_block ?_ | refine awp_skip ?_ | (apply regB; (case hd => exact hdA); intro K hK) | (apply ev_guardU; (case hj | hu | hσ => (simp only [go_sem, d1]; try rfl))) | ((first | refine awp_cond _ (by rfl) ?_ ?_ | ((first | apply ev_guardT | apply ev_guardF); (case hj | hb => (simp only [go_sem, d1]; try rfl)))) <;> (first | refine ttA ?_ | refine ffA ?_ | (intro hb; first | (cases hb; done) | simp only [hb] | skip))) | ((first | apply awp_exit | apply awp_ret); refine tqA ?_) | (refine ev_nil (hK _ ?_); clear hK K) | (apply ev_call0; (case hys => (simp only [go_sem, d1]; try rfl)); (case hs => first | exact h1 ..); (case hok | hσ => (simp only [go_sem, d1]; try rfl))) | (apply ev_callC; (case hf | hys => (simp only [go_sem, d1]; try rfl)); (case hs => first | exact h1 ..); (case hok | hσ => (simp only [go_sem, d1]; try rfl))) | (apply ev_step0; (case hr | hσ => (simp only [go_sem, d1]; try rfl)); (case hc => exact hcA)) | (apply ev_step; (case hr | hσ => (intros; simp only [go_sem, d1]; try rfl)); (case hc => exact hcA); intro g u; (try clear u); (try clear g)) | fail
    refine Exists.intro 1 ⟨by omega, by omega, ?_⟩
    simp only [arrS, exA, opE_bi, cE_bi, vE_bi, argsD_bi]
    exact wkA
  · simp only [arrS, exA, opE_bi, cE_bi, vE_bi, argsD_bi, litI, litB, litS]
    have d1 : decide (((1 : Nat) : Int) < 2) = true := by decide
    have w1 : IntKind.i64.wrap (((1 : Nat) : Int) + 1) = 2 := by decide
    all_goals have H := And.intro d1 w1
    repeat' first | refine awp_seq ?_ | refine awp_block ?_ | refine awp_skip ?_ | (apply regB; (case hd => exact hdA); intro K hK) | (apply ev_guardU; (case hj | hu | hσ => (simp only [go_sem, H]; try rfl))) | ((first | refine awp_cond _ (by rfl) ?_ ?_ | ((first | apply ev_guardT | apply ev_guardF); (case hj | hb => (simp only [go_sem, H]; try rfl)))) <;> (first | refine ttA ?_ | refine ffA ?_ | (intro hb; first | (cases hb; done) | simp only [hb] | skip))) | ((first | apply awp_exit | apply awp_ret); refine tqA ?_) | (refine ev_nil (hK _ ?_); clear hK K) | (apply ev_call0; (case hys => (simp only [go_sem, H]; try rfl)); (case hs => first | exact h2 ..); (case hok | hσ => (simp only [go_sem, H]; try rfl))) | (apply ev_callC; (case hf | hys => (simp only [go_sem, H]; try rfl)); (case hs => first | exact h2 ..); (case hok | hσ => (simp only [go_sem, H]; try rfl))) | (apply ev_step0; (case hr | hσ => (simp only [go_sem, H]; try rfl)); (case hc => exact hcA)) | (apply ev_step; (case hr | hσ => (intros; simp only [go_sem, H]; try rfl)); (case hc => exact hcA); intro g u; (try clear u); (try clear g)) | fail
    all_goals try clear H
    refine Exists.intro 2 ⟨by omega, by omega, ?_⟩
    simp only [arrS, exA, opE_bi, cE_bi, vE_bi, argsD_bi]
    exact wkA
  simp only [arrS, exA, opE_bi, cE_bi, vE_bi, argsD_bi, litI, litB, litS]
  have d1 : decide (((2 : Nat) : Int) < 2) = false := by decide
  unfold strictM
  cases sh with
  | false =>
    simp only [Bool.false_and, Bool.false_eq_true, if_false]
    cases sn <;> cases tn
    all_goals
      repeat' first | refine awp_seq ?_ | refine awp_block ?_ | refine awp_skip ?_ | (apply regB; (case hd => exact hdA); intro K hK) | (apply ev_guardU; (case hj | hu | hσ => (simp only [go_sem, d1]; try rfl))) | ((first | refine awp_cond _ (by rfl) ?_ ?_ | ((first | apply ev_guardT | apply ev_guardF); (case hj | hb => (simp only [go_sem, d1]; try rfl)))) <;> (first | refine ttA ?_ | refine ffA ?_ | (intro hb; first | (cases hb; done) | simp only [hb] | skip))) | ((first | apply awp_exit | apply awp_ret); refine tqA ?_) | (refine ev_nil (hK _ ?_); clear hK K) | (apply ev_step0; (case hr | hσ => (simp only [go_sem, d1]; try rfl)); (case hc => exact hcA)) | (apply ev_step; (case hr | hσ => (intros; simp only [go_sem, d1]; try rfl)); (case hc => exact hcA); intro g u; (try clear u); (try clear g)) | fail
      all_goals (refine resR_oneA ?_; simp only [go_sem])
      exact LeA.refl _
  | true =>
  cases th with
  | false =>
    simp only [Bool.and_false, Bool.false_eq_true, if_false]
    cases sn <;> cases tn
    all_goals
      repeat' first | refine awp_seq ?_ | refine awp_block ?_ | refine awp_skip ?_ | (apply regB; (case hd => exact hdA); intro K hK) | (apply ev_guardU; (case hj | hu | hσ => (simp only [go_sem, d1]; try rfl))) | ((first | refine awp_cond _ (by rfl) ?_ ?_ | ((first | apply ev_guardT | apply ev_guardF); (case hj | hb => (simp only [go_sem, d1]; try rfl)))) <;> (first | refine ttA ?_ | refine ffA ?_ | (intro hb; first | (cases hb; done) | simp only [hb] | skip))) | ((first | apply awp_exit | apply awp_ret); refine tqA ?_) | (refine ev_nil (hK _ ?_); clear hK K) | (apply ev_step0; (case hr | hσ => (simp only [go_sem, d1]; try rfl)); (case hc => exact hcA)) | (apply ev_step; (case hr | hσ => (intros; simp only [go_sem, d1]; try rfl)); (case hc => exact hcA); intro g u; (try clear u); (try clear g)) | fail
      all_goals (refine resR_oneA ?_; simp only [go_sem])
      exact LeA.refl _
  | true =>
    simp only [Bool.and_self, if_true]
    obtain ⟨rn, rh, rlo, rhi⟩ := r
    cases rn <;> cases sn <;> cases tn
    all_goals
      repeat' first | refine awp_seq ?_ | refine awp_block ?_ | refine awp_skip ?_ | (apply regB; (case hd => exact hdA); intro K hK) | (apply ev_guardU; (case hj | hu | hσ => (simp only [go_sem, d1]; try rfl))) | ((first | refine awp_cond _ (by rfl) ?_ ?_ | ((first | apply ev_guardT | apply ev_guardF); (case hj | hb => (simp only [go_sem, d1]; try rfl)))) <;> (first | refine ttA ?_ | refine ffA ?_ | (intro hb; first | (cases hb; done) | simp only [hb] | skip))) | ((first | apply awp_exit | apply awp_ret); refine tqA ?_) | (refine ev_nil (hK _ ?_); clear hK K) | (apply ev_call0; (case hys => (simp only [go_sem, d1]; try rfl)); (case hs => first | exact hf ..); (case hok | hσ => (simp only [go_sem, d1]; try rfl))) | (apply ev_callC; (case hf | hys => (simp only [go_sem, d1]; try rfl)); (case hs => first | exact hf ..); (case hok | hσ => (simp only [go_sem, d1]; try rfl))) | (apply ev_step0; (case hr | hσ => (simp only [go_sem, d1]; try rfl)); (case hc => exact hcA)) | (apply ev_step; (case hr | hσ => (intros; simp only [go_sem, d1]; try rfl)); (case hc => exact hcA); intro g u; (try clear u); (try clear g)) | fail
      all_goals (refine resR_oneA ?_; simp only [go_sem])
      exact LeA.refl _
end
section
set_option linter.unusedVariables false
set_option linter.unusedSimpArgs false
open Go.RowKit
attribute [local irreducible] Spec SpecF SpecN
attribute [local irreducible] AWp evOps evD
theorem f31_spec (v : Vl) : Spec Tryd.prog 31 [.agg (vl v)] (.agg (exA (.leaf 1 0 v))) := by
  simp only [exA, opE, cE, vE, argsD]
  refine spec_of_awp (fn := Tryd.f31) Tryd.func31 (by kernel_rfl) rfl ?_
  intro w0 C0
  simp only [Tryd.ntmps31, go_sem]
  repeat' first | refine awp_seq ?_ | (apply regB; (case hd => exact hdA); intro K hK) | (apply awp_ret; refine tqA ?_) | (refine ev_nil (hK _ ?_); clear hK K) | (apply ev_step0; (case hr | hσ => (simp only [go_sem]; try rfl)); (case hc => exact hcA)) | (apply ev_step; (case hr | hσ => (intros; simp only [go_sem]; try rfl)); (case hc => exact hcA); intro g u; (try clear u); (try clear g)) | fail
  all_goals (refine resR_oneA ?_; simp only [go_sem])
  exact LeA.refl _
theorem f32_spec : Spec Tryd.prog 32 [] (.agg (exA (.leaf 2 0 nullV))) := by
  simp only [exA, opE, cE, vE, argsD]
  refine spec_of_awp (fn := Tryd.f32) Tryd.func32 (by kernel_rfl) rfl ?_
  intro w0 C0
  simp only [Tryd.ntmps32, go_sem]
  repeat' first | refine awp_seq ?_ | (apply regB; (case hd => exact hdA); intro K hK) | (apply awp_ret; refine tqA ?_) | (refine ev_nil (hK _ ?_); clear hK K) | (apply ev_step0; (case hr | hσ => (simp only [go_sem]; try rfl)); (case hc => exact hcA)) | (apply ev_step; (case hr | hσ => (intros; simp only [go_sem]; try rfl)); (case hc => exact hcA); intro g u; (try clear u); (try clear g)) | fail
  all_goals (refine resR_oneA ?_; simp only [go_sem])
  exact LeA.refl _
theorem f30_spec (op : Int) (a b : Ex) : Spec Tryd.prog 30 [litI .i64 op, .agg (exA a), .agg (exA b)] (.agg (exA (.bi op a b))) := by
  simp only [exA, opE_bi, cE_bi, vE_bi, argsD_bi]
  refine spec_of_awp (fn := Tryd.f30) Tryd.func30 (by kernel_rfl) rfl ?_
  intro w0 C0
  simp only [Tryd.ntmps30, go_sem]
  repeat' first | refine awp_seq ?_ | (apply regB; (case hd => exact hdA); intro K hK) | (apply awp_ret; refine tqA ?_) | (refine ev_nil (hK _ ?_); clear hK K) | (apply ev_step0; (case hr | hσ => (simp only [go_sem]; try rfl)); (case hc => exact hcA)) | (apply ev_step; (case hr | hσ => (intros; simp only [go_sem]; try rfl)); (case hc => exact hcA); intro g u; (try clear u); (try clear g)) | fail
  all_goals (refine resR_oneA ?_; simp only [go_sem])
  exact LeA.refl _
theorem f49_one (e : Ex) (h : opE e ≠ 6) : SpecF Tryd.prog 49 [.agg (exA e)] 35 6 [exD e] := by
  have d1 : (opE e != 6) = true := by simpa using h
  simp only [exA, exD]
  refine specF_of_awp (fn := Tryd.f49) Tryd.func49 (by kernel_rfl) rfl ?_
  intro w0 C0
  simp only [Tryd.ntmps49, go_sem]
  repeat' first | refine awp_seq ?_ | refine awp_block ?_ | refine awp_skip ?_ | (apply regB; (case hd => exact hdA); intro K hK) | ((refine awp_cond _ (by rfl) ?_ ?_) <;> (first | refine ttA ?_ | refine ffA ?_ | (intro hb; first | (cases hb; done) | simp only [hb] | skip))) | ((first | apply awp_exit | apply awp_ret); refine tqA ?_) | (refine ev_nil (hK _ ?_); clear hK K) | (apply ev_step0; (case hr | hσ => (simp only [go_sem, d1]; try rfl)); (case hc => exact hcA)) | (apply ev_step; (case hr | hσ => (intros; simp only [go_sem, d1]; try rfl)); (case hc => exact hcA); intro g u; (try clear u); (try clear g)) | fail
  exact resF_one T_ok rfl rfl rfl
theorem f49_and (a b : Ex) (ra rb : List (List Dat)) (ha : SpecF Tryd.prog 49 [.agg (exA a)] 35 6 ra) (hb : SpecF Tryd.prog 49 [.agg (exA b)] 35 6 rb) (hl : ra.length + rb.length ≤ 1000000) : SpecF Tryd.prog 49 [.agg (exA (.bi 6 a b))] 35 6 (ra ++ rb) := by
  simp only [exA, opE_bi, cE_bi, vE_bi, argsD_bi] at ha hb ⊢
  refine specF_of_awp (fn := Tryd.f49) Tryd.func49 (by kernel_rfl) rfl ?_
  intro w0 C0
  simp only [Tryd.ntmps49, go_sem]
  repeat' first | refine awp_seq ?_ | refine awp_block ?_ | refine awp_skip ?_ | (apply regB; (case hd => exact hdA); intro K hK) | ((refine awp_cond _ (by rfl) ?_ ?_) <;> (first | refine ttA ?_ | refine ffA ?_ | (intro hb; first | (cases hb; done) | simp only [hb] | skip))) | ((first | apply awp_exit | apply awp_ret); refine tqA ?_) | (refine ev_nil (hK _ ?_); clear hK K) | (apply regDB; (case hd => exact hdA); (case' h => (intro K hK; (repeat' first | (apply evd_nil; refine (hK _ ?_); clear hK K) | (apply evd_callF0; (case hi | hys => (simp only [go_sem]; try rfl)); (case hs => first | exact ha .. | exact hb ..); (case hok => (simp only [go_sem]; try rfl)); (case hd => simp); (case hw | hσ => (intros; simp only [go_sem]; try rfl)); (case' hk => intro u)) | (apply evd_step0; (case hr | hi | hσ => (simp only [go_sem]; try rfl)); (case hc => exact hcA)) | (apply evd_step; (case hr | hi | hw | hσ => (intros; simp only [go_sem]; try rfl)); (case hc => exact hcA); (case' hk => (intro g u; (try clear u); (try clear g)))) | fail))); (case hB => kernel_rfl)) | (apply ev_step0; (case hr | hσ => (simp only [go_sem]; try rfl)); (case hc => exact hcA)) | (apply ev_step; (case hr | hσ => (intros; simp only [go_sem]; try rfl)); (case hc => exact hcA); intro g u; (try clear u); (try clear g)) | fail
  exact resF_one T_ok rfl rfl rfl
def conj : Ex → List Ex
  | .bi op a b => if op = 6 then conj a ++ conj b else [.bi op a b]
  | e => [e]
def okC : Ex → Prop
  | .leaf op _ _ => op ≠ 6
  | .un op _ => op ≠ 6
  | .bi op a b => op = 6 → okC a ∧ okC b
theorem f49_spec : ∀ (e : Ex), okC e → (conj e).length ≤ 1000000 → SpecF Tryd.prog 49 [.agg (exA e)] 35 6 ((conj e).map exD)
  | .leaf op c v, h, _ => f49_one (.leaf op c v) h
  | .un op a, h, _ => f49_one (.un op a) h
  | .bi op a b, h, hl => by
    unfold conj at hl ⊢
    by_cases h6 : op = 6
    · subst h6
      rw [if_pos rfl] at hl ⊢
      rw [List.length_append] at hl
      rw [List.map_append]
      have hh := h rfl
      exact f49_and a b _ _ (f49_spec a hh.1 (by omega)) (f49_spec b hh.2 (by omega)) (by rw [List.length_map, List.length_map]; exact hl)
    · rw [if_neg h6]
      exact f49_one (.bi op a b) h6
def truthsM (s : Sp) : List AV := [litB (noM s), litB (yesM s), litB s.null]
theorem f21_spec (B : Dat) (e : Ex) (s : Sp) (h : Spec Tryd.prog 43 [.d B, .agg (exA e)] (.agg (sp s))) : Spec Tryd.prog 21 [.d B, .agg (exA e)] (.agg (truthsM s)) := by
  have a1 := f44_spec s
  have a2 := f45_spec s
  unfold truthsM
  generalize noM s = n at *
  generalize yesM s = y at *
  simp only [exA] at h ⊢
  refine spec_of_awp (fn := Tryd.f21) Tryd.func21 (by kernel_rfl) rfl ?_
  intro w0 C0
  simp only [Tryd.ntmps21, go_sem]
  repeat' first | refine awp_seq ?_ | (apply regB; (case hd => exact hdA); intro K hK) | (apply awp_ret; refine tqA ?_) | (refine ev_nil (hK _ ?_); clear hK K) | (apply ev_call0; (case hys => (simp only [go_sem]; try rfl)); (case hs => first | exact h .. | exact a1 .. | exact a2 ..); (case hok | hσ => (simp only [go_sem]; try rfl))) | (apply regDB; (case hd => exact hdA); (case' h => (intro K hK; (repeat' first | (apply evd_nil; refine (hK _ ?_); clear hK K) | (apply evd_call0; (case hi | hys => (simp only [go_sem]; try rfl)); (case hs => first | exact h .. | exact a1 .. | exact a2 ..); (case hok | hw | hσ => (simp only [go_sem]; try rfl))) | (apply evd_step0; (case hr | hi | hσ => (simp only [go_sem]; try rfl)); (case hc => exact hcA)) | (apply evd_step; (case hr | hi | hw | hσ => (intros; simp only [go_sem]; try rfl)); (case hc => exact hcA); (case' hk => (intro g u; (try clear u); (try clear g)))) | fail))); (case hB => kernel_rfl)) | (apply ev_step0; (case hr | hσ => (simp only [go_sem]; try rfl)); (case hc => exact hcA)) | (apply ev_step; (case hr | hσ => (intros; simp only [go_sem]; try rfl)); (case hc => exact hcA); intro g u; (try clear u); (try clear g)) | fail
  all_goals (refine resR_oneA ?_; simp only [go_sem])
  exact LeA.refl _
def neverM (F : Ex → Sp) : List Ex → Bool
  | [] => false
  | e :: l => if yesM (F e) = true then neverM F l else true
theorem exs_at (l : List Ex) {i : Nat} (h : i < l.length) : (l.map exD).getD i [] = exD (l.getD i (.leaf 0 0 nullV)) := by
  simp [List.getD_eq_getElem?_getD, h]
theorem f23_spec (B : Dat) (e : Ex) (l : List Ex) (F : Ex → Sp) (hF : ∀ p ∈ l, Spec Tryd.prog 43 [.d B, .agg (exA p)] (.agg (sp (F p)))) (h49 : SpecF Tryd.prog 49 [.agg (exA e)] 35 6 (l.map exD)) (hl : l.length ≤ 1000000) : Spec Tryd.prog 23 [.d B, .agg (exA e)] (litB (neverM F l)) := by
  simp only [exA] at h49 ⊢
  refine spec_of_awp (fn := Tryd.f23) Tryd.func23 (by kernel_rfl) rfl ?_
  intro w0 C0
  simp only [Tryd.ntmps23, go_sem]
  repeat' first | refine awp_seq ?_ | refine awp_block ?_ | refine awp_skip ?_ | (apply regB; (case hd => exact hdA); intro K hK) | ((refine awp_cond _ (by rfl) ?_ ?_) <;> (first | refine ttA ?_ | refine ffA ?_ | (intro hb; first | (cases hb; done) | simp only [hb] | skip))) | ((first | apply awp_exit | apply awp_ret); refine tqA ?_) | (refine ev_nil (hK _ ?_); clear hK K) | (apply ev_callF0; (case hys => (simp only [go_sem]; try rfl)); (case hs => first | exact h49 ..); (case hok => (simp only [go_sem]; try rfl)); (case hd => simp); (case hσ => (intros; simp only [go_sem]; try rfl)); intro u) | (apply ev_step0; (case hr | hσ => (simp only [go_sem]; try rfl)); (case hc => exact hcA)) | (apply ev_step; (case hr | hσ => (intros; simp only [go_sem]; try rfl)); (case hc => exact hcA); intro g u; (try clear u); (try clear g)) | fail
  refine awp_loopI (fun i : Nat => i ≤ l.length ∧ neverM F l = neverM F (l.drop i)) (fun i => l.length - i) (fun i => ⟨[.d B, .any, .any, .any, litB false, .any, .any, .any, .own 8 u, litI .i64 l.length, litI .i64 i, .any, .any, .any, .any, .any, .any, .any, .any, .any], [.no, .no, .no, .no, .no, .no, .no, .no, .row u 35 6 (l.map exD), .no, .no, .no, .no, .no, .no, .no, .no, .no, .no, .no]⟩) 0 ⟨by omega, rfl⟩ ?_ ?_
  · exact wkA
  rintro i ⟨hi, hfi⟩
  simp only [litI, litB] at hi hfi ⊢
  by_cases hlt : i < l.length
  rotate_left
  have hdec : decide ((i : Int) < (l.length : Int)) = false := by simp; omega
  · repeat' first | refine awp_seq ?_ | refine awp_block ?_ | refine awp_skip ?_ | (apply regB; (case hd => exact hdA); intro K hK) | ((refine awp_cond _ (by rfl) ?_ ?_) <;> (first | refine ttA ?_ | refine ffA ?_ | (intro hb; first | (cases hb; done) | simp only [hb] | skip))) | ((first | apply awp_exit | apply awp_ret); refine tqA ?_) | (refine ev_nil (hK _ ?_); clear hK K) | (apply ev_step0; (case hr | hσ => (simp only [go_sem, hdec]; try rfl)); (case hc => exact hcA)) | (apply ev_step; (case hr | hσ => (intros; simp only [go_sem, hdec]; try rfl)); (case hc => exact hcA); intro g u; (try clear u); (try clear g)) | fail
    all_goals (refine resR_oneA ?_; simp only [go_sem])
    refine LeA.b ?_
    rw [hfi, List.drop_eq_nil_of_le (by omega)]; rfl
  have hdec : decide ((i : Int) < (l.length : Int)) = true := by simp; omega
  have hx := exs_at l hlt
  have hm := hF _ (mem_at l (.leaf 0 0 nullV) hlt)
  rw [drop_at l (.leaf 0 0 nullV) hlt, neverM] at hfi
  generalize l.getD i (.leaf 0 0 nullV) = p at *
  have a2 := f45_spec (F p)
  generalize F p = s at *
  simp only [exA] at hm
  cases hy : yesM s with
  | true =>
    rw [hy] at a2
    rw [hy, if_pos rfl] at hfi
    all_goals have H := And.intro hdec hx
    repeat' first | refine awp_seq ?_ | refine awp_block ?_ | refine awp_skip ?_ | (apply regB; (case hd => exact hdA); intro K hK) | ((refine awp_cond _ (by rfl) ?_ ?_) <;> (first | refine ttA ?_ | refine ffA ?_ | (intro hb; first | (cases hb; done) | simp only [hb] | skip))) | ((first | apply awp_exit | apply awp_ret); refine tqA ?_) | (refine ev_nil (hK _ ?_); clear hK K) | (apply ev_call0; (case hys => (simp only [go_sem, H]; try rfl)); (case hs => first | exact hm .. | exact a2 ..); (case hok | hσ => (simp only [go_sem, H]; try rfl))) | (apply ev_step0; (case hr | hσ => (simp only [go_sem, H]; try rfl)); (case hc => exact hcA)) | (apply ev_step; (case hr | hσ => (intros; simp only [go_sem, H]; try rfl)); (case hc => exact hcA); intro g u; (try clear u); (try clear g)) | fail
    all_goals try clear H
    refine Exists.intro (i + 1) ⟨⟨by omega, hfi⟩, by omega, ?_⟩
    exact wkA
  | false =>
    rw [hy] at a2
    rw [hy, if_neg Bool.false_ne_true] at hfi
    all_goals have H := And.intro hdec hx
    repeat' first | refine awp_seq ?_ | refine awp_block ?_ | refine awp_skip ?_ | (apply regB; (case hd => exact hdA); intro K hK) | ((refine awp_cond _ (by rfl) ?_ ?_) <;> (first | refine ttA ?_ | refine ffA ?_ | (intro hb; first | (cases hb; done) | simp only [hb] | skip))) | ((first | apply awp_exit | apply awp_ret); refine tqA ?_) | (refine ev_nil (hK _ ?_); clear hK K) | (apply ev_call0; (case hys => (simp only [go_sem, H]; try rfl)); (case hs => first | exact hm .. | exact a2 ..); (case hok | hσ => (simp only [go_sem, H]; try rfl))) | (apply ev_step0; (case hr | hσ => (simp only [go_sem, H]; try rfl)); (case hc => exact hcA)) | (apply ev_step; (case hr | hσ => (intros; simp only [go_sem, H]; try rfl)); (case hc => exact hcA); intro g u; (try clear u); (try clear g)) | fail
    all_goals try clear H
    all_goals (refine resR_oneA ?_; simp only [go_sem])
    rw [hfi]
    exact LeA.refl _
end
section
set_option linter.unusedVariables false
set_option linter.unusedSimpArgs false
open Go.RowKit
abbrev numV (n : Int) : Vl := ⟨2, n, ⟨#[]⟩⟩
abbrev noStr : Vl := ⟨3, 0, ⟨#[]⟩⟩
theorem noS_e : noS ⟨#[]⟩ = true := beq_self_eq_true _
theorem graphic_e : graphicB ⟨#[]⟩ = true := rfl
theorem wide_num (n : Int) : wideV (numV n) = small n := by
  have h : checkV (numV n) 4000000000000000000 = (decide (n ≥ -4000000000000000000) && decide (n ≤ 4000000000000000000) && noS ⟨#[]⟩) := by
    unfold checkV
    rw [if_neg (show ¬ (2 : Int) = 0 by decide), if_neg (show ¬ (2 : Int) = 1 by decide), if_pos rfl]
  rw [wideV, h, noS_e, Bool.and_true]; rfl
theorem wide_null : wideV nullV = true := by
  have h : checkV nullV 4000000000000000000 = ((0 : Int) == 0 && noS ⟨#[]⟩) := by
    unfold checkV
    rw [if_pos rfl]
  rw [wideV, h, noS_e]; rfl
theorem wide_str : wideV noStr = true := by
  have h : checkV noStr 4000000000000000000 = ((0 : Int) == 0 && decide (((⟨#[]⟩ : ByteArray).size : Int) ≤ 40) && graphicB ⟨#[]⟩) := by
    unfold checkV
    rw [if_neg (by decide), if_neg (by decide), if_neg (by decide), if_pos rfl]
  rw [wideV, h, graphic_e]; rfl
theorem null_num (n : Int) : isNull (numV n) = false := rfl
theorem null_null : isNull nullV = true := by
  show ((0 : Int) == 0 && ((0 : Int) == 0 && noS ⟨#[]⟩)) = true
  rw [noS_e]; rfl
theorem null_str : isNull noStr = false := rfl
theorem cmp_num (a b : Int) : cmpV (numV a) (numV b) = cmpI a b := by
  simp only [cmpV, cmpI_self, cmpB_self, firstNZ, if_true]
  split
  · rename_i h; exact h.symm
  · rfl
abbrev wantB : Bd := ⟨1, true, numV (-1500000), numV 3000000, 1500000⟩
theorem of_null (b : Bd) (l : List Vl) : ofS b (nullV :: l) = ofS ⟨b.nulls + 1, b.has, b.lo, b.hi, b.sum⟩ l := by
  have h1 : badV b nullV = false := by
    unfold badV
    rw [wide_null, null_null]; rfl
  rw [ofS, h1, if_neg Bool.false_ne_true, if_pos null_null]
theorem of_first (k s : Int) (x y v : Vl) (l : List Vl) (hw : wideV v = true) (hn : isNull v = false) : ofS ⟨k, false, x, y, s⟩ (v :: l) = ofS ⟨k, true, v, v, s⟩ l := by
  have h1 : badV ⟨k, false, x, y, s⟩ v = false := by
    unfold badV
    rw [hw, hn]; rfl
  have h2 : ofIn ⟨k, false, x, y, s⟩ v = ⟨k, true, v, v, s⟩ := by
    simp [ofIn, startV, lowV, highV, cmpV_self]
  rw [ofS, h1, if_neg Bool.false_ne_true, hn, if_neg Bool.false_ne_true, h2]
theorem of_num (k s a b n : Int) (l : List Vl) (hs : small n = true) : ofS ⟨k, true, numV a, numV b, s⟩ (numV n :: l) = ofS ⟨k, true, if cmpI n a < 0 then numV n else numV a, if cmpI n b > 0 then numV n else numV b, s⟩ l := by
  have h1 : badV ⟨k, true, numV a, numV b, s⟩ (numV n) = false := by
    unfold badV
    rw [wide_num, hs]; rfl
  have h2 : ofIn ⟨k, true, numV a, numV b, s⟩ (numV n) = ⟨k, true, if cmpI n a < 0 then numV n else numV a, if cmpI n b > 0 then numV n else numV b, s⟩ := by
    simp only [ofIn, startV, if_true, lowV, highV, cmp_num]
    by_cases c1 : cmpI n a < 0
    · simp only [c1, if_true, cmp_num]
      by_cases c2 : cmpI n b > 0 <;> simp only [c2, if_true, if_false]
    · simp only [c1, if_false, cmp_num]
      by_cases c2 : cmpI n b > 0 <;> simp only [c2, if_true, if_false]
  rw [ofS, h1, if_neg Bool.false_ne_true, null_num, if_neg Bool.false_ne_true, h2]
theorem ex1 : ofM [numV 3000000, nullV, numV (-1500000)] = (wantB, 0) := by
  have e1 : numsV [numV 3000000, nullV, numV (-1500000)] = [3000000, -1500000] := rfl
  have e2 : sumD [3000000, -1500000] = (1500000, 0) := rfl
  have e3 : ofS zeroBd [numV 3000000, nullV, numV (-1500000)] = some ⟨1, true, numV (-1500000), numV 3000000, 0⟩ := by
    rw [of_first _ _ _ _ _ _ (by rw [wide_num]; rfl) rfl, of_null, of_num _ _ _ _ _ _ rfl]
    rfl
  unfold ofM
  rw [e3, e1, e2]; rfl
theorem ex2 : ofM [numV 1000000, noStr] = (zeroBd, 6) := by
  have e3 : ofS zeroBd [numV 1000000, noStr] = none := by
    rw [of_first _ _ _ _ _ _ (by rw [wide_num]; rfl) rfl, ofS]
    simp only [badV, wide_str, null_str]
    rfl
  unfold ofM
  rw [e3]
theorem ex3 : ofM [numV 9000000] = (⟨0, true, numV 9000000, numV 9000000, 9000000⟩, 0) := by
  have e1 : numsV [numV 9000000] = [9000000] := rfl
  have e2 : sumD [9000000] = (9000000, 0) := rfl
  have e3 : ofS zeroBd [numV 9000000] = some ⟨0, true, numV 9000000, numV 9000000, 0⟩ := by
    rw [of_first _ _ _ _ _ _ (by rw [wide_num]; rfl) rfl, ofS]
  unfold ofM
  rw [e3, e1, e2]; rfl
theorem ex4 : ofM [noStr] = (⟨0, true, noStr, noStr, 0⟩, 0) := by
  have e1 : numsV [noStr] = [] := rfl
  have e2 : sumD [] = (0, 0) := rfl
  have e3 : ofS zeroBd [noStr] = some ⟨0, true, noStr, noStr, 0⟩ := by
    rw [of_first _ _ _ _ _ _ wide_str rfl, ofS]
  unfold ofM
  rw [e3, e1, e2]; rfl
theorem ex5 : ofM [numV 4000000000000000000, numV 1] = (zeroBd, 2) := by
  have e1 : numsV [numV 4000000000000000000, numV 1] = [4000000000000000000, 1] := rfl
  have e2 : sumD [4000000000000000000, 1] = (0, 2) := rfl
  have e3 : ofS zeroBd [numV 4000000000000000000, numV 1] = some ⟨0, true, numV 1, numV 4000000000000000000, 0⟩ := by
    rw [of_first _ _ _ _ _ _ (by rw [wide_num]; rfl) rfl, of_num _ _ _ _ _ _ rfl]
    rfl
  unfold ofM
  rw [e3, e1, e2]; rfl
theorem ex6 : ofM [] = (zeroBd, 0) := rfl
theorem valid_num {n lo hi s : Int} (hn : (decide (0 ≤ n) && decide (n ≤ 4000000000000000000) && small s && small lo && small hi && decide (cmpI lo hi ≤ 0)) = true) : validB ⟨n, true, numV lo, numV hi, s⟩ = true := by
  simp only [Bool.and_eq_true, decide_eq_true_eq] at hn
  obtain ⟨⟨⟨⟨⟨h1, h2⟩, h3⟩, h4⟩, h5⟩, h6⟩ := hn
  have h3' := small_iff.1 h3
  unfold validB
  simp only [wide_num, null_num, cmp_num, h4, h5]
  rw [if_neg (by rw [decide_eq_true_eq]; omega), if_neg (by rw [decide_eq_true_eq]; omega), if_neg (by rw [decide_eq_true_eq]; omega), if_neg (by rw [decide_eq_true_eq]; omega), if_neg (by decide), if_neg (by decide), if_neg (by decide), if_neg (by decide), if_neg (by decide), if_neg (by rw [decide_eq_true h6]; decide)]
  rfl
theorem valid_want : validB wantB = true := valid_num rfl
theorem valid_odd : validB ⟨0, true, nullV, nullV, 0⟩ = false := by
  unfold validB
  simp only [wide_null, null_null]
  rfl
theorem valid_str : validB ⟨0, true, noStr, noStr, 0⟩ = true := by
  unfold validB
  simp only [wide_str, null_str, cmpV_self]
  rfl
theorem in_null : containsB wantB nullV = true := by
  unfold containsB
  rw [valid_want, wide_null, null_null]; rfl
theorem in_num (n : Int) (h : small n = true) : containsB wantB (numV n) = (decide (cmpI (-1500000) n ≤ 0) && decide (cmpI n 3000000 ≤ 0)) := by
  unfold containsB
  rw [valid_want, wide_num, null_num, h]
  simp only [cmp_num]
  cases decide (cmpI (-1500000) n ≤ 0) <;> rfl
theorem merge1 : mergeM wantB ⟨0, true, numV 9000000, numV 9000000, 9000000⟩ = (⟨1, true, numV (-1500000), numV 9000000, 10500000⟩, 0) := by
  have e : validB ⟨0, true, numV 9000000, numV 9000000, 9000000⟩ = true := valid_num rfl
  unfold mergeM
  rw [valid_want, e]
  simp only [cmp_num]
  rfl
theorem merge2 : mergeM wantB ⟨0, true, noStr, noStr, 0⟩ = (zeroBd, 6) := by
  unfold mergeM
  rw [valid_want, valid_str]
  rfl
abbrev colSp : Sp := ⟨true, true, numV (-1500000), numV 3000000⟩
abbrev numSp (n : Int) : Sp := ⟨false, true, numV n, numV n⟩
theorem eqVl_num (a b : Int) : eqVl (numV a) (numV b) = (a == b) := by
  simp [eqVl]
theorem bool_eq (a b : Bool) : eqVl (boolV a) (boolV b) = (a == b) := by
  cases a <;> cases b <;> simp [eqVl, boolV]
theorem yes1 : yesM (strictM (numSp 3000000) colSp (lessM (numSp 3000000) colSp)) = false := by
  simp only [strictM, lessM, cmp_num, yesM, truthM]
  exact (bool_eq false true)
theorem yes2 : yesM (strictM colSp (numSp 4000000) (equalM colSp (numSp 4000000))) = false := by
  simp only [strictM, equalM, apartM, cmp_num, eqVl_num, yesM, truthM]
  exact (bool_eq false true)
theorem yes3 : truthsM (strictM colSp (numSp 0) (equalM colSp (numSp 0))) = [litB true, litB true, litB true] := by
  have h1 : yesM (strictM colSp (numSp 0) (equalM colSp (numSp 0))) = true := by
    simp only [strictM, equalM, apartM, cmp_num, eqVl_num, yesM, truthM]
    exact (bool_eq true true)
  have h2 : noM (strictM colSp (numSp 0) (equalM colSp (numSp 0))) = true := by
    simp only [strictM, equalM, apartM, cmp_num, eqVl_num, noM, truthM]
    exact (bool_eq false false)
  unfold truthsM
  rw [h1, h2]; rfl
theorem yes4 : yesM (strictM colSp (numSp 0) (equalM colSp (numSp 0))) = true := by
  simp only [strictM, equalM, apartM, cmp_num, eqVl_num, yesM, truthM]
  exact (bool_eq true true)
end
section
set_option linter.unusedVariables false
set_option linter.unusedSimpArgs false
open Go.RowKit
theorem ok_num {n : Int} (h : -9223372036854775808 ≤ n ∧ n ≤ 9223372036854775807) : VlOk (numV n) := ⟨h, by show (0 : Nat) ≤ _; omega⟩
theorem ok_null : VlOk nullV := ⟨by decide, by show (0 : Nat) ≤ _; omega⟩
theorem ok_str : VlOk noStr := ⟨by decide, by show (0 : Nat) ≤ _; omega⟩
theorem bok_want : BdOk wantB := ⟨ok_num (by decide), ok_num (by decide), by decide⟩
theorem w_spec (n m : Int) (h : n * 1000000 = m) (hn : -1000000 ≤ n ∧ n ≤ 1000000) : Spec Tryd.prog 26 [litI .i64 n] (.agg (vl (numV m))) := by
  have := f26_spec n hn
  rw [h] at this
  exact this
theorem o1 : Spec Tryd.prog 12 [.d (vls [numV 3000000, nullV, numV (-1500000)])] (.agg (got (wantB, 0))) := by
  have h := f12_spec [numV 3000000, nullV, numV (-1500000)] (by
    intro v hv
    simp only [List.mem_cons, List.not_mem_nil, or_false] at hv
    rcases hv with rfl | rfl | rfl
    · exact ok_num (by decide)
    · exact ok_null
    · exact ok_num (by decide)) (by decide)
  rw [ex1] at h
  exact h
theorem o2 : Spec Tryd.prog 12 [.d (vls [numV 1000000, noStr])] (.agg (got (zeroBd, 6))) := by
  have h := f12_spec [numV 1000000, noStr] (by
    intro v hv
    simp only [List.mem_cons, List.not_mem_nil, or_false] at hv
    rcases hv with rfl | rfl
    · exact ok_num (by decide)
    · exact ok_str) (by decide)
  rw [ex2] at h
  exact h
abbrev nineB : Bd := ⟨0, true, numV 9000000, numV 9000000, 9000000⟩
abbrev strB : Bd := ⟨0, true, noStr, noStr, 0⟩
theorem o3 : Spec Tryd.prog 12 [.d (vls [numV 9000000])] (.agg (got (nineB, 0))) := by
  have h := f12_spec [numV 9000000] (by
    intro v hv
    simp only [List.mem_cons, List.not_mem_nil, or_false] at hv
    subst hv
    exact ok_num (by decide)) (by decide)
  rw [ex3] at h
  exact h
theorem o4 : Spec Tryd.prog 12 [.d (vls [noStr])] (.agg (got (strB, 0))) := by
  have h := f12_spec [noStr] (by
    intro v hv
    simp only [List.mem_cons, List.not_mem_nil, or_false] at hv
    subst hv
    exact ok_str) (by decide)
  rw [ex4] at h
  exact h
theorem o5 : Spec Tryd.prog 12 [.d (vls [numV 4000000000000000000, numV 1])] (.agg (got (zeroBd, 2))) := by
  have h := f12_spec [numV 4000000000000000000, numV 1] (by
    intro v hv
    simp only [List.mem_cons, List.not_mem_nil, or_false] at hv
    rcases hv with rfl | rfl
    · exact ok_num (by decide)
    · exact ok_num (by decide)) (by decide)
  rw [ex5] at h
  exact h
theorem o6 : Spec Tryd.prog 12 [.d (vls [])] (.agg (got (zeroBd, 0))) := by
  have h := f12_spec [] (by intro v hv; cases hv) (by decide)
  rw [ex6] at h
  exact h
theorem Spec.args {P : Program} {f : Nat} {xs ys : List AV} {r : AV} (h : LeL xs ys) (hs : Spec P f ys r) : Spec P f xs r := ⟨hs.1, fun w hW C hC vs hvs => hs.2 w hW C hC vs (h.has hvs)⟩
theorem o6n : Spec Tryd.prog 12 [.d (.lit (.slice none 0 0))] (.agg (got (zeroBd, 0))) := Spec.args (ys := [.d (vls [])]) ⟨LeA.nil _, trivial⟩ o6
theorem v1 : Spec Tryd.prog 16 [.agg (bd wantB)] (litB true) := by
  have h := f16_spec wantB bok_want.lo.s bok_want.hi.s
  rw [valid_want] at h
  exact h
theorem v2 : Spec Tryd.prog 16 [.agg (bd ⟨0, true, nullV, nullV, 0⟩)] (litB false) := by
  have h := f16_spec ⟨0, true, nullV, nullV, 0⟩ ok_null.s ok_null.s
  rw [valid_odd] at h
  exact h
theorem i1 : Spec Tryd.prog 18 [.agg (bd wantB), .agg (vl nullV)] (litB true) := by
  have h := f18_spec wantB nullV bok_want ok_null.s
  rw [in_null] at h
  exact h
theorem i2 : Spec Tryd.prog 18 [.agg (bd wantB), .agg (vl (numV 0))] (litB true) := by
  have h := f18_spec wantB (numV 0) bok_want (ok_num (by decide)).s
  rw [in_num 0 rfl] at h
  exact h
theorem i3 : Spec Tryd.prog 18 [.agg (bd wantB), .agg (vl (numV 4000000))] (litB false) := by
  have h := f18_spec wantB (numV 4000000) bok_want (ok_num (by decide)).s
  rw [in_num 4000000 rfl] at h
  exact h
theorem m1 : Spec Tryd.prog 14 [.agg (bd wantB), .agg (bd nineB)] (.agg (got (⟨1, true, numV (-1500000), numV 9000000, 10500000⟩, 0))) := by
  have h := f14_spec wantB nineB bok_want ⟨ok_num (by decide), ok_num (by decide), by decide⟩
  rw [merge1] at h
  exact h
theorem m2 : Spec Tryd.prog 14 [.agg (bd wantB), .agg (bd strB)] (.agg (got (zeroBd, 6))) := by
  have h := f14_spec wantB strB bok_want ⟨ok_str, ok_str, by decide⟩
  rw [merge2] at h
  exact h
abbrev colE : Ex := .leaf 2 0 nullV
abbrev numE (n : Int) : Ex := .leaf 1 0 (numV n)
theorem r_col : Spec Tryd.prog 43 [.d (bds [wantB]), .agg (exA colE)] (.agg (sp colSp)) := f43_col [wantB] 0 nullV (by decide)
theorem r_num (n : Int) : Spec Tryd.prog 43 [.d (bds [wantB]), .agg (exA (numE n))] (.agg (sp (numSp n))) := f43_const _ 0 (numV n)
theorem n1 : Spec Tryd.prog 23 [.d (bds [wantB]), .agg (exA (.bi 4 (numE 3000000) colE))] (litB true) := by
  have h := f23_spec (bds [wantB]) (.bi 4 (numE 3000000) colE) [.bi 4 (numE 3000000) colE] (fun _ => strictM (numSp 3000000) colSp (lessM (numSp 3000000) colSp)) (fun p hp => by
    simp only [List.mem_cons, List.not_mem_nil, or_false] at hp
    subst hp
    exact f43_op4 _ _ _ _ _ _ (r_num 3000000) r_col (f111_spec _ _)) (f49_one _ (by decide)) (by decide)
  rw [neverM, yes1, if_neg Bool.false_ne_true] at h
  exact h
theorem r_eq (n : Int) : Spec Tryd.prog 43 [.d (bds [wantB]), .agg (exA (.bi 3 colE (numE n)))] (.agg (sp (strictM colSp (numSp n) (equalM colSp (numSp n))))) := f43_op3 _ _ _ _ _ _ r_col (r_num n) (f110_spec _ _)
theorem n2 : Spec Tryd.prog 23 [.d (bds [wantB]), .agg (exA (.bi 3 colE (numE 4000000)))] (litB true) := by
  have h := f23_spec (bds [wantB]) (.bi 3 colE (numE 4000000)) [.bi 3 colE (numE 4000000)] (fun _ => strictM colSp (numSp 4000000) (equalM colSp (numSp 4000000))) (fun p hp => by
    simp only [List.mem_cons, List.not_mem_nil, or_false] at hp
    subst hp
    exact r_eq 4000000) (f49_one _ (by decide)) (by decide)
  rw [neverM, yes2, if_neg Bool.false_ne_true] at h
  exact h
theorem n3 : Spec Tryd.prog 23 [.d (bds [wantB]), .agg (exA (.bi 3 colE (numE 0)))] (litB false) := by
  have h := f23_spec (bds [wantB]) (.bi 3 colE (numE 0)) [.bi 3 colE (numE 0)] (fun _ => strictM colSp (numSp 0) (equalM colSp (numSp 0))) (fun p hp => by
    simp only [List.mem_cons, List.not_mem_nil, or_false] at hp
    subst hp
    exact r_eq 0) (f49_one _ (by decide)) (by decide)
  rw [neverM, yes4, if_pos rfl] at h
  exact h
theorem t1 : Spec Tryd.prog 21 [.d (bds [wantB]), .agg (exA (.bi 3 colE (numE 0)))] (.agg [litB true, litB true, litB true]) := by
  have h := f21_spec (bds [wantB]) (.bi 3 colE (numE 0)) _ (r_eq 0)
  rw [yes3] at h
  exact h
end
section
set_option linter.unusedVariables false
set_option linter.unusedSimpArgs false
open Go.RowKit
attribute [local irreducible] Spec SpecF SpecN
attribute [local irreducible] AWp evOps evD
set_option maxHeartbeats 16000000 in
set_option maxRecDepth 100000 in
theorem f7_spec : Spec Tryd.prog 7 [] (litB true) := by
  have w3 := w_spec 3 3000000 (by decide) (by decide)
  have w0' := w_spec 0 0 (by decide) (by decide)
  have w4 := w_spec 4 4000000 (by decide) (by decide)
  have w1 := w_spec 1 1000000 (by decide) (by decide)
  have w9 := w_spec 9 9000000 (by decide) (by decide)
  have u1 := f28_spec (-1500000)
  have u2 := f28_spec 4000000000000000000
  have u3 := f28_spec 1
  have us := f29_spec ⟨#[]⟩
  have un := f27_spec
  have o1 := o1
  have o2 := o2
  have o3 := o3
  have o4 := o4
  have o5 := o5
  have o6 := o6n
  have v1 := v1
  have v2 := v2
  have i1 := i1
  have i2 := i2
  have i3 := i3
  have m1 := m1
  have m2 := m2
  have n1 := n1
  have n2 := n2
  have n3 := n3
  have t1 := t1
  have k3 := f31_spec (numV 3000000)
  have k4 := f31_spec (numV 4000000)
  have k0 := f31_spec (numV 0)
  have kc := f32_spec
  have q1 := f30_spec 4 (numE 3000000) colE
  have q2 := f30_spec 3 colE (numE 4000000)
  have q3 := f30_spec 3 colE (numE 0)
  simp only [vls, bds, List.map_cons, List.map_nil, exA, opE, cE, vE, argsD, opE_bi, cE_bi, vE_bi, argsD_bi] at *
  refine spec_of_awp (fn := Tryd.f7) Tryd.func7 (by kernel_rfl) rfl ?_
  intro w0 C0
  simp only [Tryd.ntmps7, go_sem]
  repeat' first | refine awp_seq ?_ | refine awp_block ?_ | refine awp_skip ?_ | (apply regB; (case hd => exact hdA); intro K hK) | (apply ev_guardU; (case hj | hu | hσ => (simp only [go_sem]; try rfl))) | ((first | refine awp_cond _ (by rfl) ?_ ?_ | ((first | apply ev_guardT | apply ev_guardF); (case hj | hb => (simp only [go_sem]; try rfl)))) <;> (first | refine ttA ?_ | refine ffA ?_ | (intro hb; first | (cases hb; done) | simp only [hb] | skip))) | ((first | apply awp_exit | apply awp_ret); refine tqA ?_) | (refine ev_nil (hK _ ?_); clear hK K) | (apply ev_call0; (case hys => (simp only [go_sem]; try rfl)); (case hs => first | exact w3 .. | exact w0' .. | exact w4 .. | exact w1 .. | exact w9 .. | exact u1 .. | exact u2 .. | exact u3 .. | exact us .. | exact un .. | exact o1 .. | exact o2 .. | exact o3 .. | exact o4 .. | exact o5 .. | exact o6 .. | exact v1 .. | exact v2 .. | exact i1 .. | exact i2 .. | exact i3 .. | exact m1 .. | exact m2 .. | exact n1 .. | exact n2 .. | exact n3 .. | exact t1 .. | exact k3 .. | exact k4 .. | exact k0 .. | exact kc .. | exact q1 .. | exact q2 .. | exact q3 ..); (case hok | hσ => (simp only [go_sem]; try rfl))) | (apply regDB; (case hd => exact hdA); (case' h => (intro K hK; (repeat' first | (apply evd_nil; refine (hK _ ?_); clear hK K) | (apply evd_guardU0; (case hj | hu | hσ => (simp only [go_sem]; try rfl))) | (apply evd_guardU; (case hj | hu | hσ => (simp only [go_sem]; try rfl))) | (apply evd_skipT0; (case hj | hb | hσ => (simp only [go_sem]; try rfl))) | (apply evd_skipF0; (case hj | hb | hσ => (simp only [go_sem]; try rfl))) | (apply evd_skipT; (case hj | hb | hσ => (simp only [go_sem]; try rfl))) | (apply evd_skipF; (case hj | hb | hσ => (simp only [go_sem]; try rfl))) | (apply evd_guardT; (case hj | hb => (simp only [go_sem]; try rfl)); (case' h2 => (intro hb; first | (cases hb; done) | (simp only [hb]) | skip)); (case' h1 => (intro hb; first | (cases hb; done) | (simp only [hb]) | skip))) | (apply evd_guardF; (case hj | hb => (simp only [go_sem]; try rfl)); (case' h2 => (intro hb; first | (cases hb; done) | (simp only [hb]) | skip)); (case' h1 => (intro hb; first | (cases hb; done) | (simp only [hb]) | skip))) | (apply evd_call0; (case hi | hys => (simp only [go_sem]; try rfl)); (case hs => first | exact w3 .. | exact w0' .. | exact w4 .. | exact w1 .. | exact w9 .. | exact u1 .. | exact u2 .. | exact u3 .. | exact us .. | exact un .. | exact o1 .. | exact o2 .. | exact o3 .. | exact o4 .. | exact o5 .. | exact o6 .. | exact v1 .. | exact v2 .. | exact i1 .. | exact i2 .. | exact i3 .. | exact m1 .. | exact m2 .. | exact n1 .. | exact n2 .. | exact n3 .. | exact t1 .. | exact k3 .. | exact k4 .. | exact k0 .. | exact kc .. | exact q1 .. | exact q2 .. | exact q3 ..); (case hok | hw | hσ => (simp only [go_sem]; try rfl))) | (apply evd_step0; (case hr | hi | hσ => (simp only [go_sem]; try rfl)); (case hc => exact hcA)) | (apply evd_step; (case hr | hi | hw | hσ => (intros; simp only [go_sem]; try rfl)); (case hc => exact hcA); (case' hk => (intro g u; (try clear u); (try clear g)))) | fail))); (case hB => kernel_rfl)) | (apply ev_step0; (case hr | hσ => (simp only [go_sem]; try rfl)); (case hc => exact hcA)) | (apply ev_step; (case hr | hσ => (intros; simp only [go_sem]; try rfl)); (case hc => exact hcA); intro g u; (try clear u); (try clear g)) | fail
  all_goals (refine resR_oneA ?_; simp only [go_sem])
  exact LeA.refl _
end
section
set_option linter.unusedVariables false
set_option linter.unusedSimpArgs false
open Go.RowKit
attribute [local irreducible] Spec SpecF SpecN
attribute [local irreducible] AWp evOps evD
theorem byte_mem {b : List Int} (hb : ∀ x ∈ b, 0 ≤ x ∧ x < 256) (i : Nat) : 0 ≤ b.getD i 0 ∧ b.getD i 0 < 256 := by
  by_cases h : i < b.length
  · exact hb _ (mem_at b 0 h)
  · rw [List.getD_eq_getElem?_getD, List.getElem?_eq_none (by omega)]; simp
end
section
set_option linter.unusedVariables false
set_option linter.unusedSimpArgs false
open Go.RowKit
attribute [local irreducible] Spec SpecF SpecN
attribute [local irreducible] AWp evOps evD
theorem f51_spec (b : List Int) (n : Nat) (hn : n ≤ 1000000) (hb : ∀ x ∈ b, 0 ≤ x ∧ x < 256) : Spec Tryd.prog 51 [.agg [.d (bytesD b), litI .i64 (n : Int)]] (litI .i64 (b.getD n 0)) := by
  by_cases h : n < b.length
  · have d1 : decide ((n : Int) < (b.length : Int)) = true := decide_eq_true (by omega)
    have hx := bytes_at b h
    have hm := byte_mem hb n
    generalize b.getD n 0 = x at *
    have w1 : IntKind.i64.wrap x = x := wrap_id (by omega)
    refine spec_of_awp (fn := Tryd.f51) Tryd.func51 (by kernel_rfl) rfl ?_
    intro w0 C0
    simp only [Tryd.ntmps51, go_sem]
    all_goals have H := And.intro d1 (And.intro hx w1)
    repeat' first | refine awp_seq ?_ | refine awp_block ?_ | refine awp_skip ?_ | (apply regB; (case hd => exact hdA); intro K hK) | ((refine awp_cond _ (by rfl) ?_ ?_) <;> (first | refine ttA ?_ | refine ffA ?_ | (intro hb; first | (cases hb; done) | simp only [hb] | skip))) | ((first | apply awp_exit | apply awp_ret); refine tqA ?_) | (refine ev_nil (hK _ ?_); clear hK K) | (apply ev_step0; (case hr | hσ => (simp only [go_sem, H]; try rfl)); (case hc => exact hcA)) | (apply ev_step; (case hr | hσ => (intros; simp only [go_sem, H]; try rfl)); (case hc => exact hcA); intro g u; (try clear u); (try clear g)) | fail
    all_goals try clear H
    all_goals (refine resR_oneA ?_; simp only [go_sem])
    exact LeA.refl _
  · have d1 : decide ((n : Int) < (b.length : Int)) = false := decide_eq_false (by omega)
    have e : b.getD n 0 = 0 := by rw [List.getD_eq_getElem?_getD, List.getElem?_eq_none (by omega)]; rfl
    rw [e]
    refine spec_of_awp (fn := Tryd.f51) Tryd.func51 (by kernel_rfl) rfl ?_
    intro w0 C0
    simp only [Tryd.ntmps51, go_sem]
    repeat' first | refine awp_seq ?_ | refine awp_block ?_ | refine awp_skip ?_ | (apply regB; (case hd => exact hdA); intro K hK) | ((refine awp_cond _ (by rfl) ?_ ?_) <;> (first | refine ttA ?_ | refine ffA ?_ | (intro hb; first | (cases hb; done) | simp only [hb] | skip))) | ((first | apply awp_exit | apply awp_ret); refine tqA ?_) | (refine ev_nil (hK _ ?_); clear hK K) | (apply ev_step0; (case hr | hσ => (simp only [go_sem, d1]; try rfl)); (case hc => exact hcA)) | (apply ev_step; (case hr | hσ => (intros; simp only [go_sem, d1]; try rfl)); (case hc => exact hcA); intro g u; (try clear u); (try clear g)) | fail
    all_goals (refine resR_oneA ?_; simp only [go_sem])
    exact LeA.refl _
theorem f52_spec (b : List Int) (n k : Nat) (hn : n + k ≤ 1000000) : Spec Tryd.prog 52 [.agg [.d (bytesD b), litI .i64 (n : Int)], litI .i64 (k : Int)] (.agg [.d (bytesD b), litI .i64 ((n + k : Nat) : Int)]) := by
  have w1 : IntKind.i64.wrap ((n : Int) + (k : Int)) = ((n + k : Nat) : Int) := by rw [wrap_id (by omega)]; push_cast; rfl
  refine spec_of_awp (fn := Tryd.f52) Tryd.func52 (by kernel_rfl) rfl ?_
  intro w0 C0
  simp only [Tryd.ntmps52, go_sem]
  repeat' first | refine awp_seq ?_ | (apply regB; (case hd => exact hdA); intro K hK) | (apply awp_ret; refine tqA ?_) | (refine ev_nil (hK _ ?_); clear hK K) | (apply ev_step0; (case hr | hσ => (simp only [go_sem, w1]; try rfl)); (case hc => exact hcA)) | (apply ev_step; (case hr | hσ => (intros; simp only [go_sem, w1]; try rfl)); (case hc => exact hcA); intro g u; (try clear u); (try clear g)) | fail
  all_goals (refine resR_oneA ?_; simp only [go_sem])
  exact LeA.refl _
def arityM (op : Int) : Int := if op = 1 ∨ op = 2 then 0 else if op = 8 ∨ op = 9 then 1 else if (3 ≤ op ∧ op ≤ 7) ∨ (10 ≤ op ∧ op ≤ 12) then 2 else -1
theorem f53_spec (op : Int) (h : 1 ≤ op ∧ op ≤ 12) : Spec Tryd.prog 53 [litI .i64 op] (litI .i64 (arityM op)) := by
  obtain rfl | rfl | rfl | rfl | rfl | rfl | rfl | rfl | rfl | rfl | rfl | rfl : op = 1 ∨ op = 2 ∨ op = 3 ∨ op = 4 ∨ op = 5 ∨ op = 6 ∨ op = 7 ∨ op = 8 ∨ op = 9 ∨ op = 10 ∨ op = 11 ∨ op = 12 := by omega
  all_goals
    refine spec_of_awp (fn := Tryd.f53) Tryd.func53 (by kernel_rfl) rfl ?_
    intro w0 C0
    simp only [Tryd.ntmps53, go_sem]
    repeat' first | refine awp_seq ?_ | refine awp_block ?_ | refine awp_skip ?_ | (apply regB; (case hd => exact hdA); intro K hK) | ((refine awp_cond _ (by rfl) ?_ ?_) <;> (first | refine ttA ?_ | refine ffA ?_ | (intro hb; first | (cases hb; done) | simp only [hb] | skip))) | ((first | apply awp_exit | apply awp_ret); refine tqA ?_) | (refine ev_nil (hK _ ?_); clear hK K) | (apply ev_step0; (case hr | hσ => (simp only [go_sem]; try rfl)); (case hc => exact hcA)) | (apply ev_step; (case hr | hσ => (intros; simp only [go_sem]; try rfl)); (case hc => exact hcA); intro g u; (try clear u); (try clear g)) | fail
    all_goals (refine resR_oneA ?_; simp only [go_sem])
    exact LeA.refl _
abbrev grA (e : Ex) (b : List Int) (n : Nat) : List AV := exA e ++ [.d (bytesD b), litI .i64 (n : Int)]
theorem f74_spec (k : Int) (b : List Int) (n : Nat) (hn : n + 2 ≤ 1000000) (hb : ∀ x ∈ b, 0 ≤ x ∧ x < 256) : Spec Tryd.prog 74 [litI .i64 k, .agg [.d (bytesD b), litI .i64 (n : Int)]] (.agg (grA (.leaf 1 0 (valM ⟨k, 0, false⟩ (b.getD n 0) (b.getD (n + 1) 0))) b (n + 2))) := by
  have a1 := f51_spec b n (by omega) hb
  have a2 := f52_spec b n 1 (by omega)
  have a3 := f51_spec b (n + 1) (by omega) hb
  have a4 := f52_spec b n 2 (by omega)
  have m1 := byte_mem hb n
  have m2 := byte_mem hb (n + 1)
  have a5 := f50_spec ⟨k, 0, false⟩ (b.getD n 0) (b.getD (n + 1) 0) ⟨by show (0 : Int) ≤ 0; omega, by show (0 : Int) ≤ 6; omega⟩ m1 m2
  generalize valM ⟨k, 0, false⟩ (b.getD n 0) (b.getD (n + 1) 0) = v at *
  generalize b.getD n 0 = x at *
  generalize b.getD (n + 1) 0 = y at *
  have w1 := wrap_u8 m1
  have w2 := wrap_u8 m2
  rw [show ((1 : Nat) : Int) = 1 from rfl] at a2
  rw [show ((2 : Nat) : Int) = 2 from rfl] at a4
  simp only [grA, exA, opE, cE, vE, argsD]
  refine spec_of_awp (fn := Tryd.f74) Tryd.func74 (by kernel_rfl) rfl ?_
  intro w0 C0
  simp only [Tryd.ntmps74, go_sem]
  all_goals have H := And.intro w1 w2
  repeat' first | refine awp_seq ?_ | (apply regB; (case hd => exact hdA); intro K hK) | (apply awp_ret; refine tqA ?_) | (refine ev_nil (hK _ ?_); clear hK K) | (apply regDB; (case hd => exact hdA); (case' h => (intro K hK; (repeat' first | (apply evd_nil; refine (hK _ ?_); clear hK K) | (apply evd_call0; (case hi | hys => (simp only [go_sem, H]; try rfl)); (case hs => first | exact a1 .. | exact a2 .. | exact a3 .. | exact a4 .. | exact a5 ..); (case hok | hw | hσ => (simp only [go_sem, H]; try rfl))) | (apply evd_step0; (case hr | hi | hσ => (simp only [go_sem, H]; try rfl)); (case hc => exact hcA)) | (apply evd_step; (case hr | hi | hw | hσ => (intros; simp only [go_sem, H]; try rfl)); (case hc => exact hcA); (case' hk => (intro g u; (try clear u); (try clear g)))) | fail))); (case hB => kernel_rfl)) | (apply ev_step0; (case hr | hσ => (simp only [go_sem, H]; try rfl)); (case hc => exact hcA)) | (apply ev_step; (case hr | hσ => (intros; simp only [go_sem, H]; try rfl)); (case hc => exact hcA); intro g u; (try clear u); (try clear g)) | fail
  all_goals try clear H
  all_goals (refine resR_oneA ?_; simp only [go_sem])
  exact LeA.refl _
abbrev tyD (t : Ty) : List Dat := [.lit (.int .i64 t.k), .lit (.int .i64 t.scale), .lit (.bool t.null)]
abbrev tys (l : List Ty) : Dat := .sl 3 (l.map tyD)
def tyTab : List Ty := [⟨2, 2, false⟩, ⟨3, 0, false⟩, ⟨1, 0, false⟩, ⟨2, 0, true⟩, ⟨3, 0, true⟩, ⟨1, 0, true⟩, ⟨2, 0, false⟩]
abbrev dTy : Ty := ⟨2, 0, false⟩
def tyB (n : Int) : Ty := tyTab.getD (n.tmod 7).toNat dTy
def typesM (b : List Int) : List Ty := (b.take 6).map tyB
theorem tys_at (l : List Ty) {i : Nat} (h : i < l.length) : (l.map tyD).getD i [] = tyD (l.getD i dTy) := by
  simp [List.getD_eq_getElem?_getD, h]
theorem typesM_len (b : List Int) : (typesM b).length = min 6 b.length := by simp [typesM]
set_option maxHeartbeats 4000000 in
theorem f8_spec (b : List Int) (hb : ∀ x ∈ b, 0 ≤ x ∧ x < 256) : Spec Tryd.prog 8 [.d (bytesD b)] (.d (tys (typesM b))) := by
  refine spec_of_awp (fn := Tryd.f8) Tryd.func8 (by kernel_rfl) rfl ?_
  intro w0 C0
  simp only [Tryd.ntmps8, go_sem]
  repeat' first | refine awp_seq ?_ | refine awp_block ?_ | refine awp_skip ?_ | (apply regB; (case hd => exact hdA); intro K hK) | (apply ev_guardU; (case hj | hu | hσ => (simp only [go_sem]; try rfl))) | ((first | refine awp_cond _ (by rfl) ?_ ?_ | ((first | apply ev_guardT | apply ev_guardF); (case hj | hb => (simp only [go_sem]; try rfl)))) <;> (first | refine ttA ?_ | refine ffA ?_ | (intro hb; first | (cases hb; done) | simp only [hb] | skip))) | ((first | apply awp_exit | apply awp_ret); refine tqA ?_) | (refine ev_nil (hK _ ?_); clear hK K) | (apply ev_step0; (case hr | hσ => (simp only [go_sem]; try rfl)); (case hc => exact hcA)) | (apply ev_step; (case hr | hσ => (intros; simp only [go_sem]; try rfl)); (case hc => exact hcA); intro g u; (try clear u); (try clear g)) | fail
  refine awp_loopI (fun j : Nat × Value => j.1 ≤ b.length ∧ j.1 ≤ 6) (fun j => 6 - j.1) (fun j => ⟨[.d (bytesD b), .any, .d (.lit (.slice none 0 0)), .own 5 j.2, litI .i64 (j.1 : Int), .any, .any, .any, .any, .any, .any, .any, .any, .any, .any, .any, .any, .any, .any, .any, .any, .any, .any, .any, .any, .any, .any, .any, .any, .any, .any, .any, .any, .any, .any], [.no, .no, .no, .no, .no, .row j.2 67 3 ((typesM (b.take j.1)).map tyD), .no, .no, .no, .no, .no, .no, .no, .no, .no, .no, .no, .no, .no, .no, .no, .no, .no, .no, .no, .no, .no, .no, .no, .no, .no, .no, .no, .no, .no]⟩) (0, u) (by simp) ?_ ?_
  · simp only [typesM, List.take_zero, List.take_nil, List.map_nil]
    exact wkA
  rintro ⟨j, v⟩ ⟨hj, hj6⟩
  simp only [litI, litB] at hj hj6 ⊢
  by_cases h1 : j < b.length
  · have d1 : decide ((j : Int) < (b.length : Int)) = true := decide_eq_true (by omega)
    by_cases h2 : j < 6
    · have d2 : decide ((j : Int) < 6) = true := decide_eq_true (by omega)
      have hx := bytes_at b h1
      have hm := byte_mem hb j
      have hs : typesM (b.take (j + 1)) = typesM (b.take j) ++ [tyB (b.getD j 0)] := by
        simp only [typesM, List.take_take]
        rw [show min 6 (j + 1) = j + 1 by omega, show min 6 j = j by omega, take_at b 0 h1, List.map_append]; rfl
      have hl : (typesM (b.take j)).length ≤ 6 := by rw [typesM_len]; omega
      have w2 : IntKind.i64.wrap ((j : Int) + 1) = ((j + 1 : Nat) : Int) := by rw [wrap_id (by omega)]; push_cast; rfl
      generalize typesM (b.take j) = ts at *
      generalize b.getD j 0 = x at *
      have h3 := Int.tmod_nonneg 7 hm.1
      have h4 := Int.tmod_lt_of_pos x (b := 7) (by decide)
      unfold tyB at hs
      obtain ⟨k, hk⟩ : ∃ k : Nat, x.tmod 7 = k := ⟨(x.tmod 7).toNat, by omega⟩
      have hy := tys_at tyTab (i := k) (by show k < 7; omega)
      rw [hk, Int.toNat_natCast] at hs
      generalize tyTab.getD k dTy = t at *
      simp only [tyTab, List.map_cons, List.map_nil] at hy
      have wu : IntKind.u8.wrap (k : Int) = (k : Int) := wrap_u8 (by omega)
      all_goals have H := And.intro d1 (And.intro d2 (And.intro hx (And.intro hk (And.intro hy (And.intro w2 wu)))))
      repeat' first | refine awp_seq ?_ | refine awp_block ?_ | refine awp_skip ?_ | (apply regB; (case hd => exact hdA); intro K hK) | (apply ev_guardU; (case hj | hu | hσ => (simp only [go_sem, H]; try rfl))) | ((first | refine awp_cond _ (by rfl) ?_ ?_ | ((first | apply ev_guardT | apply ev_guardF); (case hj | hb => (simp only [go_sem, H]; try rfl)))) <;> (first | refine ttA ?_ | refine ffA ?_ | (intro hb; first | (cases hb; done) | simp only [hb] | skip))) | ((first | apply awp_exit | apply awp_ret); refine tqA ?_) | (refine ev_nil (hK _ ?_); clear hK K) | (apply ev_step0; (case hr | hσ => (simp only [go_sem, H]; try rfl)); (case hc => exact hcA)) | (apply ev_step; (case hr | hσ => (intros; simp only [go_sem, H]; try rfl)); (case hc => exact hcA); intro g u; (try clear u); (try clear g)) | fail
      all_goals try clear H
      refine Exists.intro (j + 1, u) ⟨⟨by show j + 1 ≤ _; omega, by show j + 1 ≤ 6; omega⟩, by show 6 - (j + 1) < 6 - j; omega, ?_⟩
      simp only [hs, List.map_append, List.map_cons, List.map_nil]
      exact wkA
    · have d2 : decide ((j : Int) < 6) = false := decide_eq_false (by omega)
      have e : typesM (b.take j) = typesM b := by unfold typesM; rw [List.take_take]; congr 2; omega
      rw [e]
      all_goals have H := And.intro d1 d2
      repeat' first | refine awp_seq ?_ | refine awp_block ?_ | refine awp_skip ?_ | (apply regB; (case hd => exact hdA); intro K hK) | (apply ev_guardU; (case hj | hu | hσ => (simp only [go_sem, H]; try rfl))) | ((first | refine awp_cond _ (by rfl) ?_ ?_ | ((first | apply ev_guardT | apply ev_guardF); (case hj | hb => (simp only [go_sem, H]; try rfl)))) <;> (first | refine ttA ?_ | refine ffA ?_ | (intro hb; first | (cases hb; done) | simp only [hb] | skip))) | ((first | apply awp_exit | apply awp_ret); refine tqA ?_) | (refine ev_nil (hK _ ?_); clear hK K) | (apply ev_step0; (case hr | hσ => (simp only [go_sem, H]; try rfl)); (case hc => exact hcA)) | (apply ev_step; (case hr | hσ => (intros; simp only [go_sem, H]; try rfl)); (case hc => exact hcA); intro g u; (try clear u); (try clear g)) | fail
      all_goals try clear H
      all_goals (refine resR_oneA ?_; simp only [go_sem])
      exact LeA.refl _
  · have d1 : decide ((j : Int) < (b.length : Int)) = false := decide_eq_false (by omega)
    have e : typesM (b.take j) = typesM b := by rw [List.take_of_length_le (by omega)]
    rw [e]
    repeat' first | refine awp_seq ?_ | refine awp_block ?_ | refine awp_skip ?_ | (apply regB; (case hd => exact hdA); intro K hK) | (apply ev_guardU; (case hj | hu | hσ => (simp only [go_sem, d1]; try rfl))) | ((first | refine awp_cond _ (by rfl) ?_ ?_ | ((first | apply ev_guardT | apply ev_guardF); (case hj | hb => (simp only [go_sem, d1]; try rfl)))) <;> (first | refine ttA ?_ | refine ffA ?_ | (intro hb; first | (cases hb; done) | simp only [hb] | skip))) | ((first | apply awp_exit | apply awp_ret); refine tqA ?_) | (refine ev_nil (hK _ ?_); clear hK K) | (apply ev_step0; (case hr | hσ => (simp only [go_sem, d1]; try rfl)); (case hc => exact hcA)) | (apply ev_step; (case hr | hσ => (intros; simp only [go_sem, d1]; try rfl)); (case hc => exact hcA); intro g u; (try clear u); (try clear g)) | fail
    all_goals (refine resR_oneA ?_; simp only [go_sem])
    exact LeA.refl _
end
end Go.Proofs.YtopigomfhggkoaaDoor.A
