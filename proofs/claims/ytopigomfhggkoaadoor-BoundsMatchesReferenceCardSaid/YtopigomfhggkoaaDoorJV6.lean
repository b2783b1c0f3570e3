/- Types of expressions: the walks. Types of expressions: the walks of typed, Size, CheckIn. (Written by mk45.py.) Typed expressions. Made expressions: operands: the walks. -/
import Derived.Test.YtopigomfhggkoaaDoorJV5
namespace Go.Proofs.YtopigomfhggkoaaDoor.A
section
set_option linter.unusedVariables false
set_option linter.unusedSimpArgs false
open Go.RowKit
attribute [local irreducible] Spec SpecF SpecN
attribute [local irreducible] AWp evOps evD
abbrev tydA (t : Ty) : List AV := [litI .i64 t.k, litI .i64 t.scale, litB t.null, litI .i64 0]
theorem f79_con (T : Dat) (v : Vl) (hk : v.k = 1 ∨ v.k = 2 ∨ v.k = 3) (hv : validV v = true) (hs : v.s.size ≤ 4611686018427387904) : ∃ t : Ty, t.k = v.k ∧ Spec Tryd.prog 79 [.d T, .agg (exA (.leaf 1 0 v))] (.agg (tydA t)) := by
  have a1 := f56_spec v hs
  rw [hv] at a1
  obtain ⟨k, i, s⟩ := v
  simp only [exA, opE, cE, vE, argsD] at hk a1 ⊢
  rcases hk with rfl | rfl | rfl
  · refine ⟨⟨1, 0, false⟩, rfl, ?_⟩
    refine spec_of_awp (fn := Tryd.f79) Tryd.func79 (by kernel_rfl) rfl ?_
    intro w0 C0
    simp only [Tryd.ntmps79, go_sem]
    repeat' first | refine awp_seq ?_ | refine awp_block ?_ | refine awp_skip ?_ | (apply regB; (case hd => exact hdA); intro K hK) | (apply ev_guardU; (case hj | hu | hσ => (simp only [go_sem]; try rfl))) | ((first | refine awp_cond _ (by rfl) ?_ ?_ | ((first | apply ev_guardT | apply ev_guardF); (case hj | hb => (simp only [go_sem]; try rfl)))) <;> (first | refine ttA ?_ | refine ffA ?_ | (intro hb; first | (cases hb; done) | simp only [hb] | skip))) | ((first | apply awp_exit | apply awp_ret); refine tqA ?_) | (refine ev_nil (hK _ ?_); clear hK K) | (apply ev_call0; (case hys => (simp only [go_sem]; try rfl)); (case hs => first | exact a1 ..); (case hok | hσ => (simp only [go_sem]; try rfl))) | (apply ev_step0; (case hr | hσ => (simp only [go_sem]; try rfl)); (case hc => exact hcA)) | (apply ev_step; (case hr | hσ => (intros; simp only [go_sem]; try rfl)); (case hc => exact hcA); intro g u; (try clear u); (try clear g)) | fail
    all_goals (refine resR_oneA ?_; simp only [go_sem])
    exact LeA.refl _
  · have a2 := f84_spec i
    generalize leastM i (List.range 6) = sc at *
    refine ⟨⟨2, sc, false⟩, rfl, ?_⟩
    refine spec_of_awp (fn := Tryd.f79) Tryd.func79 (by kernel_rfl) rfl ?_
    intro w0 C0
    simp only [Tryd.ntmps79, go_sem]
    repeat' first | refine awp_seq ?_ | refine awp_block ?_ | refine awp_skip ?_ | (apply regB; (case hd => exact hdA); intro K hK) | (apply ev_guardU; (case hj | hu | hσ => (simp only [go_sem]; try rfl))) | ((first | refine awp_cond _ (by rfl) ?_ ?_ | ((first | apply ev_guardT | apply ev_guardF); (case hj | hb => (simp only [go_sem]; try rfl)))) <;> (first | refine ttA ?_ | refine ffA ?_ | (intro hb; first | (cases hb; done) | simp only [hb] | skip))) | ((first | apply awp_exit | apply awp_ret); refine tqA ?_) | (refine ev_nil (hK _ ?_); clear hK K) | (apply ev_call0; (case hys => (simp only [go_sem]; try rfl)); (case hs => first | exact a1 .. | exact a2 ..); (case hok | hσ => (simp only [go_sem]; try rfl))) | (apply ev_step0; (case hr | hσ => (simp only [go_sem]; try rfl)); (case hc => exact hcA)) | (apply ev_step; (case hr | hσ => (intros; simp only [go_sem]; try rfl)); (case hc => exact hcA); intro g u; (try clear u); (try clear g)) | fail
    all_goals (refine resR_oneA ?_; simp only [go_sem])
    exact LeA.refl _
  · refine ⟨⟨3, 0, false⟩, rfl, ?_⟩
    refine spec_of_awp (fn := Tryd.f79) Tryd.func79 (by kernel_rfl) rfl ?_
    intro w0 C0
    simp only [Tryd.ntmps79, go_sem]
    repeat' first | refine awp_seq ?_ | refine awp_block ?_ | refine awp_skip ?_ | (apply regB; (case hd => exact hdA); intro K hK) | (apply ev_guardU; (case hj | hu | hσ => (simp only [go_sem]; try rfl))) | ((first | refine awp_cond _ (by rfl) ?_ ?_ | ((first | apply ev_guardT | apply ev_guardF); (case hj | hb => (simp only [go_sem]; try rfl)))) <;> (first | refine ttA ?_ | refine ffA ?_ | (intro hb; first | (cases hb; done) | simp only [hb] | skip))) | ((first | apply awp_exit | apply awp_ret); refine tqA ?_) | (refine ev_nil (hK _ ?_); clear hK K) | (apply ev_call0; (case hys => (simp only [go_sem]; try rfl)); (case hs => first | exact a1 ..); (case hok | hσ => (simp only [go_sem]; try rfl))) | (apply ev_step0; (case hr | hσ => (simp only [go_sem]; try rfl)); (case hc => exact hcA)) | (apply ev_step; (case hr | hσ => (intros; simp only [go_sem]; try rfl)); (case hc => exact hcA); intro g u; (try clear u); (try clear g)) | fail
    all_goals (refine resR_oneA ?_; simp only [go_sem])
    exact LeA.refl _
theorem f79_col (l : List Ty) (c : Nat) (hc : c < l.length) (hl : l.length ≤ 1000000) (ht : TyOk (l.getD c dTy)) : Spec Tryd.prog 79 [.d (tys l), .agg (exA (.leaf 2 (c : Int) nullV))] (.agg (tydA (l.getD c dTy))) := by
  have a1 := f83_spec _ ht
  have hx := tys_at l hc
  generalize l.getD c dTy = t at *
  have d1 : decide ((c : Int) < 0) = false := decide_eq_false (by omega)
  have d2 : decide ((c : Int) ≥ (l.length : Int)) = false := decide_eq_false (by omega)
  simp only [exA, opE, cE, vE, argsD]
  refine spec_of_awp (fn := Tryd.f79) Tryd.func79 (by kernel_rfl) rfl ?_
  intro w0 C0
  simp only [Tryd.ntmps79, go_sem]
  all_goals have H := And.intro d1 (And.intro d2 hx)
  repeat' first | refine awp_seq ?_ | refine awp_block ?_ | refine awp_skip ?_ | (apply regB; (case hd => exact hdA); intro K hK) | (apply ev_guardU; (case hj | hu | hσ => (simp only [go_sem, H]; try rfl))) | ((first | refine awp_cond _ (by rfl) ?_ ?_ | ((first | apply ev_guardT | apply ev_guardF); (case hj | hb => (simp only [go_sem, H]; try rfl)))) <;> (first | refine ttA ?_ | refine ffA ?_ | (intro hb; first | (cases hb; done) | simp only [hb] | skip))) | ((first | apply awp_exit | apply awp_ret); refine tqA ?_) | (refine ev_nil (hK _ ?_); clear hK K) | (apply ev_call0; (case hys => (simp only [go_sem, H]; try rfl)); (case hs => first | exact a1 .. | exact f27_spec ..); (case hok | hσ => (simp only [go_sem, H]; try rfl))) | (apply regDB; (case hd => exact hdA); (case' h => (intro K hK; (repeat' first | (apply evd_nil; refine (hK _ ?_); clear hK K) | (apply evd_guardU0; (case hj | hu | hσ => (simp only [go_sem, H]; try rfl))) | (apply evd_guardU; (case hj | hu | hσ => (simp only [go_sem, H]; try rfl))) | (apply evd_skipT0; (case hj | hb | hσ => (simp only [go_sem, H]; try rfl))) | (apply evd_skipF0; (case hj | hb | hσ => (simp only [go_sem, H]; try rfl))) | (apply evd_skipT; (case hj | hb | hσ => (simp only [go_sem, H]; try rfl))) | (apply evd_skipF; (case hj | hb | hσ => (simp only [go_sem, H]; try rfl))) | (apply evd_guardT; (case hj | hb => (simp only [go_sem, H]; try rfl)); (case' h2 => (intro hb; first | (cases hb; done) | (simp only [hb]) | skip)); (case' h1 => (intro hb; first | (cases hb; done) | (simp only [hb]) | skip))) | (apply evd_guardF; (case hj | hb => (simp only [go_sem, H]; try rfl)); (case' h2 => (intro hb; first | (cases hb; done) | (simp only [hb]) | skip)); (case' h1 => (intro hb; first | (cases hb; done) | (simp only [hb]) | skip))) | (apply evd_call0; (case hi | hys => (simp only [go_sem, H]; try rfl)); (case hs => first | exact a1 .. | exact f27_spec ..); (case hok | hw | hσ => (simp only [go_sem, H]; try rfl))) | (apply evd_step0; (case hr | hi | hσ => (simp only [go_sem, H]; try rfl)); (case hc => exact hcA)) | (apply evd_step; (case hr | hi | hw | hσ => (intros; simp only [go_sem, H]; try rfl)); (case hc => exact hcA); (case' hk => (intro g u; (try clear u); (try clear g)))) | fail))); (case hB => kernel_rfl)) | (apply ev_step0; (case hr | hσ => (simp only [go_sem, H]; try rfl)); (case hc => exact hcA)) | (apply ev_step; (case hr | hσ => (intros; simp only [go_sem, H]; try rfl)); (case hc => exact hcA); intro g u; (try clear u); (try clear g)) | fail
  all_goals try clear H
  all_goals (refine resR_oneA ?_; simp only [go_sem])
  exact LeA.refl _
def OpOk (op : Int) (l : List Ty) : Prop :=
  ((op = 3 ∨ op = 4 ∨ op = 5) ∧ ∃ a b : Ty, l = [a, b] ∧ a.k = b.k) ∨ ((op = 6 ∨ op = 7) ∧ ∃ a b : Ty, l = [a, b] ∧ a.k = 1 ∧ b.k = 1) ∨ (op = 8 ∧ ∃ a : Ty, l = [a] ∧ a.k = 1) ∨ (op = 9 ∧ ∃ a : Ty, l = [a])
  ∨ ((op = 10 ∨ op = 11) ∧ ∃ a b : Ty, l = [a, b] ∧ a.k = 2 ∧ b.k = 2) ∨ (op = 12 ∧ ∃ a b : Ty, l = [a, b] ∧ a.k = 3 ∧ b.k = 3)
def kindR (op : Int) : Int := if op = 10 ∨ op = 11 then 2 else 1
theorem f80_tail {a b : Ty} {k : Int} (ha : a.k = k) (hb : b.k = k) : Spec Tryd.prog 85 [.d (tys [a, b]), litI .i64 k] (litB true) := f85_spec _ _ (by intro t ht; rcases List.mem_cons.1 ht with rfl | ht; exact ha; rcases List.mem_cons.1 ht with rfl | ht; exact hb; cases ht)
theorem f80_one {a : Ty} {k : Int} (ha : a.k = k) : Spec Tryd.prog 85 [.d (tys [a]), litI .i64 k] (litB true) := f85_spec _ _ (by intro t ht; rcases List.mem_cons.1 ht with rfl | ht; exact ha; cases ht)
set_option maxHeartbeats 8000000 in
theorem f80_spec (op : Int) (l : List Ty) (h : OpOk op l) : ∃ t : Ty, t.k = kindR op ∧ Spec Tryd.prog 80 [litI .i64 op, .d (tys l)] (.agg (tydA t)) := by
  have hlen : l.length ≤ 2 := by
    rcases h with ⟨_, a, b, rfl, _⟩ | ⟨_, a, b, rfl, _⟩ | ⟨_, a, rfl, _⟩ | ⟨_, a, rfl⟩ | ⟨_, a, b, rfl, _⟩ | ⟨_, a, b, rfl, _⟩ <;> simp
  obtain ⟨S, hS⟩ : ∃ S : Int, S = (if (l.getD 1 dTy).scale > (l.getD 0 dTy).scale then (l.getD 1 dTy).scale else (l.getD 0 dTy).scale) := ⟨_, rfl⟩
  refine ⟨if op = 10 ∨ op = 11 then ⟨2, S, true⟩ else if op = 9 then ⟨1, 0, false⟩ else ⟨1, 0, l.any (·.null)⟩, by unfold kindR; split; rfl; split <;> rfl, ?_⟩
  refine spec_of_awp (fn := Tryd.f80) Tryd.func80 (by kernel_rfl) rfl ?_
  intro w0 C0
  simp only [Tryd.ntmps80, go_sem]
  repeat' first | refine awp_seq ?_ | refine awp_block ?_ | refine awp_skip ?_ | (apply regB; (case hd => exact hdA); intro K hK) | (apply ev_guardU; (case hj | hu | hσ => (simp only [go_sem]; try rfl))) | ((first | refine awp_cond _ (by rfl) ?_ ?_ | ((first | apply ev_guardT | apply ev_guardF); (case hj | hb => (simp only [go_sem]; try rfl)))) <;> (first | refine ttA ?_ | refine ffA ?_ | (intro hb; first | (cases hb; done) | simp only [hb] | skip))) | ((first | apply awp_exit | apply awp_ret); refine tqA ?_) | (refine ev_nil (hK _ ?_); clear hK K) | (apply ev_step0; (case hr | hσ => (simp only [go_sem]; try rfl)); (case hc => exact hcA)) | (apply ev_step; (case hr | hσ => (intros; simp only [go_sem]; try rfl)); (case hc => exact hcA); intro g u; (try clear u); (try clear g)) | fail
  rename_i g4
  revert g; intro g5
  refine awp_loopI (fun i : Nat => i ≤ l.length) (fun i => l.length - i) (fun i => ⟨[litI .i64 op, .d (tys l), .any, .any, .ptr 4 g4 0, .ptr 5 g5 0, litI .i64 (i : Int), .any, .any, .any, .any, .any, .any, .any, .any, .any, .any, .any, .any, .any, .any, .any, .any, .any, .any, .any, .any, .any, .any, .any, .any, .any, .any, .any, .any, .any, .any, .any, .any, .any, .any, .any, .any, .any, .any, .any, .any, .any, .any, .any, .any, .any, .any, .any, .any, .any, .any, .any, .any, .any, .any, .any, .any, .any, .any, .any, .any, .any, .any, .any, .any, .any], [.no, .no, .no, .no, .box g4 [litI .i64 0, litI .i64 0, litB false, litI .i64 0], .box g5 [litI .i64 1, litI .i64 0, litB ((l.take i).any (·.null))], .no, .no, .no, .no, .no, .no, .no, .no, .no, .no, .no, .no, .no, .no, .no, .no, .no, .no, .no, .no, .no, .no, .no, .no, .no, .no, .no, .no, .no, .no, .no, .no, .no, .no, .no, .no, .no, .no, .no, .no, .no, .no, .no, .no, .no, .no, .no, .no, .no, .no, .no, .no, .no, .no, .no, .no, .no, .no, .no, .no, .no, .no, .no, .no, .no, .no]⟩) 0 (by omega) ?_ ?_
  · rw [List.take_zero, List.any_nil]
    exact wkA
  intro i hi
  simp only [litI, litB] at hi ⊢
  by_cases hlt : i < l.length
  · have hdec : decide ((i : Int) < (l.length : Int)) = true := decide_eq_true (by omega)
    have hx := tys_at l hlt
    have w1 : IntKind.i64.wrap ((i : Int) + 1) = ((i + 1 : Nat) : Int) := by rw [wrap_id (by omega)]; push_cast; rfl
    have hs : (l.take (i + 1)).any (·.null) = ((l.take i).any (·.null) || (l.getD i dTy).null) := by rw [take_at l dTy hlt, List.any_append]; simp
    generalize l.getD i dTy = t at *
    generalize (l.take i).any (·.null) = n at *
    cases n with
    | true =>
      all_goals have H := And.intro hdec (And.intro hx w1)
      repeat' first | refine awp_seq ?_ | refine awp_block ?_ | refine awp_skip ?_ | (apply regB; (case hd => exact hdA); intro K hK) | (apply ev_guardU; (case hj | hu | hσ => (simp only [go_sem, H]; try rfl))) | ((first | refine awp_cond _ (by rfl) ?_ ?_ | ((first | apply ev_guardT | apply ev_guardF); (case hj | hb => (simp only [go_sem, H]; try rfl)))) <;> (first | refine ttA ?_ | refine ffA ?_ | (intro hb; first | (cases hb; done) | simp only [hb] | skip))) | ((first | apply awp_exit | apply awp_ret); refine tqA ?_) | (refine ev_nil (hK _ ?_); clear hK K) | (apply ev_step0; (case hr | hσ => (simp only [go_sem, H]; try rfl)); (case hc => exact hcA)) | (apply ev_step; (case hr | hσ => (intros; simp only [go_sem, H]; try rfl)); (case hc => exact hcA); intro g u; (try clear u); (try clear g)) | fail
      all_goals try clear H
      refine Exists.intro (i + 1) ⟨by omega, by omega, ?_⟩
      rw [hs, Bool.true_or]
      exact wkA
    | false =>
      all_goals have H := And.intro hdec (And.intro hx w1)
      repeat' first | refine awp_seq ?_ | refine awp_block ?_ | refine awp_skip ?_ | (apply regB; (case hd => exact hdA); intro K hK) | (apply ev_guardU; (case hj | hu | hσ => (simp only [go_sem, H]; try rfl))) | ((first | refine awp_cond _ (by rfl) ?_ ?_ | ((first | apply ev_guardT | apply ev_guardF); (case hj | hb => (simp only [go_sem, H]; try rfl)))) <;> (first | refine ttA ?_ | refine ffA ?_ | (intro hb; first | (cases hb; done) | simp only [hb] | skip))) | ((first | apply awp_exit | apply awp_ret); refine tqA ?_) | (refine ev_nil (hK _ ?_); clear hK K) | (apply ev_step0; (case hr | hσ => (simp only [go_sem, H]; try rfl)); (case hc => exact hcA)) | (apply ev_step; (case hr | hσ => (intros; simp only [go_sem, H]; try rfl)); (case hc => exact hcA); intro g u; (try clear u); (try clear g)) | fail
      all_goals try clear H
      refine Exists.intro (i + 1) ⟨by omega, by omega, ?_⟩
      rw [hs, Bool.false_or]
      exact wkA
  have hdec : decide ((i : Int) < (l.length : Int)) = false := decide_eq_false (by omega)
  have hil : i = l.length := by omega
  subst hil
  rw [List.take_length]
  rcases h with ⟨hop, a, b, rfl, hab⟩ | ⟨hop, a, b, rfl, ha, hb⟩ | ⟨rfl, a, rfl, ha⟩ | ⟨rfl, a, rfl⟩ | ⟨hop, a, b, rfl, ha, hb⟩ | ⟨rfl, a, b, rfl, ha, hb⟩
  · have d1 : (a.k == b.k) = true := by simpa using hab
    generalize ([a, b].any (·.null)) = n at *
    rcases hop with rfl | rfl | rfl
    all_goals
      all_goals have H := And.intro hdec d1
      repeat' first | refine awp_seq ?_ | refine awp_block ?_ | refine awp_skip ?_ | (apply regB; (case hd => exact hdA); intro K hK) | (apply ev_guardU; (case hj | hu | hσ => (simp only [go_sem, H]; try rfl))) | ((first | refine awp_cond _ (by rfl) ?_ ?_ | ((first | apply ev_guardT | apply ev_guardF); (case hj | hb => (simp only [go_sem, H]; try rfl)))) <;> (first | refine ttA ?_ | refine ffA ?_ | (intro hb; first | (cases hb; done) | simp only [hb] | skip))) | ((first | apply awp_exit | apply awp_ret); refine tqA ?_) | (refine ev_nil (hK _ ?_); clear hK K) | (apply regDB; (case hd => exact hdA); (case' h => (intro K hK; (repeat' first | (apply evd_nil; refine (hK _ ?_); clear hK K) | (apply evd_step0; (case hr | hi | hσ => (simp only [go_sem, H]; try rfl)); (case hc => exact hcA)) | (apply evd_step; (case hr | hi | hw | hσ => (intros; simp only [go_sem, H]; try rfl)); (case hc => exact hcA); (case' hk => (intro g u; (try clear u); (try clear g)))) | fail))); (case hB => kernel_rfl)) | (apply ev_step0; (case hr | hσ => (simp only [go_sem, H]; try rfl)); (case hc => exact hcA)) | (apply ev_step; (case hr | hσ => (intros; simp only [go_sem, H]; try rfl)); (case hc => exact hcA); intro g u; (try clear u); (try clear g)) | fail
      all_goals try clear H
      all_goals (refine resR_oneA ?_; simp only [go_sem])
      exact LeA.refl _
  · have a1 := f80_tail ha hb
    generalize ([a, b].any (·.null)) = n at *
    rcases hop with rfl | rfl
    all_goals
      repeat' first | refine awp_seq ?_ | refine awp_block ?_ | refine awp_skip ?_ | (apply regB; (case hd => exact hdA); intro K hK) | (apply ev_guardU; (case hj | hu | hσ => (simp only [go_sem, hdec]; try rfl))) | ((first | refine awp_cond _ (by rfl) ?_ ?_ | ((first | apply ev_guardT | apply ev_guardF); (case hj | hb => (simp only [go_sem, hdec]; try rfl)))) <;> (first | refine ttA ?_ | refine ffA ?_ | (intro hb; first | (cases hb; done) | simp only [hb] | skip))) | ((first | apply awp_exit | apply awp_ret); refine tqA ?_) | (refine ev_nil (hK _ ?_); clear hK K) | (apply ev_call0; (case hys => (simp only [go_sem, hdec]; try rfl)); (case hs => first | exact a1 ..); (case hok | hσ => (simp only [go_sem, hdec]; try rfl))) | (apply regDB; (case hd => exact hdA); (case' h => (intro K hK; (repeat' first | (apply evd_nil; refine (hK _ ?_); clear hK K) | (apply evd_step0; (case hr | hi | hσ => (simp only [go_sem, hdec]; try rfl)); (case hc => exact hcA)) | (apply evd_step; (case hr | hi | hw | hσ => (intros; simp only [go_sem, hdec]; try rfl)); (case hc => exact hcA); (case' hk => (intro g u; (try clear u); (try clear g)))) | fail))); (case hB => kernel_rfl)) | (apply ev_step0; (case hr | hσ => (simp only [go_sem, hdec]; try rfl)); (case hc => exact hcA)) | (apply ev_step; (case hr | hσ => (intros; simp only [go_sem, hdec]; try rfl)); (case hc => exact hcA); intro g u; (try clear u); (try clear g)) | fail
      all_goals (refine resR_oneA ?_; simp only [go_sem])
      exact LeA.refl _
  · have a1 := f80_one ha
    generalize ([a].any (·.null)) = n at *
    repeat' first | refine awp_seq ?_ | refine awp_block ?_ | refine awp_skip ?_ | (apply regB; (case hd => exact hdA); intro K hK) | (apply ev_guardU; (case hj | hu | hσ => (simp only [go_sem, hdec]; try rfl))) | ((first | refine awp_cond _ (by rfl) ?_ ?_ | ((first | apply ev_guardT | apply ev_guardF); (case hj | hb => (simp only [go_sem, hdec]; try rfl)))) <;> (first | refine ttA ?_ | refine ffA ?_ | (intro hb; first | (cases hb; done) | simp only [hb] | skip))) | ((first | apply awp_exit | apply awp_ret); refine tqA ?_) | (refine ev_nil (hK _ ?_); clear hK K) | (apply ev_call0; (case hys => (simp only [go_sem, hdec]; try rfl)); (case hs => first | exact a1 ..); (case hok | hσ => (simp only [go_sem, hdec]; try rfl))) | (apply regDB; (case hd => exact hdA); (case' h => (intro K hK; (repeat' first | (apply evd_nil; refine (hK _ ?_); clear hK K) | (apply evd_step0; (case hr | hi | hσ => (simp only [go_sem, hdec]; try rfl)); (case hc => exact hcA)) | (apply evd_step; (case hr | hi | hw | hσ => (intros; simp only [go_sem, hdec]; try rfl)); (case hc => exact hcA); (case' hk => (intro g u; (try clear u); (try clear g)))) | fail))); (case hB => kernel_rfl)) | (apply ev_step0; (case hr | hσ => (simp only [go_sem, hdec]; try rfl)); (case hc => exact hcA)) | (apply ev_step; (case hr | hσ => (intros; simp only [go_sem, hdec]; try rfl)); (case hc => exact hcA); intro g u; (try clear u); (try clear g)) | fail
    all_goals (refine resR_oneA ?_; simp only [go_sem])
    exact LeA.refl _
  · generalize ([a].any (·.null)) = n at *
    repeat' first | refine awp_seq ?_ | refine awp_block ?_ | refine awp_skip ?_ | (apply regB; (case hd => exact hdA); intro K hK) | (apply ev_guardU; (case hj | hu | hσ => (simp only [go_sem, hdec]; try rfl))) | ((first | refine awp_cond _ (by rfl) ?_ ?_ | ((first | apply ev_guardT | apply ev_guardF); (case hj | hb => (simp only [go_sem, hdec]; try rfl)))) <;> (first | refine ttA ?_ | refine ffA ?_ | (intro hb; first | (cases hb; done) | simp only [hb] | skip))) | ((first | apply awp_exit | apply awp_ret); refine tqA ?_) | (refine ev_nil (hK _ ?_); clear hK K) | (apply regDB; (case hd => exact hdA); (case' h => (intro K hK; (repeat' first | (apply evd_nil; refine (hK _ ?_); clear hK K) | (apply evd_step0; (case hr | hi | hσ => (simp only [go_sem, hdec]; try rfl)); (case hc => exact hcA)) | (apply evd_step; (case hr | hi | hw | hσ => (intros; simp only [go_sem, hdec]; try rfl)); (case hc => exact hcA); (case' hk => (intro g u; (try clear u); (try clear g)))) | fail))); (case hB => kernel_rfl)) | (apply ev_step0; (case hr | hσ => (simp only [go_sem, hdec]; try rfl)); (case hc => exact hcA)) | (apply ev_step; (case hr | hσ => (intros; simp only [go_sem, hdec]; try rfl)); (case hc => exact hcA); intro g u; (try clear u); (try clear g)) | fail
    all_goals (refine resR_oneA ?_; simp only [go_sem])
    exact LeA.refl _
  · have a1 := f80_tail ha hb
    have hS : (if b.scale > a.scale then b.scale else a.scale) = S := hS.symm
    generalize ([a, b].any (·.null)) = n at *
    rcases hop with rfl | rfl
    all_goals
      all_goals have H := And.intro hdec hS
      repeat' first | refine awp_seq ?_ | refine awp_block ?_ | refine awp_skip ?_ | (apply regB; (case hd => exact hdA); intro K hK) | (apply ev_guardU; (case hj | hu | hσ => (simp only [go_sem, H]; try rfl))) | ((first | refine awp_cond _ (by rfl) ?_ ?_ | ((first | apply ev_guardT | apply ev_guardF); (case hj | hb => (simp only [go_sem, H]; try rfl)))) <;> (first | refine ttA ?_ | refine ffA ?_ | (intro hb; first | (cases hb; done) | simp only [hb] | skip))) | ((first | apply awp_exit | apply awp_ret); refine tqA ?_) | (refine ev_nil (hK _ ?_); clear hK K) | (apply ev_call0; (case hys => (simp only [go_sem, H]; try rfl)); (case hs => first | exact a1 ..); (case hok | hσ => (simp only [go_sem, H]; try rfl))) | (apply regDB; (case hd => exact hdA); (case' h => (intro K hK; (repeat' first | (apply evd_nil; refine (hK _ ?_); clear hK K) | (apply evd_step0; (case hr | hi | hσ => (simp only [go_sem, H]; try rfl)); (case hc => exact hcA)) | (apply evd_step; (case hr | hi | hw | hσ => (intros; simp only [go_sem, H]; try rfl)); (case hc => exact hcA); (case' hk => (intro g u; (try clear u); (try clear g)))) | fail))); (case hB => kernel_rfl)) | (apply ev_step0; (case hr | hσ => (simp only [go_sem, H]; try rfl)); (case hc => exact hcA)) | (apply ev_step; (case hr | hσ => (intros; simp only [go_sem, H]; try rfl)); (case hc => exact hcA); intro g u; (try clear u); (try clear g)) | fail
      all_goals try clear H
      all_goals (refine resR_oneA ?_; simp only [go_sem])
      exact LeA.refl _
  · have a1 := f80_tail ha hb
    generalize ([a, b].any (·.null)) = n at *
    repeat' first | refine awp_seq ?_ | refine awp_block ?_ | refine awp_skip ?_ | (apply regB; (case hd => exact hdA); intro K hK) | (apply ev_guardU; (case hj | hu | hσ => (simp only [go_sem, hdec]; try rfl))) | ((first | refine awp_cond _ (by rfl) ?_ ?_ | ((first | apply ev_guardT | apply ev_guardF); (case hj | hb => (simp only [go_sem, hdec]; try rfl)))) <;> (first | refine ttA ?_ | refine ffA ?_ | (intro hb; first | (cases hb; done) | simp only [hb] | skip))) | ((first | apply awp_exit | apply awp_ret); refine tqA ?_) | (refine ev_nil (hK _ ?_); clear hK K) | (apply ev_call0; (case hys => (simp only [go_sem, hdec]; try rfl)); (case hs => first | exact a1 ..); (case hok | hσ => (simp only [go_sem, hdec]; try rfl))) | (apply regDB; (case hd => exact hdA); (case' h => (intro K hK; (repeat' first | (apply evd_nil; refine (hK _ ?_); clear hK K) | (apply evd_step0; (case hr | hi | hσ => (simp only [go_sem, hdec]; try rfl)); (case hc => exact hcA)) | (apply evd_step; (case hr | hi | hw | hσ => (intros; simp only [go_sem, hdec]; try rfl)); (case hc => exact hcA); (case' hk => (intro g u; (try clear u); (try clear g)))) | fail))); (case hB => kernel_rfl)) | (apply ev_step0; (case hr | hσ => (simp only [go_sem, hdec]; try rfl)); (case hc => exact hcA)) | (apply ev_step; (case hr | hσ => (intros; simp only [go_sem, hdec]; try rfl)); (case hc => exact hcA); intro g u; (try clear u); (try clear g)) | fail
    all_goals (refine resR_oneA ?_; simp only [go_sem])
    exact LeA.refl _
end
section
set_option linter.unusedVariables false
set_option linter.unusedSimpArgs false
open Go.RowKit
attribute [local irreducible] Spec SpecF SpecN
attribute [local irreducible] AWp evOps evD
theorem f65_leaf (T : Dat) (op c : Int) (v : Vl) (hop : op = 1 ∨ op = 2) (t : Ty) (h : Spec Tryd.prog 79 [.d T, .agg (exA (.leaf op c v))] (.agg (tydA t))) : Spec Tryd.prog 65 [.d T, .agg (exA (.leaf op c v))] (.agg (tydA t)) := by
  have a1 := f53_spec op (by omega)
  have e : arityM op = 0 := by unfold arityM; rw [if_pos hop]
  rw [e] at a1
  simp only [exA, opE, cE, vE, argsD] at h ⊢
  refine spec_of_awp (fn := Tryd.f65) Tryd.func65 (by kernel_rfl) rfl ?_
  intro w0 C0
  simp only [Tryd.ntmps65, go_sem]
  repeat' first | refine awp_seq ?_ | refine awp_block ?_ | refine awp_skip ?_ | (apply regB; (case hd => exact hdA); intro K hK) | (apply ev_guardU; (case hj | hu | hσ => (simp only [go_sem]; try rfl))) | ((first | refine awp_cond _ (by rfl) ?_ ?_ | ((first | apply ev_guardT | apply ev_guardF); (case hj | hb => (simp only [go_sem]; try rfl)))) <;> (first | refine ttA ?_ | refine ffA ?_ | (intro hb; first | (cases hb; done) | simp only [hb] | skip))) | ((first | apply awp_exit | apply awp_ret); refine tqA ?_) | (refine ev_nil (hK _ ?_); clear hK K) | (apply ev_call0; (case hys => (simp only [go_sem]; try rfl)); (case hs => first | exact a1 .. | exact h ..); (case hok | hσ => (simp only [go_sem]; try rfl))) | (apply ev_step0; (case hr | hσ => (simp only [go_sem]; try rfl)); (case hc => exact hcA)) | (apply ev_step; (case hr | hσ => (intros; simp only [go_sem]; try rfl)); (case hc => exact hcA); intro g u; (try clear u); (try clear g)) | fail
  all_goals (refine resR_oneA ?_; simp only [go_sem])
  exact LeA.refl _
set_option maxHeartbeats 8000000 in
theorem f65_un (T : Dat) (op : Int) (p : Ex) (hop : op = 8 ∨ op = 9) (s t : Ty) (hp : Spec Tryd.prog 65 [.d T, .agg (exA p)] (.agg (tydA s))) (h : Spec Tryd.prog 80 [litI .i64 op, .d (tys [s])] (.agg (tydA t))) : Spec Tryd.prog 65 [.d T, .agg (exA (.un op p))] (.agg (tydA t)) := by
  have a1 := f53_spec op (by omega)
  have e : arityM op = 1 := by unfold arityM; rw [if_neg (by omega), if_pos hop]
  rw [e] at a1
  simp only [exA, opE_un, cE_un, vE_un, argsD_un] at hp ⊢
  refine spec_of_awp (fn := Tryd.f65) Tryd.func65 (by kernel_rfl) rfl ?_
  intro w0 C0
  simp only [Tryd.ntmps65, go_sem]
  repeat' first | refine awp_seq ?_ | refine awp_block ?_ | refine awp_skip ?_ | (apply regB; (case hd => exact hdA); intro K hK) | (apply ev_guardU; (case hj | hu | hσ => (simp only [go_sem]; try rfl))) | ((first | refine awp_cond _ (by rfl) ?_ ?_ | ((first | apply ev_guardT | apply ev_guardF); (case hj | hb => (simp only [go_sem]; try rfl)))) <;> (first | refine ttA ?_ | refine ffA ?_ | (intro hb; first | (cases hb; done) | simp only [hb] | skip))) | ((first | apply awp_exit | apply awp_ret); refine tqA ?_) | (refine ev_nil (hK _ ?_); clear hK K) | (apply ev_call0; (case hys => (simp only [go_sem]; try rfl)); (case hs => first | exact a1 .. | exact f27_spec ..); (case hok | hσ => (simp only [go_sem]; try rfl))) | (apply regDB; (case hd => exact hdA); (case' h => (intro K hK; (repeat' first | (apply evd_nil; refine (hK _ ?_); clear hK K) | (apply evd_guardU0; (case hj | hu | hσ => (simp only [go_sem]; try rfl))) | (apply evd_guardU; (case hj | hu | hσ => (simp only [go_sem]; try rfl))) | (apply evd_skipT0; (case hj | hb | hσ => (simp only [go_sem]; try rfl))) | (apply evd_skipF0; (case hj | hb | hσ => (simp only [go_sem]; try rfl))) | (apply evd_skipT; (case hj | hb | hσ => (simp only [go_sem]; try rfl))) | (apply evd_skipF; (case hj | hb | hσ => (simp only [go_sem]; try rfl))) | (apply evd_guardT; (case hj | hb => (simp only [go_sem]; try rfl)); (case' h2 => (intro hb; first | (cases hb; done) | (simp only [hb]) | skip)); (case' h1 => (intro hb; first | (cases hb; done) | (simp only [hb]) | skip))) | (apply evd_guardF; (case hj | hb => (simp only [go_sem]; try rfl)); (case' h2 => (intro hb; first | (cases hb; done) | (simp only [hb]) | skip)); (case' h1 => (intro hb; first | (cases hb; done) | (simp only [hb]) | skip))) | (apply evd_call0; (case hi | hys => (simp only [go_sem]; try rfl)); (case hs => first | exact a1 .. | exact f27_spec ..); (case hok | hw | hσ => (simp only [go_sem]; try rfl))) | (apply evd_step0; (case hr | hi | hσ => (simp only [go_sem]; try rfl)); (case hc => exact hcA)) | (apply evd_step; (case hr | hi | hw | hσ => (intros; simp only [go_sem]; try rfl)); (case hc => exact hcA); (case' hk => (intro g u; (try clear u); (try clear g)))) | fail))); (case hB => kernel_rfl)) | (apply ev_step0; (case hr | hσ => (simp only [go_sem]; try rfl)); (case hc => exact hcA)) | (apply ev_step; (case hr | hσ => (intros; simp only [go_sem]; try rfl)); (case hc => exact hcA); intro g u; (try clear u); (try clear g)) | fail
  rename_i g3 _ _ _
  revert g; intro g4
  revert u; intro u0
  refine awp_loopI (fun j : Nat × Value => j.1 ≤ 1) (fun j => 1 - j.1) (fun j => ⟨[.d T, .any, .any, .ptr 3 g3 0, .ptr 4 g4 0, litI .i64 1, .own 37 j.2, litI .i64 (j.1 : Int), .any, .any, .any, .any, .any, .any, .any, .any, .any, .any, .any, .any, .any, .any, .any, .any, .any, .any, .any, .any, .any, .any, .any, .any, .any, .any, .any, .any, .any, .any, .any, .any, .any, .any, .any, .any, .any, .any, .any, .any, .any, .any, .any, .any, .any, .any, .any, .any, .any, .any, .any, .any, .any, .any, .any], [.no, .no, .no, .box g3 (exA (.un op p)), .box g4 [litI .i64 0, litI .i64 0, litB false, litI .i64 0], .no, .no, .no, .no, .no, .no, .no, .no, .no, .no, .no, .no, .no, .no, .no, .no, .no, .no, .no, .no, .no, .no, .no, .no, .no, .no, .no, .no, .no, .no, .no, .no, .row j.2 67 3 ((([s] : List Ty).take j.1).map tyD), .no, .no, .no, .no, .no, .no, .no, .no, .no, .no, .no, .no, .no, .no, .no, .no, .no, .no, .no, .no, .no, .no, .no, .no, .no]⟩) (0, u0) (by simp) ?_ ?_
  · simp only [exA, opE_un, cE_un, vE_un, argsD_un, List.take_zero, List.take_succ_cons, List.map_cons, List.map_nil]
    exact wkA
  rintro ⟨j, u⟩ hj
  simp only [litI, litB, litS] at hj hp h ⊢
  obtain rfl | rfl : j = 0 ∨ j = 1 := by omega
  · simp only [exA, opE_un, cE_un, vE_un, argsD_un, List.take_zero, List.take_succ_cons, List.map_cons, List.map_nil, litI, litB, litS]
    have d1 : decide (((0 : Nat) : Int) < 1) = true := by decide
    have w1 : IntKind.i64.wrap (((0 : Nat) : Int) + 1) = 1 := by decide
    all_goals have H := And.intro d1 w1
    repeat' first | refine awp_seq ?_ | refine awp_block ?_ | refine awp_skip ?_ | (apply regB; (case hd => exact hdA); intro K hK) | (apply ev_guardU; (case hj | hu | hσ => (simp only [go_sem, H]; try rfl))) | ((first | refine awp_cond _ (by rfl) ?_ ?_ | ((first | apply ev_guardT | apply ev_guardF); (case hj | hb => (simp only [go_sem, H]; try rfl)))) <;> (first | refine ttA ?_ | refine ffA ?_ | (intro hb; first | (cases hb; done) | simp only [hb] | skip))) | ((first | apply awp_exit | apply awp_ret); refine tqA ?_) | (refine ev_nil (hK _ ?_); clear hK K) | (apply ev_call0; (case hys => (simp only [go_sem, H]; try rfl)); (case hs => first | exact hp ..); (case hok | hσ => (simp only [go_sem, H]; try rfl))) | (apply ev_step0; (case hr | hσ => (simp only [go_sem, H]; try rfl)); (case hc => exact hcA)) | (apply ev_step; (case hr | hσ => (intros; simp only [go_sem, H]; try rfl)); (case hc => exact hcA); intro g u; (try clear u); (try clear g)) | fail
    all_goals try clear H
    refine Exists.intro (1, u) ⟨by simp, by simp, ?_⟩
    simp only [exA, opE_un, cE_un, vE_un, argsD_un, List.take_zero, List.take_succ_cons, List.map_cons, List.map_nil]
    exact wkA
  simp only [exA, opE_un, cE_un, vE_un, argsD_un, List.take_zero, List.take_succ_cons, List.map_cons, List.map_nil, litI, litB, litS]
  have d1 : decide (((1 : Nat) : Int) < 1) = false := by decide
  repeat' first | refine awp_seq ?_ | refine awp_block ?_ | refine awp_skip ?_ | (apply regB; (case hd => exact hdA); intro K hK) | (apply ev_guardU; (case hj | hu | hσ => (simp only [go_sem, d1]; try rfl))) | ((first | refine awp_cond _ (by rfl) ?_ ?_ | ((first | apply ev_guardT | apply ev_guardF); (case hj | hb => (simp only [go_sem, d1]; try rfl)))) <;> (first | refine ttA ?_ | refine ffA ?_ | (intro hb; first | (cases hb; done) | simp only [hb] | skip))) | ((first | apply awp_exit | apply awp_ret); refine tqA ?_) | (refine ev_nil (hK _ ?_); clear hK K) | (apply ev_call0; (case hys => (simp only [go_sem, d1]; try rfl)); (case hs => first | exact h ..); (case hok | hσ => (simp only [go_sem, d1]; try rfl))) | (apply ev_step0; (case hr | hσ => (simp only [go_sem, d1]; try rfl)); (case hc => exact hcA)) | (apply ev_step; (case hr | hσ => (intros; simp only [go_sem, d1]; try rfl)); (case hc => exact hcA); intro g u; (try clear u); (try clear g)) | fail
  all_goals (refine resR_oneA ?_; simp only [go_sem])
  exact LeA.refl _
set_option maxHeartbeats 8000000 in
theorem f65_bi (T : Dat) (op : Int) (p q : Ex) (hop : (3 ≤ op ∧ op ≤ 7) ∨ (10 ≤ op ∧ op ≤ 12)) (s r t : Ty) (hp : Spec Tryd.prog 65 [.d T, .agg (exA p)] (.agg (tydA s))) (hq : Spec Tryd.prog 65 [.d T, .agg (exA q)] (.agg (tydA r))) (h : Spec Tryd.prog 80 [litI .i64 op, .d (tys [s, r])] (.agg (tydA t))) : Spec Tryd.prog 65 [.d T, .agg (exA (.bi op p q))] (.agg (tydA t)) := by
  have a1 := f53_spec op (by omega)
  have e : arityM op = 2 := by unfold arityM; rw [if_neg (by omega), if_neg (by omega), if_pos hop]
  rw [e] at a1
  simp only [exA, opE_bi, cE_bi, vE_bi, argsD_bi] at hp hq ⊢
  refine spec_of_awp (fn := Tryd.f65) Tryd.func65 (by kernel_rfl) rfl ?_
  intro w0 C0
  simp only [Tryd.ntmps65, go_sem]
  repeat' first | refine awp_seq ?_ | refine awp_block ?_ | refine awp_skip ?_ | (apply regB; (case hd => exact hdA); intro K hK) | (apply ev_guardU; (case hj | hu | hσ => (simp only [go_sem]; try rfl))) | ((first | refine awp_cond _ (by rfl) ?_ ?_ | ((first | apply ev_guardT | apply ev_guardF); (case hj | hb => (simp only [go_sem]; try rfl)))) <;> (first | refine ttA ?_ | refine ffA ?_ | (intro hb; first | (cases hb; done) | simp only [hb] | skip))) | ((first | apply awp_exit | apply awp_ret); refine tqA ?_) | (refine ev_nil (hK _ ?_); clear hK K) | (apply ev_call0; (case hys => (simp only [go_sem]; try rfl)); (case hs => first | exact a1 .. | exact f27_spec ..); (case hok | hσ => (simp only [go_sem]; try rfl))) | (apply regDB; (case hd => exact hdA); (case' h => (intro K hK; (repeat' first | (apply evd_nil; refine (hK _ ?_); clear hK K) | (apply evd_guardU0; (case hj | hu | hσ => (simp only [go_sem]; try rfl))) | (apply evd_guardU; (case hj | hu | hσ => (simp only [go_sem]; try rfl))) | (apply evd_skipT0; (case hj | hb | hσ => (simp only [go_sem]; try rfl))) | (apply evd_skipF0; (case hj | hb | hσ => (simp only [go_sem]; try rfl))) | (apply evd_skipT; (case hj | hb | hσ => (simp only [go_sem]; try rfl))) | (apply evd_skipF; (case hj | hb | hσ => (simp only [go_sem]; try rfl))) | (apply evd_guardT; (case hj | hb => (simp only [go_sem]; try rfl)); (case' h2 => (intro hb; first | (cases hb; done) | (simp only [hb]) | skip)); (case' h1 => (intro hb; first | (cases hb; done) | (simp only [hb]) | skip))) | (apply evd_guardF; (case hj | hb => (simp only [go_sem]; try rfl)); (case' h2 => (intro hb; first | (cases hb; done) | (simp only [hb]) | skip)); (case' h1 => (intro hb; first | (cases hb; done) | (simp only [hb]) | skip))) | (apply evd_call0; (case hi | hys => (simp only [go_sem]; try rfl)); (case hs => first | exact a1 .. | exact f27_spec ..); (case hok | hw | hσ => (simp only [go_sem]; try rfl))) | (apply evd_step0; (case hr | hi | hσ => (simp only [go_sem]; try rfl)); (case hc => exact hcA)) | (apply evd_step; (case hr | hi | hw | hσ => (intros; simp only [go_sem]; try rfl)); (case hc => exact hcA); (case' hk => (intro g u; (try clear u); (try clear g)))) | fail))); (case hB => kernel_rfl)) | (apply ev_step0; (case hr | hσ => (simp only [go_sem]; try rfl)); (case hc => exact hcA)) | (apply ev_step; (case hr | hσ => (intros; simp only [go_sem]; try rfl)); (case hc => exact hcA); intro g u; (try clear u); (try clear g)) | fail
  rename_i g3 _ _ _
  revert g; intro g4
  revert u; intro u0
  refine awp_loopI (fun j : Nat × Value => j.1 ≤ 2) (fun j => 2 - j.1) (fun j => ⟨[.d T, .any, .any, .ptr 3 g3 0, .ptr 4 g4 0, litI .i64 2, .own 37 j.2, litI .i64 (j.1 : Int), .any, .any, .any, .any, .any, .any, .any, .any, .any, .any, .any, .any, .any, .any, .any, .any, .any, .any, .any, .any, .any, .any, .any, .any, .any, .any, .any, .any, .any, .any, .any, .any, .any, .any, .any, .any, .any, .any, .any, .any, .any, .any, .any, .any, .any, .any, .any, .any, .any, .any, .any, .any, .any, .any, .any], [.no, .no, .no, .box g3 (exA (.bi op p q)), .box g4 [litI .i64 0, litI .i64 0, litB false, litI .i64 0], .no, .no, .no, .no, .no, .no, .no, .no, .no, .no, .no, .no, .no, .no, .no, .no, .no, .no, .no, .no, .no, .no, .no, .no, .no, .no, .no, .no, .no, .no, .no, .no, .row j.2 67 3 ((([s, r] : List Ty).take j.1).map tyD), .no, .no, .no, .no, .no, .no, .no, .no, .no, .no, .no, .no, .no, .no, .no, .no, .no, .no, .no, .no, .no, .no, .no, .no, .no]⟩) (0, u0) (by simp) ?_ ?_
  · simp only [exA, opE_bi, cE_bi, vE_bi, argsD_bi, List.take_zero, List.take_succ_cons, List.map_cons, List.map_nil]
    exact wkA
  rintro ⟨j, u⟩ hj
  simp only [litI, litB, litS] at hj hp hq h ⊢
  obtain rfl | rfl | rfl : j = 0 ∨ j = 1 ∨ j = 2 := by omega
  · simp only [exA, opE_bi, cE_bi, vE_bi, argsD_bi, List.take_zero, List.take_succ_cons, List.map_cons, List.map_nil, litI, litB, litS]
    have d1 : decide (((0 : Nat) : Int) < 2) = true := by decide
    have w1 : IntKind.i64.wrap (((0 : Nat) : Int) + 1) = 1 := by decide
    all_goals have H := And.intro d1 w1
    repeat' first | refine awp_seq ?_ | refine awp_block ?_ | refine awp_skip ?_ | (apply regB; (case hd => exact hdA); intro K hK) | (apply ev_guardU; (case hj | hu | hσ => (simp only [go_sem, H]; try rfl))) | ((first | refine awp_cond _ (by rfl) ?_ ?_ | ((first | apply ev_guardT | apply ev_guardF); (case hj | hb => (simp only [go_sem, H]; try rfl)))) <;> (first | refine ttA ?_ | refine ffA ?_ | (intro hb; first | (cases hb; done) | simp only [hb] | skip))) | ((first | apply awp_exit | apply awp_ret); refine tqA ?_) | (refine ev_nil (hK _ ?_); clear hK K) | (apply ev_call0; (case hys => (simp only [go_sem, H]; try rfl)); (case hs => first | exact hp ..); (case hok | hσ => (simp only [go_sem, H]; try rfl))) | (apply ev_step0; (case hr | hσ => (simp only [go_sem, H]; try rfl)); (case hc => exact hcA)) | (apply ev_step; (case hr | hσ => (intros; simp only [go_sem, H]; try rfl)); (case hc => exact hcA); intro g u; (try clear u); (try clear g)) | fail
    all_goals try clear H
    refine Exists.intro (1, u) ⟨by simp, by simp, ?_⟩
    simp only [exA, opE_bi, cE_bi, vE_bi, argsD_bi, List.take_zero, List.take_succ_cons, List.map_cons, List.map_nil]
    exact wkA
  · simp only [exA, opE_bi, cE_bi, vE_bi, argsD_bi, List.take_zero, List.take_succ_cons, List.map_cons, List.map_nil, litI, litB, litS]
    have d1 : decide (((1 : Nat) : Int) < 2) = true := by decide
    have w1 : IntKind.i64.wrap (((1 : Nat) : Int) + 1) = 2 := by decide
    all_goals have H := And.intro d1 w1
    repeat' first | refine awp_seq ?_ | refine awp_block ?_ | refine awp_skip ?_ | (apply regB; (case hd => exact hdA); intro K hK) | (apply ev_guardU; (case hj | hu | hσ => (simp only [go_sem, H]; try rfl))) | ((first | refine awp_cond _ (by rfl) ?_ ?_ | ((first | apply ev_guardT | apply ev_guardF); (case hj | hb => (simp only [go_sem, H]; try rfl)))) <;> (first | refine ttA ?_ | refine ffA ?_ | (intro hb; first | (cases hb; done) | simp only [hb] | skip))) | ((first | apply awp_exit | apply awp_ret); refine tqA ?_) | (refine ev_nil (hK _ ?_); clear hK K) | (apply ev_call0; (case hys => (simp only [go_sem, H]; try rfl)); (case hs => first | exact hq ..); (case hok | hσ => (simp only [go_sem, H]; try rfl))) | (apply ev_step0; (case hr | hσ => (simp only [go_sem, H]; try rfl)); (case hc => exact hcA)) | (apply ev_step; (case hr | hσ => (intros; simp only [go_sem, H]; try rfl)); (case hc => exact hcA); intro g u; (try clear u); (try clear g)) | fail
    all_goals try clear H
    refine Exists.intro (2, u) ⟨by simp, by simp, ?_⟩
    simp only [exA, opE_bi, cE_bi, vE_bi, argsD_bi, List.take_zero, List.take_succ_cons, List.map_cons, List.map_nil]
    exact wkA
  simp only [exA, opE_bi, cE_bi, vE_bi, argsD_bi, List.take_zero, List.take_succ_cons, List.map_cons, List.map_nil, litI, litB, litS]
  have d1 : decide (((2 : Nat) : Int) < 2) = false := by decide
  repeat' first | refine awp_seq ?_ | refine awp_block ?_ | refine awp_skip ?_ | (apply regB; (case hd => exact hdA); intro K hK) | (apply ev_guardU; (case hj | hu | hσ => (simp only [go_sem, d1]; try rfl))) | ((first | refine awp_cond _ (by rfl) ?_ ?_ | ((first | apply ev_guardT | apply ev_guardF); (case hj | hb => (simp only [go_sem, d1]; try rfl)))) <;> (first | refine ttA ?_ | refine ffA ?_ | (intro hb; first | (cases hb; done) | simp only [hb] | skip))) | ((first | apply awp_exit | apply awp_ret); refine tqA ?_) | (refine ev_nil (hK _ ?_); clear hK K) | (apply ev_call0; (case hys => (simp only [go_sem, d1]; try rfl)); (case hs => first | exact h ..); (case hok | hσ => (simp only [go_sem, d1]; try rfl))) | (apply ev_step0; (case hr | hσ => (simp only [go_sem, d1]; try rfl)); (case hc => exact hcA)) | (apply ev_step; (case hr | hσ => (intros; simp only [go_sem, d1]; try rfl)); (case hc => exact hcA); intro g u; (try clear u); (try clear g)) | fail
  all_goals (refine resR_oneA ?_; simp only [go_sem])
  exact LeA.refl _
theorem f64_leaf (op c : Int) (v : Vl) : Spec Tryd.prog 64 [.agg (exA (.leaf op c v))] (litI .i64 ((1 : Nat) : Int)) := by
  simp only [exA, opE, cE, vE, argsD]
  refine spec_of_awp (fn := Tryd.f64) Tryd.func64 (by kernel_rfl) rfl ?_
  intro w0 C0
  simp only [Tryd.ntmps64, go_sem]
  repeat' first | refine awp_seq ?_ | refine awp_block ?_ | refine awp_skip ?_ | (apply regB; (case hd => exact hdA); intro K hK) | ((refine awp_cond _ (by rfl) ?_ ?_) <;> (first | refine ttA ?_ | refine ffA ?_ | (intro hb; first | (cases hb; done) | simp only [hb] | skip))) | ((first | apply awp_exit | apply awp_ret); refine tqA ?_) | (refine ev_nil (hK _ ?_); clear hK K) | (apply ev_step0; (case hr | hσ => (simp only [go_sem]; try rfl)); (case hc => exact hcA)) | (apply ev_step; (case hr | hσ => (intros; simp only [go_sem]; try rfl)); (case hc => exact hcA); intro g u; (try clear u); (try clear g)) | fail
  refine awp_loopI (fun i : Nat => i = 0) (fun i => 0) (fun i => ⟨[.any, .ptr 1 g 0, litI .i64 0, litI .i64 1, litI .i64 0, .any, .any, .any, .any, .any, .any, .any, .any, .any, .any, .any, .any, .any, .any, .any, .any], [.no, .box g (exA (.leaf op c v)), .no, .no, .no, .no, .no, .no, .no, .no, .no, .no, .no, .no, .no, .no, .no, .no, .no, .no, .no]⟩) 0 rfl ?_ ?_
  · simp only [exA, opE, cE, vE, argsD]
    exact wkA
  rintro i rfl
  simp only [litI, litB, litS, exA, opE, cE, vE, argsD]
  repeat' first | refine awp_seq ?_ | refine awp_block ?_ | refine awp_skip ?_ | (apply regB; (case hd => exact hdA); intro K hK) | ((refine awp_cond _ (by rfl) ?_ ?_) <;> (first | refine ttA ?_ | refine ffA ?_ | (intro hb; first | (cases hb; done) | simp only [hb] | skip))) | ((first | apply awp_exit | apply awp_ret); refine tqA ?_) | (refine ev_nil (hK _ ?_); clear hK K) | (apply ev_step0; (case hr | hσ => (simp only [go_sem]; try rfl)); (case hc => exact hcA)) | (apply ev_step; (case hr | hσ => (intros; simp only [go_sem]; try rfl)); (case hc => exact hcA); intro g u; (try clear u); (try clear g)) | fail
  all_goals (refine resR_oneA ?_; simp only [go_sem])
  exact LeA.refl _
set_option maxHeartbeats 4000000 in
theorem f64_un (op : Int) (p : Ex) (m : Nat) (hp : Spec Tryd.prog 64 [.agg (exA p)] (litI .i64 (m : Int))) (bp : m ≤ 1000000) : Spec Tryd.prog 64 [.agg (exA (.un op p))] (litI .i64 ((1 + m : Nat) : Int)) := by
  simp only [exA, opE_un, cE_un, vE_un, argsD_un] at hp ⊢
  refine spec_of_awp (fn := Tryd.f64) Tryd.func64 (by kernel_rfl) rfl ?_
  intro w0 C0
  simp only [Tryd.ntmps64, go_sem]
  repeat' first | refine awp_seq ?_ | refine awp_block ?_ | refine awp_skip ?_ | (apply regB; (case hd => exact hdA); intro K hK) | ((refine awp_cond _ (by rfl) ?_ ?_) <;> (first | refine ttA ?_ | refine ffA ?_ | (intro hb; first | (cases hb; done) | simp only [hb] | skip))) | ((first | apply awp_exit | apply awp_ret); refine tqA ?_) | (refine ev_nil (hK _ ?_); clear hK K) | (apply ev_step0; (case hr | hσ => (simp only [go_sem]; try rfl)); (case hc => exact hcA)) | (apply ev_step; (case hr | hσ => (intros; simp only [go_sem]; try rfl)); (case hc => exact hcA); intro g u; (try clear u); (try clear g)) | fail
  refine awp_loopI (fun i : Nat => i ≤ 1) (fun i => 1 - i) (fun i => ⟨[.any, .ptr 1 g 0, litI .i64 0, litI .i64 (((1 :: ([m] : List Nat).take i).foldl (· + ·) 0 : Nat) : Int), litI .i64 (i : Int), .any, .any, .any, .any, .any, .any, .any, .any, .any, .any, .any, .any, .any, .any, .any, .any], [.no, .box g (exA (.un op p)), .no, .no, .no, .no, .no, .no, .no, .no, .no, .no, .no, .no, .no, .no, .no, .no, .no, .no, .no]⟩) 0 (by omega) ?_ ?_
  · simp only [exA, opE_un, cE_un, vE_un, argsD_un, List.take_zero, List.take_succ_cons, List.take_nil, List.foldl_cons, List.foldl_nil, Nat.zero_add]
    exact wkA
  intro i hi
  simp only [litI, litB, litS] at hi hp ⊢
  obtain rfl | rfl : i = 0 ∨ i = 1 := by omega
  · simp only [exA, opE_un, cE_un, vE_un, argsD_un, List.take_zero, List.take_succ_cons, List.take_nil, List.foldl_cons, List.foldl_nil, Nat.zero_add, litI, litB, litS]
    have d1 : decide (((0 : Nat) : Int) < ((1 : Nat) : Int)) = true := by decide
    have w1 : IntKind.i64.wrap (((0 : Nat) : Int) + 1) = 1 := by decide
    have w2 : IntKind.i64.wrap (((1 : Nat) : Int) + (m : Int)) = ((1 + m : Nat) : Int) := by rw [wrap_id (by omega)]; push_cast; rfl
    all_goals have H := And.intro d1 (And.intro w1 w2)
    repeat' first | refine awp_seq ?_ | refine awp_block ?_ | refine awp_skip ?_ | (apply regB; (case hd => exact hdA); intro K hK) | ((refine awp_cond _ (by rfl) ?_ ?_) <;> (first | refine ttA ?_ | refine ffA ?_ | (intro hb; first | (cases hb; done) | simp only [hb] | skip))) | ((first | apply awp_exit | apply awp_ret); refine tqA ?_) | (refine ev_nil (hK _ ?_); clear hK K) | (apply ev_call0; (case hys => (simp only [go_sem, H]; try rfl)); (case hs => first | exact hp ..); (case hok | hσ => (simp only [go_sem, H]; try rfl))) | (apply ev_step0; (case hr | hσ => (simp only [go_sem, H]; try rfl)); (case hc => exact hcA)) | (apply ev_step; (case hr | hσ => (intros; simp only [go_sem, H]; try rfl)); (case hc => exact hcA); intro g u; (try clear u); (try clear g)) | fail
    all_goals try clear H
    refine Exists.intro 1 ⟨by omega, by omega, ?_⟩
    simp only [exA, opE_un, cE_un, vE_un, argsD_un, List.take_zero, List.take_succ_cons, List.take_nil, List.foldl_cons, List.foldl_nil, Nat.zero_add]
    exact wkA
  simp only [exA, opE_un, cE_un, vE_un, argsD_un, List.take_zero, List.take_succ_cons, List.take_nil, List.foldl_cons, List.foldl_nil, Nat.zero_add, litI, litB, litS]
  have d1 : decide (((1 : Nat) : Int) < ((1 : Nat) : Int)) = false := by decide
  repeat' first | refine awp_seq ?_ | refine awp_block ?_ | refine awp_skip ?_ | (apply regB; (case hd => exact hdA); intro K hK) | ((refine awp_cond _ (by rfl) ?_ ?_) <;> (first | refine ttA ?_ | refine ffA ?_ | (intro hb; first | (cases hb; done) | simp only [hb] | skip))) | ((first | apply awp_exit | apply awp_ret); refine tqA ?_) | (refine ev_nil (hK _ ?_); clear hK K) | (apply ev_step0; (case hr | hσ => (simp only [go_sem, d1]; try rfl)); (case hc => exact hcA)) | (apply ev_step; (case hr | hσ => (intros; simp only [go_sem, d1]; try rfl)); (case hc => exact hcA); intro g u; (try clear u); (try clear g)) | fail
  all_goals (refine resR_oneA ?_; simp only [go_sem])
  exact LeA.refl _
set_option maxHeartbeats 4000000 in
theorem f64_bi (op : Int) (p q : Ex) (m n : Nat) (hp : Spec Tryd.prog 64 [.agg (exA p)] (litI .i64 (m : Int))) (bp : m ≤ 1000000) (hq : Spec Tryd.prog 64 [.agg (exA q)] (litI .i64 (n : Int))) (bq : n ≤ 1000000) : Spec Tryd.prog 64 [.agg (exA (.bi op p q))] (litI .i64 ((1 + m + n : Nat) : Int)) := by
  simp only [exA, opE_bi, cE_bi, vE_bi, argsD_bi] at hp hq ⊢
  refine spec_of_awp (fn := Tryd.f64) Tryd.func64 (by kernel_rfl) rfl ?_
  intro w0 C0
  simp only [Tryd.ntmps64, go_sem]
  repeat' first | refine awp_seq ?_ | refine awp_block ?_ | refine awp_skip ?_ | (apply regB; (case hd => exact hdA); intro K hK) | ((refine awp_cond _ (by rfl) ?_ ?_) <;> (first | refine ttA ?_ | refine ffA ?_ | (intro hb; first | (cases hb; done) | simp only [hb] | skip))) | ((first | apply awp_exit | apply awp_ret); refine tqA ?_) | (refine ev_nil (hK _ ?_); clear hK K) | (apply ev_step0; (case hr | hσ => (simp only [go_sem]; try rfl)); (case hc => exact hcA)) | (apply ev_step; (case hr | hσ => (intros; simp only [go_sem]; try rfl)); (case hc => exact hcA); intro g u; (try clear u); (try clear g)) | fail
  refine awp_loopI (fun i : Nat => i ≤ 2) (fun i => 2 - i) (fun i => ⟨[.any, .ptr 1 g 0, litI .i64 0, litI .i64 (((1 :: ([m, n] : List Nat).take i).foldl (· + ·) 0 : Nat) : Int), litI .i64 (i : Int), .any, .any, .any, .any, .any, .any, .any, .any, .any, .any, .any, .any, .any, .any, .any, .any], [.no, .box g (exA (.bi op p q)), .no, .no, .no, .no, .no, .no, .no, .no, .no, .no, .no, .no, .no, .no, .no, .no, .no, .no, .no]⟩) 0 (by omega) ?_ ?_
  · simp only [exA, opE_bi, cE_bi, vE_bi, argsD_bi, List.take_zero, List.take_succ_cons, List.take_nil, List.foldl_cons, List.foldl_nil, Nat.zero_add]
    exact wkA
  intro i hi
  simp only [litI, litB, litS] at hi hp hq ⊢
  obtain rfl | rfl | rfl : i = 0 ∨ i = 1 ∨ i = 2 := by omega
  · simp only [exA, opE_bi, cE_bi, vE_bi, argsD_bi, List.take_zero, List.take_succ_cons, List.take_nil, List.foldl_cons, List.foldl_nil, Nat.zero_add, litI, litB, litS]
    have d1 : decide (((0 : Nat) : Int) < ((2 : Nat) : Int)) = true := by decide
    have w1 : IntKind.i64.wrap (((0 : Nat) : Int) + 1) = 1 := by decide
    have w2 : IntKind.i64.wrap (((1 : Nat) : Int) + (m : Int)) = ((1 + m : Nat) : Int) := by rw [wrap_id (by omega)]; push_cast; rfl
    all_goals have H := And.intro d1 (And.intro w1 w2)
    repeat' first | refine awp_seq ?_ | refine awp_block ?_ | refine awp_skip ?_ | (apply regB; (case hd => exact hdA); intro K hK) | ((refine awp_cond _ (by rfl) ?_ ?_) <;> (first | refine ttA ?_ | refine ffA ?_ | (intro hb; first | (cases hb; done) | simp only [hb] | skip))) | ((first | apply awp_exit | apply awp_ret); refine tqA ?_) | (refine ev_nil (hK _ ?_); clear hK K) | (apply ev_call0; (case hys => (simp only [go_sem, H]; try rfl)); (case hs => first | exact hp ..); (case hok | hσ => (simp only [go_sem, H]; try rfl))) | (apply ev_step0; (case hr | hσ => (simp only [go_sem, H]; try rfl)); (case hc => exact hcA)) | (apply ev_step; (case hr | hσ => (intros; simp only [go_sem, H]; try rfl)); (case hc => exact hcA); intro g u; (try clear u); (try clear g)) | fail
    all_goals try clear H
    refine Exists.intro 1 ⟨by omega, by omega, ?_⟩
    simp only [exA, opE_bi, cE_bi, vE_bi, argsD_bi, List.take_zero, List.take_succ_cons, List.take_nil, List.foldl_cons, List.foldl_nil, Nat.zero_add]
    exact wkA
  · simp only [exA, opE_bi, cE_bi, vE_bi, argsD_bi, List.take_zero, List.take_succ_cons, List.take_nil, List.foldl_cons, List.foldl_nil, Nat.zero_add, litI, litB, litS]
    have d1 : decide (((1 : Nat) : Int) < ((2 : Nat) : Int)) = true := by decide
    have w1 : IntKind.i64.wrap (((1 : Nat) : Int) + 1) = 2 := by decide
    have w2 : IntKind.i64.wrap (((1 + m : Nat) : Int) + (n : Int)) = ((1 + m + n : Nat) : Int) := by rw [wrap_id (by omega)]; push_cast; rfl
    all_goals have H := And.intro d1 (And.intro w1 w2)
    repeat' first | refine awp_seq ?_ | refine awp_block ?_ | refine awp_skip ?_ | (apply regB; (case hd => exact hdA); intro K hK) | ((refine awp_cond _ (by rfl) ?_ ?_) <;> (first | refine ttA ?_ | refine ffA ?_ | (intro hb; first | (cases hb; done) | simp only [hb] | skip))) | ((first | apply awp_exit | apply awp_ret); refine tqA ?_) | (refine ev_nil (hK _ ?_); clear hK K) | (apply ev_call0; (case hys => (simp only [go_sem, H]; try rfl)); (case hs => first | exact hq ..); (case hok | hσ => (simp only [go_sem, H]; try rfl))) | (apply ev_step0; (case hr | hσ => (simp only [go_sem, H]; try rfl)); (case hc => exact hcA)) | (apply ev_step; (case hr | hσ => (intros; simp only [go_sem, H]; try rfl)); (case hc => exact hcA); intro g u; (try clear u); (try clear g)) | fail
    all_goals try clear H
    refine Exists.intro 2 ⟨by omega, by omega, ?_⟩
    simp only [exA, opE_bi, cE_bi, vE_bi, argsD_bi, List.take_zero, List.take_succ_cons, List.take_nil, List.foldl_cons, List.foldl_nil, Nat.zero_add]
    exact wkA
  simp only [exA, opE_bi, cE_bi, vE_bi, argsD_bi, List.take_zero, List.take_succ_cons, List.take_nil, List.foldl_cons, List.foldl_nil, Nat.zero_add, litI, litB, litS]
  have d1 : decide (((2 : Nat) : Int) < ((2 : Nat) : Int)) = false := by decide
  repeat' first | refine awp_seq ?_ | refine awp_block ?_ | refine awp_skip ?_ | (apply regB; (case hd => exact hdA); intro K hK) | ((refine awp_cond _ (by rfl) ?_ ?_) <;> (first | refine ttA ?_ | refine ffA ?_ | (intro hb; first | (cases hb; done) | simp only [hb] | skip))) | ((first | apply awp_exit | apply awp_ret); refine tqA ?_) | (refine ev_nil (hK _ ?_); clear hK K) | (apply ev_step0; (case hr | hσ => (simp only [go_sem, d1]; try rfl)); (case hc => exact hcA)) | (apply ev_step; (case hr | hσ => (intros; simp only [go_sem, d1]; try rfl)); (case hc => exact hcA); intro g u; (try clear u); (try clear g)) | fail
  all_goals (refine resR_oneA ?_; simp only [go_sem])
  exact LeA.refl _
def sizeE : Ex → Nat
  | .leaf _ _ _ => 1
  | .un _ a => 1 + sizeE a
  | .bi _ a b => 1 + sizeE a + sizeE b
theorem f64_spec : ∀ e : Ex, sizeE e ≤ 1000000 → Spec Tryd.prog 64 [.agg (exA e)] (litI .i64 ((sizeE e : Nat) : Int))
  | .leaf op c v, _ => f64_leaf op c v
  | .un op a, h => by
    simp only [sizeE] at h
    exact f64_un op a _ (f64_spec a (by omega)) (by omega)
  | .bi op a b, h => by
    simp only [sizeE] at h
    exact f64_bi op a b _ _ (f64_spec a (by omega)) (by omega) (f64_spec b (by omega)) (by omega)
theorem f42_spec (T : Dat) (e : Ex) (t : Ty) (hs : sizeE e ≤ 60) (h : Spec Tryd.prog 65 [.d T, .agg (exA e)] (.agg (tydA t))) : Spec Tryd.prog 42 [.d T, .agg (exA e)] (.agg (tydA t)) := by
  have a1 := f64_spec e (by omega)
  have d1 : decide (((sizeE e : Nat) : Int) > 60) = false := decide_eq_false (by omega)
  generalize sizeE e = n at *
  simp only [exA] at a1 h ⊢
  refine spec_of_awp (fn := Tryd.f42) Tryd.func42 (by kernel_rfl) rfl ?_
  intro w0 C0
  simp only [Tryd.ntmps42, go_sem]
  repeat' first | refine awp_seq ?_ | refine awp_block ?_ | refine awp_skip ?_ | (apply regB; (case hd => exact hdA); intro K hK) | ((refine awp_cond _ (by rfl) ?_ ?_) <;> (first | refine ttA ?_ | refine ffA ?_ | (intro hb; first | (cases hb; done) | simp only [hb] | skip))) | ((first | apply awp_exit | apply awp_ret); refine tqA ?_) | (refine ev_nil (hK _ ?_); clear hK K) | (apply ev_call0; (case hys => (simp only [go_sem, d1]; try rfl)); (case hs => first | exact a1 .. | exact h ..); (case hok | hσ => (simp only [go_sem, d1]; try rfl))) | (apply ev_step0; (case hr | hσ => (simp only [go_sem, d1]; try rfl)); (case hc => exact hcA)) | (apply ev_step; (case hr | hσ => (intros; simp only [go_sem, d1]; try rfl)); (case hc => exact hcA); intro g u; (try clear u); (try clear g)) | fail
  all_goals (refine resR_oneA ?_; simp only [go_sem])
  exact LeA.refl _
end
section
set_option linter.unusedVariables false
set_option linter.unusedSimpArgs false
open Go.RowKit
structure KV (k : Int) (v : Vl) : Prop where
  kd : v.k = k
  bool : k = 1 → ∃ b, v = boolV b
  num : k = 2 → -4000000000000000000 ≤ v.i ∧ v.i ≤ 4000000000000000000 ∧ v.s = ⟨#[]⟩
  text : k = 3 → v.i = 0
  size : v.s.size ≤ 4611686018427387904
theorem empty_size : (⟨#[]⟩ : ByteArray).size ≤ 4611686018427387904 := by show (0 : Nat) ≤ _; omega
theorem KV.ofBool (b : Bool) : KV 1 (boolV b) := ⟨rfl, fun _ => ⟨b, rfl⟩, (fun h => by cases h), (fun h => by cases h), empty_size⟩
theorem KV.ofNum {n : Int} (h1 : -4000000000000000000 ≤ n) (h2 : n ≤ 4000000000000000000) : KV 2 ⟨2, n, ⟨#[]⟩⟩ := ⟨rfl, (fun h => by cases h), fun _ => ⟨h1, h2, rfl⟩, (fun h => by cases h), empty_size⟩
theorem noS_eq {s : ByteArray} (h : noS s = true) : s = ⟨#[]⟩ := by
  unfold noS at h
  rw [beq_iff_eq, ByteArray.toList_eq, ByteArray.toList_eq] at h
  cases s
  congr
  exact Array.toList_inj.1 h
theorem KV.ofWide {v : Vl} (h : wideV v = true) (hi : -9223372036854775808 ≤ v.i ∧ v.i ≤ 9223372036854775807) (hk : v.k = 1 ∨ v.k = 2 ∨ v.k = 3) : KV v.k v := by
  obtain ⟨k, i, s⟩ := v
  unfold wideV checkV at h
  simp only at h hi hk ⊢
  rcases hk with rfl | rfl | rfl
  · rw [if_neg (by decide), if_pos rfl, andNot_bool hi, Bool.and_eq_true, decide_eq_true_eq] at h
    have := noS_eq h.2
    subst this
    rcases h.1 with rfl | rfl
    · exact KV.ofBool false
    · exact KV.ofBool true
  · rw [if_neg (by decide), if_neg (by decide), if_pos rfl] at h
    simp only [Bool.and_eq_true, decide_eq_true_eq] at h
    have := noS_eq h.2
    subst this
    exact KV.ofNum h.1.1 h.1.2
  · rw [if_neg (by decide), if_neg (by decide), if_neg (by decide), if_pos rfl] at h
    simp only [Bool.and_eq_true, decide_eq_true_eq, beq_iff_eq] at h
    exact ⟨rfl, (fun h => by cases h), (fun h => by cases h), fun _ => h.1.1, by show s.size ≤ _; omega⟩
inductive Typ (ts : List Ty) : Int → Ex → Prop
  | con {k : Int} {v : Vl} : (k = 1 ∨ k = 2 ∨ k = 3) → KV k v → validV v = true → Typ ts k (.leaf 1 0 v)
  | col (c : Nat) : c < ts.length → Typ ts (ts.getD c dTy).k (.leaf 2 (c : Int) nullV)
  | not {a : Ex} : Typ ts 1 a → Typ ts 1 (.un 8 a)
  | isn {k : Int} {a : Ex} : Typ ts k a → Typ ts 1 (.un 9 a)
  | cmp {op k : Int} {a b : Ex} : (op = 3 ∨ op = 4 ∨ op = 5) → Typ ts k a → Typ ts k b → Typ ts 1 (.bi op a b)
  | log {op : Int} {a b : Ex} : (op = 6 ∨ op = 7) → Typ ts 1 a → Typ ts 1 b → Typ ts 1 (.bi op a b)
  | num {op : Int} {a b : Ex} : (op = 10 ∨ op = 11) → Typ ts 2 a → Typ ts 2 b → Typ ts 2 (.bi op a b)
  | pre {a b : Ex} : Typ ts 3 a → Typ ts 3 b → Typ ts 1 (.bi 12 a b)
theorem typ_spec {ts : List Ty} (hts : ∀ t ∈ ts, TyOk t) (hl : ts.length ≤ 6) {k : Int} {e : Ex} (h : Typ ts k e) : ∃ t : Ty, t.k = k ∧ Spec Tryd.prog 65 [.d (tys ts), .agg (exA e)] (.agg (tydA t)) := by
  induction h with
  | con hk hv hval =>
    obtain ⟨t, h1, h2⟩ := f79_con (tys ts) _ (by rw [hv.kd]; exact hk) hval hv.size
    exact ⟨t, by rw [h1, hv.kd], f65_leaf _ _ _ _ (.inl rfl) t h2⟩
  | col c hc => exact ⟨_, rfl, f65_leaf _ _ _ _ (.inr rfl) _ (f79_col ts c hc (by omega) (hts _ (mem_at ts dTy hc)))⟩
  | not _ ih =>
    obtain ⟨s, h1, h2⟩ := ih
    obtain ⟨t, h3, h4⟩ := f80_spec 8 [s] (.inr (.inr (.inl ⟨rfl, s, rfl, h1⟩)))
    exact ⟨t, h3, f65_un _ _ _ (.inl rfl) s t h2 h4⟩
  | isn _ ih =>
    obtain ⟨s, h1, h2⟩ := ih
    obtain ⟨t, h3, h4⟩ := f80_spec 9 [s] (.inr (.inr (.inr (.inl ⟨rfl, s, rfl⟩))))
    exact ⟨t, h3, f65_un _ _ _ (.inr rfl) s t h2 h4⟩
  | @cmp op k a b hop _ _ ih1 ih2 =>
    obtain ⟨s, h1, h2⟩ := ih1
    obtain ⟨r, h5, h6⟩ := ih2
    obtain ⟨t, h3, h4⟩ := f80_spec op [s, r] (.inl ⟨hop, s, r, rfl, h1.trans h5.symm⟩)
    refine ⟨t, ?_, f65_bi _ _ _ _ (by omega) s r t h2 h6 h4⟩
    rw [h3]; unfold kindR; rw [if_neg (by omega)]
  | @log op a b hop _ _ ih1 ih2 =>
    obtain ⟨s, h1, h2⟩ := ih1
    obtain ⟨r, h5, h6⟩ := ih2
    obtain ⟨t, h3, h4⟩ := f80_spec op [s, r] (.inr (.inl ⟨hop, s, r, rfl, h1, h5⟩))
    refine ⟨t, ?_, f65_bi _ _ _ _ (by omega) s r t h2 h6 h4⟩
    rw [h3]; unfold kindR; rw [if_neg (by omega)]
  | @num op a b hop _ _ ih1 ih2 =>
    obtain ⟨s, h1, h2⟩ := ih1
    obtain ⟨r, h5, h6⟩ := ih2
    obtain ⟨t, h3, h4⟩ := f80_spec op [s, r] (.inr (.inr (.inr (.inr (.inl ⟨hop, s, r, rfl, h1, h5⟩)))))
    refine ⟨t, ?_, f65_bi _ _ _ _ (by omega) s r t h2 h6 h4⟩
    rw [h3]; unfold kindR; rw [if_pos (by omega)]
  | pre _ _ ih1 ih2 =>
    obtain ⟨s, h1, h2⟩ := ih1
    obtain ⟨r, h5, h6⟩ := ih2
    obtain ⟨t, h3, h4⟩ := f80_spec 12 [s, r] (.inr (.inr (.inr (.inr (.inr ⟨rfl, s, r, rfl, h1, h5⟩)))))
    refine ⟨t, ?_, f65_bi _ _ _ _ (by omega) s r t h2 h6 h4⟩
    rw [h3]; rfl
end
section
set_option linter.unusedVariables false
set_option linter.unusedSimpArgs false
open Go.RowKit
attribute [local irreducible] Spec SpecF SpecN
attribute [local irreducible] AWp evOps evD
abbrev curA (b : List Int) (n : Nat) : List AV := [.d (bytesD b), litI .i64 (n : Int)]
set_option maxHeartbeats 4000000 in
theorem f54_bool (ts : List Ty) (d : Int) (b : List Int) (n m : Nat) (e : Ex) (hn : n ≤ 100000) (hb : ∀ x ∈ b, 0 ≤ x ∧ x < 256) (hd : d > 0) (hx : (b.getD n 0).tmod 4 > 0) (h : Spec Tryd.prog 33 [.d (tys ts), litI .i64 d, .agg (curA b (n + 1))] (.agg (grA e b m))) : Spec Tryd.prog 54 [.d (tys ts), .agg [litI .i64 1, litI .i64 d], .agg (curA b n)] (.agg (grA e b m)) := by
  have a1 := f51_spec b n (by omega) hb
  have a2 := f52_spec b n 1 (by omega)
  have d1 := decide_eq_true hd
  have d2 := decide_eq_true hx
  rw [show ((1 : Nat) : Int) = 1 from rfl] at a2
  generalize b.getD n 0 = x at *
  simp only [grA, curA, exA, List.cons_append, List.nil_append] at h ⊢
  refine spec_of_awp (fn := Tryd.f54) Tryd.func54 (by kernel_rfl) rfl ?_
  intro w0 C0
  simp only [Tryd.ntmps54, go_sem]
  all_goals have H := And.intro d1 d2
  repeat' first | refine awp_seq ?_ | refine awp_block ?_ | refine awp_skip ?_ | (apply regB; (case hd => exact hdA); intro K hK) | (apply ev_guardU; (case hj | hu | hσ => (simp only [go_sem, H]; try rfl))) | ((first | refine awp_cond _ (by rfl) ?_ ?_ | ((first | apply ev_guardT | apply ev_guardF); (case hj | hb => (simp only [go_sem, H]; try rfl)))) <;> (first | refine ttA ?_ | refine ffA ?_ | (intro hb; first | (cases hb; done) | simp only [hb] | skip))) | ((first | apply awp_exit | apply awp_ret); refine tqA ?_) | (refine ev_nil (hK _ ?_); clear hK K) | (apply ev_call0; (case hys => (simp only [go_sem, H]; try rfl)); (case hs => first | exact a1 .. | exact a2 .. | exact h ..); (case hok | hσ => (simp only [go_sem, H]; try rfl))) | (apply ev_step0; (case hr | hσ => (simp only [go_sem, H]; try rfl)); (case hc => exact hcA)) | (apply ev_step; (case hr | hσ => (intros; simp only [go_sem, H]; try rfl)); (case hc => exact hcA); intro g u; (try clear u); (try clear g)) | fail
  all_goals try clear H
  all_goals (refine resR_oneA ?_; simp only [go_sem])
  exact LeA.refl _
set_option maxHeartbeats 4000000 in
theorem f54_num (ts : List Ty) (d : Int) (b : List Int) (n m1 m2 : Nat) (e1 e2 : Ex) (hn : n ≤ 100000) (hb : ∀ x ∈ b, 0 ≤ x ∧ x < 256) (hd : 0 < d ∧ d ≤ 100) (hx : (b.getD n 0).tmod 5 = 4) (h1 : Spec Tryd.prog 54 [.d (tys ts), .agg [litI .i64 2, litI .i64 (d - 1)], .agg (curA b (n + 1))] (.agg (grA e1 b m1)))
    (h2 : Spec Tryd.prog 54 [.d (tys ts), .agg [litI .i64 2, litI .i64 (d - 1)], .agg (curA b m1)] (.agg (grA e2 b m2))) : ∃ op : Int, (op = 10 ∨ op = 11) ∧ Spec Tryd.prog 54 [.d (tys ts), .agg [litI .i64 2, litI .i64 d], .agg (curA b n)] (.agg (grA (.bi op e1 e2) b m2)) := by
  have a1 := f51_spec b n (by omega) hb
  have a2 := f52_spec b n 1 (by omega)
  have hm := byte_mem hb n
  have d1 := decide_eq_true (show d > 0 from hd.1)
  have d2 : ((b.getD n 0).tmod 5 == 4) = true := by simpa using hx
  have w1 : IntKind.i64.wrap (d - 1) = d - 1 := wrap_id (by omega)
  rw [show ((1 : Nat) : Int) = 1 from rfl] at a2
  generalize b.getD n 0 = x at *
  have t5 : 0 ≤ x.tdiv 5 ∧ x.tdiv 5 ≤ 51 := by rw [Int.tdiv_eq_ediv_of_nonneg hm.1]; omega
  have w2 : IntKind.i64.wrap (x.tdiv 5) = x.tdiv 5 := wrap_id (by omega)
  generalize hy : x.tdiv 5 = y at *
  have t2 := Int.tmod_nonneg 2 t5.1
  have t3 := Int.tmod_lt_of_pos y (b := 2) (by decide)
  simp only [grA, curA, exA, List.cons_append, List.nil_append, opE_bi, cE_bi, vE_bi, argsD_bi] at h1 h2 ⊢
  obtain hq | hq : y.tmod 2 = 0 ∨ y.tmod 2 = 1 := by omega
  · refine ⟨10, .inl rfl, ?_⟩
    refine spec_of_awp (fn := Tryd.f54) Tryd.func54 (by kernel_rfl) rfl ?_
    intro w0 C0
    simp only [Tryd.ntmps54, go_sem]
    all_goals have H := And.intro d1 (And.intro d2 (And.intro w1 (And.intro w2 (And.intro hy hq))))
    repeat' first | refine awp_seq ?_ | refine awp_block ?_ | refine awp_skip ?_ | (apply regB; (case hd => exact hdA); intro K hK) | (apply ev_guardU; (case hj | hu | hσ => (simp only [go_sem, H]; try rfl))) | ((first | refine awp_cond _ (by rfl) ?_ ?_ | ((first | apply ev_guardT | apply ev_guardF); (case hj | hb => (simp only [go_sem, H]; try rfl)))) <;> (first | refine ttA ?_ | refine ffA ?_ | (intro hb; first | (cases hb; done) | simp only [hb] | skip))) | ((first | apply awp_exit | apply awp_ret); refine tqA ?_) | (refine ev_nil (hK _ ?_); clear hK K) | (apply ev_call0; (case hys => (simp only [go_sem, H]; try rfl)); (case hs => first | exact a1 .. | exact a2 .. | exact h1 .. | exact h2 ..); (case hok | hσ => (simp only [go_sem, H]; try rfl))) | (apply regDB; (case hd => exact hdA); (case' h => (intro K hK; (repeat' first | (apply evd_nil; refine (hK _ ?_); clear hK K) | (apply evd_step0; (case hr | hi | hσ => (simp only [go_sem, H]; try rfl)); (case hc => exact hcA)) | (apply evd_step; (case hr | hi | hw | hσ => (intros; simp only [go_sem, H]; try rfl)); (case hc => exact hcA); (case' hk => (intro g u; (try clear u); (try clear g)))) | fail))); (case hB => kernel_rfl)) | (apply ev_step0; (case hr | hσ => (simp only [go_sem, H]; try rfl)); (case hc => exact hcA)) | (apply ev_step; (case hr | hσ => (intros; simp only [go_sem, H]; try rfl)); (case hc => exact hcA); intro g u; (try clear u); (try clear g)) | fail
    all_goals try clear H
    all_goals (refine resR_oneA ?_; simp only [go_sem])
    exact LeA.refl _
  · refine ⟨11, .inr rfl, ?_⟩
    refine spec_of_awp (fn := Tryd.f54) Tryd.func54 (by kernel_rfl) rfl ?_
    intro w0 C0
    simp only [Tryd.ntmps54, go_sem]
    all_goals have H := And.intro d1 (And.intro d2 (And.intro w1 (And.intro w2 (And.intro hy hq))))
    repeat' first | refine awp_seq ?_ | refine awp_block ?_ | refine awp_skip ?_ | (apply regB; (case hd => exact hdA); intro K hK) | (apply ev_guardU; (case hj | hu | hσ => (simp only [go_sem, H]; try rfl))) | ((first | refine awp_cond _ (by rfl) ?_ ?_ | ((first | apply ev_guardT | apply ev_guardF); (case hj | hb => (simp only [go_sem, H]; try rfl)))) <;> (first | refine ttA ?_ | refine ffA ?_ | (intro hb; first | (cases hb; done) | simp only [hb] | skip))) | ((first | apply awp_exit | apply awp_ret); refine tqA ?_) | (refine ev_nil (hK _ ?_); clear hK K) | (apply ev_call0; (case hys => (simp only [go_sem, H]; try rfl)); (case hs => first | exact a1 .. | exact a2 .. | exact h1 .. | exact h2 ..); (case hok | hσ => (simp only [go_sem, H]; try rfl))) | (apply regDB; (case hd => exact hdA); (case' h => (intro K hK; (repeat' first | (apply evd_nil; refine (hK _ ?_); clear hK K) | (apply evd_step0; (case hr | hi | hσ => (simp only [go_sem, H]; try rfl)); (case hc => exact hcA)) | (apply evd_step; (case hr | hi | hw | hσ => (intros; simp only [go_sem, H]; try rfl)); (case hc => exact hcA); (case' hk => (intro g u; (try clear u); (try clear g)))) | fail))); (case hB => kernel_rfl)) | (apply ev_step0; (case hr | hσ => (simp only [go_sem, H]; try rfl)); (case hc => exact hcA)) | (apply ev_step; (case hr | hσ => (intros; simp only [go_sem, H]; try rfl)); (case hc => exact hcA); intro g u; (try clear u); (try clear g)) | fail
    all_goals try clear H
    all_goals (refine resR_oneA ?_; simp only [go_sem])
    exact LeA.refl _
end
end Go.Proofs.YtopigomfhggkoaaDoor.A
