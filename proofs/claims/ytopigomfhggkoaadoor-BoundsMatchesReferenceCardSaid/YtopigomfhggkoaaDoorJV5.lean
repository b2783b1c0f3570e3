/- Types of expressions: the small walks. Valid and wide values in the reference: the walks. The order of values. -/
import Derived.Test.YtopigomfhggkoaaDoorJV4
import Derived.Test.YtopigomfhggkoaaDoorJV1
import Derived.Test.YtopigomfhggkoaaDoorJV3
namespace Go.Proofs.YtopigomfhggkoaaDoor.A
section
set_option linter.unusedVariables false
set_option linter.unusedSimpArgs false
open Go.RowKit
attribute [local irreducible] Spec SpecF SpecN
attribute [local irreducible] AWp evOps evD
theorem f87_spec (n : Nat) (hn : n ≤ 6) : Spec Tryd.prog 87 [litI .i64 (n : Int)] (litB true) := by
  have d1 : decide ((n : Int) ≥ 0) = true := decide_eq_true (by omega)
  have d2 : decide ((n : Int) ≤ 6) = true := decide_eq_true (by omega)
  refine spec_of_awp (fn := Tryd.f87) Tryd.func87 (by kernel_rfl) rfl ?_
  intro w0 C0
  simp only [Tryd.ntmps87, go_sem]
  all_goals have H := And.intro d1 d2
  repeat' first | refine awp_seq ?_ | (apply regB; (case hd => exact hdA); intro K hK) | (apply ev_guardU; (case hj | hu | hσ => (simp only [go_sem, H]; try rfl))) | ((((first | apply ev_guardT | apply ev_guardF); (case hj | hb => (simp only [go_sem, H]; try rfl)))) <;> (first | refine ttA ?_ | refine ffA ?_ | (intro hb; first | (cases hb; done) | simp only [hb] | skip))) | (apply awp_ret; refine tqA ?_) | (refine ev_nil (hK _ ?_); clear hK K) | (apply ev_step0; (case hr | hσ => (simp only [go_sem, H]; try rfl)); (case hc => exact hcA)) | (apply ev_step; (case hr | hσ => (intros; simp only [go_sem, H]; try rfl)); (case hc => exact hcA); intro g u; (try clear u); (try clear g)) | fail
  all_goals try clear H
  all_goals (refine resR_oneA ?_; simp only [go_sem])
  exact LeA.refl _
def stepD (n : Nat) : Int := (10 : Int) ^ (6 - n)
theorem pow_bd : ∀ k : Nat, k ≤ 6 → 0 < (10 : Int) ^ k ∧ (10 : Int) ^ k ≤ 1000000
  | 0, _ => by decide
  | 1, _ => by decide
  | 2, _ => by decide
  | 3, _ => by decide
  | 4, _ => by decide
  | 5, _ => by decide
  | 6, _ => by decide
  | n + 7, h => by omega
theorem f88_spec (n : Nat) (hn : n ≤ 6) : Spec Tryd.prog 88 [litI .i64 (n : Int)] (litI .i64 (stepD n)) := by
  refine spec_of_awp (fn := Tryd.f88) Tryd.func88 (by kernel_rfl) rfl ?_
  intro w0 C0
  simp only [Tryd.ntmps88, go_sem]
  repeat' first | refine awp_seq ?_ | refine awp_block ?_ | refine awp_skip ?_ | (apply regB; (case hd => exact hdA); intro K hK) | ((refine awp_cond _ (by rfl) ?_ ?_) <;> (first | refine ttA ?_ | refine ffA ?_ | (intro hb; first | (cases hb; done) | simp only [hb] | skip))) | ((first | apply awp_exit | apply awp_ret); refine tqA ?_) | (refine ev_nil (hK _ ?_); clear hK K) | (apply ev_step0; (case hr | hσ => (simp only [go_sem]; try rfl)); (case hc => exact hcA)) | (apply ev_step; (case hr | hσ => (intros; simp only [go_sem]; try rfl)); (case hc => exact hcA); intro g u; (try clear u); (try clear g)) | fail
  refine awp_loopI (fun i : Nat => n ≤ i ∧ i ≤ 6) (fun i => 6 - i) (fun i => ⟨[litI .i64 (n : Int), .any, litI .i64 0, litI .i64 ((10 : Int) ^ (i - n)), litI .i64 (i : Int), .any, .any, .any, .any, .any, .any, .any, .any], [.no, .no, .no, .no, .no, .no, .no, .no, .no, .no, .no, .no, .no]⟩) n ⟨by omega, by omega⟩ ?_ ?_
  · rw [Nat.sub_self, Int.pow_zero]
    exact wkA
  rintro i ⟨hi, hi6⟩
  simp only [litI, litB] at hi hi6 ⊢
  by_cases h : i < 6
  · have d1 : decide ((i : Int) < 6) = true := decide_eq_true (by omega)
    have hp := pow_bd (i - n) (by omega)
    have e : (10 : Int) ^ (i + 1 - n) = 10 * (10 : Int) ^ (i - n) := by
      rw [show i + 1 - n = (i - n) + 1 by omega, Int.pow_succ, Int.mul_comm]
    generalize (10 : Int) ^ (i - n) = p at *
    have w1 : IntKind.i64.wrap (10 * p) = 10 * p := wrap_id (by omega)
    have w2 : IntKind.i64.wrap ((i : Int) + 1) = ((i + 1 : Nat) : Int) := by rw [wrap_id (by omega)]; push_cast; rfl
    all_goals have H := And.intro d1 (And.intro w1 w2)
    repeat' first | refine awp_seq ?_ | refine awp_block ?_ | refine awp_skip ?_ | (apply regB; (case hd => exact hdA); intro K hK) | ((refine awp_cond _ (by rfl) ?_ ?_) <;> (first | refine ttA ?_ | refine ffA ?_ | (intro hb; first | (cases hb; done) | simp only [hb] | skip))) | ((first | apply awp_exit | apply awp_ret); refine tqA ?_) | (refine ev_nil (hK _ ?_); clear hK K) | (apply ev_step0; (case hr | hσ => (simp only [go_sem, H]; try rfl)); (case hc => exact hcA)) | (apply ev_step; (case hr | hσ => (intros; simp only [go_sem, H]; try rfl)); (case hc => exact hcA); intro g u; (try clear u); (try clear g)) | fail
    all_goals try clear H
    refine Exists.intro (i + 1) ⟨⟨by omega, by omega⟩, by omega, ?_⟩
    rw [e]
    exact wkA
  · have d1 : decide ((i : Int) < 6) = false := decide_eq_false (by omega)
    have hi : i = 6 := by omega
    subst hi
    unfold stepD
    repeat' first | refine awp_seq ?_ | refine awp_block ?_ | refine awp_skip ?_ | (apply regB; (case hd => exact hdA); intro K hK) | ((refine awp_cond _ (by rfl) ?_ ?_) <;> (first | refine ttA ?_ | refine ffA ?_ | (intro hb; first | (cases hb; done) | simp only [hb] | skip))) | ((first | apply awp_exit | apply awp_ret); refine tqA ?_) | (refine ev_nil (hK _ ?_); clear hK K) | (apply ev_step0; (case hr | hσ => (simp only [go_sem, d1]; try rfl)); (case hc => exact hcA)) | (apply ev_step; (case hr | hσ => (intros; simp only [go_sem, d1]; try rfl)); (case hc => exact hcA); intro g u; (try clear u); (try clear g)) | fail
    all_goals (refine resR_oneA ?_; simp only [go_sem])
    exact LeA.refl _
def fitsM (x : Int) (n : Nat) : Bool := x.tmod (stepD n) == 0
theorem f86_spec (x : Int) (n : Nat) (hn : n ≤ 6) : Spec Tryd.prog 86 [litI .i64 x, litI .i64 (n : Int)] (litB (fitsM x n)) := by
  have a1 := f87_spec n hn
  have a2 := f88_spec n hn
  have hp : 0 < stepD n := (pow_bd (6 - n) (by omega)).1
  unfold fitsM
  generalize stepD n = d at *
  have hd : ¬ d = 0 := by omega
  refine spec_of_awp (fn := Tryd.f86) Tryd.func86 (by kernel_rfl) rfl ?_
  intro w0 C0
  simp only [Tryd.ntmps86, go_sem]
  repeat' first | refine awp_seq ?_ | (apply regB; (case hd => exact hdA); intro K hK) | (apply ev_guardU; (case hj | hu | hσ => (simp only [go_sem, hd]; try rfl))) | ((((first | apply ev_guardT | apply ev_guardF); (case hj | hb => (simp only [go_sem, hd]; try rfl)))) <;> (first | refine ttA ?_ | refine ffA ?_ | (intro hb; first | (cases hb; done) | simp only [hb] | skip))) | (apply awp_ret; refine tqA ?_) | (refine ev_nil (hK _ ?_); clear hK K) | (apply ev_call0; (case hys => (simp only [go_sem, hd]; try rfl)); (case hs => first | exact a1 .. | exact a2 ..); (case hok | hσ => (simp only [go_sem, hd]; try rfl))) | (apply ev_step0; (case hr | hσ => (simp only [go_sem, hd]; try rfl)); (case hc => exact hcA)) | (apply ev_step; (case hr | hσ => (intros; simp only [go_sem, hd]; try rfl)); (case hc => exact hcA); intro g u; (try clear u); (try clear g)) | fail
  all_goals (refine resR_oneA ?_; simp only [go_sem])
  exact LeA.refl _
def leastM (x : Int) : List Nat → Int
  | [] => 6
  | s :: l => if fitsM x s = true then (s : Int) else leastM x l
theorem f84_spec (x : Int) : Spec Tryd.prog 84 [litI .i64 x] (litI .i64 (leastM x (List.range 6))) := by
  refine spec_of_awp (fn := Tryd.f84) Tryd.func84 (by kernel_rfl) rfl ?_
  intro w0 C0
  simp only [Tryd.ntmps84, go_sem]
  repeat' first | refine awp_seq ?_ | refine awp_block ?_ | refine awp_skip ?_ | (apply regB; (case hd => exact hdA); intro K hK) | ((refine awp_cond _ (by rfl) ?_ ?_) <;> (first | refine ttA ?_ | refine ffA ?_ | (intro hb; first | (cases hb; done) | simp only [hb] | skip))) | ((first | apply awp_exit | apply awp_ret); refine tqA ?_) | (refine ev_nil (hK _ ?_); clear hK K) | (apply ev_step0; (case hr | hσ => (simp only [go_sem]; try rfl)); (case hc => exact hcA)) | (apply ev_step; (case hr | hσ => (intros; simp only [go_sem]; try rfl)); (case hc => exact hcA); intro g u; (try clear u); (try clear g)) | fail
  refine awp_loopI (fun i : Nat => i ≤ 6 ∧ leastM x (List.range 6) = leastM x ((List.range 6).drop i)) (fun i => 6 - i) (fun i => ⟨[litI .i64 x, .any, litI .i64 0, litI .i64 (i : Int), .any, .any, .any, .any, .any, .any, .any, .any], [.no, .no, .no, .no, .no, .no, .no, .no, .no, .no, .no, .no]⟩) 0 ⟨by omega, rfl⟩ ?_ ?_
  · exact wkA
  rintro i ⟨hi6, hf⟩
  simp only [litI, litB] at hi6 hf ⊢
  by_cases h : i < 6
  · have d1 : decide ((i : Int) < 6) = true := decide_eq_true (by omega)
    have a1 := f86_spec x i (by omega)
    have w2 : IntKind.i64.wrap ((i : Int) + 1) = ((i + 1 : Nat) : Int) := by rw [wrap_id (by omega)]; push_cast; rfl
    rw [drop_at (List.range 6) 0 (by simpa using h), show (List.range 6).getD i 0 = i by simp [List.getD_eq_getElem?_getD, h], leastM] at hf
    cases hq : fitsM x i with
    | true =>
      rw [hq] at a1
      rw [hq, if_pos rfl] at hf
      repeat' first | refine awp_seq ?_ | refine awp_block ?_ | refine awp_skip ?_ | (apply regB; (case hd => exact hdA); intro K hK) | ((refine awp_cond _ (by rfl) ?_ ?_) <;> (first | refine ttA ?_ | refine ffA ?_ | (intro hb; first | (cases hb; done) | simp only [hb] | skip))) | ((first | apply awp_exit | apply awp_ret); refine tqA ?_) | (refine ev_nil (hK _ ?_); clear hK K) | (apply ev_call0; (case hys => (simp only [go_sem, d1]; try rfl)); (case hs => first | exact a1 ..); (case hok | hσ => (simp only [go_sem, d1]; try rfl))) | (apply ev_step0; (case hr | hσ => (simp only [go_sem, d1]; try rfl)); (case hc => exact hcA)) | (apply ev_step; (case hr | hσ => (intros; simp only [go_sem, d1]; try rfl)); (case hc => exact hcA); intro g u; (try clear u); (try clear g)) | fail
      all_goals (refine resR_oneA ?_; simp only [go_sem])
      exact LeA.i hf.symm
    | false =>
      rw [hq] at a1
      rw [hq, if_neg (by decide)] at hf
      all_goals have H := And.intro d1 w2
      repeat' first | refine awp_seq ?_ | refine awp_block ?_ | refine awp_skip ?_ | (apply regB; (case hd => exact hdA); intro K hK) | ((refine awp_cond _ (by rfl) ?_ ?_) <;> (first | refine ttA ?_ | refine ffA ?_ | (intro hb; first | (cases hb; done) | simp only [hb] | skip))) | ((first | apply awp_exit | apply awp_ret); refine tqA ?_) | (refine ev_nil (hK _ ?_); clear hK K) | (apply ev_call0; (case hys => (simp only [go_sem, H]; try rfl)); (case hs => first | exact a1 ..); (case hok | hσ => (simp only [go_sem, H]; try rfl))) | (apply ev_step0; (case hr | hσ => (simp only [go_sem, H]; try rfl)); (case hc => exact hcA)) | (apply ev_step; (case hr | hσ => (intros; simp only [go_sem, H]; try rfl)); (case hc => exact hcA); intro g u; (try clear u); (try clear g)) | fail
      all_goals try clear H
      refine Exists.intro (i + 1) ⟨⟨by omega, hf⟩, by omega, ?_⟩
      exact wkA
  · have d1 : decide ((i : Int) < 6) = false := decide_eq_false (by omega)
    rw [List.drop_eq_nil_of_le (by simp; omega), leastM] at hf
    repeat' first | refine awp_seq ?_ | refine awp_block ?_ | refine awp_skip ?_ | (apply regB; (case hd => exact hdA); intro K hK) | ((refine awp_cond _ (by rfl) ?_ ?_) <;> (first | refine ttA ?_ | refine ffA ?_ | (intro hb; first | (cases hb; done) | simp only [hb] | skip))) | ((first | apply awp_exit | apply awp_ret); refine tqA ?_) | (refine ev_nil (hK _ ?_); clear hK K) | (apply ev_step0; (case hr | hσ => (simp only [go_sem, d1]; try rfl)); (case hc => exact hcA)) | (apply ev_step; (case hr | hσ => (intros; simp only [go_sem, d1]; try rfl)); (case hc => exact hcA); intro g u; (try clear u); (try clear g)) | fail
    all_goals (refine resR_oneA ?_; simp only [go_sem])
    exact LeA.i hf.symm
theorem f85_spec (l : List Ty) (k : Int) (h : ∀ t ∈ l, t.k = k) : Spec Tryd.prog 85 [.d (tys l), litI .i64 k] (litB true) := by
  refine spec_of_awp (fn := Tryd.f85) Tryd.func85 (by kernel_rfl) rfl ?_
  intro w0 C0
  simp only [Tryd.ntmps85, go_sem]
  refine awp_len 0 rfl fun hl => ?_
  simp only [List.length_map] at hl
  repeat' first | refine awp_seq ?_ | refine awp_block ?_ | refine awp_skip ?_ | (apply regB; (case hd => exact hdA); intro K hK) | ((refine awp_cond _ (by rfl) ?_ ?_) <;> (first | refine ttA ?_ | refine ffA ?_ | (intro hb; first | (cases hb; done) | simp only [hb] | skip))) | ((first | apply awp_exit | apply awp_ret); refine tqA ?_) | (refine ev_nil (hK _ ?_); clear hK K) | (apply ev_step0; (case hr | hσ => (simp only [go_sem]; try rfl)); (case hc => exact hcA)) | (apply ev_step; (case hr | hσ => (intros; simp only [go_sem]; try rfl)); (case hc => exact hcA); intro g u; (try clear u); (try clear g)) | fail
  refine awp_loopI (fun i : Nat => i ≤ l.length) (fun i => l.length - i) (fun i => ⟨[.d (tys l), litI .i64 k, .any, .any, litB false, litI .i64 (i : Int), .any, .any, .any, .any, .any, .any, .any, .any, .any, .any, .any, .any, .any], [.no, .no, .no, .no, .no, .no, .no, .no, .no, .no, .no, .no, .no, .no, .no, .no, .no, .no, .no]⟩) 0 (by omega) ?_ ?_
  · exact wkA
  intro i hi
  simp only [litI, litB] at hi ⊢
  by_cases hlt : i < l.length
  rotate_left
  have hdec : decide ((i : Int) < (l.length : Int)) = false := by simp; omega
  · repeat' first | refine awp_seq ?_ | refine awp_block ?_ | refine awp_skip ?_ | (apply regB; (case hd => exact hdA); intro K hK) | ((refine awp_cond _ (by rfl) ?_ ?_) <;> (first | refine ttA ?_ | refine ffA ?_ | (intro hb; first | (cases hb; done) | simp only [hb] | skip))) | ((first | apply awp_exit | apply awp_ret); refine tqA ?_) | (refine ev_nil (hK _ ?_); clear hK K) | (apply ev_step0; (case hr | hσ => (simp only [go_sem, hdec]; try rfl)); (case hc => exact hcA)) | (apply ev_step; (case hr | hσ => (intros; simp only [go_sem, hdec]; try rfl)); (case hc => exact hcA); intro g u; (try clear u); (try clear g)) | fail
    all_goals (refine resR_oneA ?_; simp only [go_sem])
    exact LeA.refl _
  have hdec : decide ((i : Int) < (l.length : Int)) = true := by simp; omega
  have hx := tys_at l hlt
  have hk := h _ (mem_at l dTy hlt)
  generalize l.getD i dTy = t at *
  have d2 : (t.k != k) = false := by rw [hk]; simp
  all_goals have H := And.intro hdec (And.intro hx d2)
  repeat' first | refine awp_seq ?_ | refine awp_block ?_ | refine awp_skip ?_ | (apply regB; (case hd => exact hdA); intro K hK) | ((refine awp_cond _ (by rfl) ?_ ?_) <;> (first | refine ttA ?_ | refine ffA ?_ | (intro hb; first | (cases hb; done) | simp only [hb] | skip))) | ((first | apply awp_exit | apply awp_ret); refine tqA ?_) | (refine ev_nil (hK _ ?_); clear hK K) | (apply ev_step0; (case hr | hσ => (simp only [go_sem, H]; try rfl)); (case hc => exact hcA)) | (apply ev_step; (case hr | hσ => (intros; simp only [go_sem, H]; try rfl)); (case hc => exact hcA); intro g u; (try clear u); (try clear g)) | fail
  all_goals try clear H
  refine Exists.intro (i + 1) ⟨by omega, by omega, ?_⟩
  exact wkA
structure TyOk (t : Ty) : Prop where
  k : t.k = 1 ∨ t.k = 2 ∨ t.k = 3
  scale : 0 ≤ t.scale ∧ t.scale ≤ 6
  none : t.k ≠ 2 → t.scale = 0
theorem f83_spec (t : Ty) (h : TyOk t) : Spec Tryd.prog 83 [.agg (tyA t)] (litB true) := by
  obtain ⟨k, sc, nu⟩ := t
  obtain ⟨hk, hs, hn⟩ := h
  simp only at hk hs hn
  have d1 : decide (sc ≥ 0) = true := decide_eq_true (by omega)
  have d2 : decide (sc ≤ 6) = true := decide_eq_true (by omega)
  rcases hk with rfl | rfl | rfl
  · have := hn (by decide)
    subst this
    refine spec_of_awp (fn := Tryd.f83) Tryd.func83 (by kernel_rfl) rfl ?_
    intro w0 C0
    simp only [Tryd.ntmps83, go_sem]
    repeat' first | refine awp_seq ?_ | refine awp_block ?_ | refine awp_skip ?_ | (apply regB; (case hd => exact hdA); intro K hK) | (apply ev_guardU; (case hj | hu | hσ => (simp only [go_sem]; try rfl))) | ((first | refine awp_cond _ (by rfl) ?_ ?_ | ((first | apply ev_guardT | apply ev_guardF); (case hj | hb => (simp only [go_sem]; try rfl)))) <;> (first | refine ttA ?_ | refine ffA ?_ | (intro hb; first | (cases hb; done) | simp only [hb] | skip))) | ((first | apply awp_exit | apply awp_ret); refine tqA ?_) | (refine ev_nil (hK _ ?_); clear hK K) | (apply ev_step0; (case hr | hσ => (simp only [go_sem]; try rfl)); (case hc => exact hcA)) | (apply ev_step; (case hr | hσ => (intros; simp only [go_sem]; try rfl)); (case hc => exact hcA); intro g u; (try clear u); (try clear g)) | fail
    all_goals (refine resR_oneA ?_; simp only [go_sem])
    exact LeA.refl _
  · refine spec_of_awp (fn := Tryd.f83) Tryd.func83 (by kernel_rfl) rfl ?_
    intro w0 C0
    simp only [Tryd.ntmps83, go_sem]
    all_goals have H := And.intro d1 d2
    repeat' first | refine awp_seq ?_ | refine awp_block ?_ | refine awp_skip ?_ | (apply regB; (case hd => exact hdA); intro K hK) | (apply ev_guardU; (case hj | hu | hσ => (simp only [go_sem, H]; try rfl))) | ((first | refine awp_cond _ (by rfl) ?_ ?_ | ((first | apply ev_guardT | apply ev_guardF); (case hj | hb => (simp only [go_sem, H]; try rfl)))) <;> (first | refine ttA ?_ | refine ffA ?_ | (intro hb; first | (cases hb; done) | simp only [hb] | skip))) | ((first | apply awp_exit | apply awp_ret); refine tqA ?_) | (refine ev_nil (hK _ ?_); clear hK K) | (apply ev_step0; (case hr | hσ => (simp only [go_sem, H]; try rfl)); (case hc => exact hcA)) | (apply ev_step; (case hr | hσ => (intros; simp only [go_sem, H]; try rfl)); (case hc => exact hcA); intro g u; (try clear u); (try clear g)) | fail
    all_goals try clear H
    all_goals (refine resR_oneA ?_; simp only [go_sem])
    exact LeA.refl _
  · have := hn (by decide)
    subst this
    refine spec_of_awp (fn := Tryd.f83) Tryd.func83 (by kernel_rfl) rfl ?_
    intro w0 C0
    simp only [Tryd.ntmps83, go_sem]
    repeat' first | refine awp_seq ?_ | refine awp_block ?_ | refine awp_skip ?_ | (apply regB; (case hd => exact hdA); intro K hK) | (apply ev_guardU; (case hj | hu | hσ => (simp only [go_sem]; try rfl))) | ((first | refine awp_cond _ (by rfl) ?_ ?_ | ((first | apply ev_guardT | apply ev_guardF); (case hj | hb => (simp only [go_sem]; try rfl)))) <;> (first | refine ttA ?_ | refine ffA ?_ | (intro hb; first | (cases hb; done) | simp only [hb] | skip))) | ((first | apply awp_exit | apply awp_ret); refine tqA ?_) | (refine ev_nil (hK _ ?_); clear hK K) | (apply ev_step0; (case hr | hσ => (simp only [go_sem]; try rfl)); (case hc => exact hcA)) | (apply ev_step; (case hr | hσ => (intros; simp only [go_sem]; try rfl)); (case hc => exact hcA); intro g u; (try clear u); (try clear g)) | fail
    all_goals (refine resR_oneA ?_; simp only [go_sem])
    exact LeA.refl _
end
section
set_option linter.unusedVariables false
set_option linter.unusedSimpArgs false
open Go.RowKit
attribute [local irreducible] Spec SpecF SpecN
attribute [local irreducible] AWp evOps evD
theorem f76_spec (s : ByteArray) (hs : s.size ≤ 4611686018427387904) : Spec Tryd.prog 76 [litS s] (litB (graphicB s)) := by
  have hl : (bs s).length = s.size := by simp
  refine spec_of_awp (fn := Tryd.f76) Tryd.func76 (by kernel_rfl) rfl ?_
  intro w0 C0
  simp only [Tryd.ntmps76, go_sem]
  repeat' first | refine awp_seq ?_ | refine awp_block ?_ | refine awp_skip ?_ | (apply regB; (case hd => exact hdA); intro K hK) | (apply ev_guardU; (case hj | hu | hσ => (simp only [go_sem]; try rfl))) | ((first | refine awp_cond _ (by rfl) ?_ ?_ | ((first | apply ev_guardT | apply ev_guardF); (case hj | hb => (simp only [go_sem]; try rfl)))) <;> (first | refine ttA ?_ | refine ffA ?_ | (intro hb; first | (cases hb; done) | simp only [hb] | skip))) | ((first | apply awp_exit | apply awp_ret); refine tqA ?_) | (refine ev_nil (hK _ ?_); clear hK K) | (apply ev_step0; (case hr | hσ => (simp only [go_sem]; try rfl)); (case hc => exact hcA)) | (apply ev_step; (case hr | hσ => (intros; simp only [go_sem]; try rfl)); (case hc => exact hcA); intro g u; (try clear u); (try clear g)) | fail
  refine awp_loopI (fun i : Nat => i ≤ s.size ∧ graphicB s = ((bs s).drop i).all plainB) (fun i => s.size - i) (fun i => ⟨[litS s, .any, litB false, litI .i64 i, .any, .any, .any, .any, .any, .any, .any, .any, .any, .any, .any, .any, .any, .any, .any, .any], [.no, .no, .no, .no, .no, .no, .no, .no, .no, .no, .no, .no, .no, .no, .no, .no, .no, .no, .no, .no]⟩) 0 ⟨by omega, rfl⟩ ?_ ?_
  · exact wkA
  rintro i ⟨hi, hfi⟩
  simp only [litI, litB, litS] at hi hfi ⊢
  by_cases hlt : i < s.size
  rotate_left
  have hdec : decide ((i : Int) < (s.size : Int)) = false := by simp; omega
  · repeat' first | refine awp_seq ?_ | refine awp_block ?_ | refine awp_skip ?_ | (apply regB; (case hd => exact hdA); intro K hK) | (apply ev_guardU; (case hj | hu | hσ => (simp only [go_sem, hdec]; try rfl))) | ((first | refine awp_cond _ (by rfl) ?_ ?_ | ((first | apply ev_guardT | apply ev_guardF); (case hj | hb => (simp only [go_sem, hdec]; try rfl)))) <;> (first | refine ttA ?_ | refine ffA ?_ | (intro hb; first | (cases hb; done) | simp only [hb] | skip))) | ((first | apply awp_exit | apply awp_ret); refine tqA ?_) | (refine ev_nil (hK _ ?_); clear hK K) | (apply ev_step0; (case hr | hσ => (simp only [go_sem, hdec]; try rfl)); (case hc => exact hcA)) | (apply ev_step; (case hr | hσ => (intros; simp only [go_sem, hdec]; try rfl)); (case hc => exact hcA); intro g u; (try clear u); (try clear g)) | fail
    all_goals (refine resR_oneA ?_; simp only [go_sem])
    refine LeA.b ?_
    rw [hfi, List.drop_eq_nil_of_le (by omega)]; rfl
  have hdec : decide ((i : Int) < (s.size : Int)) = true := by simp; omega
  have hx := byteAt_nat s i
  rw [drop_at (bs s) 0 (by omega), List.all_cons] at hfi
  generalize (bs s).getD i 0 = x at *
  have e1 : (32 ≤ x) ↔ 32 ≤ x.toNat := UInt8.le_iff_toNat_le
  have e2 : (x ≤ 126) ↔ x.toNat ≤ 126 := UInt8.le_iff_toNat_le
  by_cases h1 : (x.toNat : Int) < 32
  · have d1 : decide ((x.toNat : Int) < 32) = true := decide_eq_true h1
    have hp : plainB x = false := by simp [plainB, e1]; omega
    all_goals have H := And.intro hdec (And.intro hx d1)
    repeat' first | refine awp_seq ?_ | refine awp_block ?_ | refine awp_skip ?_ | (apply regB; (case hd => exact hdA); intro K hK) | (apply ev_guardU; (case hj | hu | hσ => (simp only [go_sem, H]; try rfl))) | ((first | refine awp_cond _ (by rfl) ?_ ?_ | ((first | apply ev_guardT | apply ev_guardF); (case hj | hb => (simp only [go_sem, H]; try rfl)))) <;> (first | refine ttA ?_ | refine ffA ?_ | (intro hb; first | (cases hb; done) | simp only [hb] | skip))) | ((first | apply awp_exit | apply awp_ret); refine tqA ?_) | (refine ev_nil (hK _ ?_); clear hK K) | (apply ev_step0; (case hr | hσ => (simp only [go_sem, H]; try rfl)); (case hc => exact hcA)) | (apply ev_step; (case hr | hσ => (intros; simp only [go_sem, H]; try rfl)); (case hc => exact hcA); intro g u; (try clear u); (try clear g)) | fail
    all_goals try clear H
    all_goals (refine resR_oneA ?_; simp only [go_sem])
    refine LeA.b ?_
    rw [hfi, hp]; rfl
  · have d1 : decide ((x.toNat : Int) < 32) = false := decide_eq_false h1
    by_cases h2 : 126 < (x.toNat : Int)
    · have d2 : decide ((126 : Int) < (x.toNat : Int)) = true := decide_eq_true h2
      have hp : plainB x = false := by simp [plainB, e2]; omega
      all_goals have H := And.intro hdec (And.intro hx (And.intro d1 d2))
      repeat' first | refine awp_seq ?_ | refine awp_block ?_ | refine awp_skip ?_ | (apply regB; (case hd => exact hdA); intro K hK) | (apply ev_guardU; (case hj | hu | hσ => (simp only [go_sem, H]; try rfl))) | ((first | refine awp_cond _ (by rfl) ?_ ?_ | ((first | apply ev_guardT | apply ev_guardF); (case hj | hb => (simp only [go_sem, H]; try rfl)))) <;> (first | refine ttA ?_ | refine ffA ?_ | (intro hb; first | (cases hb; done) | simp only [hb] | skip))) | ((first | apply awp_exit | apply awp_ret); refine tqA ?_) | (refine ev_nil (hK _ ?_); clear hK K) | (apply ev_step0; (case hr | hσ => (simp only [go_sem, H]; try rfl)); (case hc => exact hcA)) | (apply ev_step; (case hr | hσ => (intros; simp only [go_sem, H]; try rfl)); (case hc => exact hcA); intro g u; (try clear u); (try clear g)) | fail
      all_goals try clear H
      all_goals (refine resR_oneA ?_; simp only [go_sem])
      refine LeA.b ?_
      rw [hfi, hp]; rfl
    · have d2 : decide ((126 : Int) < (x.toNat : Int)) = false := decide_eq_false h2
      have hp : plainB x = true := by simp [plainB, e1, e2]; omega
      all_goals have H := And.intro hdec (And.intro hx (And.intro d1 d2))
      repeat' first | refine awp_seq ?_ | refine awp_block ?_ | refine awp_skip ?_ | (apply regB; (case hd => exact hdA); intro K hK) | (apply ev_guardU; (case hj | hu | hσ => (simp only [go_sem, H]; try rfl))) | ((first | refine awp_cond _ (by rfl) ?_ ?_ | ((first | apply ev_guardT | apply ev_guardF); (case hj | hb => (simp only [go_sem, H]; try rfl)))) <;> (first | refine ttA ?_ | refine ffA ?_ | (intro hb; first | (cases hb; done) | simp only [hb] | skip))) | ((first | apply awp_exit | apply awp_ret); refine tqA ?_) | (refine ev_nil (hK _ ?_); clear hK K) | (apply ev_step0; (case hr | hσ => (simp only [go_sem, H]; try rfl)); (case hc => exact hcA)) | (apply ev_step; (case hr | hσ => (intros; simp only [go_sem, H]; try rfl)); (case hc => exact hcA); intro g u; (try clear u); (try clear g)) | fail
      all_goals try clear H
      refine Exists.intro (i + 1) ⟨⟨by omega, ?_⟩, by omega, ?_⟩
      · rw [hfi, hp]; rfl
      · exact wkA
def numB (v : Vl) (m : Int) : Bool := if v.k = 2 then (if noS v.s = true then (if -m ≤ v.i then decide (v.i ≤ m) else false) else false) else false
theorem f57_spec (v : Vl) (m : Int) (hm : 0 ≤ m ∧ m < 9223372036854775808) : Spec Tryd.prog 57 [.agg (vl v), litI .i64 m] (litB (numB v m)) := by
  have w1 : IntKind.i64.wrap (0 - m) = -m := by rw [Int.zero_sub]; exact wrap_id (by omega)
  have hq : (v.s.toList == (⟨#[]⟩ : ByteArray).toList) = noS v.s := rfl
  unfold numB
  by_cases h1 : v.k = 2
  · have d1 : (v.k == 2) = true := by simpa using h1
    rw [if_pos h1]
    cases h2 : noS v.s with
    | true =>
      rw [h2] at hq
      rw [if_pos rfl]
      by_cases h3 : -m ≤ v.i
      · have d3 : decide (v.i ≥ -m) = true := decide_eq_true h3
        rw [if_pos h3]
        refine spec_of_awp (fn := Tryd.f57) Tryd.func57 (by kernel_rfl) rfl ?_
        intro w0 C0
        simp only [Tryd.ntmps57, go_sem]
        all_goals have H := And.intro d1 (And.intro hq (And.intro d3 w1))
        repeat' first | refine awp_seq ?_ | (apply regB; (case hd => exact hdA); intro K hK) | (apply ev_guardU; (case hj | hu | hσ => (simp only [go_sem, H]; try rfl))) | ((((first | apply ev_guardT | apply ev_guardF); (case hj | hb => (simp only [go_sem, H]; try rfl)))) <;> (first | refine ttA ?_ | refine ffA ?_ | (intro hb; first | (cases hb; done) | simp only [hb] | skip))) | (apply awp_ret; refine tqA ?_) | (refine ev_nil (hK _ ?_); clear hK K) | (apply ev_step0; (case hr | hσ => (simp only [go_sem, H]; try rfl)); (case hc => exact hcA)) | (apply ev_step; (case hr | hσ => (intros; simp only [go_sem, H]; try rfl)); (case hc => exact hcA); intro g u; (try clear u); (try clear g)) | fail
        all_goals try clear H
        all_goals (refine resR_oneA ?_; simp only [go_sem])
        exact LeA.refl _
      · have d3 : decide (v.i ≥ -m) = false := decide_eq_false h3
        rw [if_neg h3]
        refine spec_of_awp (fn := Tryd.f57) Tryd.func57 (by kernel_rfl) rfl ?_
        intro w0 C0
        simp only [Tryd.ntmps57, go_sem]
        all_goals have H := And.intro d1 (And.intro hq (And.intro d3 w1))
        repeat' first | refine awp_seq ?_ | (apply regB; (case hd => exact hdA); intro K hK) | (apply ev_guardU; (case hj | hu | hσ => (simp only [go_sem, H]; try rfl))) | ((((first | apply ev_guardT | apply ev_guardF); (case hj | hb => (simp only [go_sem, H]; try rfl)))) <;> (first | refine ttA ?_ | refine ffA ?_ | (intro hb; first | (cases hb; done) | simp only [hb] | skip))) | (apply awp_ret; refine tqA ?_) | (refine ev_nil (hK _ ?_); clear hK K) | (apply ev_step0; (case hr | hσ => (simp only [go_sem, H]; try rfl)); (case hc => exact hcA)) | (apply ev_step; (case hr | hσ => (intros; simp only [go_sem, H]; try rfl)); (case hc => exact hcA); intro g u; (try clear u); (try clear g)) | fail
        all_goals try clear H
        all_goals (refine resR_oneA ?_; simp only [go_sem])
        exact LeA.refl _
    | false =>
      rw [h2] at hq
      rw [if_neg (by decide)]
      refine spec_of_awp (fn := Tryd.f57) Tryd.func57 (by kernel_rfl) rfl ?_
      intro w0 C0
      simp only [Tryd.ntmps57, go_sem]
      all_goals have H := And.intro d1 (And.intro hq w1)
      repeat' first | refine awp_seq ?_ | (apply regB; (case hd => exact hdA); intro K hK) | (apply ev_guardU; (case hj | hu | hσ => (simp only [go_sem, H]; try rfl))) | ((((first | apply ev_guardT | apply ev_guardF); (case hj | hb => (simp only [go_sem, H]; try rfl)))) <;> (first | refine ttA ?_ | refine ffA ?_ | (intro hb; first | (cases hb; done) | simp only [hb] | skip))) | (apply awp_ret; refine tqA ?_) | (refine ev_nil (hK _ ?_); clear hK K) | (apply ev_step0; (case hr | hσ => (simp only [go_sem, H]; try rfl)); (case hc => exact hcA)) | (apply ev_step; (case hr | hσ => (intros; simp only [go_sem, H]; try rfl)); (case hc => exact hcA); intro g u; (try clear u); (try clear g)) | fail
      all_goals try clear H
      all_goals (refine resR_oneA ?_; simp only [go_sem])
      exact LeA.refl _
  · have d1 : (v.k == 2) = false := by simpa using h1
    rw [if_neg h1]
    refine spec_of_awp (fn := Tryd.f57) Tryd.func57 (by kernel_rfl) rfl ?_
    intro w0 C0
    simp only [Tryd.ntmps57, go_sem]
    all_goals have H := And.intro d1 w1
    repeat' first | refine awp_seq ?_ | (apply regB; (case hd => exact hdA); intro K hK) | (apply ev_guardU; (case hj | hu | hσ => (simp only [go_sem, H]; try rfl))) | ((((first | apply ev_guardT | apply ev_guardF); (case hj | hb => (simp only [go_sem, H]; try rfl)))) <;> (first | refine ttA ?_ | refine ffA ?_ | (intro hb; first | (cases hb; done) | simp only [hb] | skip))) | (apply awp_ret; refine tqA ?_) | (refine ev_nil (hK _ ?_); clear hK K) | (apply ev_step0; (case hr | hσ => (simp only [go_sem, H]; try rfl)); (case hc => exact hcA)) | (apply ev_step; (case hr | hσ => (intros; simp only [go_sem, H]; try rfl)); (case hc => exact hcA); intro g u; (try clear u); (try clear g)) | fail
    all_goals try clear H
    all_goals (refine resR_oneA ?_; simp only [go_sem])
    exact LeA.refl _
def validV (v : Vl) : Bool :=
  if v.k = 0 then (if v.i = 0 then noS v.s else false)
  else if v.k = 1 then (if v.i = 0 ∨ v.i = 1 then noS v.s else false)
  else if v.k = 3 then (if v.i = 0 then (if (v.s.size : Int) ≤ 40 then graphicB v.s else false) else false)
  else numB v 1000000000000000
theorem f56_spec (v : Vl) (hs : v.s.size ≤ 4611686018427387904) : Spec Tryd.prog 56 [.agg (vl v)] (litB (validV v)) := by
  have a1 := f76_spec v.s hs
  have a2 := f57_spec v 1000000000000000 (by decide)
  have hq : (v.s.toList == (⟨#[]⟩ : ByteArray).toList) = noS v.s := rfl
  unfold validV
  generalize noS v.s = ns at *
  generalize numB v 1000000000000000 = nb at *
  obtain ⟨k, i, s⟩ := v
  simp only at *
  by_cases h0 : k = 0
  · subst h0
    rw [if_pos rfl]
    by_cases h1 : i = 0
    · have d1 : (i == 0) = true := by simpa using h1
      rw [if_pos h1]
      refine spec_of_awp (fn := Tryd.f56) Tryd.func56 (by kernel_rfl) rfl ?_
      intro w0 C0
      simp only [Tryd.ntmps56, go_sem]
      all_goals have H := And.intro d1 hq
      repeat' first | refine awp_seq ?_ | refine awp_block ?_ | refine awp_skip ?_ | (apply regB; (case hd => exact hdA); intro K hK) | (apply ev_guardU; (case hj | hu | hσ => (simp only [go_sem, H]; try rfl))) | ((first | refine awp_cond _ (by rfl) ?_ ?_ | ((first | apply ev_guardT | apply ev_guardF); (case hj | hb => (simp only [go_sem, H]; try rfl)))) <;> (first | refine ttA ?_ | refine ffA ?_ | (intro hb; first | (cases hb; done) | simp only [hb] | skip))) | ((first | apply awp_exit | apply awp_ret); refine tqA ?_) | (refine ev_nil (hK _ ?_); clear hK K) | (apply ev_step0; (case hr | hσ => (simp only [go_sem, H]; try rfl)); (case hc => exact hcA)) | (apply ev_step; (case hr | hσ => (intros; simp only [go_sem, H]; try rfl)); (case hc => exact hcA); intro g u; (try clear u); (try clear g)) | fail
      all_goals try clear H
      all_goals (refine resR_oneA ?_; simp only [go_sem])
      exact LeA.refl _
    · have d1 : (i == 0) = false := by simpa using h1
      rw [if_neg h1]
      refine spec_of_awp (fn := Tryd.f56) Tryd.func56 (by kernel_rfl) rfl ?_
      intro w0 C0
      simp only [Tryd.ntmps56, go_sem]
      repeat' first | refine awp_seq ?_ | refine awp_block ?_ | refine awp_skip ?_ | (apply regB; (case hd => exact hdA); intro K hK) | (apply ev_guardU; (case hj | hu | hσ => (simp only [go_sem, d1]; try rfl))) | ((first | refine awp_cond _ (by rfl) ?_ ?_ | ((first | apply ev_guardT | apply ev_guardF); (case hj | hb => (simp only [go_sem, d1]; try rfl)))) <;> (first | refine ttA ?_ | refine ffA ?_ | (intro hb; first | (cases hb; done) | simp only [hb] | skip))) | ((first | apply awp_exit | apply awp_ret); refine tqA ?_) | (refine ev_nil (hK _ ?_); clear hK K) | (apply ev_step0; (case hr | hσ => (simp only [go_sem, d1]; try rfl)); (case hc => exact hcA)) | (apply ev_step; (case hr | hσ => (intros; simp only [go_sem, d1]; try rfl)); (case hc => exact hcA); intro g u; (try clear u); (try clear g)) | fail
      all_goals (refine resR_oneA ?_; simp only [go_sem])
      exact LeA.refl _
  have d0 : (k == 0) = false := by simpa using h0
  rw [if_neg h0]
  by_cases h1 : k = 1
  · subst h1
    rw [if_pos rfl]
    by_cases h2 : i = 0
    · have d2 : (i == 0) = true := by simpa using h2
      rw [if_pos (.inl h2)]
      refine spec_of_awp (fn := Tryd.f56) Tryd.func56 (by kernel_rfl) rfl ?_
      intro w0 C0
      simp only [Tryd.ntmps56, go_sem]
      all_goals have H := And.intro d2 hq
      repeat' first | refine awp_seq ?_ | refine awp_block ?_ | refine awp_skip ?_ | (apply regB; (case hd => exact hdA); intro K hK) | (apply ev_guardU; (case hj | hu | hσ => (simp only [go_sem, H]; try rfl))) | ((first | refine awp_cond _ (by rfl) ?_ ?_ | ((first | apply ev_guardT | apply ev_guardF); (case hj | hb => (simp only [go_sem, H]; try rfl)))) <;> (first | refine ttA ?_ | refine ffA ?_ | (intro hb; first | (cases hb; done) | simp only [hb] | skip))) | ((first | apply awp_exit | apply awp_ret); refine tqA ?_) | (refine ev_nil (hK _ ?_); clear hK K) | (apply ev_step0; (case hr | hσ => (simp only [go_sem, H]; try rfl)); (case hc => exact hcA)) | (apply ev_step; (case hr | hσ => (intros; simp only [go_sem, H]; try rfl)); (case hc => exact hcA); intro g u; (try clear u); (try clear g)) | fail
      all_goals try clear H
      all_goals (refine resR_oneA ?_; simp only [go_sem])
      exact LeA.refl _
    have d2 : (i == 0) = false := by simpa using h2
    by_cases h3 : i = 1
    · have d3 : (i == 1) = true := by simpa using h3
      rw [if_pos (.inr h3)]
      refine spec_of_awp (fn := Tryd.f56) Tryd.func56 (by kernel_rfl) rfl ?_
      intro w0 C0
      simp only [Tryd.ntmps56, go_sem]
      all_goals have H := And.intro d2 (And.intro d3 hq)
      repeat' first | refine awp_seq ?_ | refine awp_block ?_ | refine awp_skip ?_ | (apply regB; (case hd => exact hdA); intro K hK) | (apply ev_guardU; (case hj | hu | hσ => (simp only [go_sem, H]; try rfl))) | ((first | refine awp_cond _ (by rfl) ?_ ?_ | ((first | apply ev_guardT | apply ev_guardF); (case hj | hb => (simp only [go_sem, H]; try rfl)))) <;> (first | refine ttA ?_ | refine ffA ?_ | (intro hb; first | (cases hb; done) | simp only [hb] | skip))) | ((first | apply awp_exit | apply awp_ret); refine tqA ?_) | (refine ev_nil (hK _ ?_); clear hK K) | (apply ev_step0; (case hr | hσ => (simp only [go_sem, H]; try rfl)); (case hc => exact hcA)) | (apply ev_step; (case hr | hσ => (intros; simp only [go_sem, H]; try rfl)); (case hc => exact hcA); intro g u; (try clear u); (try clear g)) | fail
      all_goals try clear H
      all_goals (refine resR_oneA ?_; simp only [go_sem])
      exact LeA.refl _
    · have d3 : (i == 1) = false := by simpa using h3
      rw [if_neg (by omega)]
      refine spec_of_awp (fn := Tryd.f56) Tryd.func56 (by kernel_rfl) rfl ?_
      intro w0 C0
      simp only [Tryd.ntmps56, go_sem]
      all_goals have H := And.intro d2 d3
      repeat' first | refine awp_seq ?_ | refine awp_block ?_ | refine awp_skip ?_ | (apply regB; (case hd => exact hdA); intro K hK) | (apply ev_guardU; (case hj | hu | hσ => (simp only [go_sem, H]; try rfl))) | ((first | refine awp_cond _ (by rfl) ?_ ?_ | ((first | apply ev_guardT | apply ev_guardF); (case hj | hb => (simp only [go_sem, H]; try rfl)))) <;> (first | refine ttA ?_ | refine ffA ?_ | (intro hb; first | (cases hb; done) | simp only [hb] | skip))) | ((first | apply awp_exit | apply awp_ret); refine tqA ?_) | (refine ev_nil (hK _ ?_); clear hK K) | (apply ev_step0; (case hr | hσ => (simp only [go_sem, H]; try rfl)); (case hc => exact hcA)) | (apply ev_step; (case hr | hσ => (intros; simp only [go_sem, H]; try rfl)); (case hc => exact hcA); intro g u; (try clear u); (try clear g)) | fail
      all_goals try clear H
      all_goals (refine resR_oneA ?_; simp only [go_sem])
      exact LeA.refl _
  have d1 : (k == 1) = false := by simpa using h1
  rw [if_neg h1]
  by_cases h2 : k = 3
  · subst h2
    rw [if_pos rfl]
    by_cases h3 : i = 0
    · have d3 : (i == 0) = true := by simpa using h3
      rw [if_pos h3]
      by_cases h4 : (s.size : Int) ≤ 40
      · have d4 : decide ((s.size : Int) ≤ 40) = true := decide_eq_true h4
        rw [if_pos h4]
        refine spec_of_awp (fn := Tryd.f56) Tryd.func56 (by kernel_rfl) rfl ?_
        intro w0 C0
        simp only [Tryd.ntmps56, go_sem]
        all_goals have H := And.intro d3 d4
        repeat' first | refine awp_seq ?_ | refine awp_block ?_ | refine awp_skip ?_ | (apply regB; (case hd => exact hdA); intro K hK) | (apply ev_guardU; (case hj | hu | hσ => (simp only [go_sem, H]; try rfl))) | ((first | refine awp_cond _ (by rfl) ?_ ?_ | ((first | apply ev_guardT | apply ev_guardF); (case hj | hb => (simp only [go_sem, H]; try rfl)))) <;> (first | refine ttA ?_ | refine ffA ?_ | (intro hb; first | (cases hb; done) | simp only [hb] | skip))) | ((first | apply awp_exit | apply awp_ret); refine tqA ?_) | (refine ev_nil (hK _ ?_); clear hK K) | (apply ev_call0; (case hys => (simp only [go_sem, H]; try rfl)); (case hs => first | exact a1 ..); (case hok | hσ => (simp only [go_sem, H]; try rfl))) | (apply ev_step0; (case hr | hσ => (simp only [go_sem, H]; try rfl)); (case hc => exact hcA)) | (apply ev_step; (case hr | hσ => (intros; simp only [go_sem, H]; try rfl)); (case hc => exact hcA); intro g u; (try clear u); (try clear g)) | fail
        all_goals try clear H
        all_goals (refine resR_oneA ?_; simp only [go_sem])
        exact LeA.refl _
      · have d4 : decide ((s.size : Int) ≤ 40) = false := decide_eq_false h4
        rw [if_neg h4]
        refine spec_of_awp (fn := Tryd.f56) Tryd.func56 (by kernel_rfl) rfl ?_
        intro w0 C0
        simp only [Tryd.ntmps56, go_sem]
        all_goals have H := And.intro d3 d4
        repeat' first | refine awp_seq ?_ | refine awp_block ?_ | refine awp_skip ?_ | (apply regB; (case hd => exact hdA); intro K hK) | (apply ev_guardU; (case hj | hu | hσ => (simp only [go_sem, H]; try rfl))) | ((first | refine awp_cond _ (by rfl) ?_ ?_ | ((first | apply ev_guardT | apply ev_guardF); (case hj | hb => (simp only [go_sem, H]; try rfl)))) <;> (first | refine ttA ?_ | refine ffA ?_ | (intro hb; first | (cases hb; done) | simp only [hb] | skip))) | ((first | apply awp_exit | apply awp_ret); refine tqA ?_) | (refine ev_nil (hK _ ?_); clear hK K) | (apply ev_step0; (case hr | hσ => (simp only [go_sem, H]; try rfl)); (case hc => exact hcA)) | (apply ev_step; (case hr | hσ => (intros; simp only [go_sem, H]; try rfl)); (case hc => exact hcA); intro g u; (try clear u); (try clear g)) | fail
        all_goals try clear H
        all_goals (refine resR_oneA ?_; simp only [go_sem])
        exact LeA.refl _
    · have d3 : (i == 0) = false := by simpa using h3
      rw [if_neg h3]
      refine spec_of_awp (fn := Tryd.f56) Tryd.func56 (by kernel_rfl) rfl ?_
      intro w0 C0
      simp only [Tryd.ntmps56, go_sem]
      repeat' first | refine awp_seq ?_ | refine awp_block ?_ | refine awp_skip ?_ | (apply regB; (case hd => exact hdA); intro K hK) | (apply ev_guardU; (case hj | hu | hσ => (simp only [go_sem, d3]; try rfl))) | ((first | refine awp_cond _ (by rfl) ?_ ?_ | ((first | apply ev_guardT | apply ev_guardF); (case hj | hb => (simp only [go_sem, d3]; try rfl)))) <;> (first | refine ttA ?_ | refine ffA ?_ | (intro hb; first | (cases hb; done) | simp only [hb] | skip))) | ((first | apply awp_exit | apply awp_ret); refine tqA ?_) | (refine ev_nil (hK _ ?_); clear hK K) | (apply ev_step0; (case hr | hσ => (simp only [go_sem, d3]; try rfl)); (case hc => exact hcA)) | (apply ev_step; (case hr | hσ => (intros; simp only [go_sem, d3]; try rfl)); (case hc => exact hcA); intro g u; (try clear u); (try clear g)) | fail
      all_goals (refine resR_oneA ?_; simp only [go_sem])
      exact LeA.refl _
  have d2 : (k == 3) = false := by simpa using h2
  rw [if_neg h2]
  refine spec_of_awp (fn := Tryd.f56) Tryd.func56 (by kernel_rfl) rfl ?_
  intro w0 C0
  simp only [Tryd.ntmps56, go_sem]
  all_goals have H := And.intro d0 (And.intro d1 d2)
  repeat' first | refine awp_seq ?_ | refine awp_block ?_ | refine awp_skip ?_ | (apply regB; (case hd => exact hdA); intro K hK) | (apply ev_guardU; (case hj | hu | hσ => (simp only [go_sem, H]; try rfl))) | ((first | refine awp_cond _ (by rfl) ?_ ?_ | ((first | apply ev_guardT | apply ev_guardF); (case hj | hb => (simp only [go_sem, H]; try rfl)))) <;> (first | refine ttA ?_ | refine ffA ?_ | (intro hb; first | (cases hb; done) | simp only [hb] | skip))) | ((first | apply awp_exit | apply awp_ret); refine tqA ?_) | (refine ev_nil (hK _ ?_); clear hK K) | (apply ev_call0; (case hys => (simp only [go_sem, H]; try rfl)); (case hs => first | exact a2 ..); (case hok | hσ => (simp only [go_sem, H]; try rfl))) | (apply ev_step0; (case hr | hσ => (simp only [go_sem, H]; try rfl)); (case hc => exact hcA)) | (apply ev_step; (case hr | hσ => (intros; simp only [go_sem, H]; try rfl)); (case hc => exact hcA); intro g u; (try clear u); (try clear g)) | fail
  all_goals try clear H
  all_goals (refine resR_oneA ?_; simp only [go_sem])
  exact LeA.refl _
theorem andNot_bool {i : Int} (h : -9223372036854775808 ≤ i ∧ i ≤ 9223372036854775807) : (andNotI .i64 i 1 == 0) = (decide (i = 0 ∨ i = 1)) := by
  by_cases h1 : i = 0 ∨ i = 1
  · rw [decide_eq_true h1]
    rcases h1 with rfl | rfl <;> decide
  · rw [decide_eq_false h1]
    rw [beq_eq_false_iff_ne]
    intro h0
    apply h1
    have h0 : IntKind.i64.wrap (((BitVec.ofInt 64 i &&& ~~~ BitVec.ofInt 64 1).toNat : Nat) : Int) = 0 := h0
    have hb := (BitVec.ofInt 64 i &&& ~~~ BitVec.ofInt 64 1).isLt
    rw [IntKind.wrap_i64] at h0
    generalize hN : (BitVec.ofInt 64 i &&& ~~~ BitVec.ofInt 64 1).toNat = N at h0 hb
    have hz : (BitVec.ofInt 64 i &&& ~~~ BitVec.ofInt 64 1).toNat = 0 := by rw [hN]; omega
    have hz' : BitVec.ofInt 64 i &&& ~~~ BitVec.ofInt 64 1 = 0#64 := BitVec.eq_of_toNat_eq (by rw [hz]; rfl)
    have e : BitVec.ofInt 64 i = BitVec.ofInt 64 i &&& BitVec.ofInt 64 1 := by
      have h2 : BitVec.ofInt 64 i &&& BitVec.ofInt 64 1 ||| BitVec.ofInt 64 i &&& ~~~ BitVec.ofInt 64 1 = BitVec.ofInt 64 i := by
        rw [← BitVec.and_or_distrib_left, BitVec.or_not_self, BitVec.and_allOnes]
      rw [hz', BitVec.or_zero] at h2
      exact h2.symm
    have e2 := congrArg BitVec.toNat e
    rw [BitVec.toNat_and, show (BitVec.ofInt 64 1).toNat = 1 from rfl, Nat.and_one_is_mod, BitVec.toNat_ofInt] at e2
    have e3 := Nat.mod_lt (i % ((2 ^ 64 : Nat) : Int)).toNat (show 0 < 2 by decide)
    rw [← e2] at e3
    have e4 : ((2 ^ 64 : Nat) : Int) = 18446744073709551616 := by decide
    rw [e4] at e3
    omega
theorem wide_same {v : Vl} (h : -9223372036854775808 ≤ v.i ∧ v.i ≤ 9223372036854775807) : (if validV v = true then true else numB v 4000000000000000000) = wideV v := by
  unfold validV wideV checkV numB
  rw [andNot_bool h]
  generalize noS v.s = ns
  generalize graphicB v.s = gr
  generalize (v.s.size : Int) = sz
  rw [Bool.eq_iff_iff]
  by_cases h0 : v.k = 0
  · by_cases h2 : v.i = 0 <;> cases ns <;> simp [h0, h2]
  by_cases h1 : v.k = 1
  · by_cases h2 : v.i = 0 <;> by_cases h3 : v.i = 1 <;> cases ns <;> simp [h1, h2, h3]
  by_cases h3 : v.k = 3
  · by_cases h2 : v.i = 0 <;> by_cases h4 : sz ≤ 40 <;> cases gr <;> simp [h3, h2, h4]
  by_cases h2 : v.k = 2
  · cases ns <;> by_cases h4 : -4000000000000000000 ≤ v.i <;> by_cases h5 : v.i ≤ 4000000000000000000 <;> by_cases h6 : -1000000000000000 ≤ v.i <;> by_cases h7 : v.i ≤ 1000000000000000 <;> simp [h2, h4, h5, h6, h7] <;> omega
  · simp [h0, h1, h2, h3]
theorem f36_spec (v : Vl) (h : -9223372036854775808 ≤ v.i ∧ v.i ≤ 9223372036854775807) (hs : v.s.size ≤ 4611686018427387904) : Spec Tryd.prog 36 [.agg (vl v)] (litB (wideV v)) := by
  have a1 := f56_spec v hs
  have a2 := f57_spec v 4000000000000000000 (by decide)
  have e := wide_same h
  cases hv : validV v with
  | true =>
    rw [hv] at a1
    rw [hv, if_pos rfl] at e
    rw [← e]
    refine spec_of_awp (fn := Tryd.f36) Tryd.func36 (by kernel_rfl) rfl ?_
    intro w0 C0
    simp only [Tryd.ntmps36, go_sem]
    repeat' first | refine awp_seq ?_ | (apply regB; (case hd => exact hdA); intro K hK) | (apply ev_guardU; (case hj | hu | hσ => (simp only [go_sem]; try rfl))) | ((((first | apply ev_guardT | apply ev_guardF); (case hj | hb => (simp only [go_sem]; try rfl)))) <;> (first | refine ttA ?_ | refine ffA ?_ | (intro hb; first | (cases hb; done) | simp only [hb] | skip))) | (apply awp_ret; refine tqA ?_) | (refine ev_nil (hK _ ?_); clear hK K) | (apply ev_call0; (case hys => (simp only [go_sem]; try rfl)); (case hs => first | exact a1 ..); (case hok | hσ => (simp only [go_sem]; try rfl))) | (apply ev_step0; (case hr | hσ => (simp only [go_sem]; try rfl)); (case hc => exact hcA)) | (apply ev_step; (case hr | hσ => (intros; simp only [go_sem]; try rfl)); (case hc => exact hcA); intro g u; (try clear u); (try clear g)) | fail
    all_goals (refine resR_oneA ?_; simp only [go_sem])
    exact LeA.refl _
  | false =>
    rw [hv] at a1
    rw [hv, if_neg (by decide)] at e
    rw [e] at a2
    refine spec_of_awp (fn := Tryd.f36) Tryd.func36 (by kernel_rfl) rfl ?_
    intro w0 C0
    simp only [Tryd.ntmps36, go_sem]
    repeat' first | refine awp_seq ?_ | (apply regB; (case hd => exact hdA); intro K hK) | (apply ev_guardU; (case hj | hu | hσ => (simp only [go_sem]; try rfl))) | ((((first | apply ev_guardT | apply ev_guardF); (case hj | hb => (simp only [go_sem]; try rfl)))) <;> (first | refine ttA ?_ | refine ffA ?_ | (intro hb; first | (cases hb; done) | simp only [hb] | skip))) | (apply awp_ret; refine tqA ?_) | (refine ev_nil (hK _ ?_); clear hK K) | (apply ev_call0; (case hys => (simp only [go_sem]; try rfl)); (case hs => first | exact a1 .. | exact a2 ..); (case hok | hσ => (simp only [go_sem]; try rfl))) | (apply ev_step0; (case hr | hσ => (simp only [go_sem]; try rfl)); (case hc => exact hcA)) | (apply ev_step; (case hr | hσ => (intros; simp only [go_sem]; try rfl)); (case hc => exact hcA); intro g u; (try clear u); (try clear g)) | fail
    all_goals (refine resR_oneA ?_; simp only [go_sem])
    exact LeA.refl _
end
section
set_option linter.unusedVariables false
set_option linter.unusedSimpArgs false
open Go.RowKit
structure Cmp {α : Type} (c : α → α → Int) : Prop where
  eq : ∀ a b, c a b = 0 ↔ a = b
  anti : ∀ a b, c a b < 0 ↔ 0 < c b a
  trans : ∀ a b d, c a b < 0 → c b d < 0 → c a d < 0
theorem Cmp.gt {α : Type} {c : α → α → Int} (h : Cmp c) {a b : α} : 0 < c a b ↔ c b a < 0 := (h.anti b a).symm
theorem Cmp.self {α : Type} {c : α → α → Int} (h : Cmp c) (a : α) : c a a = 0 := (h.eq a a).2 rfl
theorem cmpI_cmp : Cmp cmpI where
  eq a b := cmpI_zero
  anti a b := by unfold cmpI; constructor <;> intro h <;> (repeat' split at h) <;> (repeat' split) <;> omega
  trans a b d := by unfold cmpI; intro h k; (repeat' split at h) <;> (repeat' split at k) <;> (repeat' split) <;> omega
def lexC {α : Type} (c : α → α → Int) : List α → List α → Int
  | [], [] => 0
  | [], _ :: _ => -1
  | _ :: _, [] => 1
  | a :: x, b :: y => if c a b ≠ 0 then c a b else lexC c x y
theorem lexC_cmp {α : Type} {c : α → α → Int} (h : Cmp c) : Cmp (lexC c) where
  eq := by
    intro a
    induction a with
    | nil => intro b; cases b <;> simp [lexC]
    | cons x a ih =>
      intro b
      cases b with
      | nil => simp [lexC]
      | cons y b =>
        simp only [lexC]
        by_cases hxy : c x y = 0
        · rw [if_neg (by simpa using hxy), ih b, (h.eq x y).1 hxy]; simp
        · rw [if_pos hxy]
          constructor
          · intro e; exact absurd e hxy
          · intro e; injection e with e1 _; exact absurd ((h.eq x y).2 e1) hxy
  anti := by
    intro a
    induction a with
    | nil => intro b; cases b <;> simp [lexC]
    | cons x a ih =>
      intro b
      cases b with
      | nil => simp [lexC]
      | cons y b =>
        simp only [lexC]
        by_cases hxy : c x y = 0
        · have hyx : c y x = 0 := by rw [h.eq] at hxy ⊢; exact hxy.symm
          rw [if_neg (by simpa using hxy), if_neg (by simpa using hyx)]; exact ih b
        · have hyx : ¬ c y x = 0 := by rw [h.eq] at hxy ⊢; exact fun e => hxy e.symm
          rw [if_pos hxy, if_pos hyx]; exact h.anti x y
  trans := by
    intro a
    induction a with
    | nil => intro b d; cases b <;> cases d <;> simp [lexC]
    | cons x a ih =>
      intro b d
      cases b with
      | nil => simp [lexC]
      | cons y b =>
        cases d with
        | nil =>
          intro _ h2
          simp [lexC] at h2
        | cons z d =>
          simp only [lexC]
          intro h1 h2
          by_cases hxy : c x y = 0
          · rw [if_neg (by simpa using hxy)] at h1
            have e := (h.eq x y).1 hxy
            subst e
            by_cases hyz : c x z = 0
            · rw [if_neg (by simpa using hyz)] at h2 ⊢; exact ih b d h1 h2
            · rw [if_pos hyz] at h2 ⊢; exact h2
          · rw [if_pos hxy] at h1
            by_cases hyz : c y z = 0
            · have e := (h.eq y z).1 hyz
              subst e
              rw [if_pos hxy]; exact h1
            · rw [if_pos hyz] at h2
              have h3 := h.trans x y z h1 h2
              rw [if_pos (by omega)]; exact h3
def cmpU (a b : UInt8) : Int := if a < b then -1 else if b < a then 1 else 0
theorem cmpU_cmp : Cmp cmpU where
  eq a b := by
    unfold cmpU
    simp only [UInt8.lt_iff_toNat_lt]
    constructor
    · intro h; apply UInt8.toNat_inj.1; (repeat' split at h) <;> omega
    · intro h; subst h; simp
  anti a b := by unfold cmpU; simp only [UInt8.lt_iff_toNat_lt]; constructor <;> intro h <;> (repeat' split at h) <;> (repeat' split) <;> omega
  trans a b d := by unfold cmpU; simp only [UInt8.lt_iff_toNat_lt]; intro h k; (repeat' split at h) <;> (repeat' split at k) <;> (repeat' split) <;> omega
theorem cmpL_lex : ∀ x y, cmpL x y = lexC cmpU x y
  | [], [] => rfl
  | [], _ :: _ => rfl
  | _ :: _, [] => rfl
  | a :: x, b :: y => by
    simp only [cmpL, lexC, cmpL_lex x y]
    by_cases h1 : a < b
    · have : cmpU a b = -1 := by unfold cmpU; rw [if_pos h1]
      rw [if_pos h1, this]; rfl
    · rw [if_neg h1]
      by_cases h2 : b < a
      · have : cmpU a b = 1 := by unfold cmpU; rw [if_neg h1, if_pos h2]
        rw [if_pos h2, this]; rfl
      · have : cmpU a b = 0 := by unfold cmpU; rw [if_neg h1, if_neg h2]
        rw [if_neg h2, this]; rfl
theorem cmpS_cmp : Cmp (fun a b : ByteArray => cmpL a.data.toList b.data.toList) where
  eq a b := by
    simp only [cmpL_lex, (lexC_cmp cmpU_cmp).eq]
    constructor
    · intro h
      obtain ⟨a⟩ := a; obtain ⟨b⟩ := b
      congr
      exact Array.toList_inj.1 h
    · intro h; rw [h]
  anti a b := by simp only [cmpL_lex]; exact (lexC_cmp cmpU_cmp).anti _ _
  trans a b d := by simp only [cmpL_lex]; exact (lexC_cmp cmpU_cmp).trans _ _ _
theorem Cmp.pair {α β γ : Type} {c : α → α → Int} {d : β → β → Int} (hc : Cmp c) (hd : Cmp d) (f : γ → α) (g : γ → β) (hinj : ∀ x y, f x = f y → g x = g y → x = y) : Cmp (fun x y => if c (f x) (f y) ≠ 0 then c (f x) (f y) else d (g x) (g y)) where
  eq x y := by
    by_cases h : c (f x) (f y) = 0
    · simp only [if_neg (show ¬ (c (f x) (f y) ≠ 0) from by simpa using h), hd.eq]
      exact ⟨fun e => hinj x y ((hc.eq _ _).1 h) e, fun e => by rw [e]⟩
    · simp only [if_pos (show c (f x) (f y) ≠ 0 from h)]
      exact ⟨fun e => absurd e h, fun e => absurd ((hc.eq _ _).2 (by rw [e])) h⟩
  anti x y := by
    by_cases h : c (f x) (f y) = 0
    · have h' : c (f y) (f x) = 0 := by rw [hc.eq] at h ⊢; exact h.symm
      simp only [if_neg (show ¬ (c (f x) (f y) ≠ 0) from by simpa using h), if_neg (show ¬ (c (f y) (f x) ≠ 0) from by simpa using h')]
      exact hd.anti _ _
    · have h' : c (f y) (f x) ≠ 0 := fun e => h (by rw [hc.eq] at e ⊢; exact e.symm)
      simp only [if_pos (show c (f x) (f y) ≠ 0 from h), if_pos h']
      exact hc.anti _ _
  trans x y z := by
    intro h1 h2
    by_cases hxy : c (f x) (f y) = 0
    · rw [if_neg (by simpa using hxy)] at h1
      have e := (hc.eq _ _).1 hxy
      by_cases hyz : c (f y) (f z) = 0
      · rw [if_neg (by simpa using hyz)] at h2
        rw [if_neg (by rw [e]; simpa using hyz)]
        exact hd.trans _ _ _ h1 h2
      · rw [if_pos hyz] at h2
        rw [e, if_pos hyz]; exact h2
    · rw [if_pos hxy] at h1
      by_cases hyz : c (f y) (f z) = 0
      · have e := (hc.eq _ _).1 hyz
        rw [← e, if_pos hxy]; exact h1
      · rw [if_pos hyz] at h2
        have h3 := hc.trans _ _ _ h1 h2
        rw [if_pos (by omega)]; exact h3
theorem cmpW_cmp : Cmp cmpW :=
  Cmp.pair (γ := Vl) (f := fun v => v.k) (g := fun v => (v.i, v.s)) cmpI_cmp (d := fun a b : Int × ByteArray => if cmpI a.1 b.1 ≠ 0 then cmpI a.1 b.1 else cmpL a.2.data.toList b.2.data.toList)
    (Cmp.pair (γ := Int × ByteArray) (f := fun v => v.1) (g := fun v => v.2) cmpI_cmp cmpS_cmp (fun x y h1 h2 => Prod.ext h1 h2)) (fun x y h1 h2 => by
      cases x; cases y
      simp only [Prod.mk.injEq] at h1 h2
      obtain ⟨h2, h3⟩ := h2
      subst h1; subst h2; subst h3; rfl) |> fun h => by
  have e : cmpW = fun x y : Vl => if cmpI x.k y.k ≠ 0 then cmpI x.k y.k else if cmpI x.i y.i ≠ 0 then cmpI x.i y.i else cmpL x.s.data.toList y.s.data.toList := by
    funext x y
    unfold cmpW
    simp only [ne_eq, cmpI_zero]
  rw [e]; exact h
theorem eqVl_iff (a b : Vl) : eqVl a b = true ↔ a = b := by
  obtain ⟨ak, ai, a3⟩ := a
  obtain ⟨bk, bi, b3⟩ := b
  simp only [eqVl, Bool.and_eq_true, beq_iff_eq, Vl.mk.injEq, ByteArray.toList_eq]
  constructor
  · rintro ⟨h1, h2, h3⟩
    refine ⟨h1, h2, ?_⟩
    cases a3; cases b3
    congr
    exact Array.toList_inj.1 h3
  · rintro ⟨h1, h2, h3⟩; exact ⟨h1, h2, by rw [h3]⟩
theorem cmpV_cmp : Cmp cmpV := by
  have e : cmpV = cmpW := funext fun a => funext fun b => cmp_same a b
  rw [e]; exact cmpW_cmp
def leV (a b : Vl) : Prop := cmpV a b ≤ 0
theorem leV_refl (a : Vl) : leV a a := by unfold leV; rw [cmpV_cmp.self]; omega
theorem leV_lt {a b : Vl} (h : cmpV a b < 0) : leV a b := by unfold leV; omega
theorem leV_not {a b : Vl} (h : ¬ cmpV a b < 0) : leV b a := by
  unfold leV
  by_cases h0 : cmpV a b = 0
  · rw [(cmpV_cmp.eq _ _).1 h0, cmpV_cmp.self]; omega
  · have := cmpV_cmp.gt.1 (show 0 < cmpV a b by omega)
    omega
theorem leV_gt {a b : Vl} (h : cmpV a b > 0) : leV b a := leV_not (by omega)
theorem leV_trans {a b c : Vl} (h1 : leV a b) (h2 : leV b c) : leV a c := by
  unfold leV at *
  by_cases e1 : cmpV a b = 0
  · rw [(cmpV_cmp.eq _ _).1 e1]; exact h2
  by_cases e2 : cmpV b c = 0
  · rw [← (cmpV_cmp.eq _ _).1 e2]; exact h1
  have := cmpV_cmp.trans a b c (by omega) (by omega)
  omega
theorem leV_anti {a b : Vl} (h1 : leV a b) (h2 : leV b a) : a = b := by
  unfold leV at *
  by_cases e1 : cmpV a b = 0
  · exact (cmpV_cmp.eq _ _).1 e1
  have := (cmpV_cmp.anti a b).1 (by omega)
  omega
end
end Go.Proofs.YtopigomfhggkoaaDoor.A
