/- Made expressions: columns and constants as operands: the walk. Made conditions: the walk of Bool. Made conditions with one argument: the walk of Bool. Bounds of lists of values: the plain law. Drawn values are good; merged bounds: the plain law. Made rows: the walks. Drawn values of valid types; the types that bytes describe: the plain law. Made conditions: they are of the types. -/
import Derived.Test.YtopigomfhggkoaaDoorJV6
import Derived.Test.YtopigomfhggkoaaDoorJV4
import Derived.Test.YtopigomfhggkoaaDoorJV5
namespace Go.Proofs.YtopigomfhggkoaaDoor.A
section
set_option linter.unusedVariables false
set_option linter.unusedSimpArgs false
open Go.RowKit
attribute [local irreducible] Spec SpecF SpecN
attribute [local irreducible] AWp evOps evD
def colAt (n : Nat) (x : Int) (i : Nat) : Nat := ((x.tdiv 3 + (i : Int)).tmod (n : Int)).toNat
def pickM (ts : List Ty) (k x : Int) : List Nat → Option Nat
  | [] => none
  | i :: l => if ((ts.getD (colAt ts.length x i) dTy).k == k) = true then some (colAt ts.length x i) else pickM ts k x l
def leafE (ts : List Ty) (k : Int) (b : List Int) (n : Nat) : Option Nat → Ex × Nat
  | some c => (.leaf 2 (c : Int) nullV, n + 1)
  | none => (.leaf 1 0 (valM ⟨k, 0, false⟩ (b.getD (n + 1) 0) (b.getD (n + 2) 0)), n + 3)
def pickX (ts : List Ty) (k x : Int) : Option Nat := if x.tmod 3 > 0 then pickM ts k x (List.range ts.length) else none
set_option maxHeartbeats 16000000 in
theorem f54_leaf (ts : List Ty) (hl : ts.length ≤ 6) (k d : Int) (b : List Int) (n : Nat) (hn : n ≤ 100000) (hb : ∀ x ∈ b, 0 ≤ x ∧ x < 256)
    (hc : (k = 1 ∧ (d ≤ 0 ∨ (b.getD n 0).tmod 4 ≤ 0)) ∨ (k = 2 ∧ (d ≤ 0 ∨ (b.getD n 0).tmod 5 ≠ 4)) ∨ k = 3) : Spec Tryd.prog 54 [.d (tys ts), .agg [litI .i64 k, litI .i64 d], .agg (curA b n)] (.agg (grA (leafE ts k b n (pickX ts k (b.getD n 0))).1 b (leafE ts k b n (pickX ts k (b.getD n 0))).2)) := by
  have a1 := f51_spec b n (by omega) hb
  have a2 := f52_spec b n 1 (by omega)
  have a3 := f74_spec k b (n + 1) (by omega) hb
  have hm := byte_mem hb n
  rw [show ((1 : Nat) : Int) = 1 from rfl] at a2
  rw [show n + 1 + 1 = n + 2 from rfl, show n + 1 + 2 = n + 3 from rfl] at a3
  generalize b.getD n 0 = x at *
  have t3 : 0 ≤ x.tdiv 3 ∧ x.tdiv 3 ≤ 100 := by rw [Int.tdiv_eq_ediv_of_nonneg hm.1]; omega
  have w1 : IntKind.i64.wrap (x.tdiv 3) = x.tdiv 3 := wrap_id (by omega)
  generalize hV : valM ⟨k, 0, false⟩ (b.getD (n + 1) 0) (b.getD (n + 2) 0) = v at *
  obtain ⟨R, hR⟩ : ∃ R, R = leafE ts k b n (pickX ts k x) := ⟨_, rfl⟩
  rw [← hR]
  have hR1 : x.tmod 3 ≤ 0 → R = (.leaf 1 0 v, n + 3) := by
    intro h
    rw [hR, pickX, if_neg (by omega), leafE, hV]
  have hR2 : x.tmod 3 > 0 → R = leafE ts k b n (pickM ts k x ((List.range ts.length).drop 0)) := by
    intro h
    rw [hR, pickX, if_pos h]; rfl
  have hN : leafE ts k b n none = (.leaf 1 0 v, n + 3) := by rw [leafE, hV]
  have hS : ∀ c, leafE ts k b n (some c) = (.leaf 2 (c : Int) nullV, n + 1) := fun c => rfl
  clear hR hV
  simp only [grA, curA, exA, List.cons_append, List.nil_append] at a3 ⊢
  by_cases hd : d > 0
  all_goals first | have d1 : decide (d > 0) = true := decide_eq_true hd | have d1 : decide (d > 0) = false := decide_eq_false hd
  all_goals obtain hk1 | hk1 | hk1 : k = 1 ∨ k = 2 ∨ k = 3 := by omega
  all_goals first | have e1 : (k == 1) = true := by simpa using hk1 | have e1 : (k == 1) = false := by simp; omega
  all_goals first | have e2 : (k == 2) = true := by simpa using hk1 | have e2 : (k == 2) = false := by simp; omega
  all_goals first | have d2 : decide (x.tmod 4 > 0) = false := decide_eq_false (by omega) | have d2 : (x.tmod 5 == 4) = false := by simp; omega | have d2 := True.intro
  all_goals
    refine spec_of_awp (fn := Tryd.f54) Tryd.func54 (by kernel_rfl) rfl ?_
    intro w0 C0
    simp only [Tryd.ntmps54, go_sem]
    all_goals have H := And.intro d1 (And.intro d2 (And.intro e1 e2))
    repeat' first | refine awp_seq ?_ | refine awp_block ?_ | refine awp_skip ?_ | (apply regB; (case hd => exact hdA); intro K hK) | (apply ev_guardU; (case hj | hu | hσ => (simp only [go_sem, H]; try rfl))) | ((first | refine awp_cond _ (by rfl) ?_ ?_ | ((first | apply ev_guardT | apply ev_guardF); (case hj | hb => (simp only [go_sem, H]; try rfl)))) <;> (first | refine ttA ?_ | refine ffA ?_ | (intro hb; first | (cases hb; done) | simp only [hb] | skip))) | ((first | apply awp_exit | apply awp_ret); refine tqA ?_) | (refine ev_nil (hK _ ?_); clear hK K) | (apply ev_call0; (case hys => (simp only [go_sem, H]; try rfl)); (case hs => first | exact a1 .. | exact a2 ..); (case hok | hσ => (simp only [go_sem, H]; try rfl))) | (apply ev_step0; (case hr | hσ => (simp only [go_sem, H]; try rfl)); (case hc => exact hcA)) | (apply ev_step; (case hr | hσ => (intros; simp only [go_sem, H]; try rfl)); (case hc => exact hcA); intro g u; (try clear u); (try clear g)) | fail
    all_goals try clear H
    rename_i g4 g5
    revert g; intro g6
    refine awp_loopI (fun i : Nat => i ≤ ts.length ∧ (x.tmod 3 > 0 → R = leafE ts k b n (pickM ts k x ((List.range ts.length).drop i)))) (fun i => ts.length - i) (fun i => ⟨[.d (tys ts), .any, .any, .any, .ptr 4 g4 0, .ptr 5 g5 0, .ptr 6 g6 0, litI .i64 x, .any, .any, litI .i64 (i : Int), .any, .any, .any, .any, .any, .any, .any, .any, .any, .any, .any, .any, .any, .any, .any, .any, .any, .any, .any, .any, .any, .any, .any, .any, .any, .any, .any, .any, .any, .any, .any, .any, .any, .any, .any, .any, .any, .any, .any, .any, .any, .any, .any, .any, .any, .any, .any, .any, .any, .any, .any, .any, .any, .any, .any, .any, .any, .any, .any, .any, .any, .any, .any, .any, .any, .any, .any, .any, .any, .any, .any, .any, .any, .any, .any, .any, .any, .any, .any, .any, .any, .any, .any, .any, .any, .any, .any, .any, .any, .any, .any, .any, .any, .any, .any, .any, .any, .any, .any, .any], [.no, .no, .no, .no, .box g4 [litI .i64 k, litI .i64 d], .box g5 [.d (bytesD b), litI .i64 ((n + 1 : Nat) : Int)], .box g6 [litI .i64 0, litI .i64 0, litI .i64 0, litI .i64 0, litS ⟨#[]⟩, .d (.lit (.slice none 0 0)), .d (.lit (.slice none 0 0)), litI .i64 0], .no, .no, .no, .no, .no, .no, .no, .no, .no, .no, .no, .no, .no, .no, .no, .no, .no, .no, .no, .no, .no, .no, .no, .no, .no, .no, .no, .no, .no, .no, .no, .no, .no, .no, .no, .no, .no, .no, .no, .no, .no, .no, .no, .no, .no, .no, .no, .no, .no, .no, .no, .no, .no, .no, .no, .no, .no, .no, .no, .no, .no, .no, .no, .no, .no, .no, .no, .no, .no, .no, .no, .no, .no, .no, .no, .no, .no, .no, .no, .no, .no, .no, .no, .no, .no, .no, .no, .no, .no, .no, .no, .no, .no, .no, .no, .no, .no, .no, .no, .no, .no, .no, .no, .no]⟩) 0 ⟨by omega, hR2⟩ ?_ ?_
    · exact wkA
    rintro i ⟨hi, hRi⟩
    simp only [litI, litB, litS] at hi hRi a3 ⊢
    by_cases hx3 : x.tmod 3 > 0
    · have d3 : decide (x.tmod 3 > 0) = true := decide_eq_true hx3
      have hRi := hRi hx3
      by_cases hlt : i < ts.length
      · have d4 : decide ((i : Int) < (ts.length : Int)) = true := decide_eq_true (by omega)
        have w2 : IntKind.i64.wrap (x.tdiv 3 + (i : Int)) = x.tdiv 3 + (i : Int) := wrap_id (by omega)
        have w3 : IntKind.i64.wrap ((i : Int) + 1) = ((i + 1 : Nat) : Int) := by rw [wrap_id (by omega)]; push_cast; rfl
        have hz : ¬ (ts.length : Int) = 0 := by omega
        have m1 := Int.tmod_nonneg (a := x.tdiv 3 + (i : Int)) (ts.length : Int) (by omega)
        have m2 := Int.tmod_lt_of_pos (x.tdiv 3 + (i : Int)) (b := (ts.length : Int)) (by omega)
        rw [drop_at (List.range ts.length) 0 (by simpa using hlt), show (List.range ts.length).getD i 0 = i by simp [List.getD_eq_getElem?_getD, hlt], pickM] at hRi
        obtain ⟨c, hc'⟩ : ∃ c, colAt ts.length x i = c := ⟨_, rfl⟩
        have hcc : (x.tdiv 3 + (i : Int)).tmod (ts.length : Int) = (c : Int) := by rw [← hc', colAt]; omega
        have hcl : c < ts.length := by omega
        have hx := tys_at ts hcl
        rw [hc'] at hRi
        generalize ts.getD c dTy = t at *
        cases hk : (t.k == k) with
        | true =>
          rw [hk, if_pos rfl, hS] at hRi
          subst hRi
          simp only [opE, cE, vE, argsD]
          all_goals have H := And.intro d3 (And.intro d4 (And.intro w1 (And.intro w2 (And.intro hz (And.intro hcc (And.intro hx hk))))))
          repeat' first | refine awp_seq ?_ | refine awp_block ?_ | refine awp_skip ?_ | (apply regB; (case hd => exact hdA); intro K hK) | (apply ev_guardU; (case hj | hu | hσ => (simp only [go_sem, H]; try rfl))) | ((first | refine awp_cond _ (by rfl) ?_ ?_ | ((first | apply ev_guardT | apply ev_guardF); (case hj | hb => (simp only [go_sem, H]; try rfl)))) <;> (first | refine ttA ?_ | refine ffA ?_ | (intro hb; first | (cases hb; done) | simp only [hb] | skip))) | ((first | apply awp_exit | apply awp_ret); refine tqA ?_) | (refine ev_nil (hK _ ?_); clear hK K) | (apply regDB; (case hd => exact hdA); (case' h => (intro K hK; (repeat' first | (apply evd_nil; refine (hK _ ?_); clear hK K) | (apply evd_step0; (case hr | hi | hσ => (simp only [go_sem, H]; try rfl)); (case hc => exact hcA)) | (apply evd_step; (case hr | hi | hw | hσ => (intros; simp only [go_sem, H]; try rfl)); (case hc => exact hcA); (case' hk => (intro g u; (try clear u); (try clear g)))) | fail))); (case hB => kernel_rfl)) | (apply ev_step0; (case hr | hσ => (simp only [go_sem, H]; try rfl)); (case hc => exact hcA)) | (apply ev_step; (case hr | hσ => (intros; simp only [go_sem, H]; try rfl)); (case hc => exact hcA); intro g u; (try clear u); (try clear g)) | fail
          all_goals try clear H
          all_goals (refine resR_oneA ?_; simp only [go_sem])
          exact LeA.refl _
        | false =>
          rw [hk, if_neg (by decide)] at hRi
          all_goals have H := And.intro d3 (And.intro d4 (And.intro w1 (And.intro w2 (And.intro w3 (And.intro hz (And.intro hcc (And.intro hx hk)))))))
          repeat' first | refine awp_seq ?_ | refine awp_block ?_ | refine awp_skip ?_ | (apply regB; (case hd => exact hdA); intro K hK) | (apply ev_guardU; (case hj | hu | hσ => (simp only [go_sem, H]; try rfl))) | ((first | refine awp_cond _ (by rfl) ?_ ?_ | ((first | apply ev_guardT | apply ev_guardF); (case hj | hb => (simp only [go_sem, H]; try rfl)))) <;> (first | refine ttA ?_ | refine ffA ?_ | (intro hb; first | (cases hb; done) | simp only [hb] | skip))) | ((first | apply awp_exit | apply awp_ret); refine tqA ?_) | (refine ev_nil (hK _ ?_); clear hK K) | (apply regDB; (case hd => exact hdA); (case' h => (intro K hK; (repeat' first | (apply evd_nil; refine (hK _ ?_); clear hK K) | (apply evd_step0; (case hr | hi | hσ => (simp only [go_sem, H]; try rfl)); (case hc => exact hcA)) | (apply evd_step; (case hr | hi | hw | hσ => (intros; simp only [go_sem, H]; try rfl)); (case hc => exact hcA); (case' hk => (intro g u; (try clear u); (try clear g)))) | fail))); (case hB => kernel_rfl)) | (apply ev_step0; (case hr | hσ => (simp only [go_sem, H]; try rfl)); (case hc => exact hcA)) | (apply ev_step; (case hr | hσ => (intros; simp only [go_sem, H]; try rfl)); (case hc => exact hcA); intro g u; (try clear u); (try clear g)) | fail
          all_goals try clear H
          refine Exists.intro (i + 1) ⟨⟨by omega, fun _ => hRi⟩, by omega, ?_⟩
          exact wkA
      · have d4 : decide ((i : Int) < (ts.length : Int)) = false := decide_eq_false (by omega)
        rw [List.drop_eq_nil_of_le (by simp; omega), pickM, hN] at hRi
        subst hRi
        simp only [opE, cE, vE, argsD] at a3 ⊢
        all_goals have H := And.intro d3 d4
        repeat' first | refine awp_seq ?_ | refine awp_block ?_ | refine awp_skip ?_ | (apply regB; (case hd => exact hdA); intro K hK) | (apply ev_guardU; (case hj | hu | hσ => (simp only [go_sem, H]; try rfl))) | ((first | refine awp_cond _ (by rfl) ?_ ?_ | ((first | apply ev_guardT | apply ev_guardF); (case hj | hb => (simp only [go_sem, H]; try rfl)))) <;> (first | refine ttA ?_ | refine ffA ?_ | (intro hb; first | (cases hb; done) | simp only [hb] | skip))) | ((first | apply awp_exit | apply awp_ret); refine tqA ?_) | (refine ev_nil (hK _ ?_); clear hK K) | (apply ev_call0; (case hys => (simp only [go_sem, H]; try rfl)); (case hs => first | exact a3 ..); (case hok | hσ => (simp only [go_sem, H]; try rfl))) | (apply ev_step0; (case hr | hσ => (simp only [go_sem, H]; try rfl)); (case hc => exact hcA)) | (apply ev_step; (case hr | hσ => (intros; simp only [go_sem, H]; try rfl)); (case hc => exact hcA); intro g u; (try clear u); (try clear g)) | fail
        all_goals try clear H
        all_goals (refine resR_oneA ?_; simp only [go_sem])
        exact LeA.refl _
    · have d3 : decide (x.tmod 3 > 0) = false := decide_eq_false hx3
      have hRi := hR1 (by omega)
      subst hRi
      simp only [opE, cE, vE, argsD] at a3 ⊢
      by_cases hlt : i < ts.length
      · have d4 : decide ((i : Int) < (ts.length : Int)) = true := decide_eq_true (by omega)
        all_goals have H := And.intro d3 d4
        repeat' first | refine awp_seq ?_ | refine awp_block ?_ | refine awp_skip ?_ | (apply regB; (case hd => exact hdA); intro K hK) | (apply ev_guardU; (case hj | hu | hσ => (simp only [go_sem, H]; try rfl))) | ((first | refine awp_cond _ (by rfl) ?_ ?_ | ((first | apply ev_guardT | apply ev_guardF); (case hj | hb => (simp only [go_sem, H]; try rfl)))) <;> (first | refine ttA ?_ | refine ffA ?_ | (intro hb; first | (cases hb; done) | simp only [hb] | skip))) | ((first | apply awp_exit | apply awp_ret); refine tqA ?_) | (refine ev_nil (hK _ ?_); clear hK K) | (apply ev_call0; (case hys => (simp only [go_sem, H]; try rfl)); (case hs => first | exact a3 ..); (case hok | hσ => (simp only [go_sem, H]; try rfl))) | (apply ev_step0; (case hr | hσ => (simp only [go_sem, H]; try rfl)); (case hc => exact hcA)) | (apply ev_step; (case hr | hσ => (intros; simp only [go_sem, H]; try rfl)); (case hc => exact hcA); intro g u; (try clear u); (try clear g)) | fail
        all_goals try clear H
        all_goals (refine resR_oneA ?_; simp only [go_sem])
        exact LeA.refl _
      · have d4 : decide ((i : Int) < (ts.length : Int)) = false := decide_eq_false (by omega)
        all_goals have H := And.intro d3 d4
        repeat' first | refine awp_seq ?_ | refine awp_block ?_ | refine awp_skip ?_ | (apply regB; (case hd => exact hdA); intro K hK) | (apply ev_guardU; (case hj | hu | hσ => (simp only [go_sem, H]; try rfl))) | ((first | refine awp_cond _ (by rfl) ?_ ?_ | ((first | apply ev_guardT | apply ev_guardF); (case hj | hb => (simp only [go_sem, H]; try rfl)))) <;> (first | refine ttA ?_ | refine ffA ?_ | (intro hb; first | (cases hb; done) | simp only [hb] | skip))) | ((first | apply awp_exit | apply awp_ret); refine tqA ?_) | (refine ev_nil (hK _ ?_); clear hK K) | (apply ev_call0; (case hys => (simp only [go_sem, H]; try rfl)); (case hs => first | exact a3 ..); (case hok | hσ => (simp only [go_sem, H]; try rfl))) | (apply ev_step0; (case hr | hσ => (simp only [go_sem, H]; try rfl)); (case hc => exact hcA)) | (apply ev_step; (case hr | hσ => (intros; simp only [go_sem, H]; try rfl)); (case hc => exact hcA); intro g u; (try clear u); (try clear g)) | fail
        all_goals try clear H
        all_goals (refine resR_oneA ?_; simp only [go_sem])
        exact LeA.refl _
end
section
set_option linter.unusedVariables false
set_option linter.unusedSimpArgs false
open Go.RowKit
attribute [local irreducible] Spec SpecF SpecN
attribute [local irreducible] AWp evOps evD
def opsL : List Int := [3, 4, 5, 6, 7, 8, 9, 12, 4, 6]
def opB (x : Int) : Int := opsL.getD (x.tmod 10).toNat 0
theorem opB_in (x : Int) (h : 0 ≤ x) : (3 ≤ opB x ∧ opB x ≤ 9) ∨ opB x = 12 := by
  have t4 := Int.tmod_nonneg 10 h
  have t6 := Int.tmod_lt_of_pos x (b := 10) (by decide)
  unfold opB
  generalize hq : x.tmod 10 = q at *
  obtain rfl | rfl | rfl | rfl | rfl | rfl | rfl | rfl | rfl | rfl : q = 0 ∨ q = 1 ∨ q = 2 ∨ q = 3 ∨ q = 4 ∨ q = 5 ∨ q = 6 ∨ q = 7 ∨ q = 8 ∨ q = 9 := by omega
  all_goals decide
def kindB (x : Int) : Int := if opB x = 6 ∨ opB x = 7 ∨ opB x = 8 then 1 else if opB x = 12 then 3 else 1 + (x.tdiv 10).tmod 3
def argV (i : Nat) (u : Value) : AV := match i with
  | 0 => .d (.lit (.slice none 0 0))
  | _ => .own 53 u
def argO2 (e1 e2 : Ex) (i : Nat) (u : Value) : AObj := match i with
  | 0 => .no
  | 1 => .row u 35 6 [exD e1]
  | _ => .row u 35 6 [exD e1, exD e2]
def argO1 (e1 : Ex) (i : Nat) (u : Value) : AObj := match i with
  | 0 => .no
  | _ => .row u 35 6 [exD e1]
def at3 (a b c : Nat) (i : Nat) : Nat := match i with
  | 0 => a
  | 1 => b
  | _ => c
set_option maxHeartbeats 8000000 in
theorem f33_bi (ts : List Ty) (d : Int) (b : List Int) (n m1 m2 : Nat) (e1 e2 : Ex) (hn : n ≤ 100000) (hb : ∀ x ∈ b, 0 ≤ x ∧ x < 256) (hd : 0 < d ∧ d ≤ 100) (hop : ¬ (opB (b.getD n 0) = 8 ∨ opB (b.getD n 0) = 9)) (h1 : Spec Tryd.prog 54 [.d (tys ts), .agg [litI .i64 (kindB (b.getD n 0)), litI .i64 (d - 1)], .agg (curA b (n + 1))] (.agg (grA e1 b m1)))
    (h2 : Spec Tryd.prog 54 [.d (tys ts), .agg [litI .i64 (kindB (b.getD n 0)), litI .i64 (d - 1)], .agg (curA b m1)] (.agg (grA e2 b m2))) : Spec Tryd.prog 33 [.d (tys ts), litI .i64 d, .agg (curA b n)] (.agg (grA (.bi (opB (b.getD n 0)) e1 e2) b m2)) := by
  have a1 := f51_spec b n (by omega) hb
  have a2 := f52_spec b n 1 (by omega)
  have hm := byte_mem hb n
  have w1 : IntKind.i64.wrap (d - 1) = d - 1 := wrap_id (by omega)
  rw [show ((1 : Nat) : Int) = 1 from rfl] at a2
  generalize b.getD n 0 = x at *
  have t5 : 0 ≤ x.tdiv 10 ∧ x.tdiv 10 ≤ 26 := by rw [Int.tdiv_eq_ediv_of_nonneg hm.1]; omega
  have w2 : IntKind.i64.wrap (x.tdiv 10) = x.tdiv 10 := wrap_id (by omega)
  generalize hy : x.tdiv 10 = y at *
  have t2 := Int.tmod_nonneg 3 t5.1
  have t3 := Int.tmod_lt_of_pos y (b := 3) (by decide)
  have w3 : IntKind.i64.wrap (1 + y.tmod 3) = 1 + y.tmod 3 := wrap_id (by omega)
  have t4 := Int.tmod_nonneg 10 hm.1
  have t6 := Int.tmod_lt_of_pos x (b := 10) (by decide)
  have hP := opB_in x hm.1
  unfold kindB at h1 h2
  rw [hy] at h1 h2
  unfold opB at *
  generalize hz : 1 + y.tmod 3 = z at *
  obtain ⟨k, hk⟩ : ∃ k : Nat, x.tmod 10 = k := ⟨(x.tmod 10).toNat, by omega⟩
  have hx := ints_at opsL (i := k) (by show k < 10; omega)
  have hkn : (x.tmod 10).toNat = k := by omega
  rw [hkn] at hP hop h1 h2 ⊢
  generalize opsL.getD k 0 = P at *
  simp only [opsL, List.map_cons, List.map_nil] at hx
  have a5 := f53_spec P (by omega)
  have ea : arityM P = 2 := by unfold arityM; rw [if_neg (by omega), if_neg (by omega), if_pos (by omega)]
  rw [ea] at a5
  simp only [grA, curA, exA, List.cons_append, List.nil_append, opE_bi, cE_bi, vE_bi, argsD_bi] at h1 h2 ⊢
  generalize hK : (if P = 6 ∨ P = 7 ∨ P = 8 then (1 : Int) else if P = 12 then 3 else z) = kd at *
  obtain hp | hp | hp | hp : P = 6 ∨ P = 7 ∨ P = 12 ∨ (P ≠ 6 ∧ P ≠ 7 ∧ P ≠ 8 ∧ P ≠ 12) := by omega
  all_goals first | have hKK : kd = 1 := by rw [← hK, if_pos (by omega)] | have hKK : kd = 3 := by rw [← hK, if_neg (by omega), if_pos (by omega)] | have hKK : kd = z := by rw [← hK, if_neg (by omega), if_neg (by omega)]
  all_goals first | have e6 : (P == 6) = true := by simpa using hp | have e6 : (P == 6) = false := by simp; omega
  all_goals first | have e7 : (P == 7) = true := by simpa using hp | have e7 : (P == 7) = false := by simp; omega
  all_goals have e8 : (P == 8) = false := by simp; omega
  all_goals first | have e12 : (P == 12) = true := by simpa using hp | have e12 : (P == 12) = false := by simp; omega
  all_goals clear hK
  all_goals
    refine spec_of_awp (fn := Tryd.f33) Tryd.func33 (by kernel_rfl) rfl ?_
    intro w0 C0
    simp only [Tryd.ntmps33, go_sem]
    all_goals have H := And.intro hk (And.intro hx (And.intro e6 (And.intro e7 (And.intro e8 (And.intro e12 (And.intro w1 (And.intro w2 (And.intro w3 (And.intro hy hz)))))))))
    repeat' first | refine awp_seq ?_ | refine awp_block ?_ | refine awp_skip ?_ | (apply regB; (case hd => exact hdA); intro K hK) | ((refine awp_cond _ (by rfl) ?_ ?_) <;> (first | refine ttA ?_ | refine ffA ?_ | (intro hb; first | (cases hb; done) | simp only [hb] | skip))) | ((first | apply awp_exit | apply awp_ret); refine tqA ?_) | (refine ev_nil (hK _ ?_); clear hK K) | (apply ev_call0; (case hys => (simp only [go_sem, H]; try rfl)); (case hs => first | exact a1 .. | exact a2 ..); (case hok | hσ => (simp only [go_sem, H]; try rfl))) | (apply ev_step0; (case hr | hσ => (simp only [go_sem, H]; try rfl)); (case hc => exact hcA)) | (apply ev_step; (case hr | hσ => (intros; simp only [go_sem, H]; try rfl)); (case hc => exact hcA); intro g u; (try clear u); (try clear g)) | fail
    all_goals try clear H
    rename_i g5 g6
    revert g; intro g10
    refine awp_wk (σ' := ⟨[.d (tys ts), litI .i64 d, .any, .any, .any, .ptr 5 g5 0, .ptr 6 g6 0, .any, litI .i64 P, litI .i64 kd, .ptr 10 g10 0, litI .i64 0, .any, .any, .any, .any, .any, .any, .any, .any, .any, .any, .any, .any, .any, .any, .any, .any, .any, .any, .any, .any, .any, .any, .any, .any, .any, .any, .any, .any, .any, .any, .any, .any, .any, .any, .any, .any, .any, .any, .any, .any, .any, .any, .any, .any, .any, .any, .any, .any], [.no, .no, .no, .no, .no, .box g5 [.d (bytesD b), litI .i64 ((n + 1 : Nat) : Int)], .box g6 [litI .i64 0, litI .i64 0, litI .i64 0, litI .i64 0, litS ⟨#[]⟩, .d (.lit (.slice none 0 0)), .d (.lit (.slice none 0 0)), litI .i64 0], .no, .no, .no, .box g10 [litI .i64 P, litI .i64 0, litI .i64 0, litI .i64 0, litS ⟨#[]⟩, .d (.lit (.slice none 0 0))], .no, .no, .no, .no, .no, .no, .no, .no, .no, .no, .no, .no, .no, .no, .no, .no, .no, .no, .no, .no, .no, .no, .no, .no, .no, .no, .no, .no, .no, .no, .no, .no, .no, .no, .no, .no, .no, .no, .no, .no, .no, .no, .no, .no, .no, .no, .no, .no, .no]⟩) ?_ ?_
    · rw [hKK]
      exact wkA
    clear hKK e6 e7 e8 e12 hp
    refine awp_loopI (fun j : Nat × Value => j.1 ≤ 2) (fun j => 2 - j.1) (fun j => ⟨[.d (tys ts), litI .i64 d, .any, .any, .any, .ptr 5 g5 0, .ptr 6 g6 0, .any, litI .i64 P, litI .i64 kd, .ptr 10 g10 0, litI .i64 (j.1 : Int), .any, .any, .any, .any, .any, .any, .any, .any, .any, .any, .any, .any, .any, .any, .any, .any, .any, .any, .any, .any, .any, .any, .any, .any, .any, .any, .any, .any, .any, .any, .any, .any, .any, .any, .any, .any, .any, .any, .any, .any, .any, .any, .any, .any, .any, .any, .any, .any], [.no, .no, .no, .no, .no, .box g5 [.d (bytesD b), litI .i64 ((at3 (n + 1) m1 m2 j.1 : Nat) : Int)], .box g6 [litI .i64 0, litI .i64 0, litI .i64 0, litI .i64 0, litS ⟨#[]⟩, .d (.lit (.slice none 0 0)), .d (.lit (.slice none 0 0)), litI .i64 0], .no, .no, .no, .box g10 [litI .i64 P, litI .i64 0, litI .i64 0, litI .i64 0, litS ⟨#[]⟩, argV j.1 j.2], .no, .no, .no, .no, .no, .no, .no, .no, .no, .no, .no, .no, .no, .no, .no, .no, .no, .no, .no, .no, .no, .no, .no, .no, .no, .no, .no, .no, .no, .no, .no, .no, .no, .no, .no, .no, .no, .no, .no, .no, .no, .no, argO2 e1 e2 j.1 j.2, .no, .no, .no, .no, .no, .no]⟩) (0, .slice none 0 0) (by simp) ?_ ?_
    · simp only [argV, argO2, at3]
      exact wkA
    rintro ⟨i, v⟩ hi
    simp only [litI, litB, litS] at hi h1 h2 a5 ⊢
    obtain rfl | rfl | rfl : i = 0 ∨ i = 1 ∨ i = 2 := by omega
    · simp only [argV, argO2, at3]
      have d1 : decide (((0 : Nat) : Int) < 2) = true := by decide
      have w4 : IntKind.i64.wrap (((0 : Nat) : Int) + 1) = 1 := by decide
      all_goals have H := And.intro d1 (And.intro w1 w4)
      repeat' first | refine awp_seq ?_ | refine awp_block ?_ | refine awp_skip ?_ | (apply regB; (case hd => exact hdA); intro K hK) | ((refine awp_cond _ (by rfl) ?_ ?_) <;> (first | refine ttA ?_ | refine ffA ?_ | (intro hb; first | (cases hb; done) | simp only [hb] | skip))) | ((first | apply awp_exit | apply awp_ret); refine tqA ?_) | (refine ev_nil (hK _ ?_); clear hK K) | (apply ev_call0; (case hys => (simp only [go_sem, H]; try rfl)); (case hs => first | exact a5 .. | exact h1 ..); (case hok | hσ => (simp only [go_sem, H]; try rfl))) | (apply ev_step0; (case hr | hσ => (simp only [go_sem, H]; try rfl)); (case hc => exact hcA)) | (apply ev_step; (case hr | hσ => (intros; simp only [go_sem, H]; try rfl)); (case hc => exact hcA); intro g u; (try clear u); (try clear g)) | fail
      all_goals try clear H
      refine Exists.intro (1, u) ⟨by simp, by simp, ?_⟩
      simp only [argV, argO2, at3]
      exact wkA
    · simp only [argV, argO2, at3]
      have d1 : decide (((1 : Nat) : Int) < 2) = true := by decide
      have w4 : IntKind.i64.wrap (((1 : Nat) : Int) + 1) = 2 := by decide
      all_goals have H := And.intro d1 (And.intro w1 w4)
      repeat' first | refine awp_seq ?_ | refine awp_block ?_ | refine awp_skip ?_ | (apply regB; (case hd => exact hdA); intro K hK) | ((refine awp_cond _ (by rfl) ?_ ?_) <;> (first | refine ttA ?_ | refine ffA ?_ | (intro hb; first | (cases hb; done) | simp only [hb] | skip))) | ((first | apply awp_exit | apply awp_ret); refine tqA ?_) | (refine ev_nil (hK _ ?_); clear hK K) | (apply ev_call0; (case hys => (simp only [go_sem, H]; try rfl)); (case hs => first | exact a5 .. | exact h2 ..); (case hok | hσ => (simp only [go_sem, H]; try rfl))) | (apply ev_step0; (case hr | hσ => (simp only [go_sem, H]; try rfl)); (case hc => exact hcA)) | (apply ev_step; (case hr | hσ => (intros; simp only [go_sem, H]; try rfl)); (case hc => exact hcA); intro g u; (try clear u); (try clear g)) | fail
      all_goals try clear H
      refine Exists.intro (2, u) ⟨by simp, by simp, ?_⟩
      simp only [argV, argO2, at3]
      exact wkA
    simp only [argV, argO2, at3]
    have d1 : decide (((2 : Nat) : Int) < 2) = false := by decide
    repeat' first | refine awp_seq ?_ | refine awp_block ?_ | refine awp_skip ?_ | (apply regB; (case hd => exact hdA); intro K hK) | ((refine awp_cond _ (by rfl) ?_ ?_) <;> (first | refine ttA ?_ | refine ffA ?_ | (intro hb; first | (cases hb; done) | simp only [hb] | skip))) | ((first | apply awp_exit | apply awp_ret); refine tqA ?_) | (refine ev_nil (hK _ ?_); clear hK K) | (apply ev_call0; (case hys => (simp only [go_sem, d1]; try rfl)); (case hs => first | exact a5 ..); (case hok | hσ => (simp only [go_sem, d1]; try rfl))) | (apply ev_step0; (case hr | hσ => (simp only [go_sem, d1]; try rfl)); (case hc => exact hcA)) | (apply ev_step; (case hr | hσ => (intros; simp only [go_sem, d1]; try rfl)); (case hc => exact hcA); intro g u; (try clear u); (try clear g)) | fail
    all_goals (refine resR_oneA ?_; simp only [go_sem])
    exact LeA.refl _
end
section
set_option linter.unusedVariables false
set_option linter.unusedSimpArgs false
open Go.RowKit
attribute [local irreducible] Spec SpecF SpecN
attribute [local irreducible] AWp evOps evD
set_option maxHeartbeats 8000000 in
theorem f33_un (ts : List Ty) (d : Int) (b : List Int) (n m1 : Nat) (e1 : Ex) (hn : n ≤ 100000) (hb : ∀ x ∈ b, 0 ≤ x ∧ x < 256) (hd : 0 < d ∧ d ≤ 100) (hop : opB (b.getD n 0) = 8 ∨ opB (b.getD n 0) = 9) (h1 : Spec Tryd.prog 54 [.d (tys ts), .agg [litI .i64 (kindB (b.getD n 0)), litI .i64 (d - 1)], .agg (curA b (n + 1))] (.agg (grA e1 b m1))) : Spec Tryd.prog 33 [.d (tys ts), litI .i64 d, .agg (curA b n)] (.agg (grA (.un (opB (b.getD n 0)) e1) b m1)) := by
  have a1 := f51_spec b n (by omega) hb
  have a2 := f52_spec b n 1 (by omega)
  have hm := byte_mem hb n
  have w1 : IntKind.i64.wrap (d - 1) = d - 1 := wrap_id (by omega)
  rw [show ((1 : Nat) : Int) = 1 from rfl] at a2
  generalize b.getD n 0 = x at *
  have t5 : 0 ≤ x.tdiv 10 ∧ x.tdiv 10 ≤ 26 := by rw [Int.tdiv_eq_ediv_of_nonneg hm.1]; omega
  have w2 : IntKind.i64.wrap (x.tdiv 10) = x.tdiv 10 := wrap_id (by omega)
  generalize hy : x.tdiv 10 = y at *
  have t2 := Int.tmod_nonneg 3 t5.1
  have t3 := Int.tmod_lt_of_pos y (b := 3) (by decide)
  have w3 : IntKind.i64.wrap (1 + y.tmod 3) = 1 + y.tmod 3 := wrap_id (by omega)
  have t4 := Int.tmod_nonneg 10 hm.1
  have t6 := Int.tmod_lt_of_pos x (b := 10) (by decide)
  have hP := opB_in x hm.1
  unfold kindB at h1
  rw [hy] at h1
  unfold opB at *
  generalize hz : 1 + y.tmod 3 = z at *
  obtain ⟨k, hk⟩ : ∃ k : Nat, x.tmod 10 = k := ⟨(x.tmod 10).toNat, by omega⟩
  have hx := ints_at opsL (i := k) (by show k < 10; omega)
  have hkn : (x.tmod 10).toNat = k := by omega
  rw [hkn] at hP hop h1 ⊢
  generalize opsL.getD k 0 = P at *
  simp only [opsL, List.map_cons, List.map_nil] at hx
  have a5 := f53_spec P (by omega)
  have ea : arityM P = 1 := by unfold arityM; rw [if_neg (by omega), if_pos (by omega)]
  rw [ea] at a5
  simp only [grA, curA, exA, List.cons_append, List.nil_append, opE_un, cE_un, vE_un, argsD_un] at h1 ⊢
  generalize hK : (if P = 6 ∨ P = 7 ∨ P = 8 then (1 : Int) else if P = 12 then 3 else z) = kd at *
  obtain hp | hp : P = 8 ∨ P = 9 := hop
  all_goals first | have hKK : kd = 1 := by rw [← hK, if_pos (by omega)] | have hKK : kd = z := by rw [← hK, if_neg (by omega), if_neg (by omega)]
  all_goals have e6 : (P == 6) = false := by simp; omega
  all_goals have e7 : (P == 7) = false := by simp; omega
  all_goals first | have e8 : (P == 8) = true := by simpa using hp | have e8 : (P == 8) = false := by simp; omega
  all_goals have e12 : (P == 12) = false := by simp; omega
  all_goals clear hK
  all_goals
    refine spec_of_awp (fn := Tryd.f33) Tryd.func33 (by kernel_rfl) rfl ?_
    intro w0 C0
    simp only [Tryd.ntmps33, go_sem]
    all_goals have H := And.intro hk (And.intro hx (And.intro e6 (And.intro e7 (And.intro e8 (And.intro e12 (And.intro w1 (And.intro w2 (And.intro w3 (And.intro hy hz)))))))))
    repeat' first | refine awp_seq ?_ | refine awp_block ?_ | refine awp_skip ?_ | (apply regB; (case hd => exact hdA); intro K hK) | ((refine awp_cond _ (by rfl) ?_ ?_) <;> (first | refine ttA ?_ | refine ffA ?_ | (intro hb; first | (cases hb; done) | simp only [hb] | skip))) | ((first | apply awp_exit | apply awp_ret); refine tqA ?_) | (refine ev_nil (hK _ ?_); clear hK K) | (apply ev_call0; (case hys => (simp only [go_sem, H]; try rfl)); (case hs => first | exact a1 .. | exact a2 ..); (case hok | hσ => (simp only [go_sem, H]; try rfl))) | (apply ev_step0; (case hr | hσ => (simp only [go_sem, H]; try rfl)); (case hc => exact hcA)) | (apply ev_step; (case hr | hσ => (intros; simp only [go_sem, H]; try rfl)); (case hc => exact hcA); intro g u; (try clear u); (try clear g)) | fail
    all_goals try clear H
    rename_i g5 g6
    revert g; intro g10
    refine awp_wk (σ' := ⟨[.d (tys ts), litI .i64 d, .any, .any, .any, .ptr 5 g5 0, .ptr 6 g6 0, .any, litI .i64 P, litI .i64 kd, .ptr 10 g10 0, litI .i64 0, .any, .any, .any, .any, .any, .any, .any, .any, .any, .any, .any, .any, .any, .any, .any, .any, .any, .any, .any, .any, .any, .any, .any, .any, .any, .any, .any, .any, .any, .any, .any, .any, .any, .any, .any, .any, .any, .any, .any, .any, .any, .any, .any, .any, .any, .any, .any, .any], [.no, .no, .no, .no, .no, .box g5 [.d (bytesD b), litI .i64 ((n + 1 : Nat) : Int)], .box g6 [litI .i64 0, litI .i64 0, litI .i64 0, litI .i64 0, litS ⟨#[]⟩, .d (.lit (.slice none 0 0)), .d (.lit (.slice none 0 0)), litI .i64 0], .no, .no, .no, .box g10 [litI .i64 P, litI .i64 0, litI .i64 0, litI .i64 0, litS ⟨#[]⟩, .d (.lit (.slice none 0 0))], .no, .no, .no, .no, .no, .no, .no, .no, .no, .no, .no, .no, .no, .no, .no, .no, .no, .no, .no, .no, .no, .no, .no, .no, .no, .no, .no, .no, .no, .no, .no, .no, .no, .no, .no, .no, .no, .no, .no, .no, .no, .no, .no, .no, .no, .no, .no, .no, .no]⟩) ?_ ?_
    · rw [hKK]
      exact wkA
    clear hKK e6 e7 e8 e12 hp
    refine awp_loopI (fun j : Nat × Value => j.1 ≤ 1) (fun j => 1 - j.1) (fun j => ⟨[.d (tys ts), litI .i64 d, .any, .any, .any, .ptr 5 g5 0, .ptr 6 g6 0, .any, litI .i64 P, litI .i64 kd, .ptr 10 g10 0, litI .i64 (j.1 : Int), .any, .any, .any, .any, .any, .any, .any, .any, .any, .any, .any, .any, .any, .any, .any, .any, .any, .any, .any, .any, .any, .any, .any, .any, .any, .any, .any, .any, .any, .any, .any, .any, .any, .any, .any, .any, .any, .any, .any, .any, .any, .any, .any, .any, .any, .any, .any, .any], [.no, .no, .no, .no, .no, .box g5 [.d (bytesD b), litI .i64 ((at3 (n + 1) m1 m1 j.1 : Nat) : Int)], .box g6 [litI .i64 0, litI .i64 0, litI .i64 0, litI .i64 0, litS ⟨#[]⟩, .d (.lit (.slice none 0 0)), .d (.lit (.slice none 0 0)), litI .i64 0], .no, .no, .no, .box g10 [litI .i64 P, litI .i64 0, litI .i64 0, litI .i64 0, litS ⟨#[]⟩, argV j.1 j.2], .no, .no, .no, .no, .no, .no, .no, .no, .no, .no, .no, .no, .no, .no, .no, .no, .no, .no, .no, .no, .no, .no, .no, .no, .no, .no, .no, .no, .no, .no, .no, .no, .no, .no, .no, .no, .no, .no, .no, .no, .no, .no, argO1 e1 j.1 j.2, .no, .no, .no, .no, .no, .no]⟩) (0, .slice none 0 0) (by simp) ?_ ?_
    · simp only [argV, argO1, at3]
      exact wkA
    rintro ⟨i, v⟩ hi
    simp only [litI, litB, litS] at hi h1 a5 ⊢
    obtain rfl | rfl : i = 0 ∨ i = 1 := by omega
    · simp only [argV, argO1, at3]
      have d1 : decide (((0 : Nat) : Int) < 1) = true := by decide
      have w4 : IntKind.i64.wrap (((0 : Nat) : Int) + 1) = 1 := by decide
      all_goals have H := And.intro d1 (And.intro w1 w4)
      repeat' first | refine awp_seq ?_ | refine awp_block ?_ | refine awp_skip ?_ | (apply regB; (case hd => exact hdA); intro K hK) | ((refine awp_cond _ (by rfl) ?_ ?_) <;> (first | refine ttA ?_ | refine ffA ?_ | (intro hb; first | (cases hb; done) | simp only [hb] | skip))) | ((first | apply awp_exit | apply awp_ret); refine tqA ?_) | (refine ev_nil (hK _ ?_); clear hK K) | (apply ev_call0; (case hys => (simp only [go_sem, H]; try rfl)); (case hs => first | exact a5 .. | exact h1 ..); (case hok | hσ => (simp only [go_sem, H]; try rfl))) | (apply ev_step0; (case hr | hσ => (simp only [go_sem, H]; try rfl)); (case hc => exact hcA)) | (apply ev_step; (case hr | hσ => (intros; simp only [go_sem, H]; try rfl)); (case hc => exact hcA); intro g u; (try clear u); (try clear g)) | fail
      all_goals try clear H
      refine Exists.intro (1, u) ⟨by simp, by simp, ?_⟩
      simp only [argV, argO1, at3]
      exact wkA
    simp only [argV, argO1, at3]
    have d1 : decide (((1 : Nat) : Int) < 1) = false := by decide
    repeat' first | refine awp_seq ?_ | refine awp_block ?_ | refine awp_skip ?_ | (apply regB; (case hd => exact hdA); intro K hK) | ((refine awp_cond _ (by rfl) ?_ ?_) <;> (first | refine ttA ?_ | refine ffA ?_ | (intro hb; first | (cases hb; done) | simp only [hb] | skip))) | ((first | apply awp_exit | apply awp_ret); refine tqA ?_) | (refine ev_nil (hK _ ?_); clear hK K) | (apply ev_call0; (case hys => (simp only [go_sem, d1]; try rfl)); (case hs => first | exact a5 ..); (case hok | hσ => (simp only [go_sem, d1]; try rfl))) | (apply ev_step0; (case hr | hσ => (simp only [go_sem, d1]; try rfl)); (case hc => exact hcA)) | (apply ev_step; (case hr | hσ => (intros; simp only [go_sem, d1]; try rfl)); (case hc => exact hcA); intro g u; (try clear u); (try clear g)) | fail
    all_goals (refine resR_oneA ?_; simp only [go_sem])
    exact LeA.refl _
end
section
set_option linter.unusedVariables false
set_option linter.unusedSimpArgs false
open Go.RowKit
def nn (l : List Vl) : List Vl := l.filter fun v => !isNull v
def nullsN (l : List Vl) : Nat := (l.filter isNull).length
theorem nn_append (l m : List Vl) : nn (l ++ m) = nn l ++ nn m := List.filter_append ..
theorem nullsN_append (l m : List Vl) : nullsN (l ++ m) = nullsN l + nullsN m := by simp [nullsN, List.filter_append]
theorem nullsN_le (l : List Vl) : nullsN l ≤ l.length := List.length_filter_le _ _
theorem mem_nn {l : List Vl} {v : Vl} : v ∈ nn l ↔ v ∈ l ∧ isNull v = false := by simp [nn]
structure Is (l : List Vl) (b : Bd) : Prop where
  nulls : b.nulls = (nullsN l : Int)
  has : b.has = true ↔ nn l ≠ []
  lo : b.has = true → b.lo ∈ nn l ∧ ∀ w ∈ nn l, leV b.lo w
  hi : b.has = true → b.hi ∈ nn l ∧ ∀ w ∈ nn l, leV w b.hi
  no : b.has = false → b.lo = nullV ∧ b.hi = nullV
structure Gd (k : Int) (l : List Vl) : Prop where
  wide : ∀ v ∈ l, wideV v = true
  kind : ∀ v ∈ l, isNull v = false → v.k = k
  num : ∀ v ∈ l, -40000000 ≤ v.i ∧ v.i ≤ 40000000
theorem Gd.sub {k : Int} {l m : List Vl} (h : Gd k l) (hs : ∀ v ∈ m, v ∈ l) : Gd k m := ⟨fun v hv => h.wide v (hs v hv), fun v hv => h.kind v (hs v hv), fun v hv => h.num v (hs v hv)⟩
theorem Gd.append {k : Int} {l m : List Vl} (h : Gd k l) (h' : Gd k m) : Gd k (l ++ m) :=
  ⟨fun v hv => (List.mem_append.1 hv).elim (h.wide v) (h'.wide v), fun v hv => (List.mem_append.1 hv).elim (h.kind v) (h'.kind v), fun v hv => (List.mem_append.1 hv).elim (h.num v) (h'.num v)⟩
theorem Is.zero : Is [] zeroBd := ⟨rfl, by simp [nn], fun h => by simp at h, fun h => by simp at h, fun _ => ⟨rfl, rfl⟩⟩
theorem Is.step_null {p : List Vl} {b : Bd} {v : Vl} (h : Is p b) (hv : isNull v = true) : Is (p ++ [v]) ⟨b.nulls + 1, b.has, b.lo, b.hi, b.sum⟩ := by
  have e : nn (p ++ [v]) = nn p := by rw [nn_append]; simp [nn, hv]
  refine ⟨?_, by rw [e]; exact h.has, by rw [e]; exact h.lo, by rw [e]; exact h.hi, h.no⟩
  rw [nullsN_append, h.nulls]
  simp [nullsN, hv]
theorem ofIn_false (b : Bd) (v : Vl) (h : b.has = false) : ofIn b v = ⟨b.nulls, true, v, v, b.sum⟩ := by
  simp [ofIn, startV, h, lowV, highV, cmpV_self]
theorem ofIn_true (b : Bd) (v : Vl) (h : b.has = true) : ofIn b v = ⟨b.nulls, true, if cmpV v b.lo < 0 then v else b.lo, if cmpV v b.hi > 0 then v else b.hi, b.sum⟩ := by
  obtain ⟨bn, bh, bl, bi, bs'⟩ := b
  simp only at h
  subst h
  simp only [ofIn, startV, if_true, lowV, highV]
  split <;> simp only <;> split <;> rfl
theorem Is.step_val {p : List Vl} {b : Bd} {v : Vl} (h : Is p b) (hv : isNull v = false) : Is (p ++ [v]) (ofIn b v) := by
  have e : nn (p ++ [v]) = nn p ++ [v] := by rw [nn_append]; simp [nn, hv]
  have en : nullsN (p ++ [v]) = nullsN p := by rw [nullsN_append]; simp [nullsN, hv]
  cases hh : b.has with
  | false =>
    have hn : nn p = [] := by
      have := h.has
      rw [hh] at this
      simpa using this
    rw [ofIn_false b v hh]
    refine ⟨by rw [en]; exact h.nulls, by rw [e]; simp, ?_, ?_, by simp⟩
    · intro _; rw [e, hn]
      refine ⟨by simp, fun w hw => ?_⟩
      simp at hw; subst hw; exact leV_refl _
    · intro _; rw [e, hn]
      refine ⟨by simp, fun w hw => ?_⟩
      simp at hw; subst hw; exact leV_refl _
  | true =>
    rw [ofIn_true b v hh]
    have hl := h.lo hh
    have hi := h.hi hh
    refine ⟨by rw [en]; exact h.nulls, by rw [e]; simp, ?_, ?_, by simp⟩
    · intro _; rw [e]
      by_cases c : cmpV v b.lo < 0
      · simp only [c, if_true]
        refine ⟨by simp, fun w hw => ?_⟩
        rcases List.mem_append.1 hw with hw | hw
        · exact leV_trans (leV_lt c) (hl.2 w hw)
        · simp at hw; subst hw; exact leV_refl _
      · simp only [c, if_false]
        refine ⟨List.mem_append.2 (.inl hl.1), fun w hw => ?_⟩
        rcases List.mem_append.1 hw with hw | hw
        · exact hl.2 w hw
        · simp at hw; subst hw; exact leV_not c
    · intro _; rw [e]
      by_cases c : cmpV v b.hi > 0
      · simp only [c, if_true]
        refine ⟨by simp, fun w hw => ?_⟩
        rcases List.mem_append.1 hw with hw | hw
        · exact leV_trans (hi.2 w hw) (leV_gt c)
        · simp at hw; subst hw; exact leV_refl _
      · simp only [c, if_false]
        refine ⟨List.mem_append.2 (.inl hi.1), fun w hw => ?_⟩
        rcases List.mem_append.1 hw with hw | hw
        · exact hi.2 w hw
        · simp at hw; subst hw
          unfold leV; omega
theorem ofIn_sum (b : Bd) (v : Vl) : (ofIn b v).sum = b.sum := by
  cases hh : b.has with
  | false => rw [ofIn_false b v hh]
  | true => rw [ofIn_true b v hh]
theorem ofS_is {k : Int} : ∀ (l p : List Vl) (b : Bd), Gd k (p ++ l) → Is p b → ∃ c, ofS b l = some c ∧ Is (p ++ l) c ∧ c.sum = b.sum
  | [], p, b, _, h => ⟨b, rfl, by rw [List.append_nil]; exact h, rfl⟩
  | v :: l, p, b, hg, h => by
    have hw := hg.wide v (by simp)
    have e : p ++ v :: l = (p ++ [v]) ++ l := by simp
    cases hn : isNull v with
    | true =>
      have hb : badV b v = false := by simp [badV, hw, hn]
      obtain ⟨c, h1, h2, h3⟩ := ofS_is l (p ++ [v]) _ (by rw [← e]; exact hg) (h.step_null hn)
      refine ⟨c, ?_, by rw [e]; exact h2, h3⟩
      rw [ofS, hb, if_neg Bool.false_ne_true, if_pos hn]; exact h1
    | false =>
      have hb : badV b v = false := by
        cases hh : b.has with
        | false => simp [badV, hw, hn, hh]
        | true =>
          have hm := (h.lo hh).1
          rw [mem_nn] at hm
          have e1 := hg.kind b.lo (by simp [hm.1]) hm.2
          have e2 := hg.kind v (by simp) hn
          simp [badV, hw, e1, e2]
      obtain ⟨c, h1, h2, h3⟩ := ofS_is l (p ++ [v]) _ (by rw [← e]; exact hg) (h.step_val hn)
      refine ⟨c, ?_, by rw [e]; exact h2, by rw [h3, ofIn_sum]⟩
      rw [ofS, hb, if_neg Bool.false_ne_true, hn, if_neg Bool.false_ne_true]; exact h1
theorem sum_bd : ∀ {l : List Int}, (∀ x ∈ l, -40000000 ≤ x ∧ x ≤ 40000000) → -(40000000 * l.length) ≤ sumL l ∧ sumL l ≤ 40000000 * l.length
  | [], _ => by simp [sumL]
  | a :: l, h => by
    have h1 := h a (by simp)
    have h2 := sum_bd (l := l) fun x hx => h x (by simp [hx])
    simp only [sumL, List.foldr_cons, List.length_cons] at h2 ⊢
    push_cast
    omega
theorem nums_bd {k : Int} {l : List Vl} (hg : Gd k l) : ∀ x ∈ numsV l, -40000000 ≤ x ∧ x ≤ 40000000 := by
  intro x hx
  simp only [numsV, List.mem_map, List.mem_filter] at hx
  obtain ⟨v, ⟨hv, _⟩, rfl⟩ := hx
  exact hg.num v hv
theorem sums_bd {k : Int} {l : List Vl} (hg : Gd k l) (hl : l.length ≤ 1000) : -40000000000 ≤ sumL (numsV l) ∧ sumL (numsV l) ≤ 40000000000 := by
  have h1 := sum_bd (nums_bd hg)
  have h2 := numsV_len l
  omega
theorem sumD_nums {k : Int} {l : List Vl} (hg : Gd k l) (hl : l.length ≤ 1000) : sumD (numsV l) = (sumL (numsV l), 0) := by
  have h := sums_bd hg hl
  unfold sumD
  rw [if_pos]
  rw [Bool.and_eq_true, List.all_eq_true]
  refine ⟨fun x hx => ?_, small_iff.2 (by omega)⟩
  have := nums_bd hg x hx
  exact small_iff.2 (by omega)
structure IsS (l : List Vl) (b : Bd) : Prop extends Is l b where
  sum : b.sum = sumL (numsV l)
theorem ofM_is {k : Int} {l : List Vl} (hg : Gd k l) (hl : l.length ≤ 1000) : ∃ c, ofM l = (c, 0) ∧ IsS l c := by
  obtain ⟨c, h1, h2, h3⟩ := ofS_is l [] zeroBd hg Is.zero
  rw [List.nil_append] at h2
  refine ⟨⟨c.nulls, c.has, c.lo, c.hi, sumL (numsV l)⟩, ?_, ⟨h2.nulls, h2.has, h2.lo, h2.hi, h2.no⟩, rfl⟩
  unfold ofM
  rw [h1, sumD_nums hg hl]; rfl
theorem null_k {v : Vl} (h : isNull v = true) : v.k = 0 := by
  unfold isNull at h
  simp only [Bool.and_eq_true, beq_iff_eq] at h
  exact h.1
theorem nums_nil {k : Int} {l : List Vl} (hg : Gd k l) (h : nn l = [] ∨ k ≠ 2) : numsV l = [] := by
  unfold numsV
  rw [List.map_eq_nil_iff, List.filter_eq_nil_iff]
  intro v hv h2
  have h2 : v.k = 2 := by simpa using h2
  have hnn : isNull v = false := by
    cases hn : isNull v with
    | false => rfl
    | true => rw [null_k hn] at h2; cases h2
  rcases h with h | h
  · have : v ∈ nn l := mem_nn.2 ⟨hv, hnn⟩
    rw [h] at this; cases this
  · exact h ((hg.kind v hv hnn).symm.trans h2)
theorem IsS.valid {k : Int} {l : List Vl} {b : Bd} (h : IsS l b) (hg : Gd k l) (hl : l.length ≤ 1000) : validB b = true := by
  have hn := h.nulls
  have hnl := nullsN_le l
  have hs := sums_bd hg hl
  rw [← h.sum] at hs
  unfold validB
  rw [if_neg (by rw [decide_eq_true_eq]; omega), if_neg (by rw [decide_eq_true_eq]; omega), if_neg (by rw [decide_eq_true_eq]; omega), if_neg (by rw [decide_eq_true_eq]; omega)]
  cases hh : b.has with
  | false =>
    rw [if_pos rfl]
    have hz : nn l = [] := by
      have := h.has
      rw [hh] at this
      simpa using this
    have hs0 : b.sum = 0 := by rw [h.sum, nums_nil hg (.inl hz)]; rfl
    unfold bareB
    rw [(h.no hh).1, (h.no hh).2, hs0]
    show ((((0 : Int) == 0) && (((0 : Int) == 0) && noS ⟨#[]⟩)) && ((((0 : Int) == 0) && (((0 : Int) == 0) && noS ⟨#[]⟩)) && ((0 : Int) == 0))) = true
    rw [noS_e]; rfl
  | true =>
    have hlo := h.lo hh
    have hhi := h.hi hh
    have m1 := mem_nn.1 hlo.1
    have m2 := mem_nn.1 hhi.1
    have k1 := hg.kind _ m1.1 m1.2
    have k2 := hg.kind _ m2.1 m2.2
    rw [if_neg (by decide), hg.wide _ m1.1, if_neg (by decide), hg.wide _ m2.1, if_neg (by decide), m1.2, if_neg (by decide), k1, k2, if_neg (by simp), if_neg (by rw [decide_eq_true (show cmpV b.lo b.hi ≤ 0 from hlo.2 _ hhi.1)]; decide)]
    by_cases hk : k = 2
    · rw [if_pos (by simpa using hk)]
    · rw [if_neg (by simpa using hk), h.sum, nums_nil hg (.inr hk)]; rfl
theorem IsS.contains {k : Int} {l : List Vl} {b : Bd} (h : IsS l b) (hg : Gd k l) (hl : l.length ≤ 1000) {v : Vl} (hv : v ∈ l) : containsB b v = true := by
  unfold containsB
  rw [h.valid hg hl, if_neg (by decide), hg.wide v hv, if_neg (by decide)]
  cases hn : isNull v with
  | true =>
    rw [if_pos rfl, h.nulls, decide_eq_true_eq]
    have : v ∈ l.filter isNull := List.mem_filter.2 ⟨hv, hn⟩
    have := List.length_pos_of_mem this
    unfold nullsN; omega
  | false =>
    rw [if_neg (by decide)]
    have hm : v ∈ nn l := mem_nn.2 ⟨hv, hn⟩
    have hh : b.has = true := h.has.2 (List.ne_nil_of_mem hm)
    have hlo := h.lo hh
    have hhi := h.hi hh
    have m1 := mem_nn.1 hlo.1
    rw [hh, if_neg (by decide), hg.kind v hv hn, hg.kind _ m1.1 m1.2, if_neg (by simp), if_neg (by rw [decide_eq_true (show cmpV b.lo v ≤ 0 from hlo.2 _ hm)]; decide)]
    exact decide_eq_true (hhi.2 _ hm)
end
section
set_option linter.unusedVariables false
set_option linter.unusedSimpArgs false
open Go.RowKit
theorem ok_null' : VlOk nullV := ⟨by decide, by show (0 : Nat) ≤ _; omega⟩
theorem wide_bool (b : Bool) : wideV (boolV b) = true := by
  have h : checkV (boolV b) 4000000000000000000 = ((andNotI .i64 (boolV b).i 1 == 0) && noS ⟨#[]⟩) := by
    unfold checkV
    rw [if_neg (show ¬ (boolV b).k = 0 from (by decide : ¬ (1 : Int) = 0)), if_pos (show (boolV b).k = 1 from rfl)]
    rfl
  rw [wideV, h, noS_e, Bool.and_true]
  cases b <;> rfl
def wordOk (s : ByteArray) : Bool := decide ((s.size : Int) ≤ 40) && graphicB s
theorem words_ok : wordsL.all wordOk = true := by decide +kernel
theorem wordM_ok (n : Int) : wordOk (wordM n) = true := by
  unfold wordM
  by_cases h : (n.tmod 15).toNat < wordsL.length
  · exact List.all_eq_true.1 words_ok _ (mem_at wordsL _ h)
  · rw [List.getD_eq_getElem?_getD, List.getElem?_eq_none (by omega)]; rfl
theorem wide_word (n : Int) : wideV ⟨3, 0, wordM n⟩ = true := by
  have h : checkV ⟨3, 0, wordM n⟩ 4000000000000000000 = (((0 : Int) == 0) && decide (((wordM n).size : Int) ≤ 40) && graphicB (wordM n)) := by
    unfold checkV
    rw [if_neg (show ¬ (3 : Int) = 0 by decide), if_neg (show ¬ (3 : Int) = 1 by decide), if_neg (show ¬ (3 : Int) = 2 by decide), if_pos rfl]
  have := wordM_ok n
  unfold wordOk at this
  rw [wideV, h, Bool.and_assoc, this]; rfl
theorem noS_size {s : ByteArray} (h : noS s = true) : s.size ≤ 40 := by
  unfold noS at h
  rw [beq_iff_eq, ByteArray.toList_eq, ByteArray.toList_eq] at h
  have : s.data.toList.length = 0 := by rw [h]; rfl
  have e : s.size = s.data.toList.length := by simp
  omega
theorem wide_ok {v : Vl} (h : wideV v = true) (hi : -40000000 ≤ v.i ∧ v.i ≤ 40000000) : VlOk v := by
  refine ⟨by omega, ?_⟩
  unfold wideV checkV at h
  have : v.s.size ≤ 40 := by
    split at h
    · simp only [Bool.and_eq_true] at h; exact noS_size h.2
    split at h
    · simp only [Bool.and_eq_true] at h; exact noS_size h.2
    split at h
    · simp only [Bool.and_eq_true] at h; exact noS_size h.2
    split at h
    · simp only [Bool.and_eq_true, decide_eq_true_eq] at h; omega
    · cases h
  omega
theorem Gd.ok {k : Int} {l : List Vl} (h : Gd k l) : ∀ v ∈ l, VlOk v := fun v hv => wide_ok (h.wide v hv) (h.num v hv)
theorem IsS.ok {k : Int} {l : List Vl} {b : Bd} (h : IsS l b) (hg : Gd k l) (hl : l.length ≤ 1000) : BdOk b := by
  have hs := sums_bd hg hl
  rw [← h.sum] at hs
  cases hh : b.has with
  | false =>
    refine ⟨?_, ?_, by omega⟩
    · rw [(h.no hh).1]; exact ok_null'
    · rw [(h.no hh).2]; exact ok_null'
  | true => exact ⟨hg.ok _ (mem_nn.1 (h.lo hh).1).1, hg.ok _ (mem_nn.1 (h.hi hh).1).1, by omega⟩
end
section
set_option linter.unusedVariables false
set_option linter.unusedSimpArgs false
open Go.RowKit
attribute [local irreducible] Spec SpecF SpecN
attribute [local irreducible] AWp evOps evD
def cellM (ts : List Ty) (b : List Int) (i : Nat) : Vl := valM (ts.getD i dTy) (b.getD (2 * i) 0) (b.getD (2 * i + 1) 0)
def rowM (ts : List Ty) (b : List Int) : List Vl := (List.range ts.length).map (cellM ts b)
theorem range_take (n : Nat) {i : Nat} (h : i < n) : (List.range n).take (i + 1) = (List.range n).take i ++ [i] := by
  rw [take_at (List.range n) 0 (by simpa using h), show (List.range n).getD i 0 = i by simp [List.getD_eq_getElem?_getD, h]]
theorem rowM_take (ts : List Ty) (b : List Int) {i : Nat} (h : i < ts.length) : (rowM ts b).take (i + 1) = (rowM ts b).take i ++ [cellM ts b i] := by
  unfold rowM
  rw [← List.map_take, ← List.map_take, range_take _ h, List.map_append]; rfl
theorem rowM_len (ts : List Ty) (b : List Int) : (rowM ts b).length = ts.length := by simp [rowM]
set_option maxHeartbeats 4000000 in
theorem f34_spec (ts : List Ty) (hts : ∀ t ∈ ts, TyOk t) (hl : ts.length ≤ 6) (b : List Int) (hb : ∀ x ∈ b, 0 ≤ x ∧ x < 256) : Spec Tryd.prog 34 [.d (tys ts), .d (bytesD b)] (.d (vls (rowM ts b))) := by
  refine spec_of_awp (fn := Tryd.f34) Tryd.func34 (by kernel_rfl) rfl ?_
  intro w0 C0
  simp only [Tryd.ntmps34, go_sem]
  repeat' first | refine awp_seq ?_ | refine awp_block ?_ | refine awp_skip ?_ | (apply regB; (case hd => exact hdA); intro K hK) | ((refine awp_cond _ (by rfl) ?_ ?_) <;> (first | refine ttA ?_ | refine ffA ?_ | (intro hb; first | (cases hb; done) | simp only [hb] | skip))) | ((first | apply awp_exit | apply awp_ret); refine tqA ?_) | (refine ev_nil (hK _ ?_); clear hK K) | (apply ev_step0; (case hr | hσ => (simp only [go_sem]; try rfl)); (case hc => exact hcA)) | (apply ev_step; (case hr | hσ => (intros; simp only [go_sem]; try rfl)); (case hc => exact hcA); intro g u; (try clear u); (try clear g)) | fail
  refine awp_loopI (fun j : Nat × Value => j.1 ≤ ts.length) (fun j => ts.length - j.1) (fun j => ⟨[.d (tys ts), .d (bytesD b), .any, .any, .d (.lit (.slice none 0 0)), .own 8 j.2, litI .i64 (j.1 : Int), .any, .any, .any, .any, .any, .any, .any, .any, .any, .any, .any, .any, .any, .any, .any, .any, .any, .any, .any, .any, .any, .any, .any, .any, .any, .any, .any, .any, .any], [.no, .no, .no, .no, .no, .no, .no, .no, .row j.2 26 3 (((rowM ts b).take j.1).map vlD), .no, .no, .no, .no, .no, .no, .no, .no, .no, .no, .no, .no, .no, .no, .no, .no, .no, .no, .no, .no, .no, .no, .no, .no, .no, .no, .no]⟩) (0, u) (by simp) ?_ ?_
  · simp only [List.take_zero, List.map_nil]
    exact wkA
  rintro ⟨j, v⟩ hj
  simp only [litI, litB] at hj ⊢
  by_cases h1 : j < ts.length
  · have d1 : decide ((j : Int) < (ts.length : Int)) = true := decide_eq_true (by omega)
    have hx := tys_at ts h1
    have ht := hts _ (mem_at ts dTy h1)
    have a1 := f51_spec b (2 * j) (by omega) hb
    have a2 := f52_spec b (2 * j) 1 (by omega)
    have a3 := f51_spec b (2 * j + 1) (by omega) hb
    have m1 := byte_mem hb (2 * j)
    have m2 := byte_mem hb (2 * j + 1)
    have a5 := f50_spec (ts.getD j dTy) (b.getD (2 * j) 0) (b.getD (2 * j + 1) 0) ht.scale m1 m2
    have hs := rowM_take ts b h1
    have hsl : ((rowM ts b).take j).length ≤ 6 := by rw [List.length_take, rowM_len]; omega
    unfold cellM at hs
    generalize valM (ts.getD j dTy) (b.getD (2 * j) 0) (b.getD (2 * j + 1) 0) = w at *
    generalize ts.getD j dTy = t at *
    generalize b.getD (2 * j) 0 = x at *
    generalize b.getD (2 * j + 1) 0 = y at *
    generalize (rowM ts b).take j = pre at *
    have w1 := wrap_u8 m1
    have w2 := wrap_u8 m2
    have w3 : IntKind.i64.wrap (2 * (j : Int)) = ((2 * j : Nat) : Int) := by rw [wrap_id (by omega)]; push_cast; rfl
    have w4 : IntKind.i64.wrap ((j : Int) + 1) = ((j + 1 : Nat) : Int) := by rw [wrap_id (by omega)]; push_cast; rfl
    rw [show ((1 : Nat) : Int) = 1 from rfl] at a2
    all_goals have H := And.intro d1 (And.intro hx (And.intro w1 (And.intro w2 (And.intro w3 w4))))
    repeat' first | refine awp_seq ?_ | refine awp_block ?_ | refine awp_skip ?_ | (apply regB; (case hd => exact hdA); intro K hK) | ((refine awp_cond _ (by rfl) ?_ ?_) <;> (first | refine ttA ?_ | refine ffA ?_ | (intro hb; first | (cases hb; done) | simp only [hb] | skip))) | ((first | apply awp_exit | apply awp_ret); refine tqA ?_) | (refine ev_nil (hK _ ?_); clear hK K) | (apply regDB; (case hd => exact hdA); (case' h => (intro K hK; (repeat' first | (apply evd_nil; refine (hK _ ?_); clear hK K) | (apply evd_call0; (case hi | hys => (simp only [go_sem, H]; try rfl)); (case hs => first | exact a1 .. | exact a2 .. | exact a3 .. | exact a5 ..); (case hok | hw | hσ => (simp only [go_sem, H]; try rfl))) | (apply evd_step0; (case hr | hi | hσ => (simp only [go_sem, H]; try rfl)); (case hc => exact hcA)) | (apply evd_step; (case hr | hi | hw | hσ => (intros; simp only [go_sem, H]; try rfl)); (case hc => exact hcA); (case' hk => (intro g u; (try clear u); (try clear g)))) | fail))); (case hB => kernel_rfl)) | (apply ev_step0; (case hr | hσ => (simp only [go_sem, H]; try rfl)); (case hc => exact hcA)) | (apply ev_step; (case hr | hσ => (intros; simp only [go_sem, H]; try rfl)); (case hc => exact hcA); intro g u; (try clear u); (try clear g)) | fail
    all_goals try clear H
    refine Exists.intro (j + 1, u) ⟨by show j + 1 ≤ _; omega, by show ts.length - (j + 1) < ts.length - j; omega, ?_⟩
    simp only [hs, List.map_append, List.map_cons, List.map_nil]
    exact wkA
  · have d1 : decide ((j : Int) < (ts.length : Int)) = false := decide_eq_false (by omega)
    have e : (rowM ts b).take j = rowM ts b := List.take_of_length_le (by rw [rowM_len]; omega)
    rw [e]
    repeat' first | refine awp_seq ?_ | refine awp_block ?_ | refine awp_skip ?_ | (apply regB; (case hd => exact hdA); intro K hK) | ((refine awp_cond _ (by rfl) ?_ ?_) <;> (first | refine ttA ?_ | refine ffA ?_ | (intro hb; first | (cases hb; done) | simp only [hb] | skip))) | ((first | apply awp_exit | apply awp_ret); refine tqA ?_) | (refine ev_nil (hK _ ?_); clear hK K) | (apply ev_step0; (case hr | hσ => (simp only [go_sem, d1]; try rfl)); (case hc => exact hcA)) | (apply ev_step; (case hr | hσ => (intros; simp only [go_sem, d1]; try rfl)); (case hc => exact hcA); intro g u; (try clear u); (try clear g)) | fail
    all_goals (refine resR_oneA ?_; simp only [go_sem])
    exact LeA.refl _
abbrev lists (bs : List (List Int)) : Dat := .sl 1 (bs.map fun b => [bytesD b])
abbrev rowsD (rs : List (List Vl)) : Dat := .sl 1 (rs.map fun r => [vls r])
theorem lists_at (l : List (List Int)) {i : Nat} (h : i < l.length) : (l.map fun b => [bytesD b]).getD i [] = [bytesD (l.getD i [])] := by
  simp [List.getD_eq_getElem?_getD, h]
def rowsM (ts : List Ty) (bs : List (List Int)) : List (List Vl) := (bs.take 12).map (rowM ts)
set_option maxHeartbeats 4000000 in
theorem f10_spec (ts : List Ty) (hts : ∀ t ∈ ts, TyOk t) (hl : ts.length ≤ 6) (bs : List (List Int)) (hb : ∀ b ∈ bs, ∀ x ∈ b, 0 ≤ x ∧ x < 256) : Spec Tryd.prog 10 [.d (tys ts), .d (lists bs)] (.d (rowsD (rowsM ts bs))) := by
  refine spec_of_awp (fn := Tryd.f10) Tryd.func10 (by kernel_rfl) rfl ?_
  intro w0 C0
  simp only [Tryd.ntmps10, go_sem]
  repeat' first | refine awp_seq ?_ | refine awp_block ?_ | refine awp_skip ?_ | (apply regB; (case hd => exact hdA); intro K hK) | (apply ev_guardU; (case hj | hu | hσ => (simp only [go_sem]; try rfl))) | ((first | refine awp_cond _ (by rfl) ?_ ?_ | ((first | apply ev_guardT | apply ev_guardF); (case hj | hb => (simp only [go_sem]; try rfl)))) <;> (first | refine ttA ?_ | refine ffA ?_ | (intro hb; first | (cases hb; done) | simp only [hb] | skip))) | ((first | apply awp_exit | apply awp_ret); refine tqA ?_) | (refine ev_nil (hK _ ?_); clear hK K) | (apply ev_step0; (case hr | hσ => (simp only [go_sem]; try rfl)); (case hc => exact hcA)) | (apply ev_step; (case hr | hσ => (intros; simp only [go_sem]; try rfl)); (case hc => exact hcA); intro g u; (try clear u); (try clear g)) | fail
  refine awp_loopI (fun j : Nat × Value => j.1 ≤ bs.length ∧ j.1 ≤ 12) (fun j => 12 - j.1) (fun j => ⟨[.d (tys ts), .d (lists bs), .any, .any, .d (.lit (.slice none 0 0)), .own 7 j.2, litI .i64 (j.1 : Int), .any, .any, .any, .any, .any, .any, .any, .any, .any, .any, .any, .any, .any, .any, .any, .any, .any, .any, .any, .any, .any], [.no, .no, .no, .no, .no, .no, .no, .row j.2 22 1 (((bs.take j.1).map (rowM ts)).map fun r => [vls r]), .no, .no, .no, .no, .no, .no, .no, .no, .no, .no, .no, .no, .no, .no, .no, .no, .no, .no, .no, .no]⟩) (0, u) (by simp) ?_ ?_
  · simp only [List.take_zero, List.map_nil]
    exact wkA
  rintro ⟨j, v⟩ ⟨hj, hj12⟩
  simp only [litI, litB] at hj hj12 ⊢
  by_cases h1 : j < bs.length
  · have d1 : decide ((j : Int) < (bs.length : Int)) = true := decide_eq_true (by omega)
    by_cases h2 : j < 12
    · have d2 : decide ((j : Int) < 12) = true := decide_eq_true (by omega)
      have hx := lists_at bs h1
      have a1 := f34_spec ts hts hl (bs.getD j []) (hb _ (mem_at bs [] h1))
      have hs : (bs.take (j + 1)).map (rowM ts) = (bs.take j).map (rowM ts) ++ [rowM ts (bs.getD j [])] := by rw [take_at bs [] h1, List.map_append]; rfl
      have hsl : ((bs.take j).map (rowM ts)).length ≤ 12 := by rw [List.length_map, List.length_take]; omega
      generalize rowM ts (bs.getD j []) = r at *
      generalize bs.getD j [] = y at *
      generalize (bs.take j).map (rowM ts) = pre at *
      have w4 : IntKind.i64.wrap ((j : Int) + 1) = ((j + 1 : Nat) : Int) := by rw [wrap_id (by omega)]; push_cast; rfl
      all_goals have H := And.intro d1 (And.intro d2 (And.intro hx w4))
      repeat' first | refine awp_seq ?_ | refine awp_block ?_ | refine awp_skip ?_ | (apply regB; (case hd => exact hdA); intro K hK) | (apply ev_guardU; (case hj | hu | hσ => (simp only [go_sem, H]; try rfl))) | ((first | refine awp_cond _ (by rfl) ?_ ?_ | ((first | apply ev_guardT | apply ev_guardF); (case hj | hb => (simp only [go_sem, H]; try rfl)))) <;> (first | refine ttA ?_ | refine ffA ?_ | (intro hb; first | (cases hb; done) | simp only [hb] | skip))) | ((first | apply awp_exit | apply awp_ret); refine tqA ?_) | (refine ev_nil (hK _ ?_); clear hK K) | (apply ev_call0; (case hys => (simp only [go_sem, H]; try rfl)); (case hs => first | exact a1 ..); (case hok | hσ => (simp only [go_sem, H]; try rfl))) | (apply ev_step0; (case hr | hσ => (simp only [go_sem, H]; try rfl)); (case hc => exact hcA)) | (apply ev_step; (case hr | hσ => (intros; simp only [go_sem, H]; try rfl)); (case hc => exact hcA); intro g u; (try clear u); (try clear g)) | fail
      all_goals try clear H
      refine Exists.intro (j + 1, u) ⟨⟨by show j + 1 ≤ _; omega, by show j + 1 ≤ 12; omega⟩, by show 12 - (j + 1) < 12 - j; omega, ?_⟩
      simp only [hs, List.map_append, List.map_cons, List.map_nil]
      exact wkA
    · have d2 : decide ((j : Int) < 12) = false := decide_eq_false (by omega)
      have e : (bs.take j).map (rowM ts) = rowsM ts bs := by rw [rowsM, show j = 12 by omega]
      rw [e]
      all_goals have H := And.intro d1 d2
      repeat' first | refine awp_seq ?_ | refine awp_block ?_ | refine awp_skip ?_ | (apply regB; (case hd => exact hdA); intro K hK) | (apply ev_guardU; (case hj | hu | hσ => (simp only [go_sem, H]; try rfl))) | ((first | refine awp_cond _ (by rfl) ?_ ?_ | ((first | apply ev_guardT | apply ev_guardF); (case hj | hb => (simp only [go_sem, H]; try rfl)))) <;> (first | refine ttA ?_ | refine ffA ?_ | (intro hb; first | (cases hb; done) | simp only [hb] | skip))) | ((first | apply awp_exit | apply awp_ret); refine tqA ?_) | (refine ev_nil (hK _ ?_); clear hK K) | (apply ev_step0; (case hr | hσ => (simp only [go_sem, H]; try rfl)); (case hc => exact hcA)) | (apply ev_step; (case hr | hσ => (intros; simp only [go_sem, H]; try rfl)); (case hc => exact hcA); intro g u; (try clear u); (try clear g)) | fail
      all_goals try clear H
      all_goals (refine resR_oneA ?_; simp only [go_sem])
      exact LeA.refl _
  · have d1 : decide ((j : Int) < (bs.length : Int)) = false := decide_eq_false (by omega)
    have e : (bs.take j).map (rowM ts) = rowsM ts bs := by rw [rowsM, List.take_of_length_le (by omega), List.take_of_length_le (by omega)]
    rw [e]
    repeat' first | refine awp_seq ?_ | refine awp_block ?_ | refine awp_skip ?_ | (apply regB; (case hd => exact hdA); intro K hK) | (apply ev_guardU; (case hj | hu | hσ => (simp only [go_sem, d1]; try rfl))) | ((first | refine awp_cond _ (by rfl) ?_ ?_ | ((first | apply ev_guardT | apply ev_guardF); (case hj | hb => (simp only [go_sem, d1]; try rfl)))) <;> (first | refine ttA ?_ | refine ffA ?_ | (intro hb; first | (cases hb; done) | simp only [hb] | skip))) | ((first | apply awp_exit | apply awp_ret); refine tqA ?_) | (refine ev_nil (hK _ ?_); clear hK K) | (apply ev_step0; (case hr | hσ => (simp only [go_sem, d1]; try rfl)); (case hc => exact hcA)) | (apply ev_step; (case hr | hσ => (intros; simp only [go_sem, d1]; try rfl)); (case hc => exact hcA); intro g u; (try clear u); (try clear g)) | fail
    all_goals (refine resR_oneA ?_; simp only [go_sem])
    exact LeA.refl _
end
section
set_option linter.unusedVariables false
set_option linter.unusedSimpArgs false
open Go.RowKit
theorem tyTab_ok : ∀ t ∈ tyTab, TyOk t := by
  intro t ht
  simp only [tyTab, List.mem_cons, List.not_mem_nil, or_false] at ht
  rcases ht with rfl | rfl | rfl | rfl | rfl | rfl | rfl <;> exact ⟨by decide, by decide, by decide⟩
theorem typesM_ok (b : List Int) : ∀ t ∈ typesM b, TyOk t := by
  intro t ht
  simp only [typesM, List.mem_map] at ht
  obtain ⟨x, _, rfl⟩ := ht
  unfold tyB
  by_cases h : (x.tmod 7).toNat < tyTab.length
  · exact tyTab_ok _ (mem_at tyTab dTy h)
  · rw [List.getD_eq_getElem?_getD, List.getElem?_eq_none (by omega)]
    exact ⟨by decide, by decide, by decide⟩
structure Drawn (t : Ty) (v : Vl) : Prop where
  wide : wideV v = true
  kind : isNull v = false → v.k = t.k
  num : -40000000 ≤ v.i ∧ v.i ≤ 40000000
  valid : validV v = true
  some : t.null = false → v.k = t.k
theorem numB_of {v : Vl} {m : Int} (hk : v.k = 2) (hs : noS v.s = true) (h : -m ≤ v.i ∧ v.i ≤ m) : numB v m = true := by
  unfold numB
  rw [if_pos hk, if_pos hs, if_pos h.1, decide_eq_true h.2]
theorem drawn {t : Ty} (ht : TyOk t) {a b : Int} (hb : 0 ≤ b ∧ b < 256) : Drawn t (valM t a b) := by
  have hb40 := Int.tmod_lt_of_pos b (b := 40) (by decide)
  have hb40' := Int.tmod_nonneg 40 hb.1
  have hst := stepV_bd t.scale.toNat
  obtain ⟨k, sc, nu⟩ := t
  have hk := ht.k
  simp only at hk hst
  unfold valM
  by_cases h0 : (nu && (a.tmod 5 == 0)) = true
  · rw [if_pos h0]
    refine ⟨wide_null, (fun h => by rw [null_null] at h; cases h), by decide, ?_, fun h => ?_⟩
    · show validV nullV = true
      unfold validV
      rw [if_pos rfl, if_pos rfl]; exact noS_e
    · simp only at h
      rw [h, Bool.false_and] at h0
      cases h0
  rw [if_neg h0]
  simp only
  rcases hk with rfl | rfl | rfl
  · rw [if_pos (show ((1 : Int) == 1) = true from rfl)]
    refine ⟨wide_bool _, fun _ => rfl, ?_, ?_, fun _ => rfl⟩
    · cases (b.tmod 2 == 1) <;> decide
    · unfold validV
      rw [if_neg (show ¬ (boolV _).k = 0 from (by decide : ¬ (1 : Int) = 0)), if_pos (show (boolV _).k = 1 from rfl), if_pos (by cases (b.tmod 2 == 1) <;> decide)]
      exact noS_e
  · rw [if_neg (show ¬ ((2 : Int) == 1) = true by decide), if_pos (show ((2 : Int) == 2) = true from rfl)]
    have hn : ∀ n : Int, -40000000 ≤ n ∧ n ≤ 40000000 → Drawn ⟨2, sc, nu⟩ ⟨2, n, ⟨#[]⟩⟩ := by
      intro n hn
      refine ⟨by rw [wide_num, small_iff]; omega, fun _ => rfl, hn, ?_, fun _ => rfl⟩
      unfold validV
      rw [if_neg (show ¬ (2 : Int) = 0 by decide), if_neg (show ¬ (2 : Int) = 1 by decide), if_neg (show ¬ (2 : Int) = 3 by decide)]
      exact numB_of rfl noS_e (by show -1000000000000000 ≤ n ∧ n ≤ 1000000000000000; omega)
    split
    · have q1 := Int.mul_le_mul_of_nonneg_right (show b.tmod 40 - 12 ≤ 27 by omega) hst.1
      have q2 := Int.mul_le_mul_of_nonneg_right (show -12 ≤ b.tmod 40 - 12 by omega) hst.1
      exact hn _ (by omega)
    · exact hn _ (by omega)
  · rw [if_neg (show ¬ ((3 : Int) == 1) = true by decide), if_neg (show ¬ ((3 : Int) == 2) = true by decide)]
    have hw := wordM_ok b
    unfold wordOk at hw
    rw [Bool.and_eq_true, decide_eq_true_eq] at hw
    refine ⟨wide_word b, fun _ => rfl, by show -40000000 ≤ (0 : Int) ∧ (0 : Int) ≤ 40000000; omega, ?_, fun _ => rfl⟩
    unfold validV
    rw [if_neg (show ¬ (3 : Int) = 0 by decide), if_neg (show ¬ (3 : Int) = 1 by decide), if_pos rfl, if_pos rfl, if_pos hw.1]
    exact hw.2
theorem drawn_con {k a b : Int} (hk : k = 1 ∨ k = 2 ∨ k = 3) (hb : 0 ≤ b ∧ b < 256) : KV k (valM ⟨k, 0, false⟩ a b) ∧ validV (valM ⟨k, 0, false⟩ a b) = true := by
  have h := drawn (t := ⟨k, 0, false⟩) ⟨hk, by show (0 : Int) ≤ 0 ∧ (0 : Int) ≤ 6; omega, fun _ => rfl⟩ (a := a) hb
  have hn := h.some rfl
  simp only at hn
  have hi := h.num
  refine ⟨?_, h.valid⟩
  have := KV.ofWide h.wide (by omega) (by rw [hn]; exact hk)
  rwa [hn] at this
end
section
set_option linter.unusedVariables false
set_option linter.unusedSimpArgs false
open Go.RowKit
attribute [local irreducible] Spec SpecF SpecN
attribute [local irreducible] AWp evOps evD
def Opd (ts : List Ty) (b : List Int) (d : Int) (L sz mv : Nat) : Prop :=
  ∀ (k : Int) (n : Nat), (k = 1 ∨ k = 2 ∨ k = 3) → n ≤ L → ∃ (e : Ex) (m : Nat), Typ ts k e ∧ sizeE e ≤ sz ∧ m ≤ n + mv ∧ Spec Tryd.prog 54 [.d (tys ts), .agg [litI .i64 k, litI .i64 d], .agg (curA b n)] (.agg (grA e b m))
def Cnd (ts : List Ty) (b : List Int) (d : Int) (L sz mv : Nat) : Prop :=
  ∀ n : Nat, n ≤ L → ∃ (e : Ex) (m : Nat), Typ ts 1 e ∧ sizeE e ≤ sz ∧ m ≤ n + mv ∧ Spec Tryd.prog 33 [.d (tys ts), litI .i64 d, .agg (curA b n)] (.agg (grA e b m))
theorem pick_typ {ts : List Ty} {k x : Int} (h0 : 0 < ts.length) (hx : 0 ≤ x.tdiv 3) : ∀ {l : List Nat} {c : Nat}, pickM ts k x l = some c → c < ts.length ∧ (ts.getD c dTy).k = k
  | [], _, h => by cases h
  | i :: l, c, h => by
    unfold pickM at h
    split at h
    · rename_i hk
      simp only [Option.some.injEq] at h
      subst h
      refine ⟨?_, by simpa using hk⟩
      unfold colAt
      have m1 := Int.tmod_nonneg (a := x.tdiv 3 + (i : Int)) (ts.length : Int) (by omega)
      have m2 := Int.tmod_lt_of_pos (x.tdiv 3 + (i : Int)) (b := (ts.length : Int)) (by omega)
      omega
    · exact pick_typ h0 hx h
theorem leaf_opd {ts : List Ty} (hl : ts.length ≤ 6) {b : List Int} (hb : ∀ x ∈ b, 0 ≤ x ∧ x < 256) {k d : Int} {n : Nat} (hk : k = 1 ∨ k = 2 ∨ k = 3) (hn : n ≤ 1000)
    (hc : (k = 1 ∧ (d ≤ 0 ∨ (b.getD n 0).tmod 4 ≤ 0)) ∨ (k = 2 ∧ (d ≤ 0 ∨ (b.getD n 0).tmod 5 ≠ 4)) ∨ k = 3) : ∃ (e : Ex) (m : Nat), Typ ts k e ∧ sizeE e ≤ 1 ∧ m ≤ n + 3 ∧ Spec Tryd.prog 54 [.d (tys ts), .agg [litI .i64 k, litI .i64 d], .agg (curA b n)] (.agg (grA e b m)) := by
  have h := f54_leaf ts hl k d b n (by omega) hb hc
  have hm := byte_mem hb n
  have t3 : 0 ≤ (b.getD n 0).tdiv 3 := by rw [Int.tdiv_eq_ediv_of_nonneg hm.1]; omega
  cases hp : pickX ts k (b.getD n 0) with
  | none =>
    rw [hp] at h
    have := drawn_con hk (byte_mem hb (n + 2)) (a := b.getD (n + 1) 0)
    exact ⟨_, _, Typ.con hk this.1 this.2, Nat.le_refl _, Nat.le_refl _, h⟩
  | some c =>
    rw [hp] at h
    have hc' : c < ts.length ∧ (ts.getD c dTy).k = k := by
      unfold pickX at hp
      split at hp
      · cases hts : ts with
        | nil => rw [hts] at hp; simp [pickM] at hp
        | cons t ts' =>
          rw [← hts]
          exact pick_typ (by rw [hts]; simp) t3 hp
      · cases hp
    refine ⟨.leaf 2 (c : Int) nullV, n + 1, ?_, Nat.le_refl _, by omega, h⟩
    have := Typ.col (ts := ts) c hc'.1
    rwa [hc'.2] at this
theorem opd0 {ts : List Ty} (hl : ts.length ≤ 6) {b : List Int} (hb : ∀ x ∈ b, 0 ≤ x ∧ x < 256) : Opd ts b 0 1000 1 3 :=
  fun k n hk hn => leaf_opd hl hb hk hn (by omega)
theorem cndS {ts : List Ty} {b : List Int} (hb : ∀ x ∈ b, 0 ≤ x ∧ x < 256) {d d' : Int} (hd : 0 < d ∧ d ≤ 100) (hd' : d' = d - 1) {L L' sz mv : Nat} (hL : L' + 1 + mv ≤ L ∧ L ≤ 1000) (h : Opd ts b d' L sz mv) : Cnd ts b d L' (1 + sz + sz) (1 + mv + mv) := by
  subst hd'
  intro n hn
  have hm := byte_mem hb n
  have hP := opB_in _ hm.1
  have t5 : 0 ≤ (b.getD n 0).tdiv 10 := by rw [Int.tdiv_eq_ediv_of_nonneg hm.1]; omega
  have t2 := Int.tmod_nonneg 3 t5
  have t3 := Int.tmod_lt_of_pos ((b.getD n 0).tdiv 10) (b := 3) (by decide)
  have hK : kindB (b.getD n 0) = 1 ∨ kindB (b.getD n 0) = 2 ∨ kindB (b.getD n 0) = 3 := by
    unfold kindB
    split
    · omega
    · split <;> omega
  obtain ⟨e1, m1, y1, s1, l1, p1⟩ := h (kindB (b.getD n 0)) (n + 1) hK (by omega)
  by_cases hop : opB (b.getD n 0) = 8 ∨ opB (b.getD n 0) = 9
  · refine ⟨_, m1, ?_, ?_, by omega, f33_un ts d b n m1 e1 (by omega) hb hd hop p1⟩
    · rcases hop with ho | ho
      · rw [ho]
        have : kindB (b.getD n 0) = 1 := by unfold kindB; rw [if_pos (by omega)]
        rw [this] at y1
        exact Typ.not y1
      · rw [ho]
        exact Typ.isn y1
    · simp only [sizeE]; omega
  · obtain ⟨e2, m2, y2, s2, l2, p2⟩ := h (kindB (b.getD n 0)) m1 hK (by omega)
    refine ⟨_, m2, ?_, ?_, by omega, f33_bi ts d b n m1 m2 e1 e2 (by omega) hb hd hop p1 p2⟩
    · generalize hO : opB (b.getD n 0) = P at *
      have hk : kindB (b.getD n 0) = if P = 6 ∨ P = 7 ∨ P = 8 then 1 else if P = 12 then 3 else 1 + ((b.getD n 0).tdiv 10).tmod 3 := by unfold kindB; rw [hO]
      obtain hp | hp | hp : (P = 3 ∨ P = 4 ∨ P = 5) ∨ (P = 6 ∨ P = 7) ∨ P = 12 := by omega
      · exact Typ.cmp hp y1 y2
      · rw [if_pos (by omega)] at hk
        rw [hk] at y1 y2
        exact Typ.log hp y1 y2
      · rw [if_neg (by omega), if_pos hp] at hk
        rw [hk] at y1 y2
        rw [hp]
        exact Typ.pre y1 y2
    · simp only [sizeE]; omega
theorem opdS {ts : List Ty} (hl : ts.length ≤ 6) {b : List Int} (hb : ∀ x ∈ b, 0 ≤ x ∧ x < 256) {d d' : Int} (hd : 0 < d ∧ d ≤ 100) (hd' : d' = d - 1) {L L' sz mv : Nat} (hsz : 1 ≤ sz) (hmv : 3 ≤ mv) (hL : L' + 1 + mv ≤ L ∧ L ≤ 1000) (h : Opd ts b d' L sz mv) (hc : Cnd ts b d (L' + 1) (1 + sz + sz) (1 + mv + mv)) : Opd ts b d L' (1 + sz + sz) (2 + mv + mv) := by
  subst hd'
  intro k n hk hn
  by_cases h1 : k = 1 ∧ (b.getD n 0).tmod 4 > 0
  · obtain ⟨rfl, hx⟩ := h1
    obtain ⟨e, m, y, s, l, p⟩ := hc (n + 1) (by omega)
    exact ⟨e, m, y, s, by omega, f54_bool ts d b n m e (by omega) hb hd.1 hx p⟩
  by_cases h2 : k = 2 ∧ (b.getD n 0).tmod 5 = 4
  · obtain ⟨rfl, hx⟩ := h2
    obtain ⟨e1, m1, y1, s1, l1, p1⟩ := h 2 (n + 1) (by omega) (by omega)
    obtain ⟨e2, m2, y2, s2, l2, p2⟩ := h 2 m1 (by omega) (by omega)
    obtain ⟨op, hop, p⟩ := f54_num ts d b n m1 m2 e1 e2 (by omega) hb hd hx p1 p2
    exact ⟨_, m2, Typ.num hop y1 y2, by simp only [sizeE]; omega, by omega, p⟩
  obtain ⟨e, m, y, s, l, p⟩ := leaf_opd hl hb (k := k) (d := d) (n := n) hk (by omega) (by omega)
  exact ⟨e, m, y, by omega, by omega, p⟩
theorem made {ts : List Ty} (hl : ts.length ≤ 6) {b : List Int} (hb : ∀ x ∈ b, 0 ≤ x ∧ x < 256) : ∃ e : Ex, Typ ts 1 e ∧ sizeE e ≤ 15 ∧ Spec Tryd.prog 9 [.d (tys ts), .d (bytesD b)] (.agg (exA e)) := by
  have o0 := opd0 hl hb
  have c1 := cndS hb (d := 1) (L' := 990) (by decide) (by decide) (by decide) o0
  have o1 := opdS hl hb (d := 1) (L' := 989) (by decide) (by decide) (by decide) (by decide) (by decide) o0 c1
  have c2 := cndS hb (d := 2) (L' := 900) (by decide) (by decide) (by decide) o1
  have o2 := opdS hl hb (d := 2) (L' := 899) (by decide) (by decide) (by decide) (by decide) (by decide) o1 c2
  have c3 := cndS hb (d := 3) (L' := 800) (by decide) (by decide) (by decide) o2
  obtain ⟨e, m, y, s, l, p⟩ := c3 0 (by decide)
  refine ⟨e, y, s, ?_⟩
  simp only [grA, curA, exA, List.cons_append, List.nil_append] at p ⊢
  rw [show ((0 : Nat) : Int) = 0 from rfl] at p
  refine spec_of_awp (fn := Tryd.f9) Tryd.func9 (by kernel_rfl) rfl ?_
  intro w0 C0
  simp only [Tryd.ntmps9, go_sem]
  repeat' first | refine awp_seq ?_ | (apply regB; (case hd => exact hdA); intro K hK) | (apply awp_ret; refine tqA ?_) | (refine ev_nil (hK _ ?_); clear hK K) | (apply ev_call0; (case hys => (simp only [go_sem]; try rfl)); (case hs => first | exact p ..); (case hok | hσ => (simp only [go_sem]; try rfl))) | (apply ev_step0; (case hr | hσ => (simp only [go_sem]; try rfl)); (case hc => exact hcA)) | (apply ev_step; (case hr | hσ => (intros; simp only [go_sem]; try rfl)); (case hc => exact hcA); intro g u; (try clear u); (try clear g)) | fail
  all_goals (refine resR_oneA ?_; simp only [go_sem])
  exact LeA.refl _
end
end Go.Proofs.YtopigomfhggkoaaDoor.A
