/- Examples: the calls. Examples: the walk. Values that bytes describe: the walk. Positions, types, constants: the walks. Types of expressions: the small walks. Valid and wide values in the reference: the walks. The order of values. Types of expressions: the walks. Types of expressions: the walks of typed, Size, CheckIn. (Written by mk45.py.) -/
import Derived.Test.YtopigomfhggkoaaDoorXY1
namespace Go.Proofs.YtopigomfhggkoaaDoor.A
section
set_option linter.unusedVariables false
set_option linter.unusedSimpArgs false
open Go.RowKit
theorem ok_num {n : Int} (h : -9223372036854775808 ≤ n ∧ n ≤ 9223372036854775807) : VlOk (numV n) := ⟨h, by show (0 : Nat) ≤ _; omega⟩
theorem ok_null : VlOk nullV := ⟨by decide, by show (0 : Nat) ≤ _; omega⟩
theorem ok_str : VlOk noStr := ⟨by decide, by show (0 : Nat) ≤ _; omega⟩
theorem bok_want : BdOk wantB := ⟨ok_num (by decide), ok_num (by decide), by decide⟩
theorem w_spec (n m : Int) (h : n * 1000000 = m) (hn : -1000000 ≤ n ∧ n ≤ 1000000) : Spec Tryd.prog 26 [litI .i64 n] (.agg (vl (numV m))) := by
  have := f26_spec n hn
  rw [h] at this
  exact this
theorem o1 : Spec Tryd.prog 12 [.d (vls [numV 3000000, nullV, numV (-1500000)])] (.agg (got (wantB, 0))) := by
  have h := f12_spec [numV 3000000, nullV, numV (-1500000)] (by
    intro v hv
    simp only [List.mem_cons, List.not_mem_nil, or_false] at hv
    rcases hv with rfl | rfl | rfl
    · exact ok_num (by decide)
    · exact ok_null
    · exact ok_num (by decide)) (by decide)
  rw [ex1] at h
  exact h
theorem o2 : Spec Tryd.prog 12 [.d (vls [numV 1000000, noStr])] (.agg (got (zeroBd, 6))) := by
  have h := f12_spec [numV 1000000, noStr] (by
    intro v hv
    simp only [List.mem_cons, List.not_mem_nil, or_false] at hv
    rcases hv with rfl | rfl
    · exact ok_num (by decide)
    · exact ok_str) (by decide)
  rw [ex2] at h
  exact h
abbrev nineB : Bd := ⟨0, true, numV 9000000, numV 9000000, 9000000⟩
abbrev strB : Bd := ⟨0, true, noStr, noStr, 0⟩
theorem o3 : Spec Tryd.prog 12 [.d (vls [numV 9000000])] (.agg (got (nineB, 0))) := by
  have h := f12_spec [numV 9000000] (by
    intro v hv
    simp only [List.mem_cons, List.not_mem_nil, or_false] at hv
    subst hv
    exact ok_num (by decide)) (by decide)
  rw [ex3] at h
  exact h
theorem o4 : Spec Tryd.prog 12 [.d (vls [noStr])] (.agg (got (strB, 0))) := by
  have h := f12_spec [noStr] (by
    intro v hv
    simp only [List.mem_cons, List.not_mem_nil, or_false] at hv
    subst hv
    exact ok_str) (by decide)
  rw [ex4] at h
  exact h
theorem o5 : Spec Tryd.prog 12 [.d (vls [numV 4000000000000000000, numV 1])] (.agg (got (zeroBd, 2))) := by
  have h := f12_spec [numV 4000000000000000000, numV 1] (by
    intro v hv
    simp only [List.mem_cons, List.not_mem_nil, or_false] at hv
    rcases hv with rfl | rfl
    · exact ok_num (by decide)
    · exact ok_num (by decide)) (by decide)
  rw [ex5] at h
  exact h
theorem o6 : Spec Tryd.prog 12 [.d (vls [])] (.agg (got (zeroBd, 0))) := by
  have h := f12_spec [] (by intro v hv; cases hv) (by decide)
  rw [ex6] at h
  exact h
theorem Spec.args {P : Program} {f : Nat} {xs ys : List AV} {r : AV} (h : LeL xs ys) (hs : Spec P f ys r) : Spec P f xs r := ⟨hs.1, fun w hW C hC vs hvs => hs.2 w hW C hC vs (h.has hvs)⟩
theorem o6n : Spec Tryd.prog 12 [.d (.lit (.slice none 0 0))] (.agg (got (zeroBd, 0))) := Spec.args (ys := [.d (vls [])]) ⟨LeA.nil _, trivial⟩ o6
theorem v1 : Spec Tryd.prog 16 [.agg (bd wantB)] (litB true) := by
  have h := f16_spec wantB bok_want.lo.s bok_want.hi.s
  rw [valid_want] at h
  exact h
theorem v2 : Spec Tryd.prog 16 [.agg (bd ⟨0, true, nullV, nullV, 0⟩)] (litB false) := by
  have h := f16_spec ⟨0, true, nullV, nullV, 0⟩ ok_null.s ok_null.s
  rw [valid_odd] at h
  exact h
theorem i1 : Spec Tryd.prog 18 [.agg (bd wantB), .agg (vl nullV)] (litB true) := by
  have h := f18_spec wantB nullV bok_want ok_null.s
  rw [in_null] at h
  exact h
theorem i2 : Spec Tryd.prog 18 [.agg (bd wantB), .agg (vl (numV 0))] (litB true) := by
  have h := f18_spec wantB (numV 0) bok_want (ok_num (by decide)).s
  rw [in_num 0 rfl] at h
  exact h
theorem i3 : Spec Tryd.prog 18 [.agg (bd wantB), .agg (vl (numV 4000000))] (litB false) := by
  have h := f18_spec wantB (numV 4000000) bok_want (ok_num (by decide)).s
  rw [in_num 4000000 rfl] at h
  exact h
theorem m1 : Spec Tryd.prog 14 [.agg (bd wantB), .agg (bd nineB)] (.agg (got (⟨1, true, numV (-1500000), numV 9000000, 10500000⟩, 0))) := by
  have h := f14_spec wantB nineB bok_want ⟨ok_num (by decide), ok_num (by decide), by decide⟩
  rw [merge1] at h
  exact h
theorem m2 : Spec Tryd.prog 14 [.agg (bd wantB), .agg (bd strB)] (.agg (got (zeroBd, 6))) := by
  have h := f14_spec wantB strB bok_want ⟨ok_str, ok_str, by decide⟩
  rw [merge2] at h
  exact h
abbrev colE : Ex := .leaf 2 0 nullV
abbrev numE (n : Int) : Ex := .leaf 1 0 (numV n)
theorem r_col : Spec Tryd.prog 43 [.d (bds [wantB]), .agg (exA colE)] (.agg (sp colSp)) := f43_col [wantB] 0 nullV (by decide)
theorem r_num (n : Int) : Spec Tryd.prog 43 [.d (bds [wantB]), .agg (exA (numE n))] (.agg (sp (numSp n))) := f43_const _ 0 (numV n)
theorem n1 : Spec Tryd.prog 23 [.d (bds [wantB]), .agg (exA (.bi 4 (numE 3000000) colE))] (litB true) := by
  have h := f23_spec (bds [wantB]) (.bi 4 (numE 3000000) colE) [.bi 4 (numE 3000000) colE] (fun _ => strictM (numSp 3000000) colSp (lessM (numSp 3000000) colSp)) (fun p hp => by
    simp only [List.mem_cons, List.not_mem_nil, or_false] at hp
    subst hp
    exact f43_op4 _ _ _ _ _ _ (r_num 3000000) r_col (f111_spec _ _)) (f49_one _ (by decide)) (by decide)
  rw [neverM, yes1, if_neg Bool.false_ne_true] at h
  exact h
theorem r_eq (n : Int) : Spec Tryd.prog 43 [.d (bds [wantB]), .agg (exA (.bi 3 colE (numE n)))] (.agg (sp (strictM colSp (numSp n) (equalM colSp (numSp n))))) := f43_op3 _ _ _ _ _ _ r_col (r_num n) (f110_spec _ _)
theorem n2 : Spec Tryd.prog 23 [.d (bds [wantB]), .agg (exA (.bi 3 colE (numE 4000000)))] (litB true) := by
  have h := f23_spec (bds [wantB]) (.bi 3 colE (numE 4000000)) [.bi 3 colE (numE 4000000)] (fun _ => strictM colSp (numSp 4000000) (equalM colSp (numSp 4000000))) (fun p hp => by
    simp only [List.mem_cons, List.not_mem_nil, or_false] at hp
    subst hp
    exact r_eq 4000000) (f49_one _ (by decide)) (by decide)
  rw [neverM, yes2, if_neg Bool.false_ne_true] at h
  exact h
theorem n3 : Spec Tryd.prog 23 [.d (bds [wantB]), .agg (exA (.bi 3 colE (numE 0)))] (litB false) := by
  have h := f23_spec (bds [wantB]) (.bi 3 colE (numE 0)) [.bi 3 colE (numE 0)] (fun _ => strictM colSp (numSp 0) (equalM colSp (numSp 0))) (fun p hp => by
    simp only [List.mem_cons, List.not_mem_nil, or_false] at hp
    subst hp
    exact r_eq 0) (f49_one _ (by decide)) (by decide)
  rw [neverM, yes4, if_pos rfl] at h
  exact h
theorem t1 : Spec Tryd.prog 21 [.d (bds [wantB]), .agg (exA (.bi 3 colE (numE 0)))] (.agg [litB true, litB true, litB true]) := by
  have h := f21_spec (bds [wantB]) (.bi 3 colE (numE 0)) _ (r_eq 0)
  rw [yes3] at h
  exact h
end
section
set_option linter.unusedVariables false
set_option linter.unusedSimpArgs false
open Go.RowKit
attribute [local irreducible] Spec SpecF SpecN
attribute [local irreducible] AWp evOps evD
set_option maxHeartbeats 16000000 in
set_option maxRecDepth 100000 in
theorem f7_spec : Spec Tryd.prog 7 [] (litB true) := by
  have w3 := w_spec 3 3000000 (by decide) (by decide)
  have w0' := w_spec 0 0 (by decide) (by decide)
  have w4 := w_spec 4 4000000 (by decide) (by decide)
  have w1 := w_spec 1 1000000 (by decide) (by decide)
  have w9 := w_spec 9 9000000 (by decide) (by decide)
  have u1 := f28_spec (-1500000)
  have u2 := f28_spec 4000000000000000000
  have u3 := f28_spec 1
  have us := f29_spec ⟨#[]⟩
  have un := f27_spec
  have o1 := o1
  have o2 := o2
  have o3 := o3
  have o4 := o4
  have o5 := o5
  have o6 := o6n
  have v1 := v1
  have v2 := v2
  have i1 := i1
  have i2 := i2
  have i3 := i3
  have m1 := m1
  have m2 := m2
  have n1 := n1
  have n2 := n2
  have n3 := n3
  have t1 := t1
  have k3 := f31_spec (numV 3000000)
  have k4 := f31_spec (numV 4000000)
  have k0 := f31_spec (numV 0)
  have kc := f32_spec
  have q1 := f30_spec 4 (numE 3000000) colE
  have q2 := f30_spec 3 colE (numE 4000000)
  have q3 := f30_spec 3 colE (numE 0)
  simp only [vls, bds, List.map_cons, List.map_nil, exA, opE, cE, vE, argsD, opE_bi, cE_bi, vE_bi, argsD_bi] at *
  refine spec_of_awp (fn := Tryd.f7) Tryd.func7 (by kernel_rfl) rfl ?_
  intro w0 C0
  simp only [Tryd.ntmps7, litI, litB, litS, List.length_cons, List.length_nil, Nat.reduceAdd, Nat.reduceSub, List.replicate_succ, List.replicate_zero, List.cons_append, List.nil_append]
  repeat' first
    | refine awp_seq ?_
    | refine awp_block ?_
    | refine awp_skip ?_
    | (refine reg _ (by (simp only [List.map_cons, List.map_nil]; rfl)) rfl ?_; intro K hK)
    | (apply ev_guardU; (case hj | hu | hσ => (simp only [go_sem, beq_self_eq_true, Bool.and_self]; try rfl)))
    | ((first | refine awp_cond _ (by rfl) ?_ ?_ | refine ev_guardT _ _ (by (simp only [go_sem, beq_self_eq_true, Bool.and_self]; rfl)) (by (simp only [go_sem, beq_self_eq_true, Bool.and_self]; rfl)) ?_ ?_ | refine ev_guardF _ _ (by (simp only [go_sem, beq_self_eq_true, Bool.and_self]; rfl)) (by (simp only [go_sem, beq_self_eq_true, Bool.and_self]; rfl)) ?_ ?_) <;> (intro hb; first | (cases hb; done) | (have ht : true = true := hb; clear ht hb) | (have ht : false = false := hb; clear ht hb) | (simp only [hb]) | skip))
    | (refine awp_exit ?_; simp only [thenA, blockA, scopeA, reduceIte, RetQ, Nat.reduceEqDiff])
    | (refine awp_ret ?_; simp only [thenA, blockA, scopeA, RetQ])
    | (refine ev_nil (hK _ ?_); clear hK K)
    | (apply ev_call0; (case hys => (simp only [go_sem, beq_self_eq_true, Bool.and_self]; try rfl)); (case hs => first | exact w3 .. | exact w0' .. | exact w4 .. | exact w1 .. | exact w9 .. | exact u1 .. | exact u2 .. | exact u3 .. | exact us .. | exact un .. | exact o1 .. | exact o2 .. | exact o3 .. | exact o4 .. | exact o5 .. | exact o6 .. | exact v1 .. | exact v2 .. | exact i1 .. | exact i2 .. | exact i3 .. | exact m1 .. | exact m2 .. | exact n1 .. | exact n2 .. | exact n3 .. | exact t1 .. | exact k3 .. | exact k4 .. | exact k0 .. | exact kc .. | exact q1 .. | exact q2 .. | exact q3 ..); (case hok | hσ => (simp only [go_sem, beq_self_eq_true, Bool.and_self]; try rfl)))
    | (apply regD; (case hd => (simp only [List.map_cons, List.map_nil]; rfl)); (case hok => rfl); (case' h => (intro K hK; (repeat' first
        | (apply evd_nil; refine (hK _ ?_); clear hK K)
        | (apply evd_guardU0; (case hj | hu | hσ => (simp only [go_sem, beq_self_eq_true, Bool.and_self]; try rfl)))
        | (apply evd_guardU; (case hj | hu | hσ => (simp only [go_sem, beq_self_eq_true, Bool.and_self]; try rfl)))
        | (apply evd_skipT0; (case hj | hb | hσ => (simp only [go_sem, beq_self_eq_true, Bool.and_self]; try rfl)))
        | (apply evd_skipF0; (case hj | hb | hσ => (simp only [go_sem, beq_self_eq_true, Bool.and_self]; try rfl)))
        | (apply evd_skipT; (case hj | hb | hσ => (simp only [go_sem, beq_self_eq_true, Bool.and_self]; try rfl)))
        | (apply evd_skipF; (case hj | hb | hσ => (simp only [go_sem, beq_self_eq_true, Bool.and_self]; try rfl)))
        | (apply evd_guardT; (case hj | hb => (simp only [go_sem, beq_self_eq_true, Bool.and_self]; try rfl)); (case' h2 => (intro hb; first | (cases hb; done) | (simp only [hb]) | skip)); (case' h1 => (intro hb; first | (cases hb; done) | (simp only [hb]) | skip)))
        | (apply evd_guardF; (case hj | hb => (simp only [go_sem, beq_self_eq_true, Bool.and_self]; try rfl)); (case' h2 => (intro hb; first | (cases hb; done) | (simp only [hb]) | skip)); (case' h1 => (intro hb; first | (cases hb; done) | (simp only [hb]) | skip)))
        | (apply evd_call0; (case hi | hys => (simp only [go_sem, beq_self_eq_true, Bool.and_self]; try rfl)); (case hs => first | exact w3 .. | exact w0' .. | exact w4 .. | exact w1 .. | exact w9 .. | exact u1 .. | exact u2 .. | exact u3 .. | exact us .. | exact un .. | exact o1 .. | exact o2 .. | exact o3 .. | exact o4 .. | exact o5 .. | exact o6 .. | exact v1 .. | exact v2 .. | exact i1 .. | exact i2 .. | exact i3 .. | exact m1 .. | exact m2 .. | exact n1 .. | exact n2 .. | exact n3 .. | exact t1 .. | exact k3 .. | exact k4 .. | exact k0 .. | exact kc .. | exact q1 .. | exact q2 .. | exact q3 ..); (case hok | hw | hσ => (simp only [go_sem, beq_self_eq_true, Bool.and_self]; try rfl)))
        | (apply evd_step0; (case hr | hi | hσ => (simp only [go_sem, beq_self_eq_true, Bool.and_self]; try rfl)); (case hc => exact hcA))
        | (apply evd_step; (case hr | hi => (simp only [go_sem, beq_self_eq_true, Bool.and_self]; try rfl)); (case hc => exact hcA); (case hw | hσ => (intro g u; simp only [go_sem, beq_self_eq_true, Bool.and_self]; try rfl)); (case' hk => (intro g u; (try clear u); (try clear g))))
        | fail))); (case hB => kernel_rfl))
    | (apply ev_step0; (case hr | hσ => (simp only [go_sem, beq_self_eq_true, Bool.and_self]; try rfl)); (case hc => exact hcA))
    | (apply ev_step; (case hr => (simp only [go_sem, beq_self_eq_true, Bool.and_self]; try rfl)); (case hσ => (intro g u; simp only [go_sem, beq_self_eq_true, Bool.and_self]; try rfl)); (case hc => exact hcA); intro g u; (try clear u); (try clear g))
    | fail
  all_goals (refine resR_oneA ?_; simp only [go_sem])
  exact LeA.refl _
end
section
set_option linter.unusedVariables false
set_option linter.unusedSimpArgs false
open Go.RowKit
attribute [local irreducible] Spec SpecF SpecN
attribute [local irreducible] AWp evOps evD
def valAt (k : Int) (b : List Int) (j : Nat) : Vl := valM ⟨k, 0, true⟩ (b.getD (2 * j) 0) (b.getD (2 * j + 1) 0)
def valsTo (k : Int) (b : List Int) (n : Nat) : List Vl := (List.range n).map (valAt k b)
def valsN (b : List Int) : Nat := min (b.length / 2) 12
abbrev valsM (k : Int) (b : List Int) : List Vl := valsTo k b (valsN b)
theorem valsTo_succ (k : Int) (b : List Int) (n : Nat) : valsTo k b (n + 1) = valsTo k b n ++ [valAt k b n] := by
  simp [valsTo, List.range_succ]
theorem valsTo_len (k : Int) (b : List Int) (n : Nat) : (valsTo k b n).length = n := by simp [valsTo]
theorem byte_mem {b : List Int} (hb : ∀ x ∈ b, 0 ≤ x ∧ x < 256) (i : Nat) : 0 ≤ b.getD i 0 ∧ b.getD i 0 < 256 := by
  by_cases h : i < b.length
  · exact hb _ (mem_at b 0 h)
  · rw [List.getD_eq_getElem?_getD, List.getElem?_eq_none (by omega)]; simp
set_option maxHeartbeats 4000000 in
theorem f25_spec (k : Int) (b : List Int) (hb : ∀ x ∈ b, 0 ≤ x ∧ x < 256) : Spec Tryd.prog 25 [litI .i64 k, .d (bytesD b)] (.d (vls (valsM k b))) := by
  refine spec_of_awp (fn := Tryd.f25) Tryd.func25 (by kernel_rfl) rfl ?_
  intro w0 C0
  simp only [Tryd.ntmps25, litI, litB, litS, List.length_cons, List.length_nil, Nat.reduceAdd, Nat.reduceSub, List.replicate_succ, List.replicate_zero, List.cons_append, List.nil_append]
  repeat' first
    | refine awp_seq ?_
    | refine awp_block ?_
    | refine awp_skip ?_
    | (refine reg _ (by (simp only [List.map_cons, List.map_nil]; rfl)) rfl ?_; intro K hK)
    | (apply ev_guardU; (case hj | hu | hσ => (simp only [go_sem]; try rfl)))
    | ((first | refine awp_cond _ (by rfl) ?_ ?_ | refine ev_guardT _ _ (by (simp only [go_sem]; rfl)) (by (simp only [go_sem]; rfl)) ?_ ?_ | refine ev_guardF _ _ (by (simp only [go_sem]; rfl)) (by (simp only [go_sem]; rfl)) ?_ ?_) <;> (intro hb; first | (cases hb; done) | (have ht : true = true := hb; clear ht hb) | (have ht : false = false := hb; clear ht hb) | (simp only [hb]) | skip))
    | (refine awp_exit ?_; simp only [thenA, blockA, scopeA, reduceIte, RetQ, Nat.reduceEqDiff])
    | (refine awp_ret ?_; simp only [thenA, blockA, scopeA, RetQ])
    | (refine ev_nil (hK _ ?_); clear hK K)
    | (apply ev_step0; (case hr | hσ => (simp only [go_sem]; try rfl)); (case hc => exact hcA))
    | (apply ev_step; (case hr => (simp only [go_sem]; try rfl)); (case hσ => (intro g u; simp only [go_sem]; try rfl)); (case hc => exact hcA); intro g u; (try clear u); (try clear g))
    | fail
  refine awp_loopI (fun j : Nat × Value => j.1 ≤ valsN b) (fun j => valsN b - j.1) (fun j => ⟨[litI .i64 k, .d (bytesD b), .any, .any, .any, .own 7 j.2, litI .i64 ((2 * j.1 : Nat) : Int), .any, .any, .any, .any, .any, .any, .any, .any, .any, .any, .any, .any, .any, .any, .any, .any, .any, .any, .any, .any, .any, .any, .any, .any, .any, .any, .any, .any, .any], [.no, .no, .no, .no, .no, .no, .no, .row j.2 26 3 ((valsTo k b j.1).map vlD), .no, .no, .no, .no, .no, .no, .no, .no, .no, .no, .no, .no, .no, .no, .no, .no, .no, .no, .no, .no, .no, .no, .no, .no, .no, .no, .no, .no]⟩) (0, u) (by simp) ?_ ?_
  · simp only [valsTo, List.range_zero, List.map_nil]
    exact wkA
  rintro ⟨j, v⟩ hj
  simp only [litI, litB] at hj ⊢
  have w1 : IntKind.i64.wrap (((2 * j : Nat) : Int) + 1) = ((2 * j + 1 : Nat) : Int) := by unfold valsN at hj; rw [wrap_id (by omega)]; push_cast; rfl
  by_cases hlt : j < valsN b
  · have h12 : 2 * j + 1 < b.length ∧ j < 12 := by unfold valsN at hlt; omega
    have d1 : decide (((2 * j + 1 : Nat) : Int) < (b.length : Int)) = true := decide_eq_true (by omega)
    have d2 : decide (((2 * j : Nat) : Int) < 24) = true := decide_eq_true (by omega)
    have w2 : IntKind.i64.wrap (((2 * j : Nat) : Int) + 2) = ((2 * (j + 1) : Nat) : Int) := by rw [wrap_id (by omega)]; push_cast; omega
    have hx := bytes_at b (i := 2 * j) (by omega)
    have hy := bytes_at b (i := 2 * j + 1) (by omega)
    have hs := valsTo_succ k b j
    have h50 := f50_spec ⟨k, 0, true⟩ (b.getD (2 * j) 0) (b.getD (2 * j + 1) 0) ⟨by show (0 : Int) ≤ 0; omega, by show (0 : Int) ≤ 6; omega⟩ (byte_mem hb _) (byte_mem hb _)
    have hvl := valsTo_len k b j
    have hbd : 2 * j < b.length := by omega
    have hbd2 : 2 * j + 1 < b.length := by omega
    unfold valAt at hs
    generalize valM ⟨k, 0, true⟩ (b.getD (2 * j) 0) (b.getD (2 * j + 1) 0) = x at *
    generalize valsTo k b j = vs at *
    generalize b.getD (2 * j) 0 = x1 at *
    generalize b.getD (2 * j + 1) 0 = x2 at *
    repeat' first
      | refine awp_seq ?_
      | refine awp_block ?_
      | refine awp_skip ?_
      | (refine reg _ (by (simp only [List.map_cons, List.map_nil]; rfl)) rfl ?_; intro K hK)
      | (apply ev_guardU; (case hj | hu | hσ => (simp only [go_sem, d1, d2, w1, w2, hx, hy]; try rfl)))
      | ((first | refine awp_cond _ (by rfl) ?_ ?_ | refine ev_guardT _ _ (by (simp only [go_sem, d1, d2, w1, w2, hx, hy]; rfl)) (by (simp only [go_sem, d1, d2, w1, w2, hx, hy]; rfl)) ?_ ?_ | refine ev_guardF _ _ (by (simp only [go_sem, d1, d2, w1, w2, hx, hy]; rfl)) (by (simp only [go_sem, d1, d2, w1, w2, hx, hy]; rfl)) ?_ ?_) <;> (intro hb; first | (cases hb; done) | (have ht : true = true := hb; clear ht hb) | (have ht : false = false := hb; clear ht hb) | (simp only [hb]) | skip))
      | (refine awp_exit ?_; simp only [thenA, blockA, scopeA, reduceIte, RetQ, Nat.reduceEqDiff])
      | (refine awp_ret ?_; simp only [thenA, blockA, scopeA, RetQ])
      | (refine ev_nil (hK _ ?_); clear hK K)
      | (apply regD; (case hd => (simp only [List.map_cons, List.map_nil]; rfl)); (case hok => rfl); (case' h => (intro K hK; (repeat' first
        | (apply evd_nil; refine (hK _ ?_); clear hK K)
        | (apply evd_call0; (case hi | hys => (simp only [go_sem, d1, d2, w1, w2, hx, hy]; try rfl)); (case hs => first | exact h50 ..); (case hok | hw | hσ => (simp only [go_sem, d1, d2, w1, w2, hx, hy]; try rfl)))
        | (apply evd_step0; (case hr | hi | hσ => (simp only [go_sem, d1, d2, w1, w2, hx, hy]; try rfl)); (case hc => exact hcA))
        | (apply evd_step; (case hr | hi => (simp only [go_sem, d1, d2, w1, w2, hx, hy]; try rfl)); (case hc => exact hcA); (case hw | hσ => (intro g u; simp only [go_sem, d1, d2, w1, w2, hx, hy]; try rfl)); (case' hk => (intro g u; (try clear u); (try clear g))))
        | fail))); (case hB => kernel_rfl))
      | (apply ev_step0; (case hr | hσ => (simp only [go_sem, d1, d2, w1, w2, hx, hy]; try rfl)); (case hc => exact hcA))
      | (apply ev_step; (case hr => (simp only [go_sem, d1, d2, w1, w2, hx, hy]; try rfl)); (case hσ => (intro g u; simp only [go_sem, d1, d2, w1, w2, hx, hy]; try rfl)); (case hc => exact hcA); intro g u; (try clear u); (try clear g))
      | fail
    refine Exists.intro (j + 1, u) ⟨by show j + 1 ≤ _; omega, by show valsN b - (j + 1) < valsN b - j; omega, ?_⟩
    simp only [hs, List.map_append, List.map_cons, List.map_nil]
    exact wkA
  · have hjn : j = valsN b := by omega
    subst hjn
    by_cases h1 : 2 * valsN b + 1 < b.length
    · have d1 : decide (((2 * valsN b + 1 : Nat) : Int) < (b.length : Int)) = true := decide_eq_true (by omega)
      have d2 : decide (((2 * valsN b : Nat) : Int) < 24) = false := decide_eq_false (by unfold valsN at *; omega)
      repeat' first
        | refine awp_seq ?_
        | refine awp_block ?_
        | refine awp_skip ?_
        | (refine reg _ (by (simp only [List.map_cons, List.map_nil]; rfl)) rfl ?_; intro K hK)
        | (apply ev_guardU; (case hj | hu | hσ => (simp only [go_sem, d1, d2, w1]; try rfl)))
        | ((first | refine awp_cond _ (by rfl) ?_ ?_ | refine ev_guardT _ _ (by (simp only [go_sem, d1, d2, w1]; rfl)) (by (simp only [go_sem, d1, d2, w1]; rfl)) ?_ ?_ | refine ev_guardF _ _ (by (simp only [go_sem, d1, d2, w1]; rfl)) (by (simp only [go_sem, d1, d2, w1]; rfl)) ?_ ?_) <;> (intro hb; first | (cases hb; done) | (have ht : true = true := hb; clear ht hb) | (have ht : false = false := hb; clear ht hb) | (simp only [hb]) | skip))
        | (refine awp_exit ?_; simp only [thenA, blockA, scopeA, reduceIte, RetQ, Nat.reduceEqDiff])
        | (refine awp_ret ?_; simp only [thenA, blockA, scopeA, RetQ])
        | (refine ev_nil (hK _ ?_); clear hK K)
        | (apply ev_step0; (case hr | hσ => (simp only [go_sem, d1, d2, w1]; try rfl)); (case hc => exact hcA))
        | (apply ev_step; (case hr => (simp only [go_sem, d1, d2, w1]; try rfl)); (case hσ => (intro g u; simp only [go_sem, d1, d2, w1]; try rfl)); (case hc => exact hcA); intro g u; (try clear u); (try clear g))
        | fail
      all_goals (refine resR_oneA ?_; simp only [go_sem])
      exact LeA.refl _
    · have d1 : decide (((2 * valsN b + 1 : Nat) : Int) < (b.length : Int)) = false := decide_eq_false (by omega)
      repeat' first
        | refine awp_seq ?_
        | refine awp_block ?_
        | refine awp_skip ?_
        | (refine reg _ (by (simp only [List.map_cons, List.map_nil]; rfl)) rfl ?_; intro K hK)
        | (apply ev_guardU; (case hj | hu | hσ => (simp only [go_sem, d1, w1]; try rfl)))
        | ((first | refine awp_cond _ (by rfl) ?_ ?_ | refine ev_guardT _ _ (by (simp only [go_sem, d1, w1]; rfl)) (by (simp only [go_sem, d1, w1]; rfl)) ?_ ?_ | refine ev_guardF _ _ (by (simp only [go_sem, d1, w1]; rfl)) (by (simp only [go_sem, d1, w1]; rfl)) ?_ ?_) <;> (intro hb; first | (cases hb; done) | (have ht : true = true := hb; clear ht hb) | (have ht : false = false := hb; clear ht hb) | (simp only [hb]) | skip))
        | (refine awp_exit ?_; simp only [thenA, blockA, scopeA, reduceIte, RetQ, Nat.reduceEqDiff])
        | (refine awp_ret ?_; simp only [thenA, blockA, scopeA, RetQ])
        | (refine ev_nil (hK _ ?_); clear hK K)
        | (apply ev_step0; (case hr | hσ => (simp only [go_sem, d1, w1]; try rfl)); (case hc => exact hcA))
        | (apply ev_step; (case hr => (simp only [go_sem, d1, w1]; try rfl)); (case hσ => (intro g u; simp only [go_sem, d1, w1]; try rfl)); (case hc => exact hcA); intro g u; (try clear u); (try clear g))
        | fail
      all_goals (refine resR_oneA ?_; simp only [go_sem])
      exact LeA.refl _
end
section
set_option linter.unusedVariables false
set_option linter.unusedSimpArgs false
open Go.RowKit
attribute [local irreducible] Spec SpecF SpecN
attribute [local irreducible] AWp evOps evD
theorem f51_spec (b : List Int) (n : Nat) (hn : n ≤ 1000000) (hb : ∀ x ∈ b, 0 ≤ x ∧ x < 256) : Spec Tryd.prog 51 [.agg [.d (bytesD b), litI .i64 (n : Int)]] (litI .i64 (b.getD n 0)) := by
  by_cases h : n < b.length
  · have d1 : decide ((n : Int) < (b.length : Int)) = true := decide_eq_true (by omega)
    have hx := bytes_at b h
    have hm := byte_mem hb n
    generalize b.getD n 0 = x at *
    have w1 : IntKind.i64.wrap x = x := wrap_id (by omega)
    refine spec_of_awp (fn := Tryd.f51) Tryd.func51 (by kernel_rfl) rfl ?_
    intro w0 C0
    simp only [Tryd.ntmps51, litI, litB, litS, List.length_cons, List.length_nil, Nat.reduceAdd, Nat.reduceSub, List.replicate_succ, List.replicate_zero, List.cons_append, List.nil_append]
    repeat' first
      | refine awp_seq ?_
      | refine awp_block ?_
      | refine awp_skip ?_
      | (refine reg _ (by (simp only [List.map_cons, List.map_nil]; rfl)) rfl ?_; intro K hK)
      | ((refine awp_cond _ (by rfl) ?_ ?_) <;> (intro hb; first | (cases hb; done) | (have ht : true = true := hb; clear ht hb) | (have ht : false = false := hb; clear ht hb) | (simp only [hb]) | skip))
      | (refine awp_exit ?_; simp only [thenA, blockA, scopeA, reduceIte, RetQ, Nat.reduceEqDiff])
      | (refine awp_ret ?_; simp only [thenA, blockA, scopeA, RetQ])
      | (refine ev_nil (hK _ ?_); clear hK K)
      | (apply ev_step0; (case hr | hσ => (simp only [go_sem, d1, hx, w1]; try rfl)); (case hc => exact hcA))
      | (apply ev_step; (case hr => (simp only [go_sem, d1, hx, w1]; try rfl)); (case hσ => (intro g u; simp only [go_sem, d1, hx, w1]; try rfl)); (case hc => exact hcA); intro g u; (try clear u); (try clear g))
      | fail
    all_goals (refine resR_oneA ?_; simp only [go_sem])
    exact LeA.refl _
  · have d1 : decide ((n : Int) < (b.length : Int)) = false := decide_eq_false (by omega)
    have e : b.getD n 0 = 0 := by rw [List.getD_eq_getElem?_getD, List.getElem?_eq_none (by omega)]; rfl
    rw [e]
    refine spec_of_awp (fn := Tryd.f51) Tryd.func51 (by kernel_rfl) rfl ?_
    intro w0 C0
    simp only [Tryd.ntmps51, litI, litB, litS, List.length_cons, List.length_nil, Nat.reduceAdd, Nat.reduceSub, List.replicate_succ, List.replicate_zero, List.cons_append, List.nil_append]
    repeat' first
      | refine awp_seq ?_
      | refine awp_block ?_
      | refine awp_skip ?_
      | (refine reg _ (by (simp only [List.map_cons, List.map_nil]; rfl)) rfl ?_; intro K hK)
      | ((refine awp_cond _ (by rfl) ?_ ?_) <;> (intro hb; first | (cases hb; done) | (have ht : true = true := hb; clear ht hb) | (have ht : false = false := hb; clear ht hb) | (simp only [hb]) | skip))
      | (refine awp_exit ?_; simp only [thenA, blockA, scopeA, reduceIte, RetQ, Nat.reduceEqDiff])
      | (refine awp_ret ?_; simp only [thenA, blockA, scopeA, RetQ])
      | (refine ev_nil (hK _ ?_); clear hK K)
      | (apply ev_step0; (case hr | hσ => (simp only [go_sem, d1]; try rfl)); (case hc => exact hcA))
      | (apply ev_step; (case hr => (simp only [go_sem, d1]; try rfl)); (case hσ => (intro g u; simp only [go_sem, d1]; try rfl)); (case hc => exact hcA); intro g u; (try clear u); (try clear g))
      | fail
    all_goals (refine resR_oneA ?_; simp only [go_sem])
    exact LeA.refl _
theorem f52_spec (b : List Int) (n k : Nat) (hn : n + k ≤ 1000000) : Spec Tryd.prog 52 [.agg [.d (bytesD b), litI .i64 (n : Int)], litI .i64 (k : Int)] (.agg [.d (bytesD b), litI .i64 ((n + k : Nat) : Int)]) := by
  have w1 : IntKind.i64.wrap ((n : Int) + (k : Int)) = ((n + k : Nat) : Int) := by rw [wrap_id (by omega)]; push_cast; rfl
  refine spec_of_awp (fn := Tryd.f52) Tryd.func52 (by kernel_rfl) rfl ?_
  intro w0 C0
  simp only [Tryd.ntmps52, litI, litB, litS, List.length_cons, List.length_nil, Nat.reduceAdd, Nat.reduceSub, List.replicate_succ, List.replicate_zero, List.cons_append, List.nil_append]
  repeat' first
    | refine awp_seq ?_
    | (refine reg _ (by (simp only [List.map_cons, List.map_nil]; rfl)) rfl ?_; intro K hK)
    | (refine awp_ret ?_; simp only [thenA, blockA, scopeA, RetQ])
    | (refine ev_nil (hK _ ?_); clear hK K)
    | (apply ev_step0; (case hr | hσ => (simp only [go_sem, w1]; try rfl)); (case hc => exact hcA))
    | (apply ev_step; (case hr => (simp only [go_sem, w1]; try rfl)); (case hσ => (intro g u; simp only [go_sem, w1]; try rfl)); (case hc => exact hcA); intro g u; (try clear u); (try clear g))
    | fail
  all_goals (refine resR_oneA ?_; simp only [go_sem])
  exact LeA.refl _
def arityM (op : Int) : Int := if op = 1 ∨ op = 2 then 0 else if op = 8 ∨ op = 9 then 1 else if (3 ≤ op ∧ op ≤ 7) ∨ (10 ≤ op ∧ op ≤ 12) then 2 else -1
theorem f53_spec (op : Int) (h : 1 ≤ op ∧ op ≤ 12) : Spec Tryd.prog 53 [litI .i64 op] (litI .i64 (arityM op)) := by
  obtain rfl | rfl | rfl | rfl | rfl | rfl | rfl | rfl | rfl | rfl | rfl | rfl : op = 1 ∨ op = 2 ∨ op = 3 ∨ op = 4 ∨ op = 5 ∨ op = 6 ∨ op = 7 ∨ op = 8 ∨ op = 9 ∨ op = 10 ∨ op = 11 ∨ op = 12 := by omega
  all_goals
    refine spec_of_awp (fn := Tryd.f53) Tryd.func53 (by kernel_rfl) rfl ?_
    intro w0 C0
    simp only [Tryd.ntmps53, litI, litB, litS, List.length_cons, List.length_nil, Nat.reduceAdd, Nat.reduceSub, List.replicate_succ, List.replicate_zero, List.cons_append, List.nil_append]
    repeat' first
      | refine awp_seq ?_
      | refine awp_block ?_
      | refine awp_skip ?_
      | (refine reg _ (by (simp only [List.map_cons, List.map_nil]; rfl)) rfl ?_; intro K hK)
      | ((refine awp_cond _ (by rfl) ?_ ?_) <;> (intro hb; first | (cases hb; done) | (have ht : true = true := hb; clear ht hb) | (have ht : false = false := hb; clear ht hb) | (simp only [hb]) | skip))
      | (refine awp_exit ?_; simp only [thenA, blockA, scopeA, reduceIte, RetQ, Nat.reduceEqDiff])
      | (refine awp_ret ?_; simp only [thenA, blockA, scopeA, RetQ])
      | (refine ev_nil (hK _ ?_); clear hK K)
      | (apply ev_step0; (case hr | hσ => (simp only [go_sem, Int.reduceBEq]; try rfl)); (case hc => exact hcA))
      | (apply ev_step; (case hr => (simp only [go_sem, Int.reduceBEq]; try rfl)); (case hσ => (intro g u; simp only [go_sem, Int.reduceBEq]; try rfl)); (case hc => exact hcA); intro g u; (try clear u); (try clear g))
      | fail
    all_goals (refine resR_oneA ?_; simp only [go_sem])
    exact LeA.refl _
/-- An expression and the position behind it. -/
abbrev grA (e : Ex) (b : List Int) (n : Nat) : List AV := exA e ++ [.d (bytesD b), litI .i64 (n : Int)]
theorem f74_spec (k : Int) (b : List Int) (n : Nat) (hn : n + 2 ≤ 1000000) (hb : ∀ x ∈ b, 0 ≤ x ∧ x < 256) : Spec Tryd.prog 74 [litI .i64 k, .agg [.d (bytesD b), litI .i64 (n : Int)]] (.agg (grA (.leaf 1 0 (valM ⟨k, 0, false⟩ (b.getD n 0) (b.getD (n + 1) 0))) b (n + 2))) := by
  have a1 := f51_spec b n (by omega) hb
  have a2 := f52_spec b n 1 (by omega)
  have a3 := f51_spec b (n + 1) (by omega) hb
  have a4 := f52_spec b n 2 (by omega)
  have m1 := byte_mem hb n
  have m2 := byte_mem hb (n + 1)
  have a5 := f50_spec ⟨k, 0, false⟩ (b.getD n 0) (b.getD (n + 1) 0) ⟨by show (0 : Int) ≤ 0; omega, by show (0 : Int) ≤ 6; omega⟩ m1 m2
  generalize valM ⟨k, 0, false⟩ (b.getD n 0) (b.getD (n + 1) 0) = v at *
  generalize b.getD n 0 = x at *
  generalize b.getD (n + 1) 0 = y at *
  have w1 := wrap_u8 m1
  have w2 := wrap_u8 m2
  rw [show ((1 : Nat) : Int) = 1 from rfl] at a2
  rw [show ((2 : Nat) : Int) = 2 from rfl] at a4
  simp only [grA, exA, opE, cE, vE, argsD]
  refine spec_of_awp (fn := Tryd.f74) Tryd.func74 (by kernel_rfl) rfl ?_
  intro w0 C0
  simp only [Tryd.ntmps74, litI, litB, litS, List.length_cons, List.length_nil, Nat.reduceAdd, Nat.reduceSub, List.replicate_succ, List.replicate_zero, List.cons_append, List.nil_append]
  repeat' first
    | refine awp_seq ?_
    | (refine reg _ (by (simp only [List.map_cons, List.map_nil]; rfl)) rfl ?_; intro K hK)
    | (refine awp_ret ?_; simp only [thenA, blockA, scopeA, RetQ])
    | (refine ev_nil (hK _ ?_); clear hK K)
    | (apply regD; (case hd => (simp only [List.map_cons, List.map_nil]; rfl)); (case hok => rfl); (case' h => (intro K hK; (repeat' first
        | (apply evd_nil; refine (hK _ ?_); clear hK K)
        | (apply evd_call0; (case hi | hys => (simp only [go_sem, w1, w2]; try rfl)); (case hs => first | exact a1 .. | exact a2 .. | exact a3 .. | exact a4 .. | exact a5 ..); (case hok | hw | hσ => (simp only [go_sem, w1, w2]; try rfl)))
        | (apply evd_step0; (case hr | hi | hσ => (simp only [go_sem, w1, w2]; try rfl)); (case hc => exact hcA))
        | (apply evd_step; (case hr | hi => (simp only [go_sem, w1, w2]; try rfl)); (case hc => exact hcA); (case hw | hσ => (intro g u; simp only [go_sem, w1, w2]; try rfl)); (case' hk => (intro g u; (try clear u); (try clear g))))
        | fail))); (case hB => kernel_rfl))
    | (apply ev_step0; (case hr | hσ => (simp only [go_sem, w1, w2]; try rfl)); (case hc => exact hcA))
    | (apply ev_step; (case hr => (simp only [go_sem, w1, w2]; try rfl)); (case hσ => (intro g u; simp only [go_sem, w1, w2]; try rfl)); (case hc => exact hcA); intro g u; (try clear u); (try clear g))
    | fail
  all_goals (refine resR_oneA ?_; simp only [go_sem])
  exact LeA.refl _
abbrev tyD (t : Ty) : List Dat := [.lit (.int .i64 t.k), .lit (.int .i64 t.scale), .lit (.bool t.null)]
abbrev tys (l : List Ty) : Dat := .sl 3 (l.map tyD)
def tyTab : List Ty := [⟨2, 2, false⟩, ⟨3, 0, false⟩, ⟨1, 0, false⟩, ⟨2, 0, true⟩, ⟨3, 0, true⟩, ⟨1, 0, true⟩, ⟨2, 0, false⟩]
abbrev dTy : Ty := ⟨2, 0, false⟩
def tyB (n : Int) : Ty := tyTab.getD (n.tmod 7).toNat dTy
def typesM (b : List Int) : List Ty := (b.take 6).map tyB
theorem tys_at (l : List Ty) {i : Nat} (h : i < l.length) : (l.map tyD).getD i [] = tyD (l.getD i dTy) := by
  simp [List.getD_eq_getElem?_getD, h]
theorem typesM_len (b : List Int) : (typesM b).length = min 6 b.length := by simp [typesM]
set_option maxHeartbeats 4000000 in
theorem f8_spec (b : List Int) (hb : ∀ x ∈ b, 0 ≤ x ∧ x < 256) : Spec Tryd.prog 8 [.d (bytesD b)] (.d (tys (typesM b))) := by
  refine spec_of_awp (fn := Tryd.f8) Tryd.func8 (by kernel_rfl) rfl ?_
  intro w0 C0
  simp only [Tryd.ntmps8, litI, litB, litS, List.length_cons, List.length_nil, Nat.reduceAdd, Nat.reduceSub, List.replicate_succ, List.replicate_zero, List.cons_append, List.nil_append]
  repeat' first
    | refine awp_seq ?_
    | refine awp_block ?_
    | refine awp_skip ?_
    | (refine reg _ (by (simp only [List.map_cons, List.map_nil]; rfl)) rfl ?_; intro K hK)
    | (apply ev_guardU; (case hj | hu | hσ => (simp only [go_sem]; try rfl)))
    | ((first | refine awp_cond _ (by rfl) ?_ ?_ | refine ev_guardT _ _ (by (simp only [go_sem]; rfl)) (by (simp only [go_sem]; rfl)) ?_ ?_ | refine ev_guardF _ _ (by (simp only [go_sem]; rfl)) (by (simp only [go_sem]; rfl)) ?_ ?_) <;> (intro hb; first | (cases hb; done) | (have ht : true = true := hb; clear ht hb) | (have ht : false = false := hb; clear ht hb) | (simp only [hb]) | skip))
    | (refine awp_exit ?_; simp only [thenA, blockA, scopeA, reduceIte, RetQ, Nat.reduceEqDiff])
    | (refine awp_ret ?_; simp only [thenA, blockA, scopeA, RetQ])
    | (refine ev_nil (hK _ ?_); clear hK K)
    | (apply ev_step0; (case hr | hσ => (simp only [go_sem]; try rfl)); (case hc => exact hcA))
    | (apply ev_step; (case hr => (simp only [go_sem]; try rfl)); (case hσ => (intro g u; simp only [go_sem]; try rfl)); (case hc => exact hcA); intro g u; (try clear u); (try clear g))
    | fail
  refine awp_loopI (fun j : Nat × Value => j.1 ≤ b.length ∧ j.1 ≤ 6) (fun j => 6 - j.1) (fun j => ⟨[.d (bytesD b), .any, .d (.lit (.slice none 0 0)), .own 5 j.2, litI .i64 (j.1 : Int), .any, .any, .any, .any, .any, .any, .any, .any, .any, .any, .any, .any, .any, .any, .any, .any, .any, .any, .any, .any, .any, .any, .any, .any, .any, .any, .any, .any, .any, .any], [.no, .no, .no, .no, .no, .row j.2 67 3 ((typesM (b.take j.1)).map tyD), .no, .no, .no, .no, .no, .no, .no, .no, .no, .no, .no, .no, .no, .no, .no, .no, .no, .no, .no, .no, .no, .no, .no, .no, .no, .no, .no, .no, .no]⟩) (0, u) (by simp) ?_ ?_
  · simp only [typesM, List.take_zero, List.take_nil, List.map_nil]
    exact wkA
  rintro ⟨j, v⟩ ⟨hj, hj6⟩
  simp only [litI, litB] at hj hj6 ⊢
  by_cases h1 : j < b.length
  · have d1 : decide ((j : Int) < (b.length : Int)) = true := decide_eq_true (by omega)
    by_cases h2 : j < 6
    · have d2 : decide ((j : Int) < 6) = true := decide_eq_true (by omega)
      have hx := bytes_at b h1
      have hm := byte_mem hb j
      have hs : typesM (b.take (j + 1)) = typesM (b.take j) ++ [tyB (b.getD j 0)] := by
        simp only [typesM, List.take_take]
        rw [show min 6 (j + 1) = j + 1 by omega, show min 6 j = j by omega, take_at b 0 h1, List.map_append]; rfl
      have hl : (typesM (b.take j)).length ≤ 6 := by rw [typesM_len]; omega
      have w2 : IntKind.i64.wrap ((j : Int) + 1) = ((j + 1 : Nat) : Int) := by rw [wrap_id (by omega)]; push_cast; rfl
      generalize typesM (b.take j) = ts at *
      generalize b.getD j 0 = x at *
      have h3 := Int.tmod_nonneg 7 hm.1
      have h4 := Int.tmod_lt_of_pos x (b := 7) (by decide)
      unfold tyB at hs
      obtain ⟨k, hk⟩ : ∃ k : Nat, x.tmod 7 = k := ⟨(x.tmod 7).toNat, by omega⟩
      have hy := tys_at tyTab (i := k) (by show k < 7; omega)
      rw [hk, Int.toNat_natCast] at hs
      generalize tyTab.getD k dTy = t at *
      simp only [tyTab, List.map_cons, List.map_nil] at hy
      have wu : IntKind.u8.wrap (k : Int) = (k : Int) := wrap_u8 (by omega)
      repeat' first
        | refine awp_seq ?_
        | refine awp_block ?_
        | refine awp_skip ?_
        | (refine reg _ (by (simp only [List.map_cons, List.map_nil]; rfl)) rfl ?_; intro K hK)
        | (apply ev_guardU; (case hj | hu | hσ => (simp only [go_sem, d1, d2, hx, hk, hy, w2, wu]; try rfl)))
        | ((first | refine awp_cond _ (by rfl) ?_ ?_ | refine ev_guardT _ _ (by (simp only [go_sem, d1, d2, hx, hk, hy, w2, wu]; rfl)) (by (simp only [go_sem, d1, d2, hx, hk, hy, w2, wu]; rfl)) ?_ ?_ | refine ev_guardF _ _ (by (simp only [go_sem, d1, d2, hx, hk, hy, w2, wu]; rfl)) (by (simp only [go_sem, d1, d2, hx, hk, hy, w2, wu]; rfl)) ?_ ?_) <;> (intro hb; first | (cases hb; done) | (have ht : true = true := hb; clear ht hb) | (have ht : false = false := hb; clear ht hb) | (simp only [hb]) | skip))
        | (refine awp_exit ?_; simp only [thenA, blockA, scopeA, reduceIte, RetQ, Nat.reduceEqDiff])
        | (refine awp_ret ?_; simp only [thenA, blockA, scopeA, RetQ])
        | (refine ev_nil (hK _ ?_); clear hK K)
        | (apply ev_step0; (case hr | hσ => (simp only [go_sem, d1, d2, hx, hk, hy, w2, wu]; try rfl)); (case hc => exact hcA))
        | (apply ev_step; (case hr => (simp only [go_sem, d1, d2, hx, hk, hy, w2, wu]; try rfl)); (case hσ => (intro g u; simp only [go_sem, d1, d2, hx, hk, hy, w2, wu]; try rfl)); (case hc => exact hcA); intro g u; (try clear u); (try clear g))
        | fail
      refine Exists.intro (j + 1, u) ⟨⟨by show j + 1 ≤ _; omega, by show j + 1 ≤ 6; omega⟩, by show 6 - (j + 1) < 6 - j; omega, ?_⟩
      simp only [hs, List.map_append, List.map_cons, List.map_nil]
      exact wkA
    · have d2 : decide ((j : Int) < 6) = false := decide_eq_false (by omega)
      have e : typesM (b.take j) = typesM b := by unfold typesM; rw [List.take_take]; congr 2; omega
      rw [e]
      repeat' first
        | refine awp_seq ?_
        | refine awp_block ?_
        | refine awp_skip ?_
        | (refine reg _ (by (simp only [List.map_cons, List.map_nil]; rfl)) rfl ?_; intro K hK)
        | (apply ev_guardU; (case hj | hu | hσ => (simp only [go_sem, d1, d2]; try rfl)))
        | ((first | refine awp_cond _ (by rfl) ?_ ?_ | refine ev_guardT _ _ (by (simp only [go_sem, d1, d2]; rfl)) (by (simp only [go_sem, d1, d2]; rfl)) ?_ ?_ | refine ev_guardF _ _ (by (simp only [go_sem, d1, d2]; rfl)) (by (simp only [go_sem, d1, d2]; rfl)) ?_ ?_) <;> (intro hb; first | (cases hb; done) | (have ht : true = true := hb; clear ht hb) | (have ht : false = false := hb; clear ht hb) | (simp only [hb]) | skip))
        | (refine awp_exit ?_; simp only [thenA, blockA, scopeA, reduceIte, RetQ, Nat.reduceEqDiff])
        | (refine awp_ret ?_; simp only [thenA, blockA, scopeA, RetQ])
        | (refine ev_nil (hK _ ?_); clear hK K)
        | (apply ev_step0; (case hr | hσ => (simp only [go_sem, d1, d2]; try rfl)); (case hc => exact hcA))
        | (apply ev_step; (case hr => (simp only [go_sem, d1, d2]; try rfl)); (case hσ => (intro g u; simp only [go_sem, d1, d2]; try rfl)); (case hc => exact hcA); intro g u; (try clear u); (try clear g))
        | fail
      all_goals (refine resR_oneA ?_; simp only [go_sem])
      exact LeA.refl _
  · have d1 : decide ((j : Int) < (b.length : Int)) = false := decide_eq_false (by omega)
    have e : typesM (b.take j) = typesM b := by rw [List.take_of_length_le (by omega)]
    rw [e]
    repeat' first
      | refine awp_seq ?_
      | refine awp_block ?_
      | refine awp_skip ?_
      | (refine reg _ (by (simp only [List.map_cons, List.map_nil]; rfl)) rfl ?_; intro K hK)
      | (apply ev_guardU; (case hj | hu | hσ => (simp only [go_sem, d1]; try rfl)))
      | ((first | refine awp_cond _ (by rfl) ?_ ?_ | refine ev_guardT _ _ (by (simp only [go_sem, d1]; rfl)) (by (simp only [go_sem, d1]; rfl)) ?_ ?_ | refine ev_guardF _ _ (by (simp only [go_sem, d1]; rfl)) (by (simp only [go_sem, d1]; rfl)) ?_ ?_) <;> (intro hb; first | (cases hb; done) | (have ht : true = true := hb; clear ht hb) | (have ht : false = false := hb; clear ht hb) | (simp only [hb]) | skip))
      | (refine awp_exit ?_; simp only [thenA, blockA, scopeA, reduceIte, RetQ, Nat.reduceEqDiff])
      | (refine awp_ret ?_; simp only [thenA, blockA, scopeA, RetQ])
      | (refine ev_nil (hK _ ?_); clear hK K)
      | (apply ev_step0; (case hr | hσ => (simp only [go_sem, d1]; try rfl)); (case hc => exact hcA))
      | (apply ev_step; (case hr => (simp only [go_sem, d1]; try rfl)); (case hσ => (intro g u; simp only [go_sem, d1]; try rfl)); (case hc => exact hcA); intro g u; (try clear u); (try clear g))
      | fail
    all_goals (refine resR_oneA ?_; simp only [go_sem])
    exact LeA.refl _
end
section
set_option linter.unusedVariables false
set_option linter.unusedSimpArgs false
open Go.RowKit
attribute [local irreducible] Spec SpecF SpecN
attribute [local irreducible] AWp evOps evD
theorem f87_spec (n : Nat) (hn : n ≤ 6) : Spec Tryd.prog 87 [litI .i64 (n : Int)] (litB true) := by
  have d1 : decide ((n : Int) ≥ 0) = true := decide_eq_true (by omega)
  have d2 : decide ((n : Int) ≤ 6) = true := decide_eq_true (by omega)
  refine spec_of_awp (fn := Tryd.f87) Tryd.func87 (by kernel_rfl) rfl ?_
  intro w0 C0
  simp only [Tryd.ntmps87, litI, litB, litS, List.length_cons, List.length_nil, Nat.reduceAdd, Nat.reduceSub, List.replicate_succ, List.replicate_zero, List.cons_append, List.nil_append]
  repeat' first
    | refine awp_seq ?_
    | (refine reg _ (by (simp only [List.map_cons, List.map_nil]; rfl)) rfl ?_; intro K hK)
    | (apply ev_guardU; (case hj | hu | hσ => (simp only [go_sem, d1, d2]; try rfl)))
    | ((first | refine ev_guardT _ _ (by (simp only [go_sem, d1, d2]; rfl)) (by (simp only [go_sem, d1, d2]; rfl)) ?_ ?_ | refine ev_guardF _ _ (by (simp only [go_sem, d1, d2]; rfl)) (by (simp only [go_sem, d1, d2]; rfl)) ?_ ?_) <;> (intro hb; first | (cases hb; done) | (have ht : true = true := hb; clear ht hb) | (have ht : false = false := hb; clear ht hb) | (simp only [hb]) | skip))
    | (refine awp_ret ?_; simp only [thenA, blockA, scopeA, RetQ])
    | (refine ev_nil (hK _ ?_); clear hK K)
    | (apply ev_step0; (case hr | hσ => (simp only [go_sem, d1, d2]; try rfl)); (case hc => exact hcA))
    | (apply ev_step; (case hr => (simp only [go_sem, d1, d2]; try rfl)); (case hσ => (intro g u; simp only [go_sem, d1, d2]; try rfl)); (case hc => exact hcA); intro g u; (try clear u); (try clear g))
    | fail
  all_goals (refine resR_oneA ?_; simp only [go_sem])
  exact LeA.refl _
def stepD (n : Nat) : Int := (10 : Int) ^ (6 - n)
theorem pow_bd : ∀ k : Nat, k ≤ 6 → 0 < (10 : Int) ^ k ∧ (10 : Int) ^ k ≤ 1000000
  | 0, _ => by decide
  | 1, _ => by decide
  | 2, _ => by decide
  | 3, _ => by decide
  | 4, _ => by decide
  | 5, _ => by decide
  | 6, _ => by decide
  | n + 7, h => by omega
theorem f88_spec (n : Nat) (hn : n ≤ 6) : Spec Tryd.prog 88 [litI .i64 (n : Int)] (litI .i64 (stepD n)) := by
  refine spec_of_awp (fn := Tryd.f88) Tryd.func88 (by kernel_rfl) rfl ?_
  intro w0 C0
  simp only [Tryd.ntmps88, litI, litB, litS, List.length_cons, List.length_nil, Nat.reduceAdd, Nat.reduceSub, List.replicate_succ, List.replicate_zero, List.cons_append, List.nil_append]
  repeat' first
    | refine awp_seq ?_
    | refine awp_block ?_
    | refine awp_skip ?_
    | (refine reg _ (by (simp only [List.map_cons, List.map_nil]; rfl)) rfl ?_; intro K hK)
    | ((refine awp_cond _ (by rfl) ?_ ?_) <;> (intro hb; first | (cases hb; done) | (have ht : true = true := hb; clear ht hb) | (have ht : false = false := hb; clear ht hb) | (simp only [hb]) | skip))
    | (refine awp_exit ?_; simp only [thenA, blockA, scopeA, reduceIte, RetQ, Nat.reduceEqDiff])
    | (refine awp_ret ?_; simp only [thenA, blockA, scopeA, RetQ])
    | (refine ev_nil (hK _ ?_); clear hK K)
    | (apply ev_step0; (case hr | hσ => (simp only [go_sem]; try rfl)); (case hc => exact hcA))
    | (apply ev_step; (case hr => (simp only [go_sem]; try rfl)); (case hσ => (intro g u; simp only [go_sem]; try rfl)); (case hc => exact hcA); intro g u; (try clear u); (try clear g))
    | fail
  refine awp_loopI (fun i : Nat => n ≤ i ∧ i ≤ 6) (fun i => 6 - i) (fun i => ⟨[litI .i64 (n : Int), .any, litI .i64 0, litI .i64 ((10 : Int) ^ (i - n)), litI .i64 (i : Int), .any, .any, .any, .any, .any, .any, .any, .any], [.no, .no, .no, .no, .no, .no, .no, .no, .no, .no, .no, .no, .no]⟩) n ⟨by omega, by omega⟩ ?_ ?_
  · rw [Nat.sub_self, Int.pow_zero]
    exact wkA
  rintro i ⟨hi, hi6⟩
  simp only [litI, litB] at hi hi6 ⊢
  by_cases h : i < 6
  · have d1 : decide ((i : Int) < 6) = true := decide_eq_true (by omega)
    have hp := pow_bd (i - n) (by omega)
    have e : (10 : Int) ^ (i + 1 - n) = 10 * (10 : Int) ^ (i - n) := by
      rw [show i + 1 - n = (i - n) + 1 by omega, Int.pow_succ, Int.mul_comm]
    generalize (10 : Int) ^ (i - n) = p at *
    have w1 : IntKind.i64.wrap (10 * p) = 10 * p := wrap_id (by omega)
    have w2 : IntKind.i64.wrap ((i : Int) + 1) = ((i + 1 : Nat) : Int) := by rw [wrap_id (by omega)]; push_cast; rfl
    repeat' first
      | refine awp_seq ?_
      | refine awp_block ?_
      | refine awp_skip ?_
      | (refine reg _ (by (simp only [List.map_cons, List.map_nil]; rfl)) rfl ?_; intro K hK)
      | ((refine awp_cond _ (by rfl) ?_ ?_) <;> (intro hb; first | (cases hb; done) | (have ht : true = true := hb; clear ht hb) | (have ht : false = false := hb; clear ht hb) | (simp only [hb]) | skip))
      | (refine awp_exit ?_; simp only [thenA, blockA, scopeA, reduceIte, RetQ, Nat.reduceEqDiff])
      | (refine awp_ret ?_; simp only [thenA, blockA, scopeA, RetQ])
      | (refine ev_nil (hK _ ?_); clear hK K)
      | (apply ev_step0; (case hr | hσ => (simp only [go_sem, d1, w1, w2]; try rfl)); (case hc => exact hcA))
      | (apply ev_step; (case hr => (simp only [go_sem, d1, w1, w2]; try rfl)); (case hσ => (intro g u; simp only [go_sem, d1, w1, w2]; try rfl)); (case hc => exact hcA); intro g u; (try clear u); (try clear g))
      | fail
    refine Exists.intro (i + 1) ⟨⟨by omega, by omega⟩, by omega, ?_⟩
    rw [e]
    exact wkA
  · have d1 : decide ((i : Int) < 6) = false := decide_eq_false (by omega)
    have hi : i = 6 := by omega
    subst hi
    unfold stepD
    repeat' first
      | refine awp_seq ?_
      | refine awp_block ?_
      | refine awp_skip ?_
      | (refine reg _ (by (simp only [List.map_cons, List.map_nil]; rfl)) rfl ?_; intro K hK)
      | ((refine awp_cond _ (by rfl) ?_ ?_) <;> (intro hb; first | (cases hb; done) | (have ht : true = true := hb; clear ht hb) | (have ht : false = false := hb; clear ht hb) | (simp only [hb]) | skip))
      | (refine awp_exit ?_; simp only [thenA, blockA, scopeA, reduceIte, RetQ, Nat.reduceEqDiff])
      | (refine awp_ret ?_; simp only [thenA, blockA, scopeA, RetQ])
      | (refine ev_nil (hK _ ?_); clear hK K)
      | (apply ev_step0; (case hr | hσ => (simp only [go_sem, d1]; try rfl)); (case hc => exact hcA))
      | (apply ev_step; (case hr => (simp only [go_sem, d1]; try rfl)); (case hσ => (intro g u; simp only [go_sem, d1]; try rfl)); (case hc => exact hcA); intro g u; (try clear u); (try clear g))
      | fail
    all_goals (refine resR_oneA ?_; simp only [go_sem])
    exact LeA.refl _
def fitsM (x : Int) (n : Nat) : Bool := x.tmod (stepD n) == 0
theorem f86_spec (x : Int) (n : Nat) (hn : n ≤ 6) : Spec Tryd.prog 86 [litI .i64 x, litI .i64 (n : Int)] (litB (fitsM x n)) := by
  have a1 := f87_spec n hn
  have a2 := f88_spec n hn
  have hp : 0 < stepD n := (pow_bd (6 - n) (by omega)).1
  unfold fitsM
  generalize stepD n = d at *
  have hd : ¬ d = 0 := by omega
  refine spec_of_awp (fn := Tryd.f86) Tryd.func86 (by kernel_rfl) rfl ?_
  intro w0 C0
  simp only [Tryd.ntmps86, litI, litB, litS, List.length_cons, List.length_nil, Nat.reduceAdd, Nat.reduceSub, List.replicate_succ, List.replicate_zero, List.cons_append, List.nil_append]
  repeat' first
    | refine awp_seq ?_
    | (refine reg _ (by (simp only [List.map_cons, List.map_nil]; rfl)) rfl ?_; intro K hK)
    | (apply ev_guardU; (case hj | hu | hσ => (simp only [go_sem, hd]; try rfl)))
    | ((first | refine ev_guardT _ _ (by (simp only [go_sem, hd]; rfl)) (by (simp only [go_sem, hd]; rfl)) ?_ ?_ | refine ev_guardF _ _ (by (simp only [go_sem, hd]; rfl)) (by (simp only [go_sem, hd]; rfl)) ?_ ?_) <;> (intro hb; first | (cases hb; done) | (have ht : true = true := hb; clear ht hb) | (have ht : false = false := hb; clear ht hb) | (simp only [hb]) | skip))
    | (refine awp_ret ?_; simp only [thenA, blockA, scopeA, RetQ])
    | (refine ev_nil (hK _ ?_); clear hK K)
    | (apply ev_call0; (case hys => (simp only [go_sem, hd]; try rfl)); (case hs => first | exact a1 .. | exact a2 ..); (case hok | hσ => (simp only [go_sem, hd]; try rfl)))
    | (apply ev_step0; (case hr | hσ => (simp only [go_sem, hd]; try rfl)); (case hc => exact hcA))
    | (apply ev_step; (case hr => (simp only [go_sem, hd]; try rfl)); (case hσ => (intro g u; simp only [go_sem, hd]; try rfl)); (case hc => exact hcA); intro g u; (try clear u); (try clear g))
    | fail
  all_goals (refine resR_oneA ?_; simp only [go_sem])
  exact LeA.refl _
def leastM (x : Int) : List Nat → Int
  | [] => 6
  | s :: l => if fitsM x s = true then (s : Int) else leastM x l
theorem f84_spec (x : Int) : Spec Tryd.prog 84 [litI .i64 x] (litI .i64 (leastM x (List.range 6))) := by
  refine spec_of_awp (fn := Tryd.f84) Tryd.func84 (by kernel_rfl) rfl ?_
  intro w0 C0
  simp only [Tryd.ntmps84, litI, litB, litS, List.length_cons, List.length_nil, Nat.reduceAdd, Nat.reduceSub, List.replicate_succ, List.replicate_zero, List.cons_append, List.nil_append]
  repeat' first
    | refine awp_seq ?_
    | refine awp_block ?_
    | refine awp_skip ?_
    | (refine reg _ (by (simp only [List.map_cons, List.map_nil]; rfl)) rfl ?_; intro K hK)
    | ((refine awp_cond _ (by rfl) ?_ ?_) <;> (intro hb; first | (cases hb; done) | (have ht : true = true := hb; clear ht hb) | (have ht : false = false := hb; clear ht hb) | (simp only [hb]) | skip))
    | (refine awp_exit ?_; simp only [thenA, blockA, scopeA, reduceIte, RetQ, Nat.reduceEqDiff])
    | (refine awp_ret ?_; simp only [thenA, blockA, scopeA, RetQ])
    | (refine ev_nil (hK _ ?_); clear hK K)
    | (apply ev_step0; (case hr | hσ => (simp only [go_sem]; try rfl)); (case hc => exact hcA))
    | (apply ev_step; (case hr => (simp only [go_sem]; try rfl)); (case hσ => (intro g u; simp only [go_sem]; try rfl)); (case hc => exact hcA); intro g u; (try clear u); (try clear g))
    | fail
  refine awp_loopI (fun i : Nat => i ≤ 6 ∧ leastM x (List.range 6) = leastM x ((List.range 6).drop i)) (fun i => 6 - i) (fun i => ⟨[litI .i64 x, .any, litI .i64 0, litI .i64 (i : Int), .any, .any, .any, .any, .any, .any, .any, .any], [.no, .no, .no, .no, .no, .no, .no, .no, .no, .no, .no, .no]⟩) 0 ⟨by omega, rfl⟩ ?_ ?_
  · exact wkA
  rintro i ⟨hi6, hf⟩
  simp only [litI, litB] at hi6 hf ⊢
  by_cases h : i < 6
  · have d1 : decide ((i : Int) < 6) = true := decide_eq_true (by omega)
    have a1 := f86_spec x i (by omega)
    have w2 : IntKind.i64.wrap ((i : Int) + 1) = ((i + 1 : Nat) : Int) := by rw [wrap_id (by omega)]; push_cast; rfl
    rw [drop_at (List.range 6) 0 (by simpa using h), show (List.range 6).getD i 0 = i by simp [List.getD_eq_getElem?_getD, h], leastM] at hf
    cases hq : fitsM x i with
    | true =>
      rw [hq] at a1
      rw [hq, if_pos rfl] at hf
      repeat' first
        | refine awp_seq ?_
        | refine awp_block ?_
        | refine awp_skip ?_
        | (refine reg _ (by (simp only [List.map_cons, List.map_nil]; rfl)) rfl ?_; intro K hK)
        | ((refine awp_cond _ (by rfl) ?_ ?_) <;> (intro hb; first | (cases hb; done) | (have ht : true = true := hb; clear ht hb) | (have ht : false = false := hb; clear ht hb) | (simp only [hb]) | skip))
        | (refine awp_exit ?_; simp only [thenA, blockA, scopeA, reduceIte, RetQ, Nat.reduceEqDiff])
        | (refine awp_ret ?_; simp only [thenA, blockA, scopeA, RetQ])
        | (refine ev_nil (hK _ ?_); clear hK K)
        | (apply ev_call0; (case hys => (simp only [go_sem, d1]; try rfl)); (case hs => first | exact a1 ..); (case hok | hσ => (simp only [go_sem, d1]; try rfl)))
        | (apply ev_step0; (case hr | hσ => (simp only [go_sem, d1]; try rfl)); (case hc => exact hcA))
        | (apply ev_step; (case hr => (simp only [go_sem, d1]; try rfl)); (case hσ => (intro g u; simp only [go_sem, d1]; try rfl)); (case hc => exact hcA); intro g u; (try clear u); (try clear g))
        | fail
      all_goals (refine resR_oneA ?_; simp only [go_sem])
      exact LeA.i hf.symm
    | false =>
      rw [hq] at a1
      rw [hq, if_neg (by decide)] at hf
      repeat' first
        | refine awp_seq ?_
        | refine awp_block ?_
        | refine awp_skip ?_
        | (refine reg _ (by (simp only [List.map_cons, List.map_nil]; rfl)) rfl ?_; intro K hK)
        | ((refine awp_cond _ (by rfl) ?_ ?_) <;> (intro hb; first | (cases hb; done) | (have ht : true = true := hb; clear ht hb) | (have ht : false = false := hb; clear ht hb) | (simp only [hb]) | skip))
        | (refine awp_exit ?_; simp only [thenA, blockA, scopeA, reduceIte, RetQ, Nat.reduceEqDiff])
        | (refine awp_ret ?_; simp only [thenA, blockA, scopeA, RetQ])
        | (refine ev_nil (hK _ ?_); clear hK K)
        | (apply ev_call0; (case hys => (simp only [go_sem, d1, w2]; try rfl)); (case hs => first | exact a1 ..); (case hok | hσ => (simp only [go_sem, d1, w2]; try rfl)))
        | (apply ev_step0; (case hr | hσ => (simp only [go_sem, d1, w2]; try rfl)); (case hc => exact hcA))
        | (apply ev_step; (case hr => (simp only [go_sem, d1, w2]; try rfl)); (case hσ => (intro g u; simp only [go_sem, d1, w2]; try rfl)); (case hc => exact hcA); intro g u; (try clear u); (try clear g))
        | fail
      refine Exists.intro (i + 1) ⟨⟨by omega, hf⟩, by omega, ?_⟩
      exact wkA
  · have d1 : decide ((i : Int) < 6) = false := decide_eq_false (by omega)
    rw [List.drop_eq_nil_of_le (by simp; omega), leastM] at hf
    repeat' first
      | refine awp_seq ?_
      | refine awp_block ?_
      | refine awp_skip ?_
      | (refine reg _ (by (simp only [List.map_cons, List.map_nil]; rfl)) rfl ?_; intro K hK)
      | ((refine awp_cond _ (by rfl) ?_ ?_) <;> (intro hb; first | (cases hb; done) | (have ht : true = true := hb; clear ht hb) | (have ht : false = false := hb; clear ht hb) | (simp only [hb]) | skip))
      | (refine awp_exit ?_; simp only [thenA, blockA, scopeA, reduceIte, RetQ, Nat.reduceEqDiff])
      | (refine awp_ret ?_; simp only [thenA, blockA, scopeA, RetQ])
      | (refine ev_nil (hK _ ?_); clear hK K)
      | (apply ev_step0; (case hr | hσ => (simp only [go_sem, d1]; try rfl)); (case hc => exact hcA))
      | (apply ev_step; (case hr => (simp only [go_sem, d1]; try rfl)); (case hσ => (intro g u; simp only [go_sem, d1]; try rfl)); (case hc => exact hcA); intro g u; (try clear u); (try clear g))
      | fail
    all_goals (refine resR_oneA ?_; simp only [go_sem])
    exact LeA.i hf.symm
theorem f85_spec (l : List Ty) (k : Int) (h : ∀ t ∈ l, t.k = k) : Spec Tryd.prog 85 [.d (tys l), litI .i64 k] (litB true) := by
  refine spec_of_awp (fn := Tryd.f85) Tryd.func85 (by kernel_rfl) rfl ?_
  intro w0 C0
  simp only [Tryd.ntmps85, litI, litB, litS, List.length_cons, List.length_nil, Nat.reduceAdd, Nat.reduceSub, List.replicate_succ, List.replicate_zero, List.cons_append, List.nil_append]
  refine awp_len 0 rfl fun hl => ?_
  simp only [List.length_map] at hl
  repeat' first
    | refine awp_seq ?_
    | refine awp_block ?_
    | refine awp_skip ?_
    | (refine reg _ (by (simp only [List.map_cons, List.map_nil]; rfl)) rfl ?_; intro K hK)
    | ((refine awp_cond _ (by rfl) ?_ ?_) <;> (intro hb; first | (cases hb; done) | (have ht : true = true := hb; clear ht hb) | (have ht : false = false := hb; clear ht hb) | (simp only [hb]) | skip))
    | (refine awp_exit ?_; simp only [thenA, blockA, scopeA, reduceIte, RetQ, Nat.reduceEqDiff])
    | (refine awp_ret ?_; simp only [thenA, blockA, scopeA, RetQ])
    | (refine ev_nil (hK _ ?_); clear hK K)
    | (apply ev_step0; (case hr | hσ => (simp only [go_sem]; try rfl)); (case hc => exact hcA))
    | (apply ev_step; (case hr => (simp only [go_sem]; try rfl)); (case hσ => (intro g u; simp only [go_sem]; try rfl)); (case hc => exact hcA); intro g u; (try clear u); (try clear g))
    | fail
  refine awp_loopI (fun i : Nat => i ≤ l.length) (fun i => l.length - i) (fun i => ⟨[.d (tys l), litI .i64 k, .any, .any, litB false, litI .i64 (i : Int), .any, .any, .any, .any, .any, .any, .any, .any, .any, .any, .any, .any, .any], [.no, .no, .no, .no, .no, .no, .no, .no, .no, .no, .no, .no, .no, .no, .no, .no, .no, .no, .no]⟩) 0 (by omega) ?_ ?_
  · exact wkA
  intro i hi
  simp only [litI, litB] at hi ⊢
  by_cases hlt : i < l.length
  rotate_left
  have hdec : decide ((i : Int) < (l.length : Int)) = false := by simp; omega
  · repeat' first
      | refine awp_seq ?_
      | refine awp_block ?_
      | refine awp_skip ?_
      | (refine reg _ (by (simp only [List.map_cons, List.map_nil]; rfl)) rfl ?_; intro K hK)
      | ((refine awp_cond _ (by rfl) ?_ ?_) <;> (intro hb; first | (cases hb; done) | (have ht : true = true := hb; clear ht hb) | (have ht : false = false := hb; clear ht hb) | (simp only [hb]) | skip))
      | (refine awp_exit ?_; simp only [thenA, blockA, scopeA, reduceIte, RetQ, Nat.reduceEqDiff])
      | (refine awp_ret ?_; simp only [thenA, blockA, scopeA, RetQ])
      | (refine ev_nil (hK _ ?_); clear hK K)
      | (apply ev_step0; (case hr | hσ => (simp only [go_sem, hdec]; try rfl)); (case hc => exact hcA))
      | (apply ev_step; (case hr => (simp only [go_sem, hdec]; try rfl)); (case hσ => (intro g u; simp only [go_sem, hdec]; try rfl)); (case hc => exact hcA); intro g u; (try clear u); (try clear g))
      | fail
    all_goals (refine resR_oneA ?_; simp only [go_sem])
    exact LeA.refl _
  have hdec : decide ((i : Int) < (l.length : Int)) = true := by simp; omega
  have hx := tys_at l hlt
  have hk := h _ (mem_at l dTy hlt)
  generalize l.getD i dTy = t at *
  have d2 : (t.k != k) = false := by rw [hk]; simp
  repeat' first
    | refine awp_seq ?_
    | refine awp_block ?_
    | refine awp_skip ?_
    | (refine reg _ (by (simp only [List.map_cons, List.map_nil]; rfl)) rfl ?_; intro K hK)
    | ((refine awp_cond _ (by rfl) ?_ ?_) <;> (intro hb; first | (cases hb; done) | (have ht : true = true := hb; clear ht hb) | (have ht : false = false := hb; clear ht hb) | (simp only [hb]) | skip))
    | (refine awp_exit ?_; simp only [thenA, blockA, scopeA, reduceIte, RetQ, Nat.reduceEqDiff])
    | (refine awp_ret ?_; simp only [thenA, blockA, scopeA, RetQ])
    | (refine ev_nil (hK _ ?_); clear hK K)
    | (apply ev_step0; (case hr | hσ => (simp only [go_sem, hdec, hx, d2]; try rfl)); (case hc => exact hcA))
    | (apply ev_step; (case hr => (simp only [go_sem, hdec, hx, d2]; try rfl)); (case hσ => (intro g u; simp only [go_sem, hdec, hx, d2]; try rfl)); (case hc => exact hcA); intro g u; (try clear u); (try clear g))
    | fail
  refine Exists.intro (i + 1) ⟨by omega, by omega, ?_⟩
  exact wkA
/-- A type that is valid. -/
structure TyOk (t : Ty) : Prop where
  k : t.k = 1 ∨ t.k = 2 ∨ t.k = 3
  scale : 0 ≤ t.scale ∧ t.scale ≤ 6
  none : t.k ≠ 2 → t.scale = 0
theorem f83_spec (t : Ty) (h : TyOk t) : Spec Tryd.prog 83 [.agg (tyA t)] (litB true) := by
  obtain ⟨k, sc, nu⟩ := t
  obtain ⟨hk, hs, hn⟩ := h
  simp only at hk hs hn
  have d1 : decide (sc ≥ 0) = true := decide_eq_true (by omega)
  have d2 : decide (sc ≤ 6) = true := decide_eq_true (by omega)
  rcases hk with rfl | rfl | rfl
  · have := hn (by decide)
    subst this
    refine spec_of_awp (fn := Tryd.f83) Tryd.func83 (by kernel_rfl) rfl ?_
    intro w0 C0
    simp only [Tryd.ntmps83, litI, litB, litS, List.length_cons, List.length_nil, Nat.reduceAdd, Nat.reduceSub, List.replicate_succ, List.replicate_zero, List.cons_append, List.nil_append]
    repeat' first
      | refine awp_seq ?_
      | refine awp_block ?_
      | refine awp_skip ?_
      | (refine reg _ (by (simp only [List.map_cons, List.map_nil]; rfl)) rfl ?_; intro K hK)
      | (apply ev_guardU; (case hj | hu | hσ => (simp only [go_sem, Int.reduceBEq]; try rfl)))
      | ((first | refine awp_cond _ (by rfl) ?_ ?_ | refine ev_guardT _ _ (by (simp only [go_sem, Int.reduceBEq]; rfl)) (by (simp only [go_sem, Int.reduceBEq]; rfl)) ?_ ?_ | refine ev_guardF _ _ (by (simp only [go_sem, Int.reduceBEq]; rfl)) (by (simp only [go_sem, Int.reduceBEq]; rfl)) ?_ ?_) <;> (intro hb; first | (cases hb; done) | (have ht : true = true := hb; clear ht hb) | (have ht : false = false := hb; clear ht hb) | (simp only [hb]) | skip))
      | (refine awp_exit ?_; simp only [thenA, blockA, scopeA, reduceIte, RetQ, Nat.reduceEqDiff])
      | (refine awp_ret ?_; simp only [thenA, blockA, scopeA, RetQ])
      | (refine ev_nil (hK _ ?_); clear hK K)
      | (apply ev_step0; (case hr | hσ => (simp only [go_sem, Int.reduceBEq]; try rfl)); (case hc => exact hcA))
      | (apply ev_step; (case hr => (simp only [go_sem, Int.reduceBEq]; try rfl)); (case hσ => (intro g u; simp only [go_sem, Int.reduceBEq]; try rfl)); (case hc => exact hcA); intro g u; (try clear u); (try clear g))
      | fail
    all_goals (refine resR_oneA ?_; simp only [go_sem])
    exact LeA.refl _
  · refine spec_of_awp (fn := Tryd.f83) Tryd.func83 (by kernel_rfl) rfl ?_
    intro w0 C0
    simp only [Tryd.ntmps83, litI, litB, litS, List.length_cons, List.length_nil, Nat.reduceAdd, Nat.reduceSub, List.replicate_succ, List.replicate_zero, List.cons_append, List.nil_append]
    repeat' first
      | refine awp_seq ?_
      | refine awp_block ?_
      | refine awp_skip ?_
      | (refine reg _ (by (simp only [List.map_cons, List.map_nil]; rfl)) rfl ?_; intro K hK)
      | (apply ev_guardU; (case hj | hu | hσ => (simp only [go_sem, d1, d2, Int.reduceBEq]; try rfl)))
      | ((first | refine awp_cond _ (by rfl) ?_ ?_ | refine ev_guardT _ _ (by (simp only [go_sem, d1, d2, Int.reduceBEq]; rfl)) (by (simp only [go_sem, d1, d2, Int.reduceBEq]; rfl)) ?_ ?_ | refine ev_guardF _ _ (by (simp only [go_sem, d1, d2, Int.reduceBEq]; rfl)) (by (simp only [go_sem, d1, d2, Int.reduceBEq]; rfl)) ?_ ?_) <;> (intro hb; first | (cases hb; done) | (have ht : true = true := hb; clear ht hb) | (have ht : false = false := hb; clear ht hb) | (simp only [hb]) | skip))
      | (refine awp_exit ?_; simp only [thenA, blockA, scopeA, reduceIte, RetQ, Nat.reduceEqDiff])
      | (refine awp_ret ?_; simp only [thenA, blockA, scopeA, RetQ])
      | (refine ev_nil (hK _ ?_); clear hK K)
      | (apply ev_step0; (case hr | hσ => (simp only [go_sem, d1, d2, Int.reduceBEq]; try rfl)); (case hc => exact hcA))
      | (apply ev_step; (case hr => (simp only [go_sem, d1, d2, Int.reduceBEq]; try rfl)); (case hσ => (intro g u; simp only [go_sem, d1, d2, Int.reduceBEq]; try rfl)); (case hc => exact hcA); intro g u; (try clear u); (try clear g))
      | fail
    all_goals (refine resR_oneA ?_; simp only [go_sem])
    exact LeA.refl _
  · have := hn (by decide)
    subst this
    refine spec_of_awp (fn := Tryd.f83) Tryd.func83 (by kernel_rfl) rfl ?_
    intro w0 C0
    simp only [Tryd.ntmps83, litI, litB, litS, List.length_cons, List.length_nil, Nat.reduceAdd, Nat.reduceSub, List.replicate_succ, List.replicate_zero, List.cons_append, List.nil_append]
    repeat' first
      | refine awp_seq ?_
      | refine awp_block ?_
      | refine awp_skip ?_
      | (refine reg _ (by (simp only [List.map_cons, List.map_nil]; rfl)) rfl ?_; intro K hK)
      | (apply ev_guardU; (case hj | hu | hσ => (simp only [go_sem, Int.reduceBEq]; try rfl)))
      | ((first | refine awp_cond _ (by rfl) ?_ ?_ | refine ev_guardT _ _ (by (simp only [go_sem, Int.reduceBEq]; rfl)) (by (simp only [go_sem, Int.reduceBEq]; rfl)) ?_ ?_ | refine ev_guardF _ _ (by (simp only [go_sem, Int.reduceBEq]; rfl)) (by (simp only [go_sem, Int.reduceBEq]; rfl)) ?_ ?_) <;> (intro hb; first | (cases hb; done) | (have ht : true = true := hb; clear ht hb) | (have ht : false = false := hb; clear ht hb) | (simp only [hb]) | skip))
      | (refine awp_exit ?_; simp only [thenA, blockA, scopeA, reduceIte, RetQ, Nat.reduceEqDiff])
      | (refine awp_ret ?_; simp only [thenA, blockA, scopeA, RetQ])
      | (refine ev_nil (hK _ ?_); clear hK K)
      | (apply ev_step0; (case hr | hσ => (simp only [go_sem, Int.reduceBEq]; try rfl)); (case hc => exact hcA))
      | (apply ev_step; (case hr => (simp only [go_sem, Int.reduceBEq]; try rfl)); (case hσ => (intro g u; simp only [go_sem, Int.reduceBEq]; try rfl)); (case hc => exact hcA); intro g u; (try clear u); (try clear g))
      | fail
    all_goals (refine resR_oneA ?_; simp only [go_sem])
    exact LeA.refl _
end
section
set_option linter.unusedVariables false
set_option linter.unusedSimpArgs false
open Go.RowKit
attribute [local irreducible] Spec SpecF SpecN
attribute [local irreducible] AWp evOps evD
theorem f76_spec (s : ByteArray) (hs : s.size ≤ 4611686018427387904) : Spec Tryd.prog 76 [litS s] (litB (graphicB s)) := by
  have hl : (bs s).length = s.size := by simp
  refine spec_of_awp (fn := Tryd.f76) Tryd.func76 (by kernel_rfl) rfl ?_
  intro w0 C0
  simp only [Tryd.ntmps76, litI, litB, litS, List.length_cons, List.length_nil, Nat.reduceAdd, Nat.reduceSub, List.replicate_succ, List.replicate_zero, List.cons_append, List.nil_append]
  repeat' first
    | refine awp_seq ?_
    | refine awp_block ?_
    | refine awp_skip ?_
    | (refine reg _ (by (simp only [List.map_cons, List.map_nil]; rfl)) rfl ?_; intro K hK)
    | (apply ev_guardU; (case hj | hu | hσ => (simp only [go_sem]; try rfl)))
    | ((first | refine awp_cond _ (by rfl) ?_ ?_ | refine ev_guardT _ _ (by (simp only [go_sem]; rfl)) (by (simp only [go_sem]; rfl)) ?_ ?_ | refine ev_guardF _ _ (by (simp only [go_sem]; rfl)) (by (simp only [go_sem]; rfl)) ?_ ?_) <;> (intro hb; first | (cases hb; done) | (have ht : true = true := hb; clear ht hb) | (have ht : false = false := hb; clear ht hb) | (simp only [hb]) | skip))
    | (refine awp_exit ?_; simp only [thenA, blockA, scopeA, reduceIte, RetQ, Nat.reduceEqDiff])
    | (refine awp_ret ?_; simp only [thenA, blockA, scopeA, RetQ])
    | (refine ev_nil (hK _ ?_); clear hK K)
    | (apply ev_step0; (case hr | hσ => (simp only [go_sem]; try rfl)); (case hc => exact hcA))
    | (apply ev_step; (case hr => (simp only [go_sem]; try rfl)); (case hσ => (intro g u; simp only [go_sem]; try rfl)); (case hc => exact hcA); intro g u; (try clear u); (try clear g))
    | fail
  refine awp_loopI (fun i : Nat => i ≤ s.size ∧ graphicB s = ((bs s).drop i).all plainB) (fun i => s.size - i) (fun i => ⟨[litS s, .any, litB false, litI .i64 i, .any, .any, .any, .any, .any, .any, .any, .any, .any, .any, .any, .any, .any, .any, .any, .any], [.no, .no, .no, .no, .no, .no, .no, .no, .no, .no, .no, .no, .no, .no, .no, .no, .no, .no, .no, .no]⟩) 0 ⟨by omega, rfl⟩ ?_ ?_
  · exact wkA
  rintro i ⟨hi, hfi⟩
  simp only [litI, litB, litS] at hi hfi ⊢
  by_cases hlt : i < s.size
  rotate_left
  have hdec : decide ((i : Int) < (s.size : Int)) = false := by simp; omega
  · repeat' first
      | refine awp_seq ?_
      | refine awp_block ?_
      | refine awp_skip ?_
      | (refine reg _ (by (simp only [List.map_cons, List.map_nil]; rfl)) rfl ?_; intro K hK)
      | (apply ev_guardU; (case hj | hu | hσ => (simp only [go_sem, hdec]; try rfl)))
      | ((first | refine awp_cond _ (by rfl) ?_ ?_ | refine ev_guardT _ _ (by (simp only [go_sem, hdec]; rfl)) (by (simp only [go_sem, hdec]; rfl)) ?_ ?_ | refine ev_guardF _ _ (by (simp only [go_sem, hdec]; rfl)) (by (simp only [go_sem, hdec]; rfl)) ?_ ?_) <;> (intro hb; first | (cases hb; done) | (have ht : true = true := hb; clear ht hb) | (have ht : false = false := hb; clear ht hb) | (simp only [hb]) | skip))
      | (refine awp_exit ?_; simp only [thenA, blockA, scopeA, reduceIte, RetQ, Nat.reduceEqDiff])
      | (refine awp_ret ?_; simp only [thenA, blockA, scopeA, RetQ])
      | (refine ev_nil (hK _ ?_); clear hK K)
      | (apply ev_step0; (case hr | hσ => (simp only [go_sem, hdec]; try rfl)); (case hc => exact hcA))
      | (apply ev_step; (case hr => (simp only [go_sem, hdec]; try rfl)); (case hσ => (intro g u; simp only [go_sem, hdec]; try rfl)); (case hc => exact hcA); intro g u; (try clear u); (try clear g))
      | fail
    all_goals (refine resR_oneA ?_; simp only [go_sem])
    refine LeA.b ?_
    rw [hfi, List.drop_eq_nil_of_le (by omega)]; rfl
  have hdec : decide ((i : Int) < (s.size : Int)) = true := by simp; omega
  have hx := byteAt_nat s i
  rw [drop_at (bs s) 0 (by omega), List.all_cons] at hfi
  generalize (bs s).getD i 0 = x at *
  have e1 : (32 ≤ x) ↔ 32 ≤ x.toNat := UInt8.le_iff_toNat_le
  have e2 : (x ≤ 126) ↔ x.toNat ≤ 126 := UInt8.le_iff_toNat_le
  by_cases h1 : (x.toNat : Int) < 32
  · have d1 : decide ((x.toNat : Int) < 32) = true := decide_eq_true h1
    have hp : plainB x = false := by simp [plainB, e1]; omega
    repeat' first
      | refine awp_seq ?_
      | refine awp_block ?_
      | refine awp_skip ?_
      | (refine reg _ (by (simp only [List.map_cons, List.map_nil]; rfl)) rfl ?_; intro K hK)
      | (apply ev_guardU; (case hj | hu | hσ => (simp only [go_sem, hdec, hx, d1]; try rfl)))
      | ((first | refine awp_cond _ (by rfl) ?_ ?_ | refine ev_guardT _ _ (by (simp only [go_sem, hdec, hx, d1]; rfl)) (by (simp only [go_sem, hdec, hx, d1]; rfl)) ?_ ?_ | refine ev_guardF _ _ (by (simp only [go_sem, hdec, hx, d1]; rfl)) (by (simp only [go_sem, hdec, hx, d1]; rfl)) ?_ ?_) <;> (intro hb; first | (cases hb; done) | (have ht : true = true := hb; clear ht hb) | (have ht : false = false := hb; clear ht hb) | (simp only [hb]) | skip))
      | (refine awp_exit ?_; simp only [thenA, blockA, scopeA, reduceIte, RetQ, Nat.reduceEqDiff])
      | (refine awp_ret ?_; simp only [thenA, blockA, scopeA, RetQ])
      | (refine ev_nil (hK _ ?_); clear hK K)
      | (apply ev_step0; (case hr | hσ => (simp only [go_sem, hdec, hx, d1]; try rfl)); (case hc => exact hcA))
      | (apply ev_step; (case hr => (simp only [go_sem, hdec, hx, d1]; try rfl)); (case hσ => (intro g u; simp only [go_sem, hdec, hx, d1]; try rfl)); (case hc => exact hcA); intro g u; (try clear u); (try clear g))
      | fail
    all_goals (refine resR_oneA ?_; simp only [go_sem])
    refine LeA.b ?_
    rw [hfi, hp]; rfl
  · have d1 : decide ((x.toNat : Int) < 32) = false := decide_eq_false h1
    by_cases h2 : 126 < (x.toNat : Int)
    · have d2 : decide ((126 : Int) < (x.toNat : Int)) = true := decide_eq_true h2
      have hp : plainB x = false := by simp [plainB, e2]; omega
      repeat' first
        | refine awp_seq ?_
        | refine awp_block ?_
        | refine awp_skip ?_
        | (refine reg _ (by (simp only [List.map_cons, List.map_nil]; rfl)) rfl ?_; intro K hK)
        | (apply ev_guardU; (case hj | hu | hσ => (simp only [go_sem, hdec, hx, d1, d2]; try rfl)))
        | ((first | refine awp_cond _ (by rfl) ?_ ?_ | refine ev_guardT _ _ (by (simp only [go_sem, hdec, hx, d1, d2]; rfl)) (by (simp only [go_sem, hdec, hx, d1, d2]; rfl)) ?_ ?_ | refine ev_guardF _ _ (by (simp only [go_sem, hdec, hx, d1, d2]; rfl)) (by (simp only [go_sem, hdec, hx, d1, d2]; rfl)) ?_ ?_) <;> (intro hb; first | (cases hb; done) | (have ht : true = true := hb; clear ht hb) | (have ht : false = false := hb; clear ht hb) | (simp only [hb]) | skip))
        | (refine awp_exit ?_; simp only [thenA, blockA, scopeA, reduceIte, RetQ, Nat.reduceEqDiff])
        | (refine awp_ret ?_; simp only [thenA, blockA, scopeA, RetQ])
        | (refine ev_nil (hK _ ?_); clear hK K)
        | (apply ev_step0; (case hr | hσ => (simp only [go_sem, hdec, hx, d1, d2]; try rfl)); (case hc => exact hcA))
        | (apply ev_step; (case hr => (simp only [go_sem, hdec, hx, d1, d2]; try rfl)); (case hσ => (intro g u; simp only [go_sem, hdec, hx, d1, d2]; try rfl)); (case hc => exact hcA); intro g u; (try clear u); (try clear g))
        | fail
      all_goals (refine resR_oneA ?_; simp only [go_sem])
      refine LeA.b ?_
      rw [hfi, hp]; rfl
    · have d2 : decide ((126 : Int) < (x.toNat : Int)) = false := decide_eq_false h2
      have hp : plainB x = true := by simp [plainB, e1, e2]; omega
      repeat' first
        | refine awp_seq ?_
        | refine awp_block ?_
        | refine awp_skip ?_
        | (refine reg _ (by (simp only [List.map_cons, List.map_nil]; rfl)) rfl ?_; intro K hK)
        | (apply ev_guardU; (case hj | hu | hσ => (simp only [go_sem, hdec, hx, d1, d2]; try rfl)))
        | ((first | refine awp_cond _ (by rfl) ?_ ?_ | refine ev_guardT _ _ (by (simp only [go_sem, hdec, hx, d1, d2]; rfl)) (by (simp only [go_sem, hdec, hx, d1, d2]; rfl)) ?_ ?_ | refine ev_guardF _ _ (by (simp only [go_sem, hdec, hx, d1, d2]; rfl)) (by (simp only [go_sem, hdec, hx, d1, d2]; rfl)) ?_ ?_) <;> (intro hb; first | (cases hb; done) | (have ht : true = true := hb; clear ht hb) | (have ht : false = false := hb; clear ht hb) | (simp only [hb]) | skip))
        | (refine awp_exit ?_; simp only [thenA, blockA, scopeA, reduceIte, RetQ, Nat.reduceEqDiff])
        | (refine awp_ret ?_; simp only [thenA, blockA, scopeA, RetQ])
        | (refine ev_nil (hK _ ?_); clear hK K)
        | (apply ev_step0; (case hr | hσ => (simp only [go_sem, hdec, hx, d1, d2]; try rfl)); (case hc => exact hcA))
        | (apply ev_step; (case hr => (simp only [go_sem, hdec, hx, d1, d2]; try rfl)); (case hσ => (intro g u; simp only [go_sem, hdec, hx, d1, d2]; try rfl)); (case hc => exact hcA); intro g u; (try clear u); (try clear g))
        | fail
      refine Exists.intro (i + 1) ⟨⟨by omega, ?_⟩, by omega, ?_⟩
      · rw [hfi, hp]; rfl
      · exact wkA
def numB (v : Vl) (m : Int) : Bool := if v.k = 2 then (if noS v.s = true then (if -m ≤ v.i then decide (v.i ≤ m) else false) else false) else false
theorem f57_spec (v : Vl) (m : Int) (hm : 0 ≤ m ∧ m < 9223372036854775808) : Spec Tryd.prog 57 [.agg (vl v), litI .i64 m] (litB (numB v m)) := by
  have w1 : IntKind.i64.wrap (0 - m) = -m := by rw [Int.zero_sub]; exact wrap_id (by omega)
  have hq : (v.s.toList == (⟨#[]⟩ : ByteArray).toList) = noS v.s := rfl
  unfold numB
  by_cases h1 : v.k = 2
  · have d1 : (v.k == 2) = true := by simpa using h1
    rw [if_pos h1]
    cases h2 : noS v.s with
    | true =>
      rw [h2] at hq
      rw [if_pos rfl]
      by_cases h3 : -m ≤ v.i
      · have d3 : decide (v.i ≥ -m) = true := decide_eq_true h3
        rw [if_pos h3]
        refine spec_of_awp (fn := Tryd.f57) Tryd.func57 (by kernel_rfl) rfl ?_
        intro w0 C0
        simp only [Tryd.ntmps57, litI, litB, litS, List.length_cons, List.length_nil, Nat.reduceAdd, Nat.reduceSub, List.replicate_succ, List.replicate_zero, List.cons_append, List.nil_append]
        repeat' first
          | refine awp_seq ?_
          | (refine reg _ (by (simp only [List.map_cons, List.map_nil]; rfl)) rfl ?_; intro K hK)
          | (apply ev_guardU; (case hj | hu | hσ => (simp only [go_sem, d1, hq, d3, w1]; try rfl)))
          | ((first | refine ev_guardT _ _ (by (simp only [go_sem, d1, hq, d3, w1]; rfl)) (by (simp only [go_sem, d1, hq, d3, w1]; rfl)) ?_ ?_ | refine ev_guardF _ _ (by (simp only [go_sem, d1, hq, d3, w1]; rfl)) (by (simp only [go_sem, d1, hq, d3, w1]; rfl)) ?_ ?_) <;> (intro hb; first | (cases hb; done) | (have ht : true = true := hb; clear ht hb) | (have ht : false = false := hb; clear ht hb) | (simp only [hb]) | skip))
          | (refine awp_ret ?_; simp only [thenA, blockA, scopeA, RetQ])
          | (refine ev_nil (hK _ ?_); clear hK K)
          | (apply ev_step0; (case hr | hσ => (simp only [go_sem, d1, hq, d3, w1]; try rfl)); (case hc => exact hcA))
          | (apply ev_step; (case hr => (simp only [go_sem, d1, hq, d3, w1]; try rfl)); (case hσ => (intro g u; simp only [go_sem, d1, hq, d3, w1]; try rfl)); (case hc => exact hcA); intro g u; (try clear u); (try clear g))
          | fail
        all_goals (refine resR_oneA ?_; simp only [go_sem])
        exact LeA.refl _
      · have d3 : decide (v.i ≥ -m) = false := decide_eq_false h3
        rw [if_neg h3]
        refine spec_of_awp (fn := Tryd.f57) Tryd.func57 (by kernel_rfl) rfl ?_
        intro w0 C0
        simp only [Tryd.ntmps57, litI, litB, litS, List.length_cons, List.length_nil, Nat.reduceAdd, Nat.reduceSub, List.replicate_succ, List.replicate_zero, List.cons_append, List.nil_append]
        repeat' first
          | refine awp_seq ?_
          | (refine reg _ (by (simp only [List.map_cons, List.map_nil]; rfl)) rfl ?_; intro K hK)
          | (apply ev_guardU; (case hj | hu | hσ => (simp only [go_sem, d1, hq, d3, w1]; try rfl)))
          | ((first | refine ev_guardT _ _ (by (simp only [go_sem, d1, hq, d3, w1]; rfl)) (by (simp only [go_sem, d1, hq, d3, w1]; rfl)) ?_ ?_ | refine ev_guardF _ _ (by (simp only [go_sem, d1, hq, d3, w1]; rfl)) (by (simp only [go_sem, d1, hq, d3, w1]; rfl)) ?_ ?_) <;> (intro hb; first | (cases hb; done) | (have ht : true = true := hb; clear ht hb) | (have ht : false = false := hb; clear ht hb) | (simp only [hb]) | skip))
          | (refine awp_ret ?_; simp only [thenA, blockA, scopeA, RetQ])
          | (refine ev_nil (hK _ ?_); clear hK K)
          | (apply ev_step0; (case hr | hσ => (simp only [go_sem, d1, hq, d3, w1]; try rfl)); (case hc => exact hcA))
          | (apply ev_step; (case hr => (simp only [go_sem, d1, hq, d3, w1]; try rfl)); (case hσ => (intro g u; simp only [go_sem, d1, hq, d3, w1]; try rfl)); (case hc => exact hcA); intro g u; (try clear u); (try clear g))
          | fail
        all_goals (refine resR_oneA ?_; simp only [go_sem])
        exact LeA.refl _
    | false =>
      rw [h2] at hq
      rw [if_neg (by decide)]
      refine spec_of_awp (fn := Tryd.f57) Tryd.func57 (by kernel_rfl) rfl ?_
      intro w0 C0
      simp only [Tryd.ntmps57, litI, litB, litS, List.length_cons, List.length_nil, Nat.reduceAdd, Nat.reduceSub, List.replicate_succ, List.replicate_zero, List.cons_append, List.nil_append]
      repeat' first
        | refine awp_seq ?_
        | (refine reg _ (by (simp only [List.map_cons, List.map_nil]; rfl)) rfl ?_; intro K hK)
        | (apply ev_guardU; (case hj | hu | hσ => (simp only [go_sem, d1, hq, w1]; try rfl)))
        | ((first | refine ev_guardT _ _ (by (simp only [go_sem, d1, hq, w1]; rfl)) (by (simp only [go_sem, d1, hq, w1]; rfl)) ?_ ?_ | refine ev_guardF _ _ (by (simp only [go_sem, d1, hq, w1]; rfl)) (by (simp only [go_sem, d1, hq, w1]; rfl)) ?_ ?_) <;> (intro hb; first | (cases hb; done) | (have ht : true = true := hb; clear ht hb) | (have ht : false = false := hb; clear ht hb) | (simp only [hb]) | skip))
        | (refine awp_ret ?_; simp only [thenA, blockA, scopeA, RetQ])
        | (refine ev_nil (hK _ ?_); clear hK K)
        | (apply ev_step0; (case hr | hσ => (simp only [go_sem, d1, hq, w1]; try rfl)); (case hc => exact hcA))
        | (apply ev_step; (case hr => (simp only [go_sem, d1, hq, w1]; try rfl)); (case hσ => (intro g u; simp only [go_sem, d1, hq, w1]; try rfl)); (case hc => exact hcA); intro g u; (try clear u); (try clear g))
        | fail
      all_goals (refine resR_oneA ?_; simp only [go_sem])
      exact LeA.refl _
  · have d1 : (v.k == 2) = false := by simpa using h1
    rw [if_neg h1]
    refine spec_of_awp (fn := Tryd.f57) Tryd.func57 (by kernel_rfl) rfl ?_
    intro w0 C0
    simp only [Tryd.ntmps57, litI, litB, litS, List.length_cons, List.length_nil, Nat.reduceAdd, Nat.reduceSub, List.replicate_succ, List.replicate_zero, List.cons_append, List.nil_append]
    repeat' first
      | refine awp_seq ?_
      | (refine reg _ (by (simp only [List.map_cons, List.map_nil]; rfl)) rfl ?_; intro K hK)
      | (apply ev_guardU; (case hj | hu | hσ => (simp only [go_sem, d1, w1]; try rfl)))
      | ((first | refine ev_guardT _ _ (by (simp only [go_sem, d1, w1]; rfl)) (by (simp only [go_sem, d1, w1]; rfl)) ?_ ?_ | refine ev_guardF _ _ (by (simp only [go_sem, d1, w1]; rfl)) (by (simp only [go_sem, d1, w1]; rfl)) ?_ ?_) <;> (intro hb; first | (cases hb; done) | (have ht : true = true := hb; clear ht hb) | (have ht : false = false := hb; clear ht hb) | (simp only [hb]) | skip))
      | (refine awp_ret ?_; simp only [thenA, blockA, scopeA, RetQ])
      | (refine ev_nil (hK _ ?_); clear hK K)
      | (apply ev_step0; (case hr | hσ => (simp only [go_sem, d1, w1]; try rfl)); (case hc => exact hcA))
      | (apply ev_step; (case hr => (simp only [go_sem, d1, w1]; try rfl)); (case hσ => (intro g u; simp only [go_sem, d1, w1]; try rfl)); (case hc => exact hcA); intro g u; (try clear u); (try clear g))
      | fail
    all_goals (refine resR_oneA ?_; simp only [go_sem])
    exact LeA.refl _
def validV (v : Vl) : Bool :=
  if v.k = 0 then (if v.i = 0 then noS v.s else false)
  else if v.k = 1 then (if v.i = 0 ∨ v.i = 1 then noS v.s else false)
  else if v.k = 3 then (if v.i = 0 then (if (v.s.size : Int) ≤ 40 then graphicB v.s else false) else false)
  else numB v 1000000000000000
theorem f56_spec (v : Vl) (hs : v.s.size ≤ 4611686018427387904) : Spec Tryd.prog 56 [.agg (vl v)] (litB (validV v)) := by
  have a1 := f76_spec v.s hs
  have a2 := f57_spec v 1000000000000000 (by decide)
  have hq : (v.s.toList == (⟨#[]⟩ : ByteArray).toList) = noS v.s := rfl
  unfold validV
  generalize noS v.s = ns at *
  generalize numB v 1000000000000000 = nb at *
  obtain ⟨k, i, s⟩ := v
  simp only at *
  by_cases h0 : k = 0
  · subst h0
    rw [if_pos rfl]
    by_cases h1 : i = 0
    · have d1 : (i == 0) = true := by simpa using h1
      rw [if_pos h1]
      refine spec_of_awp (fn := Tryd.f56) Tryd.func56 (by kernel_rfl) rfl ?_
      intro w0 C0
      simp only [Tryd.ntmps56, litI, litB, litS, List.length_cons, List.length_nil, Nat.reduceAdd, Nat.reduceSub, List.replicate_succ, List.replicate_zero, List.cons_append, List.nil_append]
      repeat' first
        | refine awp_seq ?_
        | refine awp_block ?_
        | refine awp_skip ?_
        | (refine reg _ (by (simp only [List.map_cons, List.map_nil]; rfl)) rfl ?_; intro K hK)
        | (apply ev_guardU; (case hj | hu | hσ => (simp only [go_sem, d1, hq, Int.reduceBEq]; try rfl)))
        | ((first | refine awp_cond _ (by rfl) ?_ ?_ | refine ev_guardT _ _ (by (simp only [go_sem, d1, hq, Int.reduceBEq]; rfl)) (by (simp only [go_sem, d1, hq, Int.reduceBEq]; rfl)) ?_ ?_ | refine ev_guardF _ _ (by (simp only [go_sem, d1, hq, Int.reduceBEq]; rfl)) (by (simp only [go_sem, d1, hq, Int.reduceBEq]; rfl)) ?_ ?_) <;> (intro hb; first | (cases hb; done) | (have ht : true = true := hb; clear ht hb) | (have ht : false = false := hb; clear ht hb) | (simp only [hb]) | skip))
        | (refine awp_exit ?_; simp only [thenA, blockA, scopeA, reduceIte, RetQ, Nat.reduceEqDiff])
        | (refine awp_ret ?_; simp only [thenA, blockA, scopeA, RetQ])
        | (refine ev_nil (hK _ ?_); clear hK K)
        | (apply ev_step0; (case hr | hσ => (simp only [go_sem, d1, hq, Int.reduceBEq]; try rfl)); (case hc => exact hcA))
        | (apply ev_step; (case hr => (simp only [go_sem, d1, hq, Int.reduceBEq]; try rfl)); (case hσ => (intro g u; simp only [go_sem, d1, hq, Int.reduceBEq]; try rfl)); (case hc => exact hcA); intro g u; (try clear u); (try clear g))
        | fail
      all_goals (refine resR_oneA ?_; simp only [go_sem])
      exact LeA.refl _
    · have d1 : (i == 0) = false := by simpa using h1
      rw [if_neg h1]
      refine spec_of_awp (fn := Tryd.f56) Tryd.func56 (by kernel_rfl) rfl ?_
      intro w0 C0
      simp only [Tryd.ntmps56, litI, litB, litS, List.length_cons, List.length_nil, Nat.reduceAdd, Nat.reduceSub, List.replicate_succ, List.replicate_zero, List.cons_append, List.nil_append]
      repeat' first
        | refine awp_seq ?_
        | refine awp_block ?_
        | refine awp_skip ?_
        | (refine reg _ (by (simp only [List.map_cons, List.map_nil]; rfl)) rfl ?_; intro K hK)
        | (apply ev_guardU; (case hj | hu | hσ => (simp only [go_sem, d1, Int.reduceBEq]; try rfl)))
        | ((first | refine awp_cond _ (by rfl) ?_ ?_ | refine ev_guardT _ _ (by (simp only [go_sem, d1, Int.reduceBEq]; rfl)) (by (simp only [go_sem, d1, Int.reduceBEq]; rfl)) ?_ ?_ | refine ev_guardF _ _ (by (simp only [go_sem, d1, Int.reduceBEq]; rfl)) (by (simp only [go_sem, d1, Int.reduceBEq]; rfl)) ?_ ?_) <;> (intro hb; first | (cases hb; done) | (have ht : true = true := hb; clear ht hb) | (have ht : false = false := hb; clear ht hb) | (simp only [hb]) | skip))
        | (refine awp_exit ?_; simp only [thenA, blockA, scopeA, reduceIte, RetQ, Nat.reduceEqDiff])
        | (refine awp_ret ?_; simp only [thenA, blockA, scopeA, RetQ])
        | (refine ev_nil (hK _ ?_); clear hK K)
        | (apply ev_step0; (case hr | hσ => (simp only [go_sem, d1, Int.reduceBEq]; try rfl)); (case hc => exact hcA))
        | (apply ev_step; (case hr => (simp only [go_sem, d1, Int.reduceBEq]; try rfl)); (case hσ => (intro g u; simp only [go_sem, d1, Int.reduceBEq]; try rfl)); (case hc => exact hcA); intro g u; (try clear u); (try clear g))
        | fail
      all_goals (refine resR_oneA ?_; simp only [go_sem])
      exact LeA.refl _
  have d0 : (k == 0) = false := by simpa using h0
  rw [if_neg h0]
  by_cases h1 : k = 1
  · subst h1
    rw [if_pos rfl]
    by_cases h2 : i = 0
    · have d2 : (i == 0) = true := by simpa using h2
      rw [if_pos (.inl h2)]
      refine spec_of_awp (fn := Tryd.f56) Tryd.func56 (by kernel_rfl) rfl ?_
      intro w0 C0
      simp only [Tryd.ntmps56, litI, litB, litS, List.length_cons, List.length_nil, Nat.reduceAdd, Nat.reduceSub, List.replicate_succ, List.replicate_zero, List.cons_append, List.nil_append]
      repeat' first
        | refine awp_seq ?_
        | refine awp_block ?_
        | refine awp_skip ?_
        | (refine reg _ (by (simp only [List.map_cons, List.map_nil]; rfl)) rfl ?_; intro K hK)
        | (apply ev_guardU; (case hj | hu | hσ => (simp only [go_sem, d2, hq, Int.reduceBEq]; try rfl)))
        | ((first | refine awp_cond _ (by rfl) ?_ ?_ | refine ev_guardT _ _ (by (simp only [go_sem, d2, hq, Int.reduceBEq]; rfl)) (by (simp only [go_sem, d2, hq, Int.reduceBEq]; rfl)) ?_ ?_ | refine ev_guardF _ _ (by (simp only [go_sem, d2, hq, Int.reduceBEq]; rfl)) (by (simp only [go_sem, d2, hq, Int.reduceBEq]; rfl)) ?_ ?_) <;> (intro hb; first | (cases hb; done) | (have ht : true = true := hb; clear ht hb) | (have ht : false = false := hb; clear ht hb) | (simp only [hb]) | skip))
        | (refine awp_exit ?_; simp only [thenA, blockA, scopeA, reduceIte, RetQ, Nat.reduceEqDiff])
        | (refine awp_ret ?_; simp only [thenA, blockA, scopeA, RetQ])
        | (refine ev_nil (hK _ ?_); clear hK K)
        | (apply ev_step0; (case hr | hσ => (simp only [go_sem, d2, hq, Int.reduceBEq]; try rfl)); (case hc => exact hcA))
        | (apply ev_step; (case hr => (simp only [go_sem, d2, hq, Int.reduceBEq]; try rfl)); (case hσ => (intro g u; simp only [go_sem, d2, hq, Int.reduceBEq]; try rfl)); (case hc => exact hcA); intro g u; (try clear u); (try clear g))
        | fail
      all_goals (refine resR_oneA ?_; simp only [go_sem])
      exact LeA.refl _
    have d2 : (i == 0) = false := by simpa using h2
    by_cases h3 : i = 1
    · have d3 : (i == 1) = true := by simpa using h3
      rw [if_pos (.inr h3)]
      refine spec_of_awp (fn := Tryd.f56) Tryd.func56 (by kernel_rfl) rfl ?_
      intro w0 C0
      simp only [Tryd.ntmps56, litI, litB, litS, List.length_cons, List.length_nil, Nat.reduceAdd, Nat.reduceSub, List.replicate_succ, List.replicate_zero, List.cons_append, List.nil_append]
      repeat' first
        | refine awp_seq ?_
        | refine awp_block ?_
        | refine awp_skip ?_
        | (refine reg _ (by (simp only [List.map_cons, List.map_nil]; rfl)) rfl ?_; intro K hK)
        | (apply ev_guardU; (case hj | hu | hσ => (simp only [go_sem, d2, d3, hq, Int.reduceBEq]; try rfl)))
        | ((first | refine awp_cond _ (by rfl) ?_ ?_ | refine ev_guardT _ _ (by (simp only [go_sem, d2, d3, hq, Int.reduceBEq]; rfl)) (by (simp only [go_sem, d2, d3, hq, Int.reduceBEq]; rfl)) ?_ ?_ | refine ev_guardF _ _ (by (simp only [go_sem, d2, d3, hq, Int.reduceBEq]; rfl)) (by (simp only [go_sem, d2, d3, hq, Int.reduceBEq]; rfl)) ?_ ?_) <;> (intro hb; first | (cases hb; done) | (have ht : true = true := hb; clear ht hb) | (have ht : false = false := hb; clear ht hb) | (simp only [hb]) | skip))
        | (refine awp_exit ?_; simp only [thenA, blockA, scopeA, reduceIte, RetQ, Nat.reduceEqDiff])
        | (refine awp_ret ?_; simp only [thenA, blockA, scopeA, RetQ])
        | (refine ev_nil (hK _ ?_); clear hK K)
        | (apply ev_step0; (case hr | hσ => (simp only [go_sem, d2, d3, hq, Int.reduceBEq]; try rfl)); (case hc => exact hcA))
        | (apply ev_step; (case hr => (simp only [go_sem, d2, d3, hq, Int.reduceBEq]; try rfl)); (case hσ => (intro g u; simp only [go_sem, d2, d3, hq, Int.reduceBEq]; try rfl)); (case hc => exact hcA); intro g u; (try clear u); (try clear g))
        | fail
      all_goals (refine resR_oneA ?_; simp only [go_sem])
      exact LeA.refl _
    · have d3 : (i == 1) = false := by simpa using h3
      rw [if_neg (by omega)]
      refine spec_of_awp (fn := Tryd.f56) Tryd.func56 (by kernel_rfl) rfl ?_
      intro w0 C0
      simp only [Tryd.ntmps56, litI, litB, litS, List.length_cons, List.length_nil, Nat.reduceAdd, Nat.reduceSub, List.replicate_succ, List.replicate_zero, List.cons_append, List.nil_append]
      repeat' first
        | refine awp_seq ?_
        | refine awp_block ?_
        | refine awp_skip ?_
        | (refine reg _ (by (simp only [List.map_cons, List.map_nil]; rfl)) rfl ?_; intro K hK)
        | (apply ev_guardU; (case hj | hu | hσ => (simp only [go_sem, d2, d3, Int.reduceBEq]; try rfl)))
        | ((first | refine awp_cond _ (by rfl) ?_ ?_ | refine ev_guardT _ _ (by (simp only [go_sem, d2, d3, Int.reduceBEq]; rfl)) (by (simp only [go_sem, d2, d3, Int.reduceBEq]; rfl)) ?_ ?_ | refine ev_guardF _ _ (by (simp only [go_sem, d2, d3, Int.reduceBEq]; rfl)) (by (simp only [go_sem, d2, d3, Int.reduceBEq]; rfl)) ?_ ?_) <;> (intro hb; first | (cases hb; done) | (have ht : true = true := hb; clear ht hb) | (have ht : false = false := hb; clear ht hb) | (simp only [hb]) | skip))
        | (refine awp_exit ?_; simp only [thenA, blockA, scopeA, reduceIte, RetQ, Nat.reduceEqDiff])
        | (refine awp_ret ?_; simp only [thenA, blockA, scopeA, RetQ])
        | (refine ev_nil (hK _ ?_); clear hK K)
        | (apply ev_step0; (case hr | hσ => (simp only [go_sem, d2, d3, Int.reduceBEq]; try rfl)); (case hc => exact hcA))
        | (apply ev_step; (case hr => (simp only [go_sem, d2, d3, Int.reduceBEq]; try rfl)); (case hσ => (intro g u; simp only [go_sem, d2, d3, Int.reduceBEq]; try rfl)); (case hc => exact hcA); intro g u; (try clear u); (try clear g))
        | fail
      all_goals (refine resR_oneA ?_; simp only [go_sem])
      exact LeA.refl _
  have d1 : (k == 1) = false := by simpa using h1
  rw [if_neg h1]
  by_cases h2 : k = 3
  · subst h2
    rw [if_pos rfl]
    by_cases h3 : i = 0
    · have d3 : (i == 0) = true := by simpa using h3
      rw [if_pos h3]
      by_cases h4 : (s.size : Int) ≤ 40
      · have d4 : decide ((s.size : Int) ≤ 40) = true := decide_eq_true h4
        rw [if_pos h4]
        refine spec_of_awp (fn := Tryd.f56) Tryd.func56 (by kernel_rfl) rfl ?_
        intro w0 C0
        simp only [Tryd.ntmps56, litI, litB, litS, List.length_cons, List.length_nil, Nat.reduceAdd, Nat.reduceSub, List.replicate_succ, List.replicate_zero, List.cons_append, List.nil_append]
        repeat' first
          | refine awp_seq ?_
          | refine awp_block ?_
          | refine awp_skip ?_
          | (refine reg _ (by (simp only [List.map_cons, List.map_nil]; rfl)) rfl ?_; intro K hK)
          | (apply ev_guardU; (case hj | hu | hσ => (simp only [go_sem, d3, d4, Int.reduceBEq]; try rfl)))
          | ((first | refine awp_cond _ (by rfl) ?_ ?_ | refine ev_guardT _ _ (by (simp only [go_sem, d3, d4, Int.reduceBEq]; rfl)) (by (simp only [go_sem, d3, d4, Int.reduceBEq]; rfl)) ?_ ?_ | refine ev_guardF _ _ (by (simp only [go_sem, d3, d4, Int.reduceBEq]; rfl)) (by (simp only [go_sem, d3, d4, Int.reduceBEq]; rfl)) ?_ ?_) <;> (intro hb; first | (cases hb; done) | (have ht : true = true := hb; clear ht hb) | (have ht : false = false := hb; clear ht hb) | (simp only [hb]) | skip))
          | (refine awp_exit ?_; simp only [thenA, blockA, scopeA, reduceIte, RetQ, Nat.reduceEqDiff])
          | (refine awp_ret ?_; simp only [thenA, blockA, scopeA, RetQ])
          | (refine ev_nil (hK _ ?_); clear hK K)
          | (apply ev_call0; (case hys => (simp only [go_sem, d3, d4, Int.reduceBEq]; try rfl)); (case hs => first | exact a1 ..); (case hok | hσ => (simp only [go_sem, d3, d4, Int.reduceBEq]; try rfl)))
          | (apply ev_step0; (case hr | hσ => (simp only [go_sem, d3, d4, Int.reduceBEq]; try rfl)); (case hc => exact hcA))
          | (apply ev_step; (case hr => (simp only [go_sem, d3, d4, Int.reduceBEq]; try rfl)); (case hσ => (intro g u; simp only [go_sem, d3, d4, Int.reduceBEq]; try rfl)); (case hc => exact hcA); intro g u; (try clear u); (try clear g))
          | fail
        all_goals (refine resR_oneA ?_; simp only [go_sem])
        exact LeA.refl _
      · have d4 : decide ((s.size : Int) ≤ 40) = false := decide_eq_false h4
        rw [if_neg h4]
        refine spec_of_awp (fn := Tryd.f56) Tryd.func56 (by kernel_rfl) rfl ?_
        intro w0 C0
        simp only [Tryd.ntmps56, litI, litB, litS, List.length_cons, List.length_nil, Nat.reduceAdd, Nat.reduceSub, List.replicate_succ, List.replicate_zero, List.cons_append, List.nil_append]
        repeat' first
          | refine awp_seq ?_
          | refine awp_block ?_
          | refine awp_skip ?_
          | (refine reg _ (by (simp only [List.map_cons, List.map_nil]; rfl)) rfl ?_; intro K hK)
          | (apply ev_guardU; (case hj | hu | hσ => (simp only [go_sem, d3, d4, Int.reduceBEq]; try rfl)))
          | ((first | refine awp_cond _ (by rfl) ?_ ?_ | refine ev_guardT _ _ (by (simp only [go_sem, d3, d4, Int.reduceBEq]; rfl)) (by (simp only [go_sem, d3, d4, Int.reduceBEq]; rfl)) ?_ ?_ | refine ev_guardF _ _ (by (simp only [go_sem, d3, d4, Int.reduceBEq]; rfl)) (by (simp only [go_sem, d3, d4, Int.reduceBEq]; rfl)) ?_ ?_) <;> (intro hb; first | (cases hb; done) | (have ht : true = true := hb; clear ht hb) | (have ht : false = false := hb; clear ht hb) | (simp only [hb]) | skip))
          | (refine awp_exit ?_; simp only [thenA, blockA, scopeA, reduceIte, RetQ, Nat.reduceEqDiff])
          | (refine awp_ret ?_; simp only [thenA, blockA, scopeA, RetQ])
          | (refine ev_nil (hK _ ?_); clear hK K)
          | (apply ev_step0; (case hr | hσ => (simp only [go_sem, d3, d4, Int.reduceBEq]; try rfl)); (case hc => exact hcA))
          | (apply ev_step; (case hr => (simp only [go_sem, d3, d4, Int.reduceBEq]; try rfl)); (case hσ => (intro g u; simp only [go_sem, d3, d4, Int.reduceBEq]; try rfl)); (case hc => exact hcA); intro g u; (try clear u); (try clear g))
          | fail
        all_goals (refine resR_oneA ?_; simp only [go_sem])
        exact LeA.refl _
    · have d3 : (i == 0) = false := by simpa using h3
      rw [if_neg h3]
      refine spec_of_awp (fn := Tryd.f56) Tryd.func56 (by kernel_rfl) rfl ?_
      intro w0 C0
      simp only [Tryd.ntmps56, litI, litB, litS, List.length_cons, List.length_nil, Nat.reduceAdd, Nat.reduceSub, List.replicate_succ, List.replicate_zero, List.cons_append, List.nil_append]
      repeat' first
        | refine awp_seq ?_
        | refine awp_block ?_
        | refine awp_skip ?_
        | (refine reg _ (by (simp only [List.map_cons, List.map_nil]; rfl)) rfl ?_; intro K hK)
        | (apply ev_guardU; (case hj | hu | hσ => (simp only [go_sem, d3, Int.reduceBEq]; try rfl)))
        | ((first | refine awp_cond _ (by rfl) ?_ ?_ | refine ev_guardT _ _ (by (simp only [go_sem, d3, Int.reduceBEq]; rfl)) (by (simp only [go_sem, d3, Int.reduceBEq]; rfl)) ?_ ?_ | refine ev_guardF _ _ (by (simp only [go_sem, d3, Int.reduceBEq]; rfl)) (by (simp only [go_sem, d3, Int.reduceBEq]; rfl)) ?_ ?_) <;> (intro hb; first | (cases hb; done) | (have ht : true = true := hb; clear ht hb) | (have ht : false = false := hb; clear ht hb) | (simp only [hb]) | skip))
        | (refine awp_exit ?_; simp only [thenA, blockA, scopeA, reduceIte, RetQ, Nat.reduceEqDiff])
        | (refine awp_ret ?_; simp only [thenA, blockA, scopeA, RetQ])
        | (refine ev_nil (hK _ ?_); clear hK K)
        | (apply ev_step0; (case hr | hσ => (simp only [go_sem, d3, Int.reduceBEq]; try rfl)); (case hc => exact hcA))
        | (apply ev_step; (case hr => (simp only [go_sem, d3, Int.reduceBEq]; try rfl)); (case hσ => (intro g u; simp only [go_sem, d3, Int.reduceBEq]; try rfl)); (case hc => exact hcA); intro g u; (try clear u); (try clear g))
        | fail
      all_goals (refine resR_oneA ?_; simp only [go_sem])
      exact LeA.refl _
  have d2 : (k == 3) = false := by simpa using h2
  rw [if_neg h2]
  refine spec_of_awp (fn := Tryd.f56) Tryd.func56 (by kernel_rfl) rfl ?_
  intro w0 C0
  simp only [Tryd.ntmps56, litI, litB, litS, List.length_cons, List.length_nil, Nat.reduceAdd, Nat.reduceSub, List.replicate_succ, List.replicate_zero, List.cons_append, List.nil_append]
  repeat' first
    | refine awp_seq ?_
    | refine awp_block ?_
    | refine awp_skip ?_
    | (refine reg _ (by (simp only [List.map_cons, List.map_nil]; rfl)) rfl ?_; intro K hK)
    | (apply ev_guardU; (case hj | hu | hσ => (simp only [go_sem, d0, d1, d2]; try rfl)))
    | ((first | refine awp_cond _ (by rfl) ?_ ?_ | refine ev_guardT _ _ (by (simp only [go_sem, d0, d1, d2]; rfl)) (by (simp only [go_sem, d0, d1, d2]; rfl)) ?_ ?_ | refine ev_guardF _ _ (by (simp only [go_sem, d0, d1, d2]; rfl)) (by (simp only [go_sem, d0, d1, d2]; rfl)) ?_ ?_) <;> (intro hb; first | (cases hb; done) | (have ht : true = true := hb; clear ht hb) | (have ht : false = false := hb; clear ht hb) | (simp only [hb]) | skip))
    | (refine awp_exit ?_; simp only [thenA, blockA, scopeA, reduceIte, RetQ, Nat.reduceEqDiff])
    | (refine awp_ret ?_; simp only [thenA, blockA, scopeA, RetQ])
    | (refine ev_nil (hK _ ?_); clear hK K)
    | (apply ev_call0; (case hys => (simp only [go_sem, d0, d1, d2]; try rfl)); (case hs => first | exact a2 ..); (case hok | hσ => (simp only [go_sem, d0, d1, d2]; try rfl)))
    | (apply ev_step0; (case hr | hσ => (simp only [go_sem, d0, d1, d2]; try rfl)); (case hc => exact hcA))
    | (apply ev_step; (case hr => (simp only [go_sem, d0, d1, d2]; try rfl)); (case hσ => (intro g u; simp only [go_sem, d0, d1, d2]; try rfl)); (case hc => exact hcA); intro g u; (try clear u); (try clear g))
    | fail
  all_goals (refine resR_oneA ?_; simp only [go_sem])
  exact LeA.refl _
theorem andNot_bool {i : Int} (h : -9223372036854775808 ≤ i ∧ i ≤ 9223372036854775807) : (andNotI .i64 i 1 == 0) = (decide (i = 0 ∨ i = 1)) := by
  by_cases h1 : i = 0 ∨ i = 1
  · rw [decide_eq_true h1]
    rcases h1 with rfl | rfl <;> decide
  · rw [decide_eq_false h1]
    rw [beq_eq_false_iff_ne]
    intro h0
    apply h1
    have h0 : IntKind.i64.wrap (((BitVec.ofInt 64 i &&& ~~~ BitVec.ofInt 64 1).toNat : Nat) : Int) = 0 := h0
    have hb := (BitVec.ofInt 64 i &&& ~~~ BitVec.ofInt 64 1).isLt
    rw [IntKind.wrap_i64] at h0
    generalize hN : (BitVec.ofInt 64 i &&& ~~~ BitVec.ofInt 64 1).toNat = N at h0 hb
    have hz : (BitVec.ofInt 64 i &&& ~~~ BitVec.ofInt 64 1).toNat = 0 := by rw [hN]; omega
    have hz' : BitVec.ofInt 64 i &&& ~~~ BitVec.ofInt 64 1 = 0#64 := BitVec.eq_of_toNat_eq (by rw [hz]; rfl)
    have e : BitVec.ofInt 64 i = BitVec.ofInt 64 i &&& BitVec.ofInt 64 1 := by
      have h2 : BitVec.ofInt 64 i &&& BitVec.ofInt 64 1 ||| BitVec.ofInt 64 i &&& ~~~ BitVec.ofInt 64 1 = BitVec.ofInt 64 i := by
        rw [← BitVec.and_or_distrib_left, BitVec.or_not_self, BitVec.and_allOnes]
      rw [hz', BitVec.or_zero] at h2
      exact h2.symm
    have e2 := congrArg BitVec.toNat e
    rw [BitVec.toNat_and, show (BitVec.ofInt 64 1).toNat = 1 from rfl, Nat.and_one_is_mod, BitVec.toNat_ofInt] at e2
    have e3 := Nat.mod_lt (i % ((2 ^ 64 : Nat) : Int)).toNat (show 0 < 2 by decide)
    rw [← e2] at e3
    have e4 : ((2 ^ 64 : Nat) : Int) = 18446744073709551616 := by decide
    rw [e4] at e3
    omega
theorem wide_same {v : Vl} (h : -9223372036854775808 ≤ v.i ∧ v.i ≤ 9223372036854775807) : (if validV v = true then true else numB v 4000000000000000000) = wideV v := by
  unfold validV wideV checkV numB
  rw [andNot_bool h]
  generalize noS v.s = ns
  generalize graphicB v.s = gr
  generalize (v.s.size : Int) = sz
  rw [Bool.eq_iff_iff]
  by_cases h0 : v.k = 0
  · by_cases h2 : v.i = 0 <;> cases ns <;> simp [h0, h2]
  by_cases h1 : v.k = 1
  · by_cases h2 : v.i = 0 <;> by_cases h3 : v.i = 1 <;> cases ns <;> simp [h1, h2, h3]
  by_cases h3 : v.k = 3
  · by_cases h2 : v.i = 0 <;> by_cases h4 : sz ≤ 40 <;> cases gr <;> simp [h3, h2, h4]
  by_cases h2 : v.k = 2
  · cases ns <;> by_cases h4 : -4000000000000000000 ≤ v.i <;> by_cases h5 : v.i ≤ 4000000000000000000 <;> by_cases h6 : -1000000000000000 ≤ v.i <;> by_cases h7 : v.i ≤ 1000000000000000 <;> simp [h2, h4, h5, h6, h7] <;> omega
  · simp [h0, h1, h2, h3]
theorem f36_spec (v : Vl) (h : -9223372036854775808 ≤ v.i ∧ v.i ≤ 9223372036854775807) (hs : v.s.size ≤ 4611686018427387904) : Spec Tryd.prog 36 [.agg (vl v)] (litB (wideV v)) := by
  have a1 := f56_spec v hs
  have a2 := f57_spec v 4000000000000000000 (by decide)
  have e := wide_same h
  cases hv : validV v with
  | true =>
    rw [hv] at a1
    rw [hv, if_pos rfl] at e
    rw [← e]
    refine spec_of_awp (fn := Tryd.f36) Tryd.func36 (by kernel_rfl) rfl ?_
    intro w0 C0
    simp only [Tryd.ntmps36, litI, litB, litS, List.length_cons, List.length_nil, Nat.reduceAdd, Nat.reduceSub, List.replicate_succ, List.replicate_zero, List.cons_append, List.nil_append]
    repeat' first
      | refine awp_seq ?_
      | (refine reg _ (by (simp only [List.map_cons, List.map_nil]; rfl)) rfl ?_; intro K hK)
      | (apply ev_guardU; (case hj | hu | hσ => (simp only [go_sem]; try rfl)))
      | ((first | refine ev_guardT _ _ (by (simp only [go_sem]; rfl)) (by (simp only [go_sem]; rfl)) ?_ ?_ | refine ev_guardF _ _ (by (simp only [go_sem]; rfl)) (by (simp only [go_sem]; rfl)) ?_ ?_) <;> (intro hb; first | (cases hb; done) | (have ht : true = true := hb; clear ht hb) | (have ht : false = false := hb; clear ht hb) | (simp only [hb]) | skip))
      | (refine awp_ret ?_; simp only [thenA, blockA, scopeA, RetQ])
      | (refine ev_nil (hK _ ?_); clear hK K)
      | (apply ev_call0; (case hys => (simp only [go_sem]; try rfl)); (case hs => first | exact a1 ..); (case hok | hσ => (simp only [go_sem]; try rfl)))
      | (apply ev_step0; (case hr | hσ => (simp only [go_sem]; try rfl)); (case hc => exact hcA))
      | (apply ev_step; (case hr => (simp only [go_sem]; try rfl)); (case hσ => (intro g u; simp only [go_sem]; try rfl)); (case hc => exact hcA); intro g u; (try clear u); (try clear g))
      | fail
    all_goals (refine resR_oneA ?_; simp only [go_sem])
    exact LeA.refl _
  | false =>
    rw [hv] at a1
    rw [hv, if_neg (by decide)] at e
    rw [e] at a2
    refine spec_of_awp (fn := Tryd.f36) Tryd.func36 (by kernel_rfl) rfl ?_
    intro w0 C0
    simp only [Tryd.ntmps36, litI, litB, litS, List.length_cons, List.length_nil, Nat.reduceAdd, Nat.reduceSub, List.replicate_succ, List.replicate_zero, List.cons_append, List.nil_append]
    repeat' first
      | refine awp_seq ?_
      | (refine reg _ (by (simp only [List.map_cons, List.map_nil]; rfl)) rfl ?_; intro K hK)
      | (apply ev_guardU; (case hj | hu | hσ => (simp only [go_sem]; try rfl)))
      | ((first | refine ev_guardT _ _ (by (simp only [go_sem]; rfl)) (by (simp only [go_sem]; rfl)) ?_ ?_ | refine ev_guardF _ _ (by (simp only [go_sem]; rfl)) (by (simp only [go_sem]; rfl)) ?_ ?_) <;> (intro hb; first | (cases hb; done) | (have ht : true = true := hb; clear ht hb) | (have ht : false = false := hb; clear ht hb) | (simp only [hb]) | skip))
      | (refine awp_ret ?_; simp only [thenA, blockA, scopeA, RetQ])
      | (refine ev_nil (hK _ ?_); clear hK K)
      | (apply ev_call0; (case hys => (simp only [go_sem]; try rfl)); (case hs => first | exact a1 .. | exact a2 ..); (case hok | hσ => (simp only [go_sem]; try rfl)))
      | (apply ev_step0; (case hr | hσ => (simp only [go_sem]; try rfl)); (case hc => exact hcA))
      | (apply ev_step; (case hr => (simp only [go_sem]; try rfl)); (case hσ => (intro g u; simp only [go_sem]; try rfl)); (case hc => exact hcA); intro g u; (try clear u); (try clear g))
      | fail
    all_goals (refine resR_oneA ?_; simp only [go_sem])
    exact LeA.refl _
end
section
set_option linter.unusedVariables false
set_option linter.unusedSimpArgs false
open Go.RowKit
/-- A comparison that is a linear order. -/
structure Cmp {α : Type} (c : α → α → Int) : Prop where
  eq : ∀ a b, c a b = 0 ↔ a = b
  anti : ∀ a b, c a b < 0 ↔ 0 < c b a
  trans : ∀ a b d, c a b < 0 → c b d < 0 → c a d < 0
theorem Cmp.gt {α : Type} {c : α → α → Int} (h : Cmp c) {a b : α} : 0 < c a b ↔ c b a < 0 := (h.anti b a).symm
theorem Cmp.self {α : Type} {c : α → α → Int} (h : Cmp c) (a : α) : c a a = 0 := (h.eq a a).2 rfl
theorem Cmp.irr {α : Type} {c : α → α → Int} (h : Cmp c) {a b : α} (hab : c a b < 0) : ¬ c b a < 0 := fun hba => by
  have := h.trans a b a hab hba
  rw [h.self] at this; omega
theorem cmpI_cmp : Cmp cmpI where
  eq a b := cmpI_zero
  anti a b := by unfold cmpI; constructor <;> intro h <;> (repeat' split at h) <;> (repeat' split) <;> omega
  trans a b d := by unfold cmpI; intro h k; (repeat' split at h) <;> (repeat' split at k) <;> (repeat' split) <;> omega
/-- The comparison of lists, the beginnings first. -/
def lexC {α : Type} (c : α → α → Int) : List α → List α → Int
  | [], [] => 0
  | [], _ :: _ => -1
  | _ :: _, [] => 1
  | a :: x, b :: y => if c a b ≠ 0 then c a b else lexC c x y
theorem lexC_cmp {α : Type} {c : α → α → Int} (h : Cmp c) : Cmp (lexC c) where
  eq := by
    intro a
    induction a with
    | nil => intro b; cases b <;> simp [lexC]
    | cons x a ih =>
      intro b
      cases b with
      | nil => simp [lexC]
      | cons y b =>
        simp only [lexC]
        by_cases hxy : c x y = 0
        · rw [if_neg (by simpa using hxy), ih b, (h.eq x y).1 hxy]; simp
        · rw [if_pos hxy]
          constructor
          · intro e; exact absurd e hxy
          · intro e; injection e with e1 _; exact absurd ((h.eq x y).2 e1) hxy
  anti := by
    intro a
    induction a with
    | nil => intro b; cases b <;> simp [lexC]
    | cons x a ih =>
      intro b
      cases b with
      | nil => simp [lexC]
      | cons y b =>
        simp only [lexC]
        by_cases hxy : c x y = 0
        · have hyx : c y x = 0 := by rw [h.eq] at hxy ⊢; exact hxy.symm
          rw [if_neg (by simpa using hxy), if_neg (by simpa using hyx)]; exact ih b
        · have hyx : ¬ c y x = 0 := by rw [h.eq] at hxy ⊢; exact fun e => hxy e.symm
          rw [if_pos hxy, if_pos hyx]; exact h.anti x y
  trans := by
    intro a
    induction a with
    | nil => intro b d; cases b <;> cases d <;> simp [lexC]
    | cons x a ih =>
      intro b d
      cases b with
      | nil => simp [lexC]
      | cons y b =>
        cases d with
        | nil =>
          intro _ h2
          simp [lexC] at h2
        | cons z d =>
          simp only [lexC]
          intro h1 h2
          by_cases hxy : c x y = 0
          · rw [if_neg (by simpa using hxy)] at h1
            have e := (h.eq x y).1 hxy
            subst e
            by_cases hyz : c x z = 0
            · rw [if_neg (by simpa using hyz)] at h2 ⊢; exact ih b d h1 h2
            · rw [if_pos hyz] at h2 ⊢; exact h2
          · rw [if_pos hxy] at h1
            by_cases hyz : c y z = 0
            · have e := (h.eq y z).1 hyz
              subst e
              rw [if_pos hxy]; exact h1
            · rw [if_pos hyz] at h2
              have h3 := h.trans x y z h1 h2
              rw [if_pos (by omega)]; exact h3
def cmpU (a b : UInt8) : Int := if a < b then -1 else if b < a then 1 else 0
theorem cmpU_cmp : Cmp cmpU where
  eq a b := by
    unfold cmpU
    simp only [UInt8.lt_iff_toNat_lt]
    constructor
    · intro h; apply UInt8.toNat_inj.1; (repeat' split at h) <;> omega
    · intro h; subst h; simp
  anti a b := by unfold cmpU; simp only [UInt8.lt_iff_toNat_lt]; constructor <;> intro h <;> (repeat' split at h) <;> (repeat' split) <;> omega
  trans a b d := by unfold cmpU; simp only [UInt8.lt_iff_toNat_lt]; intro h k; (repeat' split at h) <;> (repeat' split at k) <;> (repeat' split) <;> omega
theorem cmpL_lex : ∀ x y, cmpL x y = lexC cmpU x y
  | [], [] => rfl
  | [], _ :: _ => rfl
  | _ :: _, [] => rfl
  | a :: x, b :: y => by
    simp only [cmpL, lexC, cmpL_lex x y]
    by_cases h1 : a < b
    · have : cmpU a b = -1 := by unfold cmpU; rw [if_pos h1]
      rw [if_pos h1, this]; rfl
    · rw [if_neg h1]
      by_cases h2 : b < a
      · have : cmpU a b = 1 := by unfold cmpU; rw [if_neg h1, if_pos h2]
        rw [if_pos h2, this]; rfl
      · have : cmpU a b = 0 := by unfold cmpU; rw [if_neg h1, if_neg h2]
        rw [if_neg h2, this]; rfl
theorem cmpS_cmp : Cmp (fun a b : ByteArray => cmpL a.data.toList b.data.toList) where
  eq a b := by
    simp only [cmpL_lex, (lexC_cmp cmpU_cmp).eq]
    constructor
    · intro h
      obtain ⟨a⟩ := a; obtain ⟨b⟩ := b
      congr
      exact Array.toList_inj.1 h
    · intro h; rw [h]
  anti a b := by simp only [cmpL_lex]; exact (lexC_cmp cmpU_cmp).anti _ _
  trans a b d := by simp only [cmpL_lex]; exact (lexC_cmp cmpU_cmp).trans _ _ _
/-- One comparison behind another one. -/
theorem Cmp.pair {α β γ : Type} {c : α → α → Int} {d : β → β → Int} (hc : Cmp c) (hd : Cmp d) (f : γ → α) (g : γ → β) (hinj : ∀ x y, f x = f y → g x = g y → x = y) : Cmp (fun x y => if c (f x) (f y) ≠ 0 then c (f x) (f y) else d (g x) (g y)) where
  eq x y := by
    by_cases h : c (f x) (f y) = 0
    · simp only [if_neg (show ¬ (c (f x) (f y) ≠ 0) from by simpa using h), hd.eq]
      exact ⟨fun e => hinj x y ((hc.eq _ _).1 h) e, fun e => by rw [e]⟩
    · simp only [if_pos (show c (f x) (f y) ≠ 0 from h)]
      exact ⟨fun e => absurd e h, fun e => absurd ((hc.eq _ _).2 (by rw [e])) h⟩
  anti x y := by
    by_cases h : c (f x) (f y) = 0
    · have h' : c (f y) (f x) = 0 := by rw [hc.eq] at h ⊢; exact h.symm
      simp only [if_neg (show ¬ (c (f x) (f y) ≠ 0) from by simpa using h), if_neg (show ¬ (c (f y) (f x) ≠ 0) from by simpa using h')]
      exact hd.anti _ _
    · have h' : c (f y) (f x) ≠ 0 := fun e => h (by rw [hc.eq] at e ⊢; exact e.symm)
      simp only [if_pos (show c (f x) (f y) ≠ 0 from h), if_pos h']
      exact hc.anti _ _
  trans x y z := by
    intro h1 h2
    by_cases hxy : c (f x) (f y) = 0
    · rw [if_neg (by simpa using hxy)] at h1
      have e := (hc.eq _ _).1 hxy
      by_cases hyz : c (f y) (f z) = 0
      · rw [if_neg (by simpa using hyz)] at h2
        rw [if_neg (by rw [e]; simpa using hyz)]
        exact hd.trans _ _ _ h1 h2
      · rw [if_pos hyz] at h2
        rw [e, if_pos hyz]; exact h2
    · rw [if_pos hxy] at h1
      by_cases hyz : c (f y) (f z) = 0
      · have e := (hc.eq _ _).1 hyz
        rw [← e, if_pos hxy]; exact h1
      · rw [if_pos hyz] at h2
        have h3 := hc.trans _ _ _ h1 h2
        rw [if_pos (by omega)]; exact h3
theorem cmpW_cmp : Cmp cmpW :=
  Cmp.pair (γ := Vl) (f := fun v => v.k) (g := fun v => (v.i, v.s)) cmpI_cmp (d := fun a b : Int × ByteArray => if cmpI a.1 b.1 ≠ 0 then cmpI a.1 b.1 else cmpL a.2.data.toList b.2.data.toList)
    (Cmp.pair (γ := Int × ByteArray) (f := fun v => v.1) (g := fun v => v.2) cmpI_cmp cmpS_cmp (fun x y h1 h2 => Prod.ext h1 h2)) (fun x y h1 h2 => by
      cases x; cases y
      simp only [Prod.mk.injEq] at h1 h2
      obtain ⟨h2, h3⟩ := h2
      subst h1; subst h2; subst h3; rfl) |> fun h => by
  have e : cmpW = fun x y : Vl => if cmpI x.k y.k ≠ 0 then cmpI x.k y.k else if cmpI x.i y.i ≠ 0 then cmpI x.i y.i else cmpL x.s.data.toList y.s.data.toList := by
    funext x y
    unfold cmpW
    simp only [ne_eq, cmpI_zero]
  rw [e]; exact h
theorem eqVl_iff (a b : Vl) : eqVl a b = true ↔ a = b := by
  obtain ⟨ak, ai, a3⟩ := a
  obtain ⟨bk, bi, b3⟩ := b
  simp only [eqVl, Bool.and_eq_true, beq_iff_eq, Vl.mk.injEq, ByteArray.toList_eq]
  constructor
  · rintro ⟨h1, h2, h3⟩
    refine ⟨h1, h2, ?_⟩
    cases a3; cases b3
    congr
    exact Array.toList_inj.1 h3
  · rintro ⟨h1, h2, h3⟩; exact ⟨h1, h2, by rw [h3]⟩
theorem cmpV_cmp : Cmp cmpV := by
  have e : cmpV = cmpW := funext fun a => funext fun b => cmp_same a b
  rw [e]; exact cmpW_cmp
def leV (a b : Vl) : Prop := cmpV a b ≤ 0
theorem leV_refl (a : Vl) : leV a a := by unfold leV; rw [cmpV_cmp.self]; omega
theorem leV_lt {a b : Vl} (h : cmpV a b < 0) : leV a b := by unfold leV; omega
theorem leV_not {a b : Vl} (h : ¬ cmpV a b < 0) : leV b a := by
  unfold leV
  by_cases h0 : cmpV a b = 0
  · rw [(cmpV_cmp.eq _ _).1 h0, cmpV_cmp.self]; omega
  · have := cmpV_cmp.gt.1 (show 0 < cmpV a b by omega)
    omega
theorem leV_gt {a b : Vl} (h : cmpV a b > 0) : leV b a := leV_not (by omega)
theorem leV_trans {a b c : Vl} (h1 : leV a b) (h2 : leV b c) : leV a c := by
  unfold leV at *
  by_cases e1 : cmpV a b = 0
  · rw [(cmpV_cmp.eq _ _).1 e1]; exact h2
  by_cases e2 : cmpV b c = 0
  · rw [← (cmpV_cmp.eq _ _).1 e2]; exact h1
  have := cmpV_cmp.trans a b c (by omega) (by omega)
  omega
theorem leV_anti {a b : Vl} (h1 : leV a b) (h2 : leV b a) : a = b := by
  unfold leV at *
  by_cases e1 : cmpV a b = 0
  · exact (cmpV_cmp.eq _ _).1 e1
  have := (cmpV_cmp.anti a b).1 (by omega)
  omega
end
section
set_option linter.unusedVariables false
set_option linter.unusedSimpArgs false
open Go.RowKit
attribute [local irreducible] Spec SpecF SpecN
attribute [local irreducible] AWp evOps evD
abbrev tydA (t : Ty) : List AV := [litI .i64 t.k, litI .i64 t.scale, litB t.null, litI .i64 0]
theorem f79_con (T : Dat) (v : Vl) (hk : v.k = 1 ∨ v.k = 2 ∨ v.k = 3) (hv : validV v = true) (hs : v.s.size ≤ 4611686018427387904) : ∃ t : Ty, t.k = v.k ∧ Spec Tryd.prog 79 [.d T, .agg (exA (.leaf 1 0 v))] (.agg (tydA t)) := by
  have a1 := f56_spec v hs
  rw [hv] at a1
  obtain ⟨k, i, s⟩ := v
  simp only [exA, opE, cE, vE, argsD] at hk a1 ⊢
  rcases hk with rfl | rfl | rfl
  · refine ⟨⟨1, 0, false⟩, rfl, ?_⟩
    refine spec_of_awp (fn := Tryd.f79) Tryd.func79 (by kernel_rfl) rfl ?_
    intro w0 C0
    simp only [Tryd.ntmps79, litI, litB, litS, List.length_cons, List.length_nil, Nat.reduceAdd, Nat.reduceSub, List.replicate_succ, List.replicate_zero, List.cons_append, List.nil_append]
    repeat' first
      | refine awp_seq ?_
      | refine awp_block ?_
      | refine awp_skip ?_
      | (refine reg _ (by (simp only [List.map_cons, List.map_nil]; rfl)) rfl ?_; intro K hK)
      | (apply ev_guardU; (case hj | hu | hσ => (simp only [go_sem, Int.reduceBEq]; try rfl)))
      | ((first | refine awp_cond _ (by rfl) ?_ ?_ | refine ev_guardT _ _ (by (simp only [go_sem, Int.reduceBEq]; rfl)) (by (simp only [go_sem, Int.reduceBEq]; rfl)) ?_ ?_ | refine ev_guardF _ _ (by (simp only [go_sem, Int.reduceBEq]; rfl)) (by (simp only [go_sem, Int.reduceBEq]; rfl)) ?_ ?_) <;> (intro hb; first | (cases hb; done) | (have ht : true = true := hb; clear ht hb) | (have ht : false = false := hb; clear ht hb) | (simp only [hb]) | skip))
      | (refine awp_exit ?_; simp only [thenA, blockA, scopeA, reduceIte, RetQ, Nat.reduceEqDiff])
      | (refine awp_ret ?_; simp only [thenA, blockA, scopeA, RetQ])
      | (refine ev_nil (hK _ ?_); clear hK K)
      | (apply ev_call0; (case hys => (simp only [go_sem, Int.reduceBEq]; try rfl)); (case hs => first | exact a1 ..); (case hok | hσ => (simp only [go_sem, Int.reduceBEq]; try rfl)))
      | (apply ev_step0; (case hr | hσ => (simp only [go_sem, Int.reduceBEq]; try rfl)); (case hc => exact hcA))
      | (apply ev_step; (case hr => (simp only [go_sem, Int.reduceBEq]; try rfl)); (case hσ => (intro g u; simp only [go_sem, Int.reduceBEq]; try rfl)); (case hc => exact hcA); intro g u; (try clear u); (try clear g))
      | fail
    all_goals (refine resR_oneA ?_; simp only [go_sem])
    exact LeA.refl _
  · have a2 := f84_spec i
    generalize leastM i (List.range 6) = sc at *
    refine ⟨⟨2, sc, false⟩, rfl, ?_⟩
    refine spec_of_awp (fn := Tryd.f79) Tryd.func79 (by kernel_rfl) rfl ?_
    intro w0 C0
    simp only [Tryd.ntmps79, litI, litB, litS, List.length_cons, List.length_nil, Nat.reduceAdd, Nat.reduceSub, List.replicate_succ, List.replicate_zero, List.cons_append, List.nil_append]
    repeat' first
      | refine awp_seq ?_
      | refine awp_block ?_
      | refine awp_skip ?_
      | (refine reg _ (by (simp only [List.map_cons, List.map_nil]; rfl)) rfl ?_; intro K hK)
      | (apply ev_guardU; (case hj | hu | hσ => (simp only [go_sem, Int.reduceBEq]; try rfl)))
      | ((first | refine awp_cond _ (by rfl) ?_ ?_ | refine ev_guardT _ _ (by (simp only [go_sem, Int.reduceBEq]; rfl)) (by (simp only [go_sem, Int.reduceBEq]; rfl)) ?_ ?_ | refine ev_guardF _ _ (by (simp only [go_sem, Int.reduceBEq]; rfl)) (by (simp only [go_sem, Int.reduceBEq]; rfl)) ?_ ?_) <;> (intro hb; first | (cases hb; done) | (have ht : true = true := hb; clear ht hb) | (have ht : false = false := hb; clear ht hb) | (simp only [hb]) | skip))
      | (refine awp_exit ?_; simp only [thenA, blockA, scopeA, reduceIte, RetQ, Nat.reduceEqDiff])
      | (refine awp_ret ?_; simp only [thenA, blockA, scopeA, RetQ])
      | (refine ev_nil (hK _ ?_); clear hK K)
      | (apply ev_call0; (case hys => (simp only [go_sem, Int.reduceBEq]; try rfl)); (case hs => first | exact a1 .. | exact a2 ..); (case hok | hσ => (simp only [go_sem, Int.reduceBEq]; try rfl)))
      | (apply ev_step0; (case hr | hσ => (simp only [go_sem, Int.reduceBEq]; try rfl)); (case hc => exact hcA))
      | (apply ev_step; (case hr => (simp only [go_sem, Int.reduceBEq]; try rfl)); (case hσ => (intro g u; simp only [go_sem, Int.reduceBEq]; try rfl)); (case hc => exact hcA); intro g u; (try clear u); (try clear g))
      | fail
    all_goals (refine resR_oneA ?_; simp only [go_sem])
    exact LeA.refl _
  · refine ⟨⟨3, 0, false⟩, rfl, ?_⟩
    refine spec_of_awp (fn := Tryd.f79) Tryd.func79 (by kernel_rfl) rfl ?_
    intro w0 C0
    simp only [Tryd.ntmps79, litI, litB, litS, List.length_cons, List.length_nil, Nat.reduceAdd, Nat.reduceSub, List.replicate_succ, List.replicate_zero, List.cons_append, List.nil_append]
    repeat' first
      | refine awp_seq ?_
      | refine awp_block ?_
      | refine awp_skip ?_
      | (refine reg _ (by (simp only [List.map_cons, List.map_nil]; rfl)) rfl ?_; intro K hK)
      | (apply ev_guardU; (case hj | hu | hσ => (simp only [go_sem, Int.reduceBEq]; try rfl)))
      | ((first | refine awp_cond _ (by rfl) ?_ ?_ | refine ev_guardT _ _ (by (simp only [go_sem, Int.reduceBEq]; rfl)) (by (simp only [go_sem, Int.reduceBEq]; rfl)) ?_ ?_ | refine ev_guardF _ _ (by (simp only [go_sem, Int.reduceBEq]; rfl)) (by (simp only [go_sem, Int.reduceBEq]; rfl)) ?_ ?_) <;> (intro hb; first | (cases hb; done) | (have ht : true = true := hb; clear ht hb) | (have ht : false = false := hb; clear ht hb) | (simp only [hb]) | skip))
      | (refine awp_exit ?_; simp only [thenA, blockA, scopeA, reduceIte, RetQ, Nat.reduceEqDiff])
      | (refine awp_ret ?_; simp only [thenA, blockA, scopeA, RetQ])
      | (refine ev_nil (hK _ ?_); clear hK K)
      | (apply ev_call0; (case hys => (simp only [go_sem, Int.reduceBEq]; try rfl)); (case hs => first | exact a1 ..); (case hok | hσ => (simp only [go_sem, Int.reduceBEq]; try rfl)))
      | (apply ev_step0; (case hr | hσ => (simp only [go_sem, Int.reduceBEq]; try rfl)); (case hc => exact hcA))
      | (apply ev_step; (case hr => (simp only [go_sem, Int.reduceBEq]; try rfl)); (case hσ => (intro g u; simp only [go_sem, Int.reduceBEq]; try rfl)); (case hc => exact hcA); intro g u; (try clear u); (try clear g))
      | fail
    all_goals (refine resR_oneA ?_; simp only [go_sem])
    exact LeA.refl _
theorem f79_col (l : List Ty) (c : Nat) (hc : c < l.length) (hl : l.length ≤ 1000000) (ht : TyOk (l.getD c dTy)) : Spec Tryd.prog 79 [.d (tys l), .agg (exA (.leaf 2 (c : Int) nullV))] (.agg (tydA (l.getD c dTy))) := by
  have a1 := f83_spec _ ht
  have hx := tys_at l hc
  generalize l.getD c dTy = t at *
  have d1 : decide ((c : Int) < 0) = false := decide_eq_false (by omega)
  have d2 : decide ((c : Int) ≥ (l.length : Int)) = false := decide_eq_false (by omega)
  simp only [exA, opE, cE, vE, argsD]
  refine spec_of_awp (fn := Tryd.f79) Tryd.func79 (by kernel_rfl) rfl ?_
  intro w0 C0
  simp only [Tryd.ntmps79, litI, litB, litS, List.length_cons, List.length_nil, Nat.reduceAdd, Nat.reduceSub, List.replicate_succ, List.replicate_zero, List.cons_append, List.nil_append]
  repeat' first
    | refine awp_seq ?_
    | refine awp_block ?_
    | refine awp_skip ?_
    | (refine reg _ (by (simp only [List.map_cons, List.map_nil]; rfl)) rfl ?_; intro K hK)
    | (apply ev_guardU; (case hj | hu | hσ => (simp only [go_sem, Int.reduceBEq, d1, d2, hx, beq_self_eq_true, Bool.not_true, Bool.and_self]; try rfl)))
    | ((first | refine awp_cond _ (by rfl) ?_ ?_ | refine ev_guardT _ _ (by (simp only [go_sem, Int.reduceBEq, d1, d2, hx, beq_self_eq_true, Bool.not_true, Bool.and_self]; rfl)) (by (simp only [go_sem, Int.reduceBEq, d1, d2, hx, beq_self_eq_true, Bool.not_true, Bool.and_self]; rfl)) ?_ ?_ | refine ev_guardF _ _ (by (simp only [go_sem, Int.reduceBEq, d1, d2, hx, beq_self_eq_true, Bool.not_true, Bool.and_self]; rfl)) (by (simp only [go_sem, Int.reduceBEq, d1, d2, hx, beq_self_eq_true, Bool.not_true, Bool.and_self]; rfl)) ?_ ?_) <;> (intro hb; first | (cases hb; done) | (have ht : true = true := hb; clear ht hb) | (have ht : false = false := hb; clear ht hb) | (simp only [hb]) | skip))
    | (refine awp_exit ?_; simp only [thenA, blockA, scopeA, reduceIte, RetQ, Nat.reduceEqDiff])
    | (refine awp_ret ?_; simp only [thenA, blockA, scopeA, RetQ])
    | (refine ev_nil (hK _ ?_); clear hK K)
    | (apply ev_call0; (case hys => (simp only [go_sem, Int.reduceBEq, d1, d2, hx, beq_self_eq_true, Bool.not_true, Bool.and_self]; try rfl)); (case hs => first | exact a1 .. | exact f27_spec ..); (case hok | hσ => (simp only [go_sem, Int.reduceBEq, d1, d2, hx, beq_self_eq_true, Bool.not_true, Bool.and_self]; try rfl)))
    | (apply regD; (case hd => (simp only [List.map_cons, List.map_nil]; rfl)); (case hok => rfl); (case' h => (intro K hK; (repeat' first
        | (apply evd_nil; refine (hK _ ?_); clear hK K)
        | (apply evd_guardU0; (case hj | hu | hσ => (simp only [go_sem, Int.reduceBEq, d1, d2, hx, beq_self_eq_true, Bool.not_true, Bool.and_self]; try rfl)))
        | (apply evd_guardU; (case hj | hu | hσ => (simp only [go_sem, Int.reduceBEq, d1, d2, hx, beq_self_eq_true, Bool.not_true, Bool.and_self]; try rfl)))
        | (apply evd_skipT0; (case hj | hb | hσ => (simp only [go_sem, Int.reduceBEq, d1, d2, hx, beq_self_eq_true, Bool.not_true, Bool.and_self]; try rfl)))
        | (apply evd_skipF0; (case hj | hb | hσ => (simp only [go_sem, Int.reduceBEq, d1, d2, hx, beq_self_eq_true, Bool.not_true, Bool.and_self]; try rfl)))
        | (apply evd_skipT; (case hj | hb | hσ => (simp only [go_sem, Int.reduceBEq, d1, d2, hx, beq_self_eq_true, Bool.not_true, Bool.and_self]; try rfl)))
        | (apply evd_skipF; (case hj | hb | hσ => (simp only [go_sem, Int.reduceBEq, d1, d2, hx, beq_self_eq_true, Bool.not_true, Bool.and_self]; try rfl)))
        | (apply evd_guardT; (case hj | hb => (simp only [go_sem, Int.reduceBEq, d1, d2, hx, beq_self_eq_true, Bool.not_true, Bool.and_self]; try rfl)); (case' h2 => (intro hb; first | (cases hb; done) | (simp only [hb]) | skip)); (case' h1 => (intro hb; first | (cases hb; done) | (simp only [hb]) | skip)))
        | (apply evd_guardF; (case hj | hb => (simp only [go_sem, Int.reduceBEq, d1, d2, hx, beq_self_eq_true, Bool.not_true, Bool.and_self]; try rfl)); (case' h2 => (intro hb; first | (cases hb; done) | (simp only [hb]) | skip)); (case' h1 => (intro hb; first | (cases hb; done) | (simp only [hb]) | skip)))
        | (apply evd_call0; (case hi | hys => (simp only [go_sem, Int.reduceBEq, d1, d2, hx, beq_self_eq_true, Bool.not_true, Bool.and_self]; try rfl)); (case hs => first | exact a1 .. | exact f27_spec ..); (case hok | hw | hσ => (simp only [go_sem, Int.reduceBEq, d1, d2, hx, beq_self_eq_true, Bool.not_true, Bool.and_self]; try rfl)))
        | (apply evd_step0; (case hr | hi | hσ => (simp only [go_sem, Int.reduceBEq, d1, d2, hx, beq_self_eq_true, Bool.not_true, Bool.and_self]; try rfl)); (case hc => exact hcA))
        | (apply evd_step; (case hr | hi => (simp only [go_sem, Int.reduceBEq, d1, d2, hx, beq_self_eq_true, Bool.not_true, Bool.and_self]; try rfl)); (case hc => exact hcA); (case hw | hσ => (intro g u; simp only [go_sem, Int.reduceBEq, d1, d2, hx, beq_self_eq_true, Bool.not_true, Bool.and_self]; try rfl)); (case' hk => (intro g u; (try clear u); (try clear g))))
        | fail))); (case hB => kernel_rfl))
    | (apply ev_step0; (case hr | hσ => (simp only [go_sem, Int.reduceBEq, d1, d2, hx, beq_self_eq_true, Bool.not_true, Bool.and_self]; try rfl)); (case hc => exact hcA))
    | (apply ev_step; (case hr => (simp only [go_sem, Int.reduceBEq, d1, d2, hx, beq_self_eq_true, Bool.not_true, Bool.and_self]; try rfl)); (case hσ => (intro g u; simp only [go_sem, Int.reduceBEq, d1, d2, hx, beq_self_eq_true, Bool.not_true, Bool.and_self]; try rfl)); (case hc => exact hcA); intro g u; (try clear u); (try clear g))
    | fail
  all_goals (refine resR_oneA ?_; simp only [go_sem])
  exact LeA.refl _
def OpOk (op : Int) (l : List Ty) : Prop :=
  ((op = 3 ∨ op = 4 ∨ op = 5) ∧ ∃ a b : Ty, l = [a, b] ∧ a.k = b.k) ∨ ((op = 6 ∨ op = 7) ∧ ∃ a b : Ty, l = [a, b] ∧ a.k = 1 ∧ b.k = 1) ∨ (op = 8 ∧ ∃ a : Ty, l = [a] ∧ a.k = 1) ∨ (op = 9 ∧ ∃ a : Ty, l = [a])
  ∨ ((op = 10 ∨ op = 11) ∧ ∃ a b : Ty, l = [a, b] ∧ a.k = 2 ∧ b.k = 2) ∨ (op = 12 ∧ ∃ a b : Ty, l = [a, b] ∧ a.k = 3 ∧ b.k = 3)
def kindR (op : Int) : Int := if op = 10 ∨ op = 11 then 2 else 1
theorem f80_tail {a b : Ty} {k : Int} (ha : a.k = k) (hb : b.k = k) : Spec Tryd.prog 85 [.d (tys [a, b]), litI .i64 k] (litB true) := f85_spec _ _ (by intro t ht; rcases List.mem_cons.1 ht with rfl | ht; exact ha; rcases List.mem_cons.1 ht with rfl | ht; exact hb; cases ht)
theorem f80_one {a : Ty} {k : Int} (ha : a.k = k) : Spec Tryd.prog 85 [.d (tys [a]), litI .i64 k] (litB true) := f85_spec _ _ (by intro t ht; rcases List.mem_cons.1 ht with rfl | ht; exact ha; cases ht)
set_option maxHeartbeats 8000000 in
theorem f80_spec (op : Int) (l : List Ty) (h : OpOk op l) : ∃ t : Ty, t.k = kindR op ∧ Spec Tryd.prog 80 [litI .i64 op, .d (tys l)] (.agg (tydA t)) := by
  have hlen : l.length ≤ 2 := by
    rcases h with ⟨_, a, b, rfl, _⟩ | ⟨_, a, b, rfl, _⟩ | ⟨_, a, rfl, _⟩ | ⟨_, a, rfl⟩ | ⟨_, a, b, rfl, _⟩ | ⟨_, a, b, rfl, _⟩ <;> simp
  obtain ⟨S, hS⟩ : ∃ S : Int, S = (if (l.getD 1 dTy).scale > (l.getD 0 dTy).scale then (l.getD 1 dTy).scale else (l.getD 0 dTy).scale) := ⟨_, rfl⟩
  refine ⟨if op = 10 ∨ op = 11 then ⟨2, S, true⟩ else if op = 9 then ⟨1, 0, false⟩ else ⟨1, 0, l.any (·.null)⟩, by unfold kindR; split; rfl; split <;> rfl, ?_⟩
  refine spec_of_awp (fn := Tryd.f80) Tryd.func80 (by kernel_rfl) rfl ?_
  intro w0 C0
  simp only [Tryd.ntmps80, litI, litB, litS, List.length_cons, List.length_nil, Nat.reduceAdd, Nat.reduceSub, List.replicate_succ, List.replicate_zero, List.cons_append, List.nil_append]
  repeat' first
    | refine awp_seq ?_
    | refine awp_block ?_
    | refine awp_skip ?_
    | (refine reg _ (by (simp only [List.map_cons, List.map_nil]; rfl)) rfl ?_; intro K hK)
    | (apply ev_guardU; (case hj | hu | hσ => (simp only [go_sem]; try rfl)))
    | ((first | refine awp_cond _ (by rfl) ?_ ?_ | refine ev_guardT _ _ (by (simp only [go_sem]; rfl)) (by (simp only [go_sem]; rfl)) ?_ ?_ | refine ev_guardF _ _ (by (simp only [go_sem]; rfl)) (by (simp only [go_sem]; rfl)) ?_ ?_) <;> (intro hb; first | (cases hb; done) | (have ht : true = true := hb; clear ht hb) | (have ht : false = false := hb; clear ht hb) | (simp only [hb]) | skip))
    | (refine awp_exit ?_; simp only [thenA, blockA, scopeA, reduceIte, RetQ, Nat.reduceEqDiff])
    | (refine awp_ret ?_; simp only [thenA, blockA, scopeA, RetQ])
    | (refine ev_nil (hK _ ?_); clear hK K)
    | (apply ev_step0; (case hr | hσ => (simp only [go_sem]; try rfl)); (case hc => exact hcA))
    | (apply ev_step; (case hr => (simp only [go_sem]; try rfl)); (case hσ => (intro g u; simp only [go_sem]; try rfl)); (case hc => exact hcA); intro g u; (try clear u); (try clear g))
    | fail
  rename_i g4
  revert g; intro g5
  refine awp_loopI (fun i : Nat => i ≤ l.length) (fun i => l.length - i) (fun i => ⟨[litI .i64 op, .d (tys l), .any, .any, .ptr 4 g4 0, .ptr 5 g5 0, litI .i64 (i : Int), .any, .any, .any, .any, .any, .any, .any, .any, .any, .any, .any, .any, .any, .any, .any, .any, .any, .any, .any, .any, .any, .any, .any, .any, .any, .any, .any, .any, .any, .any, .any, .any, .any, .any, .any, .any, .any, .any, .any, .any, .any, .any, .any, .any, .any, .any, .any, .any, .any, .any, .any, .any, .any, .any, .any, .any, .any, .any, .any, .any, .any, .any, .any, .any, .any], [.no, .no, .no, .no, .box g4 [litI .i64 0, litI .i64 0, litB false, litI .i64 0], .box g5 [litI .i64 1, litI .i64 0, litB ((l.take i).any (·.null))], .no, .no, .no, .no, .no, .no, .no, .no, .no, .no, .no, .no, .no, .no, .no, .no, .no, .no, .no, .no, .no, .no, .no, .no, .no, .no, .no, .no, .no, .no, .no, .no, .no, .no, .no, .no, .no, .no, .no, .no, .no, .no, .no, .no, .no, .no, .no, .no, .no, .no, .no, .no, .no, .no, .no, .no, .no, .no, .no, .no, .no, .no, .no, .no, .no, .no]⟩) 0 (by omega) ?_ ?_
  · rw [List.take_zero, List.any_nil]
    exact wkA
  intro i hi
  simp only [litI, litB] at hi ⊢
  by_cases hlt : i < l.length
  · have hdec : decide ((i : Int) < (l.length : Int)) = true := decide_eq_true (by omega)
    have hx := tys_at l hlt
    have w1 : IntKind.i64.wrap ((i : Int) + 1) = ((i + 1 : Nat) : Int) := by rw [wrap_id (by omega)]; push_cast; rfl
    have hs : (l.take (i + 1)).any (·.null) = ((l.take i).any (·.null) || (l.getD i dTy).null) := by rw [take_at l dTy hlt, List.any_append]; simp
    generalize l.getD i dTy = t at *
    generalize (l.take i).any (·.null) = n at *
    cases n with
    | true =>
      repeat' first
        | refine awp_seq ?_
        | refine awp_block ?_
        | refine awp_skip ?_
        | (refine reg _ (by (simp only [List.map_cons, List.map_nil]; rfl)) rfl ?_; intro K hK)
        | (apply ev_guardU; (case hj | hu | hσ => (simp only [go_sem, hdec, hx, w1]; try rfl)))
        | ((first | refine awp_cond _ (by rfl) ?_ ?_ | refine ev_guardT _ _ (by (simp only [go_sem, hdec, hx, w1]; rfl)) (by (simp only [go_sem, hdec, hx, w1]; rfl)) ?_ ?_ | refine ev_guardF _ _ (by (simp only [go_sem, hdec, hx, w1]; rfl)) (by (simp only [go_sem, hdec, hx, w1]; rfl)) ?_ ?_) <;> (intro hb; first | (cases hb; done) | (have ht : true = true := hb; clear ht hb) | (have ht : false = false := hb; clear ht hb) | (simp only [hb]) | skip))
        | (refine awp_exit ?_; simp only [thenA, blockA, scopeA, reduceIte, RetQ, Nat.reduceEqDiff])
        | (refine awp_ret ?_; simp only [thenA, blockA, scopeA, RetQ])
        | (refine ev_nil (hK _ ?_); clear hK K)
        | (apply ev_step0; (case hr | hσ => (simp only [go_sem, hdec, hx, w1]; try rfl)); (case hc => exact hcA))
        | (apply ev_step; (case hr => (simp only [go_sem, hdec, hx, w1]; try rfl)); (case hσ => (intro g u; simp only [go_sem, hdec, hx, w1]; try rfl)); (case hc => exact hcA); intro g u; (try clear u); (try clear g))
        | fail
      refine Exists.intro (i + 1) ⟨by omega, by omega, ?_⟩
      rw [hs, Bool.true_or]
      exact wkA
    | false =>
      repeat' first
        | refine awp_seq ?_
        | refine awp_block ?_
        | refine awp_skip ?_
        | (refine reg _ (by (simp only [List.map_cons, List.map_nil]; rfl)) rfl ?_; intro K hK)
        | (apply ev_guardU; (case hj | hu | hσ => (simp only [go_sem, hdec, hx, w1]; try rfl)))
        | ((first | refine awp_cond _ (by rfl) ?_ ?_ | refine ev_guardT _ _ (by (simp only [go_sem, hdec, hx, w1]; rfl)) (by (simp only [go_sem, hdec, hx, w1]; rfl)) ?_ ?_ | refine ev_guardF _ _ (by (simp only [go_sem, hdec, hx, w1]; rfl)) (by (simp only [go_sem, hdec, hx, w1]; rfl)) ?_ ?_) <;> (intro hb; first | (cases hb; done) | (have ht : true = true := hb; clear ht hb) | (have ht : false = false := hb; clear ht hb) | (simp only [hb]) | skip))
        | (refine awp_exit ?_; simp only [thenA, blockA, scopeA, reduceIte, RetQ, Nat.reduceEqDiff])
        | (refine awp_ret ?_; simp only [thenA, blockA, scopeA, RetQ])
        | (refine ev_nil (hK _ ?_); clear hK K)
        | (apply ev_step0; (case hr | hσ => (simp only [go_sem, hdec, hx, w1]; try rfl)); (case hc => exact hcA))
        | (apply ev_step; (case hr => (simp only [go_sem, hdec, hx, w1]; try rfl)); (case hσ => (intro g u; simp only [go_sem, hdec, hx, w1]; try rfl)); (case hc => exact hcA); intro g u; (try clear u); (try clear g))
        | fail
      refine Exists.intro (i + 1) ⟨by omega, by omega, ?_⟩
      rw [hs, Bool.false_or]
      exact wkA
  have hdec : decide ((i : Int) < (l.length : Int)) = false := decide_eq_false (by omega)
  have hil : i = l.length := by omega
  subst hil
  rw [List.take_length]
  rcases h with ⟨hop, a, b, rfl, hab⟩ | ⟨hop, a, b, rfl, ha, hb⟩ | ⟨rfl, a, rfl, ha⟩ | ⟨rfl, a, rfl⟩ | ⟨hop, a, b, rfl, ha, hb⟩ | ⟨rfl, a, b, rfl, ha, hb⟩
  · have d1 : (a.k == b.k) = true := by simpa using hab
    generalize ([a, b].any (·.null)) = n at *
    rcases hop with rfl | rfl | rfl
    all_goals
      repeat' first
        | refine awp_seq ?_
        | refine awp_block ?_
        | refine awp_skip ?_
        | (refine reg _ (by (simp only [List.map_cons, List.map_nil]; rfl)) rfl ?_; intro K hK)
        | (apply ev_guardU; (case hj | hu | hσ => (simp only [go_sem, hdec, Int.reduceBEq, d1, Int.reduceToNat]; try rfl)))
        | ((first | refine awp_cond _ (by rfl) ?_ ?_ | refine ev_guardT _ _ (by (simp only [go_sem, hdec, Int.reduceBEq, d1, Int.reduceToNat]; rfl)) (by (simp only [go_sem, hdec, Int.reduceBEq, d1, Int.reduceToNat]; rfl)) ?_ ?_ | refine ev_guardF _ _ (by (simp only [go_sem, hdec, Int.reduceBEq, d1, Int.reduceToNat]; rfl)) (by (simp only [go_sem, hdec, Int.reduceBEq, d1, Int.reduceToNat]; rfl)) ?_ ?_) <;> (intro hb; first | (cases hb; done) | (have ht : true = true := hb; clear ht hb) | (have ht : false = false := hb; clear ht hb) | (simp only [hb]) | skip))
        | (refine awp_exit ?_; simp only [thenA, blockA, scopeA, reduceIte, RetQ, Nat.reduceEqDiff])
        | (refine awp_ret ?_; simp only [thenA, blockA, scopeA, RetQ])
        | (refine ev_nil (hK _ ?_); clear hK K)
        | (apply regD; (case hd => (simp only [List.map_cons, List.map_nil]; rfl)); (case hok => rfl); (case' h => (intro K hK; (repeat' first
        | (apply evd_nil; refine (hK _ ?_); clear hK K)
        | (apply evd_step0; (case hr | hi | hσ => (simp only [go_sem, hdec, Int.reduceBEq, d1, Int.reduceToNat]; try rfl)); (case hc => exact hcA))
        | (apply evd_step; (case hr | hi => (simp only [go_sem, hdec, Int.reduceBEq, d1, Int.reduceToNat]; try rfl)); (case hc => exact hcA); (case hw | hσ => (intro g u; simp only [go_sem, hdec, Int.reduceBEq, d1, Int.reduceToNat]; try rfl)); (case' hk => (intro g u; (try clear u); (try clear g))))
        | fail))); (case hB => kernel_rfl))
        | (apply ev_step0; (case hr | hσ => (simp only [go_sem, hdec, Int.reduceBEq, d1, Int.reduceToNat]; try rfl)); (case hc => exact hcA))
        | (apply ev_step; (case hr => (simp only [go_sem, hdec, Int.reduceBEq, d1, Int.reduceToNat]; try rfl)); (case hσ => (intro g u; simp only [go_sem, hdec, Int.reduceBEq, d1, Int.reduceToNat]; try rfl)); (case hc => exact hcA); intro g u; (try clear u); (try clear g))
        | fail
      all_goals (refine resR_oneA ?_; simp only [go_sem])
      exact LeA.refl _
  · have a1 := f80_tail ha hb
    generalize ([a, b].any (·.null)) = n at *
    rcases hop with rfl | rfl
    all_goals
      repeat' first
        | refine awp_seq ?_
        | refine awp_block ?_
        | refine awp_skip ?_
        | (refine reg _ (by (simp only [List.map_cons, List.map_nil]; rfl)) rfl ?_; intro K hK)
        | (apply ev_guardU; (case hj | hu | hσ => (simp only [go_sem, hdec, Int.reduceBEq, Int.reduceToNat]; try rfl)))
        | ((first | refine awp_cond _ (by rfl) ?_ ?_ | refine ev_guardT _ _ (by (simp only [go_sem, hdec, Int.reduceBEq, Int.reduceToNat]; rfl)) (by (simp only [go_sem, hdec, Int.reduceBEq, Int.reduceToNat]; rfl)) ?_ ?_ | refine ev_guardF _ _ (by (simp only [go_sem, hdec, Int.reduceBEq, Int.reduceToNat]; rfl)) (by (simp only [go_sem, hdec, Int.reduceBEq, Int.reduceToNat]; rfl)) ?_ ?_) <;> (intro hb; first | (cases hb; done) | (have ht : true = true := hb; clear ht hb) | (have ht : false = false := hb; clear ht hb) | (simp only [hb]) | skip))
        | (refine awp_exit ?_; simp only [thenA, blockA, scopeA, reduceIte, RetQ, Nat.reduceEqDiff])
        | (refine awp_ret ?_; simp only [thenA, blockA, scopeA, RetQ])
        | (refine ev_nil (hK _ ?_); clear hK K)
        | (apply ev_call0; (case hys => (simp only [go_sem, hdec, Int.reduceBEq, Int.reduceToNat]; try rfl)); (case hs => first | exact a1 ..); (case hok | hσ => (simp only [go_sem, hdec, Int.reduceBEq, Int.reduceToNat]; try rfl)))
        | (apply regD; (case hd => (simp only [List.map_cons, List.map_nil]; rfl)); (case hok => rfl); (case' h => (intro K hK; (repeat' first
        | (apply evd_nil; refine (hK _ ?_); clear hK K)
        | (apply evd_step0; (case hr | hi | hσ => (simp only [go_sem, hdec, Int.reduceBEq, Int.reduceToNat]; try rfl)); (case hc => exact hcA))
        | (apply evd_step; (case hr | hi => (simp only [go_sem, hdec, Int.reduceBEq, Int.reduceToNat]; try rfl)); (case hc => exact hcA); (case hw | hσ => (intro g u; simp only [go_sem, hdec, Int.reduceBEq, Int.reduceToNat]; try rfl)); (case' hk => (intro g u; (try clear u); (try clear g))))
        | fail))); (case hB => kernel_rfl))
        | (apply ev_step0; (case hr | hσ => (simp only [go_sem, hdec, Int.reduceBEq, Int.reduceToNat]; try rfl)); (case hc => exact hcA))
        | (apply ev_step; (case hr => (simp only [go_sem, hdec, Int.reduceBEq, Int.reduceToNat]; try rfl)); (case hσ => (intro g u; simp only [go_sem, hdec, Int.reduceBEq, Int.reduceToNat]; try rfl)); (case hc => exact hcA); intro g u; (try clear u); (try clear g))
        | fail
      all_goals (refine resR_oneA ?_; simp only [go_sem])
      exact LeA.refl _
  · have a1 := f80_one ha
    generalize ([a].any (·.null)) = n at *
    repeat' first
      | refine awp_seq ?_
      | refine awp_block ?_
      | refine awp_skip ?_
      | (refine reg _ (by (simp only [List.map_cons, List.map_nil]; rfl)) rfl ?_; intro K hK)
      | (apply ev_guardU; (case hj | hu | hσ => (simp only [go_sem, hdec, Int.reduceBEq, Int.reduceToNat]; try rfl)))
      | ((first | refine awp_cond _ (by rfl) ?_ ?_ | refine ev_guardT _ _ (by (simp only [go_sem, hdec, Int.reduceBEq, Int.reduceToNat]; rfl)) (by (simp only [go_sem, hdec, Int.reduceBEq, Int.reduceToNat]; rfl)) ?_ ?_ | refine ev_guardF _ _ (by (simp only [go_sem, hdec, Int.reduceBEq, Int.reduceToNat]; rfl)) (by (simp only [go_sem, hdec, Int.reduceBEq, Int.reduceToNat]; rfl)) ?_ ?_) <;> (intro hb; first | (cases hb; done) | (have ht : true = true := hb; clear ht hb) | (have ht : false = false := hb; clear ht hb) | (simp only [hb]) | skip))
      | (refine awp_exit ?_; simp only [thenA, blockA, scopeA, reduceIte, RetQ, Nat.reduceEqDiff])
      | (refine awp_ret ?_; simp only [thenA, blockA, scopeA, RetQ])
      | (refine ev_nil (hK _ ?_); clear hK K)
      | (apply ev_call0; (case hys => (simp only [go_sem, hdec, Int.reduceBEq, Int.reduceToNat]; try rfl)); (case hs => first | exact a1 ..); (case hok | hσ => (simp only [go_sem, hdec, Int.reduceBEq, Int.reduceToNat]; try rfl)))
      | (apply regD; (case hd => (simp only [List.map_cons, List.map_nil]; rfl)); (case hok => rfl); (case' h => (intro K hK; (repeat' first
        | (apply evd_nil; refine (hK _ ?_); clear hK K)
        | (apply evd_step0; (case hr | hi | hσ => (simp only [go_sem, hdec, Int.reduceBEq, Int.reduceToNat]; try rfl)); (case hc => exact hcA))
        | (apply evd_step; (case hr | hi => (simp only [go_sem, hdec, Int.reduceBEq, Int.reduceToNat]; try rfl)); (case hc => exact hcA); (case hw | hσ => (intro g u; simp only [go_sem, hdec, Int.reduceBEq, Int.reduceToNat]; try rfl)); (case' hk => (intro g u; (try clear u); (try clear g))))
        | fail))); (case hB => kernel_rfl))
      | (apply ev_step0; (case hr | hσ => (simp only [go_sem, hdec, Int.reduceBEq, Int.reduceToNat]; try rfl)); (case hc => exact hcA))
      | (apply ev_step; (case hr => (simp only [go_sem, hdec, Int.reduceBEq, Int.reduceToNat]; try rfl)); (case hσ => (intro g u; simp only [go_sem, hdec, Int.reduceBEq, Int.reduceToNat]; try rfl)); (case hc => exact hcA); intro g u; (try clear u); (try clear g))
      | fail
    all_goals (refine resR_oneA ?_; simp only [go_sem])
    exact LeA.refl _
  · generalize ([a].any (·.null)) = n at *
    repeat' first
      | refine awp_seq ?_
      | refine awp_block ?_
      | refine awp_skip ?_
      | (refine reg _ (by (simp only [List.map_cons, List.map_nil]; rfl)) rfl ?_; intro K hK)
      | (apply ev_guardU; (case hj | hu | hσ => (simp only [go_sem, hdec, Int.reduceBEq, Int.reduceToNat]; try rfl)))
      | ((first | refine awp_cond _ (by rfl) ?_ ?_ | refine ev_guardT _ _ (by (simp only [go_sem, hdec, Int.reduceBEq, Int.reduceToNat]; rfl)) (by (simp only [go_sem, hdec, Int.reduceBEq, Int.reduceToNat]; rfl)) ?_ ?_ | refine ev_guardF _ _ (by (simp only [go_sem, hdec, Int.reduceBEq, Int.reduceToNat]; rfl)) (by (simp only [go_sem, hdec, Int.reduceBEq, Int.reduceToNat]; rfl)) ?_ ?_) <;> (intro hb; first | (cases hb; done) | (have ht : true = true := hb; clear ht hb) | (have ht : false = false := hb; clear ht hb) | (simp only [hb]) | skip))
      | (refine awp_exit ?_; simp only [thenA, blockA, scopeA, reduceIte, RetQ, Nat.reduceEqDiff])
      | (refine awp_ret ?_; simp only [thenA, blockA, scopeA, RetQ])
      | (refine ev_nil (hK _ ?_); clear hK K)
      | (apply regD; (case hd => (simp only [List.map_cons, List.map_nil]; rfl)); (case hok => rfl); (case' h => (intro K hK; (repeat' first
        | (apply evd_nil; refine (hK _ ?_); clear hK K)
        | (apply evd_step0; (case hr | hi | hσ => (simp only [go_sem, hdec, Int.reduceBEq, Int.reduceToNat]; try rfl)); (case hc => exact hcA))
        | (apply evd_step; (case hr | hi => (simp only [go_sem, hdec, Int.reduceBEq, Int.reduceToNat]; try rfl)); (case hc => exact hcA); (case hw | hσ => (intro g u; simp only [go_sem, hdec, Int.reduceBEq, Int.reduceToNat]; try rfl)); (case' hk => (intro g u; (try clear u); (try clear g))))
        | fail))); (case hB => kernel_rfl))
      | (apply ev_step0; (case hr | hσ => (simp only [go_sem, hdec, Int.reduceBEq, Int.reduceToNat]; try rfl)); (case hc => exact hcA))
      | (apply ev_step; (case hr => (simp only [go_sem, hdec, Int.reduceBEq, Int.reduceToNat]; try rfl)); (case hσ => (intro g u; simp only [go_sem, hdec, Int.reduceBEq, Int.reduceToNat]; try rfl)); (case hc => exact hcA); intro g u; (try clear u); (try clear g))
      | fail
    all_goals (refine resR_oneA ?_; simp only [go_sem])
    exact LeA.refl _
  · have a1 := f80_tail ha hb
    have hS : (if b.scale > a.scale then b.scale else a.scale) = S := hS.symm
    generalize ([a, b].any (·.null)) = n at *
    rcases hop with rfl | rfl
    all_goals
      repeat' first
        | refine awp_seq ?_
        | refine awp_block ?_
        | refine awp_skip ?_
        | (refine reg _ (by (simp only [List.map_cons, List.map_nil]; rfl)) rfl ?_; intro K hK)
        | (apply ev_guardU; (case hj | hu | hσ => (simp only [go_sem, hdec, Int.reduceBEq, Int.reduceToNat, hS]; try rfl)))
        | ((first | refine awp_cond _ (by rfl) ?_ ?_ | refine ev_guardT _ _ (by (simp only [go_sem, hdec, Int.reduceBEq, Int.reduceToNat, hS]; rfl)) (by (simp only [go_sem, hdec, Int.reduceBEq, Int.reduceToNat, hS]; rfl)) ?_ ?_ | refine ev_guardF _ _ (by (simp only [go_sem, hdec, Int.reduceBEq, Int.reduceToNat, hS]; rfl)) (by (simp only [go_sem, hdec, Int.reduceBEq, Int.reduceToNat, hS]; rfl)) ?_ ?_) <;> (intro hb; first | (cases hb; done) | (have ht : true = true := hb; clear ht hb) | (have ht : false = false := hb; clear ht hb) | (simp only [hb]) | skip))
        | (refine awp_exit ?_; simp only [thenA, blockA, scopeA, reduceIte, RetQ, Nat.reduceEqDiff])
        | (refine awp_ret ?_; simp only [thenA, blockA, scopeA, RetQ])
        | (refine ev_nil (hK _ ?_); clear hK K)
        | (apply ev_call0; (case hys => (simp only [go_sem, hdec, Int.reduceBEq, Int.reduceToNat, hS]; try rfl)); (case hs => first | exact a1 ..); (case hok | hσ => (simp only [go_sem, hdec, Int.reduceBEq, Int.reduceToNat, hS]; try rfl)))
        | (apply regD; (case hd => (simp only [List.map_cons, List.map_nil]; rfl)); (case hok => rfl); (case' h => (intro K hK; (repeat' first
        | (apply evd_nil; refine (hK _ ?_); clear hK K)
        | (apply evd_step0; (case hr | hi | hσ => (simp only [go_sem, hdec, Int.reduceBEq, Int.reduceToNat, hS]; try rfl)); (case hc => exact hcA))
        | (apply evd_step; (case hr | hi => (simp only [go_sem, hdec, Int.reduceBEq, Int.reduceToNat, hS]; try rfl)); (case hc => exact hcA); (case hw | hσ => (intro g u; simp only [go_sem, hdec, Int.reduceBEq, Int.reduceToNat, hS]; try rfl)); (case' hk => (intro g u; (try clear u); (try clear g))))
        | fail))); (case hB => kernel_rfl))
        | (apply ev_step0; (case hr | hσ => (simp only [go_sem, hdec, Int.reduceBEq, Int.reduceToNat, hS]; try rfl)); (case hc => exact hcA))
        | (apply ev_step; (case hr => (simp only [go_sem, hdec, Int.reduceBEq, Int.reduceToNat, hS]; try rfl)); (case hσ => (intro g u; simp only [go_sem, hdec, Int.reduceBEq, Int.reduceToNat, hS]; try rfl)); (case hc => exact hcA); intro g u; (try clear u); (try clear g))
        | fail
      all_goals (refine resR_oneA ?_; simp only [go_sem])
      exact LeA.refl _
  · have a1 := f80_tail ha hb
    generalize ([a, b].any (·.null)) = n at *
    repeat' first
      | refine awp_seq ?_
      | refine awp_block ?_
      | refine awp_skip ?_
      | (refine reg _ (by (simp only [List.map_cons, List.map_nil]; rfl)) rfl ?_; intro K hK)
      | (apply ev_guardU; (case hj | hu | hσ => (simp only [go_sem, hdec, Int.reduceBEq, Int.reduceToNat]; try rfl)))
      | ((first | refine awp_cond _ (by rfl) ?_ ?_ | refine ev_guardT _ _ (by (simp only [go_sem, hdec, Int.reduceBEq, Int.reduceToNat]; rfl)) (by (simp only [go_sem, hdec, Int.reduceBEq, Int.reduceToNat]; rfl)) ?_ ?_ | refine ev_guardF _ _ (by (simp only [go_sem, hdec, Int.reduceBEq, Int.reduceToNat]; rfl)) (by (simp only [go_sem, hdec, Int.reduceBEq, Int.reduceToNat]; rfl)) ?_ ?_) <;> (intro hb; first | (cases hb; done) | (have ht : true = true := hb; clear ht hb) | (have ht : false = false := hb; clear ht hb) | (simp only [hb]) | skip))
      | (refine awp_exit ?_; simp only [thenA, blockA, scopeA, reduceIte, RetQ, Nat.reduceEqDiff])
      | (refine awp_ret ?_; simp only [thenA, blockA, scopeA, RetQ])
      | (refine ev_nil (hK _ ?_); clear hK K)
      | (apply ev_call0; (case hys => (simp only [go_sem, hdec, Int.reduceBEq, Int.reduceToNat]; try rfl)); (case hs => first | exact a1 ..); (case hok | hσ => (simp only [go_sem, hdec, Int.reduceBEq, Int.reduceToNat]; try rfl)))
      | (apply regD; (case hd => (simp only [List.map_cons, List.map_nil]; rfl)); (case hok => rfl); (case' h => (intro K hK; (repeat' first
        | (apply evd_nil; refine (hK _ ?_); clear hK K)
        | (apply evd_step0; (case hr | hi | hσ => (simp only [go_sem, hdec, Int.reduceBEq, Int.reduceToNat]; try rfl)); (case hc => exact hcA))
        | (apply evd_step; (case hr | hi => (simp only [go_sem, hdec, Int.reduceBEq, Int.reduceToNat]; try rfl)); (case hc => exact hcA); (case hw | hσ => (intro g u; simp only [go_sem, hdec, Int.reduceBEq, Int.reduceToNat]; try rfl)); (case' hk => (intro g u; (try clear u); (try clear g))))
        | fail))); (case hB => kernel_rfl))
      | (apply ev_step0; (case hr | hσ => (simp only [go_sem, hdec, Int.reduceBEq, Int.reduceToNat]; try rfl)); (case hc => exact hcA))
      | (apply ev_step; (case hr => (simp only [go_sem, hdec, Int.reduceBEq, Int.reduceToNat]; try rfl)); (case hσ => (intro g u; simp only [go_sem, hdec, Int.reduceBEq, Int.reduceToNat]; try rfl)); (case hc => exact hcA); intro g u; (try clear u); (try clear g))
      | fail
    all_goals (refine resR_oneA ?_; simp only [go_sem])
    exact LeA.refl _
end
section
set_option linter.unusedVariables false
set_option linter.unusedSimpArgs false
open Go.RowKit
attribute [local irreducible] Spec SpecF SpecN
attribute [local irreducible] AWp evOps evD
theorem f65_leaf (T : Dat) (op c : Int) (v : Vl) (hop : op = 1 ∨ op = 2) (t : Ty) (h : Spec Tryd.prog 79 [.d T, .agg (exA (.leaf op c v))] (.agg (tydA t))) : Spec Tryd.prog 65 [.d T, .agg (exA (.leaf op c v))] (.agg (tydA t)) := by
  have a1 := f53_spec op (by omega)
  have e : arityM op = 0 := by unfold arityM; rw [if_pos hop]
  rw [e] at a1
  simp only [exA, opE, cE, vE, argsD] at h ⊢
  refine spec_of_awp (fn := Tryd.f65) Tryd.func65 (by kernel_rfl) rfl ?_
  intro w0 C0
  simp only [Tryd.ntmps65, litI, litB, litS, List.length_cons, List.length_nil, Nat.reduceAdd, Nat.reduceSub, List.replicate_succ, List.replicate_zero, List.cons_append, List.nil_append]
  repeat' first
    | refine awp_seq ?_
    | refine awp_block ?_
    | refine awp_skip ?_
    | (refine reg _ (by (simp only [List.map_cons, List.map_nil]; rfl)) rfl ?_; intro K hK)
    | (apply ev_guardU; (case hj | hu | hσ => (simp only [go_sem, Int.reduceBEq]; try rfl)))
    | ((first | refine awp_cond _ (by rfl) ?_ ?_ | refine ev_guardT _ _ (by (simp only [go_sem, Int.reduceBEq]; rfl)) (by (simp only [go_sem, Int.reduceBEq]; rfl)) ?_ ?_ | refine ev_guardF _ _ (by (simp only [go_sem, Int.reduceBEq]; rfl)) (by (simp only [go_sem, Int.reduceBEq]; rfl)) ?_ ?_) <;> (intro hb; first | (cases hb; done) | (have ht : true = true := hb; clear ht hb) | (have ht : false = false := hb; clear ht hb) | (simp only [hb]) | skip))
    | (refine awp_exit ?_; simp only [thenA, blockA, scopeA, reduceIte, RetQ, Nat.reduceEqDiff])
    | (refine awp_ret ?_; simp only [thenA, blockA, scopeA, RetQ])
    | (refine ev_nil (hK _ ?_); clear hK K)
    | (apply ev_call0; (case hys => (simp only [go_sem, Int.reduceBEq]; try rfl)); (case hs => first | exact a1 .. | exact h ..); (case hok | hσ => (simp only [go_sem, Int.reduceBEq]; try rfl)))
    | (apply ev_step0; (case hr | hσ => (simp only [go_sem, Int.reduceBEq]; try rfl)); (case hc => exact hcA))
    | (apply ev_step; (case hr => (simp only [go_sem, Int.reduceBEq]; try rfl)); (case hσ => (intro g u; simp only [go_sem, Int.reduceBEq]; try rfl)); (case hc => exact hcA); intro g u; (try clear u); (try clear g))
    | fail
  all_goals (refine resR_oneA ?_; simp only [go_sem])
  exact LeA.refl _
set_option maxHeartbeats 8000000 in
theorem f65_un (T : Dat) (op : Int) (p : Ex) (hop : op = 8 ∨ op = 9) (s t : Ty) (hp : Spec Tryd.prog 65 [.d T, .agg (exA p)] (.agg (tydA s))) (h : Spec Tryd.prog 80 [litI .i64 op, .d (tys [s])] (.agg (tydA t))) : Spec Tryd.prog 65 [.d T, .agg (exA (.un op p))] (.agg (tydA t)) := by
  have a1 := f53_spec op (by omega)
  have e : arityM op = 1 := by unfold arityM; rw [if_neg (by omega), if_pos hop]
  rw [e] at a1
  simp only [exA, opE_un, cE_un, vE_un, argsD_un] at hp ⊢
  refine spec_of_awp (fn := Tryd.f65) Tryd.func65 (by kernel_rfl) rfl ?_
  intro w0 C0
  simp only [Tryd.ntmps65, litI, litB, litS, List.length_cons, List.length_nil, Nat.reduceAdd, Nat.reduceSub, List.replicate_succ, List.replicate_zero, List.cons_append, List.nil_append]
  repeat' first
    | refine awp_seq ?_
    | refine awp_block ?_
    | refine awp_skip ?_
    | (refine reg _ (by (simp only [List.map_cons, List.map_nil]; rfl)) rfl ?_; intro K hK)
    | (apply ev_guardU; (case hj | hu | hσ => (simp only [go_sem, Int.reduceBEq, beq_self_eq_true, Bool.not_true, Bool.and_self]; try rfl)))
    | ((first | refine awp_cond _ (by rfl) ?_ ?_ | refine ev_guardT _ _ (by (simp only [go_sem, Int.reduceBEq, beq_self_eq_true, Bool.not_true, Bool.and_self]; rfl)) (by (simp only [go_sem, Int.reduceBEq, beq_self_eq_true, Bool.not_true, Bool.and_self]; rfl)) ?_ ?_ | refine ev_guardF _ _ (by (simp only [go_sem, Int.reduceBEq, beq_self_eq_true, Bool.not_true, Bool.and_self]; rfl)) (by (simp only [go_sem, Int.reduceBEq, beq_self_eq_true, Bool.not_true, Bool.and_self]; rfl)) ?_ ?_) <;> (intro hb; first | (cases hb; done) | (have ht : true = true := hb; clear ht hb) | (have ht : false = false := hb; clear ht hb) | (simp only [hb]) | skip))
    | (refine awp_exit ?_; simp only [thenA, blockA, scopeA, reduceIte, RetQ, Nat.reduceEqDiff])
    | (refine awp_ret ?_; simp only [thenA, blockA, scopeA, RetQ])
    | (refine ev_nil (hK _ ?_); clear hK K)
    | (apply ev_call0; (case hys => (simp only [go_sem, Int.reduceBEq, beq_self_eq_true, Bool.not_true, Bool.and_self]; try rfl)); (case hs => first | exact a1 .. | exact f27_spec ..); (case hok | hσ => (simp only [go_sem, Int.reduceBEq, beq_self_eq_true, Bool.not_true, Bool.and_self]; try rfl)))
    | (apply regD; (case hd => (simp only [List.map_cons, List.map_nil]; rfl)); (case hok => rfl); (case' h => (intro K hK; (repeat' first
        | (apply evd_nil; refine (hK _ ?_); clear hK K)
        | (apply evd_guardU0; (case hj | hu | hσ => (simp only [go_sem, Int.reduceBEq, beq_self_eq_true, Bool.not_true, Bool.and_self]; try rfl)))
        | (apply evd_guardU; (case hj | hu | hσ => (simp only [go_sem, Int.reduceBEq, beq_self_eq_true, Bool.not_true, Bool.and_self]; try rfl)))
        | (apply evd_skipT0; (case hj | hb | hσ => (simp only [go_sem, Int.reduceBEq, beq_self_eq_true, Bool.not_true, Bool.and_self]; try rfl)))
        | (apply evd_skipF0; (case hj | hb | hσ => (simp only [go_sem, Int.reduceBEq, beq_self_eq_true, Bool.not_true, Bool.and_self]; try rfl)))
        | (apply evd_skipT; (case hj | hb | hσ => (simp only [go_sem, Int.reduceBEq, beq_self_eq_true, Bool.not_true, Bool.and_self]; try rfl)))
        | (apply evd_skipF; (case hj | hb | hσ => (simp only [go_sem, Int.reduceBEq, beq_self_eq_true, Bool.not_true, Bool.and_self]; try rfl)))
        | (apply evd_guardT; (case hj | hb => (simp only [go_sem, Int.reduceBEq, beq_self_eq_true, Bool.not_true, Bool.and_self]; try rfl)); (case' h2 => (intro hb; first | (cases hb; done) | (simp only [hb]) | skip)); (case' h1 => (intro hb; first | (cases hb; done) | (simp only [hb]) | skip)))
        | (apply evd_guardF; (case hj | hb => (simp only [go_sem, Int.reduceBEq, beq_self_eq_true, Bool.not_true, Bool.and_self]; try rfl)); (case' h2 => (intro hb; first | (cases hb; done) | (simp only [hb]) | skip)); (case' h1 => (intro hb; first | (cases hb; done) | (simp only [hb]) | skip)))
        | (apply evd_call0; (case hi | hys => (simp only [go_sem, Int.reduceBEq, beq_self_eq_true, Bool.not_true, Bool.and_self]; try rfl)); (case hs => first | exact a1 .. | exact f27_spec ..); (case hok | hw | hσ => (simp only [go_sem, Int.reduceBEq, beq_self_eq_true, Bool.not_true, Bool.and_self]; try rfl)))
        | (apply evd_step0; (case hr | hi | hσ => (simp only [go_sem, Int.reduceBEq, beq_self_eq_true, Bool.not_true, Bool.and_self]; try rfl)); (case hc => exact hcA))
        | (apply evd_step; (case hr | hi => (simp only [go_sem, Int.reduceBEq, beq_self_eq_true, Bool.not_true, Bool.and_self]; try rfl)); (case hc => exact hcA); (case hw | hσ => (intro g u; simp only [go_sem, Int.reduceBEq, beq_self_eq_true, Bool.not_true, Bool.and_self]; try rfl)); (case' hk => (intro g u; (try clear u); (try clear g))))
        | fail))); (case hB => kernel_rfl))
    | (apply ev_step0; (case hr | hσ => (simp only [go_sem, Int.reduceBEq, beq_self_eq_true, Bool.not_true, Bool.and_self]; try rfl)); (case hc => exact hcA))
    | (apply ev_step; (case hr => (simp only [go_sem, Int.reduceBEq, beq_self_eq_true, Bool.not_true, Bool.and_self]; try rfl)); (case hσ => (intro g u; simp only [go_sem, Int.reduceBEq, beq_self_eq_true, Bool.not_true, Bool.and_self]; try rfl)); (case hc => exact hcA); intro g u; (try clear u); (try clear g))
    | fail
  rename_i g3 _ _ _
  revert g; intro g4
  revert u; intro u0
  refine awp_loopI (fun j : Nat × Value => j.1 ≤ 1) (fun j => 1 - j.1) (fun j => ⟨[.d T, .any, .any, .ptr 3 g3 0, .ptr 4 g4 0, litI .i64 1, .own 37 j.2, litI .i64 (j.1 : Int), .any, .any, .any, .any, .any, .any, .any, .any, .any, .any, .any, .any, .any, .any, .any, .any, .any, .any, .any, .any, .any, .any, .any, .any, .any, .any, .any, .any, .any, .any, .any, .any, .any, .any, .any, .any, .any, .any, .any, .any, .any, .any, .any, .any, .any, .any, .any, .any, .any, .any, .any, .any, .any, .any, .any], [.no, .no, .no, .box g3 (exA (.un op p)), .box g4 [litI .i64 0, litI .i64 0, litB false, litI .i64 0], .no, .no, .no, .no, .no, .no, .no, .no, .no, .no, .no, .no, .no, .no, .no, .no, .no, .no, .no, .no, .no, .no, .no, .no, .no, .no, .no, .no, .no, .no, .no, .no, .row j.2 67 3 ((([s] : List Ty).take j.1).map tyD), .no, .no, .no, .no, .no, .no, .no, .no, .no, .no, .no, .no, .no, .no, .no, .no, .no, .no, .no, .no, .no, .no, .no, .no, .no]⟩) (0, u0) (by simp) ?_ ?_
  · simp only [exA, opE_un, cE_un, vE_un, argsD_un, List.take_zero, List.take_succ_cons, List.map_cons, List.map_nil]
    exact wkA
  rintro ⟨j, u⟩ hj
  simp only [litI, litB, litS] at hj hp h ⊢
  obtain rfl | rfl : j = 0 ∨ j = 1 := by omega
  · simp only [exA, opE_un, cE_un, vE_un, argsD_un, List.take_zero, List.take_succ_cons, List.map_cons, List.map_nil, litI, litB, litS]
    have d1 : decide (((0 : Nat) : Int) < 1) = true := by decide
    have w1 : IntKind.i64.wrap (((0 : Nat) : Int) + 1) = 1 := by decide
    repeat' first
      | refine awp_seq ?_
      | refine awp_block ?_
      | refine awp_skip ?_
      | (refine reg _ (by (simp only [List.map_cons, List.map_nil]; rfl)) rfl ?_; intro K hK)
      | (apply ev_guardU; (case hj | hu | hσ => (simp only [go_sem, d1, w1, Int.reduceToNat, bne_self_eq_false]; try rfl)))
      | ((first | refine awp_cond _ (by rfl) ?_ ?_ | refine ev_guardT _ _ (by (simp only [go_sem, d1, w1, Int.reduceToNat, bne_self_eq_false]; rfl)) (by (simp only [go_sem, d1, w1, Int.reduceToNat, bne_self_eq_false]; rfl)) ?_ ?_ | refine ev_guardF _ _ (by (simp only [go_sem, d1, w1, Int.reduceToNat, bne_self_eq_false]; rfl)) (by (simp only [go_sem, d1, w1, Int.reduceToNat, bne_self_eq_false]; rfl)) ?_ ?_) <;> (intro hb; first | (cases hb; done) | (have ht : true = true := hb; clear ht hb) | (have ht : false = false := hb; clear ht hb) | (simp only [hb]) | skip))
      | (refine awp_exit ?_; simp only [thenA, blockA, scopeA, reduceIte, RetQ, Nat.reduceEqDiff])
      | (refine awp_ret ?_; simp only [thenA, blockA, scopeA, RetQ])
      | (refine ev_nil (hK _ ?_); clear hK K)
      | (apply ev_call0; (case hys => (simp only [go_sem, d1, w1, Int.reduceToNat, bne_self_eq_false]; try rfl)); (case hs => first | exact hp ..); (case hok | hσ => (simp only [go_sem, d1, w1, Int.reduceToNat, bne_self_eq_false]; try rfl)))
      | (apply ev_step0; (case hr | hσ => (simp only [go_sem, d1, w1, Int.reduceToNat, bne_self_eq_false]; try rfl)); (case hc => exact hcA))
      | (apply ev_step; (case hr => (simp only [go_sem, d1, w1, Int.reduceToNat, bne_self_eq_false]; try rfl)); (case hσ => (intro g u; simp only [go_sem, d1, w1, Int.reduceToNat, bne_self_eq_false]; try rfl)); (case hc => exact hcA); intro g u; (try clear u); (try clear g))
      | fail
    refine Exists.intro (1, u) ⟨by simp, by simp, ?_⟩
    simp only [exA, opE_un, cE_un, vE_un, argsD_un, List.take_zero, List.take_succ_cons, List.map_cons, List.map_nil]
    exact wkA
  simp only [exA, opE_un, cE_un, vE_un, argsD_un, List.take_zero, List.take_succ_cons, List.map_cons, List.map_nil, litI, litB, litS]
  have d1 : decide (((1 : Nat) : Int) < 1) = false := by decide
  repeat' first
    | refine awp_seq ?_
    | refine awp_block ?_
    | refine awp_skip ?_
    | (refine reg _ (by (simp only [List.map_cons, List.map_nil]; rfl)) rfl ?_; intro K hK)
    | (apply ev_guardU; (case hj | hu | hσ => (simp only [go_sem, d1, Int.reduceToNat]; try rfl)))
    | ((first | refine awp_cond _ (by rfl) ?_ ?_ | refine ev_guardT _ _ (by (simp only [go_sem, d1, Int.reduceToNat]; rfl)) (by (simp only [go_sem, d1, Int.reduceToNat]; rfl)) ?_ ?_ | refine ev_guardF _ _ (by (simp only [go_sem, d1, Int.reduceToNat]; rfl)) (by (simp only [go_sem, d1, Int.reduceToNat]; rfl)) ?_ ?_) <;> (intro hb; first | (cases hb; done) | (have ht : true = true := hb; clear ht hb) | (have ht : false = false := hb; clear ht hb) | (simp only [hb]) | skip))
    | (refine awp_exit ?_; simp only [thenA, blockA, scopeA, reduceIte, RetQ, Nat.reduceEqDiff])
    | (refine awp_ret ?_; simp only [thenA, blockA, scopeA, RetQ])
    | (refine ev_nil (hK _ ?_); clear hK K)
    | (apply ev_call0; (case hys => (simp only [go_sem, d1, Int.reduceToNat]; try rfl)); (case hs => first | exact h ..); (case hok | hσ => (simp only [go_sem, d1, Int.reduceToNat]; try rfl)))
    | (apply ev_step0; (case hr | hσ => (simp only [go_sem, d1, Int.reduceToNat]; try rfl)); (case hc => exact hcA))
    | (apply ev_step; (case hr => (simp only [go_sem, d1, Int.reduceToNat]; try rfl)); (case hσ => (intro g u; simp only [go_sem, d1, Int.reduceToNat]; try rfl)); (case hc => exact hcA); intro g u; (try clear u); (try clear g))
    | fail
  all_goals (refine resR_oneA ?_; simp only [go_sem])
  exact LeA.refl _
set_option maxHeartbeats 8000000 in
theorem f65_bi (T : Dat) (op : Int) (p q : Ex) (hop : (3 ≤ op ∧ op ≤ 7) ∨ (10 ≤ op ∧ op ≤ 12)) (s r t : Ty) (hp : Spec Tryd.prog 65 [.d T, .agg (exA p)] (.agg (tydA s))) (hq : Spec Tryd.prog 65 [.d T, .agg (exA q)] (.agg (tydA r))) (h : Spec Tryd.prog 80 [litI .i64 op, .d (tys [s, r])] (.agg (tydA t))) : Spec Tryd.prog 65 [.d T, .agg (exA (.bi op p q))] (.agg (tydA t)) := by
  have a1 := f53_spec op (by omega)
  have e : arityM op = 2 := by unfold arityM; rw [if_neg (by omega), if_neg (by omega), if_pos hop]
  rw [e] at a1
  simp only [exA, opE_bi, cE_bi, vE_bi, argsD_bi] at hp hq ⊢
  refine spec_of_awp (fn := Tryd.f65) Tryd.func65 (by kernel_rfl) rfl ?_
  intro w0 C0
  simp only [Tryd.ntmps65, litI, litB, litS, List.length_cons, List.length_nil, Nat.reduceAdd, Nat.reduceSub, List.replicate_succ, List.replicate_zero, List.cons_append, List.nil_append]
  repeat' first
    | refine awp_seq ?_
    | refine awp_block ?_
    | refine awp_skip ?_
    | (refine reg _ (by (simp only [List.map_cons, List.map_nil]; rfl)) rfl ?_; intro K hK)
    | (apply ev_guardU; (case hj | hu | hσ => (simp only [go_sem, Int.reduceBEq, beq_self_eq_true, Bool.not_true, Bool.and_self]; try rfl)))
    | ((first | refine awp_cond _ (by rfl) ?_ ?_ | refine ev_guardT _ _ (by (simp only [go_sem, Int.reduceBEq, beq_self_eq_true, Bool.not_true, Bool.and_self]; rfl)) (by (simp only [go_sem, Int.reduceBEq, beq_self_eq_true, Bool.not_true, Bool.and_self]; rfl)) ?_ ?_ | refine ev_guardF _ _ (by (simp only [go_sem, Int.reduceBEq, beq_self_eq_true, Bool.not_true, Bool.and_self]; rfl)) (by (simp only [go_sem, Int.reduceBEq, beq_self_eq_true, Bool.not_true, Bool.and_self]; rfl)) ?_ ?_) <;> (intro hb; first | (cases hb; done) | (have ht : true = true := hb; clear ht hb) | (have ht : false = false := hb; clear ht hb) | (simp only [hb]) | skip))
    | (refine awp_exit ?_; simp only [thenA, blockA, scopeA, reduceIte, RetQ, Nat.reduceEqDiff])
    | (refine awp_ret ?_; simp only [thenA, blockA, scopeA, RetQ])
    | (refine ev_nil (hK _ ?_); clear hK K)
    | (apply ev_call0; (case hys => (simp only [go_sem, Int.reduceBEq, beq_self_eq_true, Bool.not_true, Bool.and_self]; try rfl)); (case hs => first | exact a1 .. | exact f27_spec ..); (case hok | hσ => (simp only [go_sem, Int.reduceBEq, beq_self_eq_true, Bool.not_true, Bool.and_self]; try rfl)))
    | (apply regD; (case hd => (simp only [List.map_cons, List.map_nil]; rfl)); (case hok => rfl); (case' h => (intro K hK; (repeat' first
        | (apply evd_nil; refine (hK _ ?_); clear hK K)
        | (apply evd_guardU0; (case hj | hu | hσ => (simp only [go_sem, Int.reduceBEq, beq_self_eq_true, Bool.not_true, Bool.and_self]; try rfl)))
        | (apply evd_guardU; (case hj | hu | hσ => (simp only [go_sem, Int.reduceBEq, beq_self_eq_true, Bool.not_true, Bool.and_self]; try rfl)))
        | (apply evd_skipT0; (case hj | hb | hσ => (simp only [go_sem, Int.reduceBEq, beq_self_eq_true, Bool.not_true, Bool.and_self]; try rfl)))
        | (apply evd_skipF0; (case hj | hb | hσ => (simp only [go_sem, Int.reduceBEq, beq_self_eq_true, Bool.not_true, Bool.and_self]; try rfl)))
        | (apply evd_skipT; (case hj | hb | hσ => (simp only [go_sem, Int.reduceBEq, beq_self_eq_true, Bool.not_true, Bool.and_self]; try rfl)))
        | (apply evd_skipF; (case hj | hb | hσ => (simp only [go_sem, Int.reduceBEq, beq_self_eq_true, Bool.not_true, Bool.and_self]; try rfl)))
        | (apply evd_guardT; (case hj | hb => (simp only [go_sem, Int.reduceBEq, beq_self_eq_true, Bool.not_true, Bool.and_self]; try rfl)); (case' h2 => (intro hb; first | (cases hb; done) | (simp only [hb]) | skip)); (case' h1 => (intro hb; first | (cases hb; done) | (simp only [hb]) | skip)))
        | (apply evd_guardF; (case hj | hb => (simp only [go_sem, Int.reduceBEq, beq_self_eq_true, Bool.not_true, Bool.and_self]; try rfl)); (case' h2 => (intro hb; first | (cases hb; done) | (simp only [hb]) | skip)); (case' h1 => (intro hb; first | (cases hb; done) | (simp only [hb]) | skip)))
        | (apply evd_call0; (case hi | hys => (simp only [go_sem, Int.reduceBEq, beq_self_eq_true, Bool.not_true, Bool.and_self]; try rfl)); (case hs => first | exact a1 .. | exact f27_spec ..); (case hok | hw | hσ => (simp only [go_sem, Int.reduceBEq, beq_self_eq_true, Bool.not_true, Bool.and_self]; try rfl)))
        | (apply evd_step0; (case hr | hi | hσ => (simp only [go_sem, Int.reduceBEq, beq_self_eq_true, Bool.not_true, Bool.and_self]; try rfl)); (case hc => exact hcA))
        | (apply evd_step; (case hr | hi => (simp only [go_sem, Int.reduceBEq, beq_self_eq_true, Bool.not_true, Bool.and_self]; try rfl)); (case hc => exact hcA); (case hw | hσ => (intro g u; simp only [go_sem, Int.reduceBEq, beq_self_eq_true, Bool.not_true, Bool.and_self]; try rfl)); (case' hk => (intro g u; (try clear u); (try clear g))))
        | fail))); (case hB => kernel_rfl))
    | (apply ev_step0; (case hr | hσ => (simp only [go_sem, Int.reduceBEq, beq_self_eq_true, Bool.not_true, Bool.and_self]; try rfl)); (case hc => exact hcA))
    | (apply ev_step; (case hr => (simp only [go_sem, Int.reduceBEq, beq_self_eq_true, Bool.not_true, Bool.and_self]; try rfl)); (case hσ => (intro g u; simp only [go_sem, Int.reduceBEq, beq_self_eq_true, Bool.not_true, Bool.and_self]; try rfl)); (case hc => exact hcA); intro g u; (try clear u); (try clear g))
    | fail
  rename_i g3 _ _ _
  revert g; intro g4
  revert u; intro u0
  refine awp_loopI (fun j : Nat × Value => j.1 ≤ 2) (fun j => 2 - j.1) (fun j => ⟨[.d T, .any, .any, .ptr 3 g3 0, .ptr 4 g4 0, litI .i64 2, .own 37 j.2, litI .i64 (j.1 : Int), .any, .any, .any, .any, .any, .any, .any, .any, .any, .any, .any, .any, .any, .any, .any, .any, .any, .any, .any, .any, .any, .any, .any, .any, .any, .any, .any, .any, .any, .any, .any, .any, .any, .any, .any, .any, .any, .any, .any, .any, .any, .any, .any, .any, .any, .any, .any, .any, .any, .any, .any, .any, .any, .any, .any], [.no, .no, .no, .box g3 (exA (.bi op p q)), .box g4 [litI .i64 0, litI .i64 0, litB false, litI .i64 0], .no, .no, .no, .no, .no, .no, .no, .no, .no, .no, .no, .no, .no, .no, .no, .no, .no, .no, .no, .no, .no, .no, .no, .no, .no, .no, .no, .no, .no, .no, .no, .no, .row j.2 67 3 ((([s, r] : List Ty).take j.1).map tyD), .no, .no, .no, .no, .no, .no, .no, .no, .no, .no, .no, .no, .no, .no, .no, .no, .no, .no, .no, .no, .no, .no, .no, .no, .no]⟩) (0, u0) (by simp) ?_ ?_
  · simp only [exA, opE_bi, cE_bi, vE_bi, argsD_bi, List.take_zero, List.take_succ_cons, List.map_cons, List.map_nil]
    exact wkA
  rintro ⟨j, u⟩ hj
  simp only [litI, litB, litS] at hj hp hq h ⊢
  obtain rfl | rfl | rfl : j = 0 ∨ j = 1 ∨ j = 2 := by omega
  · simp only [exA, opE_bi, cE_bi, vE_bi, argsD_bi, List.take_zero, List.take_succ_cons, List.map_cons, List.map_nil, litI, litB, litS]
    have d1 : decide (((0 : Nat) : Int) < 2) = true := by decide
    have w1 : IntKind.i64.wrap (((0 : Nat) : Int) + 1) = 1 := by decide
    repeat' first
      | refine awp_seq ?_
      | refine awp_block ?_
      | refine awp_skip ?_
      | (refine reg _ (by (simp only [List.map_cons, List.map_nil]; rfl)) rfl ?_; intro K hK)
      | (apply ev_guardU; (case hj | hu | hσ => (simp only [go_sem, d1, w1, Int.reduceToNat, bne_self_eq_false]; try rfl)))
      | ((first | refine awp_cond _ (by rfl) ?_ ?_ | refine ev_guardT _ _ (by (simp only [go_sem, d1, w1, Int.reduceToNat, bne_self_eq_false]; rfl)) (by (simp only [go_sem, d1, w1, Int.reduceToNat, bne_self_eq_false]; rfl)) ?_ ?_ | refine ev_guardF _ _ (by (simp only [go_sem, d1, w1, Int.reduceToNat, bne_self_eq_false]; rfl)) (by (simp only [go_sem, d1, w1, Int.reduceToNat, bne_self_eq_false]; rfl)) ?_ ?_) <;> (intro hb; first | (cases hb; done) | (have ht : true = true := hb; clear ht hb) | (have ht : false = false := hb; clear ht hb) | (simp only [hb]) | skip))
      | (refine awp_exit ?_; simp only [thenA, blockA, scopeA, reduceIte, RetQ, Nat.reduceEqDiff])
      | (refine awp_ret ?_; simp only [thenA, blockA, scopeA, RetQ])
      | (refine ev_nil (hK _ ?_); clear hK K)
      | (apply ev_call0; (case hys => (simp only [go_sem, d1, w1, Int.reduceToNat, bne_self_eq_false]; try rfl)); (case hs => first | exact hp ..); (case hok | hσ => (simp only [go_sem, d1, w1, Int.reduceToNat, bne_self_eq_false]; try rfl)))
      | (apply ev_step0; (case hr | hσ => (simp only [go_sem, d1, w1, Int.reduceToNat, bne_self_eq_false]; try rfl)); (case hc => exact hcA))
      | (apply ev_step; (case hr => (simp only [go_sem, d1, w1, Int.reduceToNat, bne_self_eq_false]; try rfl)); (case hσ => (intro g u; simp only [go_sem, d1, w1, Int.reduceToNat, bne_self_eq_false]; try rfl)); (case hc => exact hcA); intro g u; (try clear u); (try clear g))
      | fail
    refine Exists.intro (1, u) ⟨by simp, by simp, ?_⟩
    simp only [exA, opE_bi, cE_bi, vE_bi, argsD_bi, List.take_zero, List.take_succ_cons, List.map_cons, List.map_nil]
    exact wkA
  · simp only [exA, opE_bi, cE_bi, vE_bi, argsD_bi, List.take_zero, List.take_succ_cons, List.map_cons, List.map_nil, litI, litB, litS]
    have d1 : decide (((1 : Nat) : Int) < 2) = true := by decide
    have w1 : IntKind.i64.wrap (((1 : Nat) : Int) + 1) = 2 := by decide
    repeat' first
      | refine awp_seq ?_
      | refine awp_block ?_
      | refine awp_skip ?_
      | (refine reg _ (by (simp only [List.map_cons, List.map_nil]; rfl)) rfl ?_; intro K hK)
      | (apply ev_guardU; (case hj | hu | hσ => (simp only [go_sem, d1, w1, Int.reduceToNat, bne_self_eq_false]; try rfl)))
      | ((first | refine awp_cond _ (by rfl) ?_ ?_ | refine ev_guardT _ _ (by (simp only [go_sem, d1, w1, Int.reduceToNat, bne_self_eq_false]; rfl)) (by (simp only [go_sem, d1, w1, Int.reduceToNat, bne_self_eq_false]; rfl)) ?_ ?_ | refine ev_guardF _ _ (by (simp only [go_sem, d1, w1, Int.reduceToNat, bne_self_eq_false]; rfl)) (by (simp only [go_sem, d1, w1, Int.reduceToNat, bne_self_eq_false]; rfl)) ?_ ?_) <;> (intro hb; first | (cases hb; done) | (have ht : true = true := hb; clear ht hb) | (have ht : false = false := hb; clear ht hb) | (simp only [hb]) | skip))
      | (refine awp_exit ?_; simp only [thenA, blockA, scopeA, reduceIte, RetQ, Nat.reduceEqDiff])
      | (refine awp_ret ?_; simp only [thenA, blockA, scopeA, RetQ])
      | (refine ev_nil (hK _ ?_); clear hK K)
      | (apply ev_call0; (case hys => (simp only [go_sem, d1, w1, Int.reduceToNat, bne_self_eq_false]; try rfl)); (case hs => first | exact hq ..); (case hok | hσ => (simp only [go_sem, d1, w1, Int.reduceToNat, bne_self_eq_false]; try rfl)))
      | (apply ev_step0; (case hr | hσ => (simp only [go_sem, d1, w1, Int.reduceToNat, bne_self_eq_false]; try rfl)); (case hc => exact hcA))
      | (apply ev_step; (case hr => (simp only [go_sem, d1, w1, Int.reduceToNat, bne_self_eq_false]; try rfl)); (case hσ => (intro g u; simp only [go_sem, d1, w1, Int.reduceToNat, bne_self_eq_false]; try rfl)); (case hc => exact hcA); intro g u; (try clear u); (try clear g))
      | fail
    refine Exists.intro (2, u) ⟨by simp, by simp, ?_⟩
    simp only [exA, opE_bi, cE_bi, vE_bi, argsD_bi, List.take_zero, List.take_succ_cons, List.map_cons, List.map_nil]
    exact wkA
  simp only [exA, opE_bi, cE_bi, vE_bi, argsD_bi, List.take_zero, List.take_succ_cons, List.map_cons, List.map_nil, litI, litB, litS]
  have d1 : decide (((2 : Nat) : Int) < 2) = false := by decide
  repeat' first
    | refine awp_seq ?_
    | refine awp_block ?_
    | refine awp_skip ?_
    | (refine reg _ (by (simp only [List.map_cons, List.map_nil]; rfl)) rfl ?_; intro K hK)
    | (apply ev_guardU; (case hj | hu | hσ => (simp only [go_sem, d1, Int.reduceToNat]; try rfl)))
    | ((first | refine awp_cond _ (by rfl) ?_ ?_ | refine ev_guardT _ _ (by (simp only [go_sem, d1, Int.reduceToNat]; rfl)) (by (simp only [go_sem, d1, Int.reduceToNat]; rfl)) ?_ ?_ | refine ev_guardF _ _ (by (simp only [go_sem, d1, Int.reduceToNat]; rfl)) (by (simp only [go_sem, d1, Int.reduceToNat]; rfl)) ?_ ?_) <;> (intro hb; first | (cases hb; done) | (have ht : true = true := hb; clear ht hb) | (have ht : false = false := hb; clear ht hb) | (simp only [hb]) | skip))
    | (refine awp_exit ?_; simp only [thenA, blockA, scopeA, reduceIte, RetQ, Nat.reduceEqDiff])
    | (refine awp_ret ?_; simp only [thenA, blockA, scopeA, RetQ])
    | (refine ev_nil (hK _ ?_); clear hK K)
    | (apply ev_call0; (case hys => (simp only [go_sem, d1, Int.reduceToNat]; try rfl)); (case hs => first | exact h ..); (case hok | hσ => (simp only [go_sem, d1, Int.reduceToNat]; try rfl)))
    | (apply ev_step0; (case hr | hσ => (simp only [go_sem, d1, Int.reduceToNat]; try rfl)); (case hc => exact hcA))
    | (apply ev_step; (case hr => (simp only [go_sem, d1, Int.reduceToNat]; try rfl)); (case hσ => (intro g u; simp only [go_sem, d1, Int.reduceToNat]; try rfl)); (case hc => exact hcA); intro g u; (try clear u); (try clear g))
    | fail
  all_goals (refine resR_oneA ?_; simp only [go_sem])
  exact LeA.refl _
theorem f64_leaf (op c : Int) (v : Vl) : Spec Tryd.prog 64 [.agg (exA (.leaf op c v))] (litI .i64 ((1 : Nat) : Int)) := by
  simp only [exA, opE, cE, vE, argsD]
  refine spec_of_awp (fn := Tryd.f64) Tryd.func64 (by kernel_rfl) rfl ?_
  intro w0 C0
  simp only [Tryd.ntmps64, litI, litB, litS, List.length_cons, List.length_nil, Nat.reduceAdd, Nat.reduceSub, List.replicate_succ, List.replicate_zero, List.cons_append, List.nil_append]
  repeat' first
    | refine awp_seq ?_
    | refine awp_block ?_
    | refine awp_skip ?_
    | (refine reg _ (by (simp only [List.map_cons, List.map_nil]; rfl)) rfl ?_; intro K hK)
    | ((refine awp_cond _ (by rfl) ?_ ?_) <;> (intro hb; first | (cases hb; done) | (have ht : true = true := hb; clear ht hb) | (have ht : false = false := hb; clear ht hb) | (simp only [hb]) | skip))
    | (refine awp_exit ?_; simp only [thenA, blockA, scopeA, reduceIte, RetQ, Nat.reduceEqDiff])
    | (refine awp_ret ?_; simp only [thenA, blockA, scopeA, RetQ])
    | (refine ev_nil (hK _ ?_); clear hK K)
    | (apply ev_step0; (case hr | hσ => (simp only [go_sem]; try rfl)); (case hc => exact hcA))
    | (apply ev_step; (case hr => (simp only [go_sem]; try rfl)); (case hσ => (intro g u; simp only [go_sem]; try rfl)); (case hc => exact hcA); intro g u; (try clear u); (try clear g))
    | fail
  refine awp_loopI (fun i : Nat => i = 0) (fun i => 0) (fun i => ⟨[.any, .ptr 1 g 0, litI .i64 0, litI .i64 1, litI .i64 0, .any, .any, .any, .any, .any, .any, .any, .any, .any, .any, .any, .any, .any, .any, .any, .any], [.no, .box g (exA (.leaf op c v)), .no, .no, .no, .no, .no, .no, .no, .no, .no, .no, .no, .no, .no, .no, .no, .no, .no, .no, .no]⟩) 0 rfl ?_ ?_
  · simp only [exA, opE, cE, vE, argsD]
    exact wkA
  rintro i rfl
  simp only [litI, litB, litS, exA, opE, cE, vE, argsD]
  repeat' first
    | refine awp_seq ?_
    | refine awp_block ?_
    | refine awp_skip ?_
    | (refine reg _ (by (simp only [List.map_cons, List.map_nil]; rfl)) rfl ?_; intro K hK)
    | ((refine awp_cond _ (by rfl) ?_ ?_) <;> (intro hb; first | (cases hb; done) | (have ht : true = true := hb; clear ht hb) | (have ht : false = false := hb; clear ht hb) | (simp only [hb]) | skip))
    | (refine awp_exit ?_; simp only [thenA, blockA, scopeA, reduceIte, RetQ, Nat.reduceEqDiff])
    | (refine awp_ret ?_; simp only [thenA, blockA, scopeA, RetQ])
    | (refine ev_nil (hK _ ?_); clear hK K)
    | (apply ev_step0; (case hr | hσ => (simp only [go_sem]; try rfl)); (case hc => exact hcA))
    | (apply ev_step; (case hr => (simp only [go_sem]; try rfl)); (case hσ => (intro g u; simp only [go_sem]; try rfl)); (case hc => exact hcA); intro g u; (try clear u); (try clear g))
    | fail
  all_goals (refine resR_oneA ?_; simp only [go_sem])
  exact LeA.refl _
set_option maxHeartbeats 4000000 in
theorem f64_un (op : Int) (p : Ex) (m : Nat) (hp : Spec Tryd.prog 64 [.agg (exA p)] (litI .i64 (m : Int))) (bp : m ≤ 1000000) : Spec Tryd.prog 64 [.agg (exA (.un op p))] (litI .i64 ((1 + m : Nat) : Int)) := by
  simp only [exA, opE_un, cE_un, vE_un, argsD_un] at hp ⊢
  refine spec_of_awp (fn := Tryd.f64) Tryd.func64 (by kernel_rfl) rfl ?_
  intro w0 C0
  simp only [Tryd.ntmps64, litI, litB, litS, List.length_cons, List.length_nil, Nat.reduceAdd, Nat.reduceSub, List.replicate_succ, List.replicate_zero, List.cons_append, List.nil_append]
  repeat' first
    | refine awp_seq ?_
    | refine awp_block ?_
    | refine awp_skip ?_
    | (refine reg _ (by (simp only [List.map_cons, List.map_nil]; rfl)) rfl ?_; intro K hK)
    | ((refine awp_cond _ (by rfl) ?_ ?_) <;> (intro hb; first | (cases hb; done) | (have ht : true = true := hb; clear ht hb) | (have ht : false = false := hb; clear ht hb) | (simp only [hb]) | skip))
    | (refine awp_exit ?_; simp only [thenA, blockA, scopeA, reduceIte, RetQ, Nat.reduceEqDiff])
    | (refine awp_ret ?_; simp only [thenA, blockA, scopeA, RetQ])
    | (refine ev_nil (hK _ ?_); clear hK K)
    | (apply ev_step0; (case hr | hσ => (simp only [go_sem]; try rfl)); (case hc => exact hcA))
    | (apply ev_step; (case hr => (simp only [go_sem]; try rfl)); (case hσ => (intro g u; simp only [go_sem]; try rfl)); (case hc => exact hcA); intro g u; (try clear u); (try clear g))
    | fail
  refine awp_loopI (fun i : Nat => i ≤ 1) (fun i => 1 - i) (fun i => ⟨[.any, .ptr 1 g 0, litI .i64 0, litI .i64 (((1 :: ([m] : List Nat).take i).foldl (· + ·) 0 : Nat) : Int), litI .i64 (i : Int), .any, .any, .any, .any, .any, .any, .any, .any, .any, .any, .any, .any, .any, .any, .any, .any], [.no, .box g (exA (.un op p)), .no, .no, .no, .no, .no, .no, .no, .no, .no, .no, .no, .no, .no, .no, .no, .no, .no, .no, .no]⟩) 0 (by omega) ?_ ?_
  · simp only [exA, opE_un, cE_un, vE_un, argsD_un, List.take_zero, List.take_succ_cons, List.take_nil, List.foldl_cons, List.foldl_nil, Nat.zero_add]
    exact wkA
  intro i hi
  simp only [litI, litB, litS] at hi hp ⊢
  obtain rfl | rfl : i = 0 ∨ i = 1 := by omega
  · simp only [exA, opE_un, cE_un, vE_un, argsD_un, List.take_zero, List.take_succ_cons, List.take_nil, List.foldl_cons, List.foldl_nil, Nat.zero_add, litI, litB, litS]
    have d1 : decide (((0 : Nat) : Int) < ((1 : Nat) : Int)) = true := by decide
    have w1 : IntKind.i64.wrap (((0 : Nat) : Int) + 1) = 1 := by decide
    have w2 : IntKind.i64.wrap (((1 : Nat) : Int) + (m : Int)) = ((1 + m : Nat) : Int) := by rw [wrap_id (by omega)]; push_cast; rfl
    repeat' first
      | refine awp_seq ?_
      | refine awp_block ?_
      | refine awp_skip ?_
      | (refine reg _ (by (simp only [List.map_cons, List.map_nil]; rfl)) rfl ?_; intro K hK)
      | ((refine awp_cond _ (by rfl) ?_ ?_) <;> (intro hb; first | (cases hb; done) | (have ht : true = true := hb; clear ht hb) | (have ht : false = false := hb; clear ht hb) | (simp only [hb]) | skip))
      | (refine awp_exit ?_; simp only [thenA, blockA, scopeA, reduceIte, RetQ, Nat.reduceEqDiff])
      | (refine awp_ret ?_; simp only [thenA, blockA, scopeA, RetQ])
      | (refine ev_nil (hK _ ?_); clear hK K)
      | (apply ev_call0; (case hys => (simp only [go_sem, d1, w1, w2, Int.reduceToNat]; try rfl)); (case hs => first | exact hp ..); (case hok | hσ => (simp only [go_sem, d1, w1, w2, Int.reduceToNat]; try rfl)))
      | (apply ev_step0; (case hr | hσ => (simp only [go_sem, d1, w1, w2, Int.reduceToNat]; try rfl)); (case hc => exact hcA))
      | (apply ev_step; (case hr => (simp only [go_sem, d1, w1, w2, Int.reduceToNat]; try rfl)); (case hσ => (intro g u; simp only [go_sem, d1, w1, w2, Int.reduceToNat]; try rfl)); (case hc => exact hcA); intro g u; (try clear u); (try clear g))
      | fail
    refine Exists.intro 1 ⟨by omega, by omega, ?_⟩
    simp only [exA, opE_un, cE_un, vE_un, argsD_un, List.take_zero, List.take_succ_cons, List.take_nil, List.foldl_cons, List.foldl_nil, Nat.zero_add]
    exact wkA
  simp only [exA, opE_un, cE_un, vE_un, argsD_un, List.take_zero, List.take_succ_cons, List.take_nil, List.foldl_cons, List.foldl_nil, Nat.zero_add, litI, litB, litS]
  have d1 : decide (((1 : Nat) : Int) < ((1 : Nat) : Int)) = false := by decide
  repeat' first
    | refine awp_seq ?_
    | refine awp_block ?_
    | refine awp_skip ?_
    | (refine reg _ (by (simp only [List.map_cons, List.map_nil]; rfl)) rfl ?_; intro K hK)
    | ((refine awp_cond _ (by rfl) ?_ ?_) <;> (intro hb; first | (cases hb; done) | (have ht : true = true := hb; clear ht hb) | (have ht : false = false := hb; clear ht hb) | (simp only [hb]) | skip))
    | (refine awp_exit ?_; simp only [thenA, blockA, scopeA, reduceIte, RetQ, Nat.reduceEqDiff])
    | (refine awp_ret ?_; simp only [thenA, blockA, scopeA, RetQ])
    | (refine ev_nil (hK _ ?_); clear hK K)
    | (apply ev_step0; (case hr | hσ => (simp only [go_sem, d1, Int.reduceToNat]; try rfl)); (case hc => exact hcA))
    | (apply ev_step; (case hr => (simp only [go_sem, d1, Int.reduceToNat]; try rfl)); (case hσ => (intro g u; simp only [go_sem, d1, Int.reduceToNat]; try rfl)); (case hc => exact hcA); intro g u; (try clear u); (try clear g))
    | fail
  all_goals (refine resR_oneA ?_; simp only [go_sem])
  exact LeA.refl _
set_option maxHeartbeats 4000000 in
theorem f64_bi (op : Int) (p q : Ex) (m n : Nat) (hp : Spec Tryd.prog 64 [.agg (exA p)] (litI .i64 (m : Int))) (bp : m ≤ 1000000) (hq : Spec Tryd.prog 64 [.agg (exA q)] (litI .i64 (n : Int))) (bq : n ≤ 1000000) : Spec Tryd.prog 64 [.agg (exA (.bi op p q))] (litI .i64 ((1 + m + n : Nat) : Int)) := by
  simp only [exA, opE_bi, cE_bi, vE_bi, argsD_bi] at hp hq ⊢
  refine spec_of_awp (fn := Tryd.f64) Tryd.func64 (by kernel_rfl) rfl ?_
  intro w0 C0
  simp only [Tryd.ntmps64, litI, litB, litS, List.length_cons, List.length_nil, Nat.reduceAdd, Nat.reduceSub, List.replicate_succ, List.replicate_zero, List.cons_append, List.nil_append]
  repeat' first
    | refine awp_seq ?_
    | refine awp_block ?_
    | refine awp_skip ?_
    | (refine reg _ (by (simp only [List.map_cons, List.map_nil]; rfl)) rfl ?_; intro K hK)
    | ((refine awp_cond _ (by rfl) ?_ ?_) <;> (intro hb; first | (cases hb; done) | (have ht : true = true := hb; clear ht hb) | (have ht : false = false := hb; clear ht hb) | (simp only [hb]) | skip))
    | (refine awp_exit ?_; simp only [thenA, blockA, scopeA, reduceIte, RetQ, Nat.reduceEqDiff])
    | (refine awp_ret ?_; simp only [thenA, blockA, scopeA, RetQ])
    | (refine ev_nil (hK _ ?_); clear hK K)
    | (apply ev_step0; (case hr | hσ => (simp only [go_sem]; try rfl)); (case hc => exact hcA))
    | (apply ev_step; (case hr => (simp only [go_sem]; try rfl)); (case hσ => (intro g u; simp only [go_sem]; try rfl)); (case hc => exact hcA); intro g u; (try clear u); (try clear g))
    | fail
  refine awp_loopI (fun i : Nat => i ≤ 2) (fun i => 2 - i) (fun i => ⟨[.any, .ptr 1 g 0, litI .i64 0, litI .i64 (((1 :: ([m, n] : List Nat).take i).foldl (· + ·) 0 : Nat) : Int), litI .i64 (i : Int), .any, .any, .any, .any, .any, .any, .any, .any, .any, .any, .any, .any, .any, .any, .any, .any], [.no, .box g (exA (.bi op p q)), .no, .no, .no, .no, .no, .no, .no, .no, .no, .no, .no, .no, .no, .no, .no, .no, .no, .no, .no]⟩) 0 (by omega) ?_ ?_
  · simp only [exA, opE_bi, cE_bi, vE_bi, argsD_bi, List.take_zero, List.take_succ_cons, List.take_nil, List.foldl_cons, List.foldl_nil, Nat.zero_add]
    exact wkA
  intro i hi
  simp only [litI, litB, litS] at hi hp hq ⊢
  obtain rfl | rfl | rfl : i = 0 ∨ i = 1 ∨ i = 2 := by omega
  · simp only [exA, opE_bi, cE_bi, vE_bi, argsD_bi, List.take_zero, List.take_succ_cons, List.take_nil, List.foldl_cons, List.foldl_nil, Nat.zero_add, litI, litB, litS]
    have d1 : decide (((0 : Nat) : Int) < ((2 : Nat) : Int)) = true := by decide
    have w1 : IntKind.i64.wrap (((0 : Nat) : Int) + 1) = 1 := by decide
    have w2 : IntKind.i64.wrap (((1 : Nat) : Int) + (m : Int)) = ((1 + m : Nat) : Int) := by rw [wrap_id (by omega)]; push_cast; rfl
    repeat' first
      | refine awp_seq ?_
      | refine awp_block ?_
      | refine awp_skip ?_
      | (refine reg _ (by (simp only [List.map_cons, List.map_nil]; rfl)) rfl ?_; intro K hK)
      | ((refine awp_cond _ (by rfl) ?_ ?_) <;> (intro hb; first | (cases hb; done) | (have ht : true = true := hb; clear ht hb) | (have ht : false = false := hb; clear ht hb) | (simp only [hb]) | skip))
      | (refine awp_exit ?_; simp only [thenA, blockA, scopeA, reduceIte, RetQ, Nat.reduceEqDiff])
      | (refine awp_ret ?_; simp only [thenA, blockA, scopeA, RetQ])
      | (refine ev_nil (hK _ ?_); clear hK K)
      | (apply ev_call0; (case hys => (simp only [go_sem, d1, w1, w2, Int.reduceToNat]; try rfl)); (case hs => first | exact hp ..); (case hok | hσ => (simp only [go_sem, d1, w1, w2, Int.reduceToNat]; try rfl)))
      | (apply ev_step0; (case hr | hσ => (simp only [go_sem, d1, w1, w2, Int.reduceToNat]; try rfl)); (case hc => exact hcA))
      | (apply ev_step; (case hr => (simp only [go_sem, d1, w1, w2, Int.reduceToNat]; try rfl)); (case hσ => (intro g u; simp only [go_sem, d1, w1, w2, Int.reduceToNat]; try rfl)); (case hc => exact hcA); intro g u; (try clear u); (try clear g))
      | fail
    refine Exists.intro 1 ⟨by omega, by omega, ?_⟩
    simp only [exA, opE_bi, cE_bi, vE_bi, argsD_bi, List.take_zero, List.take_succ_cons, List.take_nil, List.foldl_cons, List.foldl_nil, Nat.zero_add]
    exact wkA
  · simp only [exA, opE_bi, cE_bi, vE_bi, argsD_bi, List.take_zero, List.take_succ_cons, List.take_nil, List.foldl_cons, List.foldl_nil, Nat.zero_add, litI, litB, litS]
    have d1 : decide (((1 : Nat) : Int) < ((2 : Nat) : Int)) = true := by decide
    have w1 : IntKind.i64.wrap (((1 : Nat) : Int) + 1) = 2 := by decide
    have w2 : IntKind.i64.wrap (((1 + m : Nat) : Int) + (n : Int)) = ((1 + m + n : Nat) : Int) := by rw [wrap_id (by omega)]; push_cast; rfl
    repeat' first
      | refine awp_seq ?_
      | refine awp_block ?_
      | refine awp_skip ?_
      | (refine reg _ (by (simp only [List.map_cons, List.map_nil]; rfl)) rfl ?_; intro K hK)
      | ((refine awp_cond _ (by rfl) ?_ ?_) <;> (intro hb; first | (cases hb; done) | (have ht : true = true := hb; clear ht hb) | (have ht : false = false := hb; clear ht hb) | (simp only [hb]) | skip))
      | (refine awp_exit ?_; simp only [thenA, blockA, scopeA, reduceIte, RetQ, Nat.reduceEqDiff])
      | (refine awp_ret ?_; simp only [thenA, blockA, scopeA, RetQ])
      | (refine ev_nil (hK _ ?_); clear hK K)
      | (apply ev_call0; (case hys => (simp only [go_sem, d1, w1, w2, Int.reduceToNat]; try rfl)); (case hs => first | exact hq ..); (case hok | hσ => (simp only [go_sem, d1, w1, w2, Int.reduceToNat]; try rfl)))
      | (apply ev_step0; (case hr | hσ => (simp only [go_sem, d1, w1, w2, Int.reduceToNat]; try rfl)); (case hc => exact hcA))
      | (apply ev_step; (case hr => (simp only [go_sem, d1, w1, w2, Int.reduceToNat]; try rfl)); (case hσ => (intro g u; simp only [go_sem, d1, w1, w2, Int.reduceToNat]; try rfl)); (case hc => exact hcA); intro g u; (try clear u); (try clear g))
      | fail
    refine Exists.intro 2 ⟨by omega, by omega, ?_⟩
    simp only [exA, opE_bi, cE_bi, vE_bi, argsD_bi, List.take_zero, List.take_succ_cons, List.take_nil, List.foldl_cons, List.foldl_nil, Nat.zero_add]
    exact wkA
  simp only [exA, opE_bi, cE_bi, vE_bi, argsD_bi, List.take_zero, List.take_succ_cons, List.take_nil, List.foldl_cons, List.foldl_nil, Nat.zero_add, litI, litB, litS]
  have d1 : decide (((2 : Nat) : Int) < ((2 : Nat) : Int)) = false := by decide
  repeat' first
    | refine awp_seq ?_
    | refine awp_block ?_
    | refine awp_skip ?_
    | (refine reg _ (by (simp only [List.map_cons, List.map_nil]; rfl)) rfl ?_; intro K hK)
    | ((refine awp_cond _ (by rfl) ?_ ?_) <;> (intro hb; first | (cases hb; done) | (have ht : true = true := hb; clear ht hb) | (have ht : false = false := hb; clear ht hb) | (simp only [hb]) | skip))
    | (refine awp_exit ?_; simp only [thenA, blockA, scopeA, reduceIte, RetQ, Nat.reduceEqDiff])
    | (refine awp_ret ?_; simp only [thenA, blockA, scopeA, RetQ])
    | (refine ev_nil (hK _ ?_); clear hK K)
    | (apply ev_step0; (case hr | hσ => (simp only [go_sem, d1, Int.reduceToNat]; try rfl)); (case hc => exact hcA))
    | (apply ev_step; (case hr => (simp only [go_sem, d1, Int.reduceToNat]; try rfl)); (case hσ => (intro g u; simp only [go_sem, d1, Int.reduceToNat]; try rfl)); (case hc => exact hcA); intro g u; (try clear u); (try clear g))
    | fail
  all_goals (refine resR_oneA ?_; simp only [go_sem])
  exact LeA.refl _
def sizeE : Ex → Nat
  | .leaf _ _ _ => 1
  | .un _ a => 1 + sizeE a
  | .bi _ a b => 1 + sizeE a + sizeE b
theorem f64_spec : ∀ e : Ex, sizeE e ≤ 1000000 → Spec Tryd.prog 64 [.agg (exA e)] (litI .i64 ((sizeE e : Nat) : Int))
  | .leaf op c v, _ => f64_leaf op c v
  | .un op a, h => by
    simp only [sizeE] at h
    exact f64_un op a _ (f64_spec a (by omega)) (by omega)
  | .bi op a b, h => by
    simp only [sizeE] at h
    exact f64_bi op a b _ _ (f64_spec a (by omega)) (by omega) (f64_spec b (by omega)) (by omega)
theorem f42_spec (T : Dat) (e : Ex) (t : Ty) (hs : sizeE e ≤ 60) (h : Spec Tryd.prog 65 [.d T, .agg (exA e)] (.agg (tydA t))) : Spec Tryd.prog 42 [.d T, .agg (exA e)] (.agg (tydA t)) := by
  have a1 := f64_spec e (by omega)
  have d1 : decide (((sizeE e : Nat) : Int) > 60) = false := decide_eq_false (by omega)
  generalize sizeE e = n at *
  simp only [exA] at a1 h ⊢
  refine spec_of_awp (fn := Tryd.f42) Tryd.func42 (by kernel_rfl) rfl ?_
  intro w0 C0
  simp only [Tryd.ntmps42, litI, litB, litS, List.length_cons, List.length_nil, Nat.reduceAdd, Nat.reduceSub, List.replicate_succ, List.replicate_zero, List.cons_append, List.nil_append]
  repeat' first
    | refine awp_seq ?_
    | refine awp_block ?_
    | refine awp_skip ?_
    | (refine reg _ (by (simp only [List.map_cons, List.map_nil]; rfl)) rfl ?_; intro K hK)
    | ((refine awp_cond _ (by rfl) ?_ ?_) <;> (intro hb; first | (cases hb; done) | (have ht : true = true := hb; clear ht hb) | (have ht : false = false := hb; clear ht hb) | (simp only [hb]) | skip))
    | (refine awp_exit ?_; simp only [thenA, blockA, scopeA, reduceIte, RetQ, Nat.reduceEqDiff])
    | (refine awp_ret ?_; simp only [thenA, blockA, scopeA, RetQ])
    | (refine ev_nil (hK _ ?_); clear hK K)
    | (apply ev_call0; (case hys => (simp only [go_sem, d1]; try rfl)); (case hs => first | exact a1 .. | exact h ..); (case hok | hσ => (simp only [go_sem, d1]; try rfl)))
    | (apply ev_step0; (case hr | hσ => (simp only [go_sem, d1]; try rfl)); (case hc => exact hcA))
    | (apply ev_step; (case hr => (simp only [go_sem, d1]; try rfl)); (case hσ => (intro g u; simp only [go_sem, d1]; try rfl)); (case hc => exact hcA); intro g u; (try clear u); (try clear g))
    | fail
  all_goals (refine resR_oneA ?_; simp only [go_sem])
  exact LeA.refl _
end
end Go.Proofs.YtopigomfhggkoaaDoor.A
