/- Bounds: contained, merged: the walks. (Written by mk9.py.) Ranges: small functions: the walks. -/
import Derived.Test.YtopigomfhggkoaaDoorJV2
namespace Go.Proofs.YtopigomfhggkoaaDoor.A
section
set_option linter.unusedVariables false
set_option linter.unusedSimpArgs false
open Go.RowKit
attribute [local irreducible] Spec SpecF SpecN
attribute [local irreducible] AWp evOps evD
def containsB (b : Bd) (v : Vl) : Bool :=
  if validB b = false then false else if wideV v = false then false else if isNull v = true then decide (b.nulls > 0)
  else if b.has = false then false else if (v.k == b.lo.k) = false then false else if decide (cmpV b.lo v ≤ 0) = false then false else decide (cmpV v b.hi ≤ 0)
structure BdOk (b : Bd) : Prop where
  lo : VlOk b.lo
  hi : VlOk b.hi
  sum : -9223372036854775808 ≤ b.sum ∧ b.sum ≤ 9223372036854775807
set_option maxHeartbeats 8000000 in
theorem f18_spec (b : Bd) (v : Vl) (hb : BdOk b) (hv : v.s.size ≤ 4611686018427387904) : Spec Tryd.prog 18 [.agg (bd b), .agg (vl v)] (litB (containsB b v)) := by
  have a1 := f16_spec b hb.lo.s hb.hi.s
  have a2 := f40_spec v hv
  have a3 := f41_spec b.lo v
  have a4 := f41_spec v b.hi
  have hq : ((v.k == 0) && ((v.i == 0) && (v.s.toList == (⟨#[]⟩ : ByteArray).toList))) = isNull v := rfl
  obtain ⟨bn, bh, bl, bi, bm⟩ := b
  unfold containsB
  simp only at a1 a2 a3 a4 hq ⊢
  cases bh with
  | false =>
    cases vb : (validB ⟨bn, false, bl, bi, bm⟩) with
    | false =>
      rw [vb] at a1
      simp only [vb, if_true, if_false, Bool.false_eq_true, reduceCtorEq]
      refine spec_of_awp (fn := Tryd.f18) Tryd.func18 (by kernel_rfl) rfl ?_
      intro w0 C0
      simp only [Tryd.ntmps18, go_sem]
      repeat' first | refine awp_seq ?_ | refine awp_block ?_ | refine awp_skip ?_ | (apply regB; (case hd => exact hdA); intro K hK) | (apply ev_guardU; (case hj | hu | hσ => (simp only [go_sem]; try rfl))) | ((first | refine awp_cond _ (by rfl) ?_ ?_ | ((first | apply ev_guardT | apply ev_guardF); (case hj | hb => (simp only [go_sem]; try rfl)))) <;> (first | refine ttA ?_ | refine ffA ?_ | (intro hb; first | (cases hb; done) | simp only [hb] | skip))) | ((first | apply awp_exit | apply awp_ret); refine tqA ?_) | (refine ev_nil (hK _ ?_); clear hK K) | (apply ev_call0; (case hys => (simp only [go_sem]; try rfl)); (case hs => first | exact a1 ..); (case hok | hσ => (simp only [go_sem]; try rfl))) | (apply ev_step0; (case hr | hσ => (simp only [go_sem]; try rfl)); (case hc => exact hcA)) | (apply ev_step; (case hr | hσ => (intros; simp only [go_sem]; try rfl)); (case hc => exact hcA); intro g u; (try clear u); (try clear g)) | fail
      all_goals (refine resR_oneA ?_; simp only [go_sem])
      exact LeA.refl _
    | true =>
    cases wv : (wideV v) with
    | false =>
      rw [vb] at a1
      rw [wv] at a2
      simp only [vb, wv, if_true, if_false, Bool.false_eq_true, reduceCtorEq]
      refine spec_of_awp (fn := Tryd.f18) Tryd.func18 (by kernel_rfl) rfl ?_
      intro w0 C0
      simp only [Tryd.ntmps18, go_sem]
      repeat' first | refine awp_seq ?_ | refine awp_block ?_ | refine awp_skip ?_ | (apply regB; (case hd => exact hdA); intro K hK) | (apply ev_guardU; (case hj | hu | hσ => (simp only [go_sem]; try rfl))) | ((first | refine awp_cond _ (by rfl) ?_ ?_ | ((first | apply ev_guardT | apply ev_guardF); (case hj | hb => (simp only [go_sem]; try rfl)))) <;> (first | refine ttA ?_ | refine ffA ?_ | (intro hb; first | (cases hb; done) | simp only [hb] | skip))) | ((first | apply awp_exit | apply awp_ret); refine tqA ?_) | (refine ev_nil (hK _ ?_); clear hK K) | (apply ev_call0; (case hys => (simp only [go_sem]; try rfl)); (case hs => first | exact a1 .. | exact a2 ..); (case hok | hσ => (simp only [go_sem]; try rfl))) | (apply ev_step0; (case hr | hσ => (simp only [go_sem]; try rfl)); (case hc => exact hcA)) | (apply ev_step; (case hr | hσ => (intros; simp only [go_sem]; try rfl)); (case hc => exact hcA); intro g u; (try clear u); (try clear g)) | fail
      all_goals (refine resR_oneA ?_; simp only [go_sem])
      exact LeA.refl _
    | true =>
    cases nl : (isNull v) with
    | true =>
      rw [vb] at a1
      rw [wv] at a2
      rw [nl] at hq
      simp only [vb, wv, nl, if_true, if_false, Bool.false_eq_true, reduceCtorEq]
      refine spec_of_awp (fn := Tryd.f18) Tryd.func18 (by kernel_rfl) rfl ?_
      intro w0 C0
      simp only [Tryd.ntmps18, go_sem]
      repeat' first | refine awp_seq ?_ | refine awp_block ?_ | refine awp_skip ?_ | (apply regB; (case hd => exact hdA); intro K hK) | (apply ev_guardU; (case hj | hu | hσ => (simp only [go_sem, hq]; try rfl))) | ((first | refine awp_cond _ (by rfl) ?_ ?_ | ((first | apply ev_guardT | apply ev_guardF); (case hj | hb => (simp only [go_sem, hq]; try rfl)))) <;> (first | refine ttA ?_ | refine ffA ?_ | (intro hb; first | (cases hb; done) | simp only [hb] | skip))) | ((first | apply awp_exit | apply awp_ret); refine tqA ?_) | (refine ev_nil (hK _ ?_); clear hK K) | (apply ev_call0; (case hys => (simp only [go_sem, hq]; try rfl)); (case hs => first | exact a1 .. | exact a2 ..); (case hok | hσ => (simp only [go_sem, hq]; try rfl))) | (apply ev_step0; (case hr | hσ => (simp only [go_sem, hq]; try rfl)); (case hc => exact hcA)) | (apply ev_step; (case hr | hσ => (intros; simp only [go_sem, hq]; try rfl)); (case hc => exact hcA); intro g u; (try clear u); (try clear g)) | fail
      all_goals (refine resR_oneA ?_; simp only [go_sem])
      exact LeA.refl _
    | false =>
    rw [vb] at a1
    rw [wv] at a2
    rw [nl] at hq
    simp only [vb, wv, nl, if_true, if_false, Bool.false_eq_true, reduceCtorEq]
    refine spec_of_awp (fn := Tryd.f18) Tryd.func18 (by kernel_rfl) rfl ?_
    intro w0 C0
    simp only [Tryd.ntmps18, go_sem]
    repeat' first | refine awp_seq ?_ | refine awp_block ?_ | refine awp_skip ?_ | (apply regB; (case hd => exact hdA); intro K hK) | (apply ev_guardU; (case hj | hu | hσ => (simp only [go_sem, hq]; try rfl))) | ((first | refine awp_cond _ (by rfl) ?_ ?_ | ((first | apply ev_guardT | apply ev_guardF); (case hj | hb => (simp only [go_sem, hq]; try rfl)))) <;> (first | refine ttA ?_ | refine ffA ?_ | (intro hb; first | (cases hb; done) | simp only [hb] | skip))) | ((first | apply awp_exit | apply awp_ret); refine tqA ?_) | (refine ev_nil (hK _ ?_); clear hK K) | (apply ev_call0; (case hys => (simp only [go_sem, hq]; try rfl)); (case hs => first | exact a1 .. | exact a2 ..); (case hok | hσ => (simp only [go_sem, hq]; try rfl))) | (apply ev_step0; (case hr | hσ => (simp only [go_sem, hq]; try rfl)); (case hc => exact hcA)) | (apply ev_step; (case hr | hσ => (intros; simp only [go_sem, hq]; try rfl)); (case hc => exact hcA); intro g u; (try clear u); (try clear g)) | fail
    all_goals (refine resR_oneA ?_; simp only [go_sem])
    exact LeA.refl _
  | true =>
    cases vb : (validB ⟨bn, true, bl, bi, bm⟩) with
    | false =>
      rw [vb] at a1
      simp only [vb, if_true, if_false, Bool.false_eq_true, reduceCtorEq]
      refine spec_of_awp (fn := Tryd.f18) Tryd.func18 (by kernel_rfl) rfl ?_
      intro w0 C0
      simp only [Tryd.ntmps18, go_sem]
      repeat' first | refine awp_seq ?_ | refine awp_block ?_ | refine awp_skip ?_ | (apply regB; (case hd => exact hdA); intro K hK) | (apply ev_guardU; (case hj | hu | hσ => (simp only [go_sem]; try rfl))) | ((first | refine awp_cond _ (by rfl) ?_ ?_ | ((first | apply ev_guardT | apply ev_guardF); (case hj | hb => (simp only [go_sem]; try rfl)))) <;> (first | refine ttA ?_ | refine ffA ?_ | (intro hb; first | (cases hb; done) | simp only [hb] | skip))) | ((first | apply awp_exit | apply awp_ret); refine tqA ?_) | (refine ev_nil (hK _ ?_); clear hK K) | (apply ev_call0; (case hys => (simp only [go_sem]; try rfl)); (case hs => first | exact a1 ..); (case hok | hσ => (simp only [go_sem]; try rfl))) | (apply ev_step0; (case hr | hσ => (simp only [go_sem]; try rfl)); (case hc => exact hcA)) | (apply ev_step; (case hr | hσ => (intros; simp only [go_sem]; try rfl)); (case hc => exact hcA); intro g u; (try clear u); (try clear g)) | fail
      all_goals (refine resR_oneA ?_; simp only [go_sem])
      exact LeA.refl _
    | true =>
    cases wv : (wideV v) with
    | false =>
      rw [vb] at a1
      rw [wv] at a2
      simp only [vb, wv, if_true, if_false, Bool.false_eq_true, reduceCtorEq]
      refine spec_of_awp (fn := Tryd.f18) Tryd.func18 (by kernel_rfl) rfl ?_
      intro w0 C0
      simp only [Tryd.ntmps18, go_sem]
      repeat' first | refine awp_seq ?_ | refine awp_block ?_ | refine awp_skip ?_ | (apply regB; (case hd => exact hdA); intro K hK) | (apply ev_guardU; (case hj | hu | hσ => (simp only [go_sem]; try rfl))) | ((first | refine awp_cond _ (by rfl) ?_ ?_ | ((first | apply ev_guardT | apply ev_guardF); (case hj | hb => (simp only [go_sem]; try rfl)))) <;> (first | refine ttA ?_ | refine ffA ?_ | (intro hb; first | (cases hb; done) | simp only [hb] | skip))) | ((first | apply awp_exit | apply awp_ret); refine tqA ?_) | (refine ev_nil (hK _ ?_); clear hK K) | (apply ev_call0; (case hys => (simp only [go_sem]; try rfl)); (case hs => first | exact a1 .. | exact a2 ..); (case hok | hσ => (simp only [go_sem]; try rfl))) | (apply ev_step0; (case hr | hσ => (simp only [go_sem]; try rfl)); (case hc => exact hcA)) | (apply ev_step; (case hr | hσ => (intros; simp only [go_sem]; try rfl)); (case hc => exact hcA); intro g u; (try clear u); (try clear g)) | fail
      all_goals (refine resR_oneA ?_; simp only [go_sem])
      exact LeA.refl _
    | true =>
    cases nl : (isNull v) with
    | true =>
      rw [vb] at a1
      rw [wv] at a2
      rw [nl] at hq
      simp only [vb, wv, nl, if_true, if_false, Bool.false_eq_true, reduceCtorEq]
      refine spec_of_awp (fn := Tryd.f18) Tryd.func18 (by kernel_rfl) rfl ?_
      intro w0 C0
      simp only [Tryd.ntmps18, go_sem]
      repeat' first | refine awp_seq ?_ | refine awp_block ?_ | refine awp_skip ?_ | (apply regB; (case hd => exact hdA); intro K hK) | (apply ev_guardU; (case hj | hu | hσ => (simp only [go_sem, hq]; try rfl))) | ((first | refine awp_cond _ (by rfl) ?_ ?_ | ((first | apply ev_guardT | apply ev_guardF); (case hj | hb => (simp only [go_sem, hq]; try rfl)))) <;> (first | refine ttA ?_ | refine ffA ?_ | (intro hb; first | (cases hb; done) | simp only [hb] | skip))) | ((first | apply awp_exit | apply awp_ret); refine tqA ?_) | (refine ev_nil (hK _ ?_); clear hK K) | (apply ev_call0; (case hys => (simp only [go_sem, hq]; try rfl)); (case hs => first | exact a1 .. | exact a2 ..); (case hok | hσ => (simp only [go_sem, hq]; try rfl))) | (apply ev_step0; (case hr | hσ => (simp only [go_sem, hq]; try rfl)); (case hc => exact hcA)) | (apply ev_step; (case hr | hσ => (intros; simp only [go_sem, hq]; try rfl)); (case hc => exact hcA); intro g u; (try clear u); (try clear g)) | fail
      all_goals (refine resR_oneA ?_; simp only [go_sem])
      exact LeA.refl _
    | false =>
    cases kk : (v.k == bl.k) with
    | false =>
      rw [vb] at a1
      rw [wv] at a2
      rw [nl] at hq
      simp only [vb, wv, nl, kk, if_true, if_false, Bool.false_eq_true, reduceCtorEq]
      refine spec_of_awp (fn := Tryd.f18) Tryd.func18 (by kernel_rfl) rfl ?_
      intro w0 C0
      simp only [Tryd.ntmps18, go_sem]
      all_goals have H := And.intro kk hq
      repeat' first | refine awp_seq ?_ | refine awp_block ?_ | refine awp_skip ?_ | (apply regB; (case hd => exact hdA); intro K hK) | (apply ev_guardU; (case hj | hu | hσ => (simp only [go_sem, H]; try rfl))) | ((first | refine awp_cond _ (by rfl) ?_ ?_ | ((first | apply ev_guardT | apply ev_guardF); (case hj | hb => (simp only [go_sem, H]; try rfl)))) <;> (first | refine ttA ?_ | refine ffA ?_ | (intro hb; first | (cases hb; done) | simp only [hb] | skip))) | ((first | apply awp_exit | apply awp_ret); refine tqA ?_) | (refine ev_nil (hK _ ?_); clear hK K) | (apply ev_call0; (case hys => (simp only [go_sem, H]; try rfl)); (case hs => first | exact a1 .. | exact a2 ..); (case hok | hσ => (simp only [go_sem, H]; try rfl))) | (apply ev_step0; (case hr | hσ => (simp only [go_sem, H]; try rfl)); (case hc => exact hcA)) | (apply ev_step; (case hr | hσ => (intros; simp only [go_sem, H]; try rfl)); (case hc => exact hcA); intro g u; (try clear u); (try clear g)) | fail
      all_goals try clear H
      all_goals (refine resR_oneA ?_; simp only [go_sem])
      exact LeA.refl _
    | true =>
    cases c1 : (decide (cmpV bl v ≤ 0)) with
    | false =>
      rw [vb] at a1
      rw [wv] at a2
      rw [nl] at hq
      simp only [vb, wv, nl, kk, c1, if_true, if_false, Bool.false_eq_true, reduceCtorEq]
      refine spec_of_awp (fn := Tryd.f18) Tryd.func18 (by kernel_rfl) rfl ?_
      intro w0 C0
      simp only [Tryd.ntmps18, go_sem]
      all_goals have H := And.intro kk (And.intro c1 hq)
      repeat' first | refine awp_seq ?_ | refine awp_block ?_ | refine awp_skip ?_ | (apply regB; (case hd => exact hdA); intro K hK) | (apply ev_guardU; (case hj | hu | hσ => (simp only [go_sem, H]; try rfl))) | ((first | refine awp_cond _ (by rfl) ?_ ?_ | ((first | apply ev_guardT | apply ev_guardF); (case hj | hb => (simp only [go_sem, H]; try rfl)))) <;> (first | refine ttA ?_ | refine ffA ?_ | (intro hb; first | (cases hb; done) | simp only [hb] | skip))) | ((first | apply awp_exit | apply awp_ret); refine tqA ?_) | (refine ev_nil (hK _ ?_); clear hK K) | (apply ev_call0; (case hys => (simp only [go_sem, H]; try rfl)); (case hs => first | exact a1 .. | exact a2 .. | exact a3 ..); (case hok | hσ => (simp only [go_sem, H]; try rfl))) | (apply ev_step0; (case hr | hσ => (simp only [go_sem, H]; try rfl)); (case hc => exact hcA)) | (apply ev_step; (case hr | hσ => (intros; simp only [go_sem, H]; try rfl)); (case hc => exact hcA); intro g u; (try clear u); (try clear g)) | fail
      all_goals try clear H
      all_goals (refine resR_oneA ?_; simp only [go_sem])
      exact LeA.refl _
    | true =>
    rw [vb] at a1
    rw [wv] at a2
    rw [nl] at hq
    simp only [vb, wv, nl, kk, c1, if_true, if_false, Bool.false_eq_true, reduceCtorEq]
    refine spec_of_awp (fn := Tryd.f18) Tryd.func18 (by kernel_rfl) rfl ?_
    intro w0 C0
    simp only [Tryd.ntmps18, go_sem]
    all_goals have H := And.intro kk (And.intro c1 hq)
    repeat' first | refine awp_seq ?_ | refine awp_block ?_ | refine awp_skip ?_ | (apply regB; (case hd => exact hdA); intro K hK) | (apply ev_guardU; (case hj | hu | hσ => (simp only [go_sem, H]; try rfl))) | ((first | refine awp_cond _ (by rfl) ?_ ?_ | ((first | apply ev_guardT | apply ev_guardF); (case hj | hb => (simp only [go_sem, H]; try rfl)))) <;> (first | refine ttA ?_ | refine ffA ?_ | (intro hb; first | (cases hb; done) | simp only [hb] | skip))) | ((first | apply awp_exit | apply awp_ret); refine tqA ?_) | (refine ev_nil (hK _ ?_); clear hK K) | (apply ev_call0; (case hys => (simp only [go_sem, H]; try rfl)); (case hs => first | exact a1 .. | exact a2 .. | exact a3 .. | exact a4 ..); (case hok | hσ => (simp only [go_sem, H]; try rfl))) | (apply ev_step0; (case hr | hσ => (simp only [go_sem, H]; try rfl)); (case hc => exact hcA)) | (apply ev_step; (case hr | hσ => (intros; simp only [go_sem, H]; try rfl)); (case hc => exact hcA); intro g u; (try clear u); (try clear g)) | fail
    all_goals try clear H
    all_goals (refine resR_oneA ?_; simp only [go_sem])
    exact LeA.refl _
theorem validB_bd {b : Bd} (h : validB b = true) : (0 ≤ b.nulls ∧ b.nulls ≤ 4000000000000000000) ∧ (-4000000000000000000 ≤ b.sum ∧ b.sum ≤ 4000000000000000000) := by
  unfold validB at h
  split at h
  · cases h
  rename_i h1
  split at h
  · cases h
  rename_i h2
  split at h
  · cases h
  rename_i h3
  split at h
  · cases h
  rename_i h4
  simp only [decide_eq_true_eq] at h1 h2 h3 h4
  omega
def mergeM (a b : Bd) : Bd × Int :=
  if validB a = false then (zeroBd, 6) else if validB b = false then (zeroBd, 6) else if (a.has && b.has && (a.lo.k != b.lo.k)) = true then (zeroBd, 6)
  else if small (a.sum + b.sum) = false then (zeroBd, 2) else if decide (a.nulls + b.nulls > 4000000000000000000) = true then (zeroBd, 2)
  else (⟨a.nulls + b.nulls, a.has || b.has, if (!a.has || (b.has && decide (cmpV b.lo a.lo < 0))) = true then b.lo else a.lo, if (!a.has || (b.has && decide (cmpV b.hi a.hi > 0))) = true then b.hi else a.hi, a.sum + b.sum⟩, 0)
set_option maxHeartbeats 16000000 in
theorem f39_spec (a b : Bd) (ha : BdOk a) (hb : BdOk b) : Spec Tryd.prog 39 [.agg (bd a), .agg (bd b)] (.tup [.agg (bd (mergeM a b).1), litI .i64 (mergeM a b).2]) := by
  have a1 := f16_spec a ha.lo.s ha.hi.s
  have a2 := f16_spec b hb.lo.s hb.hi.s
  have a3 := f55_spec [a.sum, b.sum] (by
    intro x hx
    simp only [List.mem_cons, List.not_mem_nil, or_false] at hx
    rcases hx with rfl | rfl
    · exact ha.sum
    · exact hb.sum) (by simp)
  simp only [ints, List.map_cons, List.map_nil] at a3
  have a4 := f41_spec b.lo a.lo
  have a5 := f41_spec b.hi a.hi
  obtain ⟨an, ah, al, ai, am⟩ := a
  obtain ⟨bn, bh, bl, bi, bm⟩ := b
  unfold mergeM
  simp only at a1 a2 a3 a4 a5 ⊢
  cases ah with
  | true =>
    cases bh with
    | true =>
      cases va : (validB ⟨an, true, al, ai, am⟩) with
      | false =>
        rw [va] at a1
        simp only [va, if_true, if_false, Bool.false_eq_true, reduceCtorEq, Bool.and_true, Bool.and_false, Bool.true_and, Bool.false_and, Bool.not_true, Bool.not_false, Bool.true_or, Bool.false_or, Bool.or_true, Bool.or_false, Bool.and_self]
        refine spec_of_awp (fn := Tryd.f39) Tryd.func39 (by kernel_rfl) rfl ?_
        intro w0 C0
        simp only [Tryd.ntmps39, go_sem]
        repeat' first | refine awp_seq ?_ | refine awp_block ?_ | refine awp_skip ?_ | (apply regB; (case hd => exact hdA); intro K hK) | (apply ev_guardU; (case hj | hu | hσ => (simp only [go_sem]; try rfl))) | ((first | refine awp_cond _ (by rfl) ?_ ?_ | ((first | apply ev_guardT | apply ev_guardF); (case hj | hb => (simp only [go_sem]; try rfl)))) <;> (first | refine ttA ?_ | refine ffA ?_ | (intro hb; first | (cases hb; done) | simp only [hb] | skip))) | ((first | apply awp_exit | apply awp_ret); refine tqA ?_) | (refine ev_nil (hK _ ?_); clear hK K) | (apply ev_call0; (case hys => (simp only [go_sem]; try rfl)); (case hs => first | exact a1 ..); (case hok | hσ => (simp only [go_sem]; try rfl))) | (apply ev_step0; (case hr | hσ => (simp only [go_sem]; try rfl)); (case hc => exact hcA)) | (apply ev_step; (case hr | hσ => (intros; simp only [go_sem]; try rfl)); (case hc => exact hcA); intro g u; (try clear u); (try clear g)) | fail
        all_goals (refine resR_moreA ?_; simp only [go_sem])
        refine ⟨LeA.refl _, LeA.refl _, trivial⟩
      | true =>
      cases vb : (validB ⟨bn, true, bl, bi, bm⟩) with
      | false =>
        rw [va] at a1
        rw [vb] at a2
        simp only [va, vb, if_true, if_false, Bool.false_eq_true, reduceCtorEq, Bool.and_true, Bool.and_false, Bool.true_and, Bool.false_and, Bool.not_true, Bool.not_false, Bool.true_or, Bool.false_or, Bool.or_true, Bool.or_false, Bool.and_self]
        refine spec_of_awp (fn := Tryd.f39) Tryd.func39 (by kernel_rfl) rfl ?_
        intro w0 C0
        simp only [Tryd.ntmps39, go_sem]
        repeat' first | refine awp_seq ?_ | refine awp_block ?_ | refine awp_skip ?_ | (apply regB; (case hd => exact hdA); intro K hK) | (apply ev_guardU; (case hj | hu | hσ => (simp only [go_sem]; try rfl))) | ((first | refine awp_cond _ (by rfl) ?_ ?_ | ((first | apply ev_guardT | apply ev_guardF); (case hj | hb => (simp only [go_sem]; try rfl)))) <;> (first | refine ttA ?_ | refine ffA ?_ | (intro hb; first | (cases hb; done) | simp only [hb] | skip))) | ((first | apply awp_exit | apply awp_ret); refine tqA ?_) | (refine ev_nil (hK _ ?_); clear hK K) | (apply ev_call0; (case hys => (simp only [go_sem]; try rfl)); (case hs => first | exact a1 .. | exact a2 ..); (case hok | hσ => (simp only [go_sem]; try rfl))) | (apply ev_step0; (case hr | hσ => (simp only [go_sem]; try rfl)); (case hc => exact hcA)) | (apply ev_step; (case hr | hσ => (intros; simp only [go_sem]; try rfl)); (case hc => exact hcA); intro g u; (try clear u); (try clear g)) | fail
        all_goals (refine resR_moreA ?_; simp only [go_sem])
        refine ⟨LeA.refl _, LeA.refl _, trivial⟩
      | true =>
      have b1 := validB_bd va
      have b2 := validB_bd vb
      simp only at b1 b2
      have wn : IntKind.i64.wrap (an + bn) = an + bn := wrap_id (by omega)
      have hsd : sumD [am, bm] = if small (am + bm) = true then (am + bm, 0) else (0, 2) := by
        have e1 : small am = true := small_iff.2 b1.2
        have e2 : small bm = true := small_iff.2 b2.2
        simp only [sumD, List.all_cons, List.all_nil, e1, e2, Bool.and_self, Bool.true_and, sumL, List.foldr_cons, List.foldr_nil, Int.add_zero]
      cases ks : (al.k != bl.k) with
      | true =>
        rw [va] at a1
        rw [vb] at a2
        simp only [va, vb, ks, if_true, if_false, Bool.false_eq_true, reduceCtorEq, Bool.and_true, Bool.and_false, Bool.true_and, Bool.false_and, Bool.not_true, Bool.not_false, Bool.true_or, Bool.false_or, Bool.or_true, Bool.or_false, Bool.and_self]
        refine spec_of_awp (fn := Tryd.f39) Tryd.func39 (by kernel_rfl) rfl ?_
        intro w0 C0
        simp only [Tryd.ntmps39, go_sem]
        repeat' first | refine awp_seq ?_ | refine awp_block ?_ | refine awp_skip ?_ | (apply regB; (case hd => exact hdA); intro K hK) | (apply ev_guardU; (case hj | hu | hσ => (simp only [go_sem, ks]; try rfl))) | ((first | refine awp_cond _ (by rfl) ?_ ?_ | ((first | apply ev_guardT | apply ev_guardF); (case hj | hb => (simp only [go_sem, ks]; try rfl)))) <;> (first | refine ttA ?_ | refine ffA ?_ | (intro hb; first | (cases hb; done) | simp only [hb] | skip))) | ((first | apply awp_exit | apply awp_ret); refine tqA ?_) | (refine ev_nil (hK _ ?_); clear hK K) | (apply ev_call0; (case hys => (simp only [go_sem, ks]; try rfl)); (case hs => first | exact a1 .. | exact a2 ..); (case hok | hσ => (simp only [go_sem, ks]; try rfl))) | (apply ev_step0; (case hr | hσ => (simp only [go_sem, ks]; try rfl)); (case hc => exact hcA)) | (apply ev_step; (case hr | hσ => (intros; simp only [go_sem, ks]; try rfl)); (case hc => exact hcA); intro g u; (try clear u); (try clear g)) | fail
        all_goals (refine resR_moreA ?_; simp only [go_sem])
        refine ⟨LeA.refl _, LeA.refl _, trivial⟩
      | false =>
      cases sm : (small (am + bm)) with
      | false =>
        rw [va] at a1
        rw [vb] at a2
        rw [sm, if_neg Bool.false_ne_true] at hsd
        rw [hsd] at a3
        simp only [va, vb, ks, sm, if_true, if_false, Bool.false_eq_true, reduceCtorEq, Bool.and_true, Bool.and_false, Bool.true_and, Bool.false_and, Bool.not_true, Bool.not_false, Bool.true_or, Bool.false_or, Bool.or_true, Bool.or_false, Bool.and_self]
        refine spec_of_awp (fn := Tryd.f39) Tryd.func39 (by kernel_rfl) rfl ?_
        intro w0 C0
        simp only [Tryd.ntmps39, go_sem]
        repeat' first | refine awp_seq ?_ | refine awp_block ?_ | refine awp_skip ?_ | (apply regB; (case hd => exact hdA); intro K hK) | (apply ev_guardU; (case hj | hu | hσ => (simp only [go_sem, ks]; try rfl))) | ((first | refine awp_cond _ (by rfl) ?_ ?_ | ((first | apply ev_guardT | apply ev_guardF); (case hj | hb => (simp only [go_sem, ks]; try rfl)))) <;> (first | refine ttA ?_ | refine ffA ?_ | (intro hb; first | (cases hb; done) | simp only [hb] | skip))) | ((first | apply awp_exit | apply awp_ret); refine tqA ?_) | (refine ev_nil (hK _ ?_); clear hK K) | (apply ev_call0; (case hys => (simp only [go_sem, ks]; try rfl)); (case hs => first | exact a1 .. | exact a2 .. | exact a3 ..); (case hok | hσ => (simp only [go_sem, ks]; try rfl))) | (apply ev_step0; (case hr | hσ => (simp only [go_sem, ks]; try rfl)); (case hc => exact hcA)) | (apply ev_step; (case hr | hσ => (intros; simp only [go_sem, ks]; try rfl)); (case hc => exact hcA); intro g u; (try clear u); (try clear g)) | fail
        all_goals (refine resR_moreA ?_; simp only [go_sem])
        refine ⟨LeA.refl _, LeA.refl _, trivial⟩
      | true =>
      cases ov : (decide (an + bn > 4000000000000000000)) with
      | true =>
        rw [va] at a1
        rw [vb] at a2
        rw [sm, if_pos rfl] at hsd
        rw [hsd] at a3
        simp only [va, vb, ks, sm, ov, if_true, if_false, Bool.false_eq_true, reduceCtorEq, Bool.and_true, Bool.and_false, Bool.true_and, Bool.false_and, Bool.not_true, Bool.not_false, Bool.true_or, Bool.false_or, Bool.or_true, Bool.or_false, Bool.and_self]
        refine spec_of_awp (fn := Tryd.f39) Tryd.func39 (by kernel_rfl) rfl ?_
        intro w0 C0
        simp only [Tryd.ntmps39, go_sem]
        all_goals have H := And.intro ks (And.intro ov wn)
        repeat' first | refine awp_seq ?_ | refine awp_block ?_ | refine awp_skip ?_ | (apply regB; (case hd => exact hdA); intro K hK) | (apply ev_guardU; (case hj | hu | hσ => (simp only [go_sem, H]; try rfl))) | ((first | refine awp_cond _ (by rfl) ?_ ?_ | ((first | apply ev_guardT | apply ev_guardF); (case hj | hb => (simp only [go_sem, H]; try rfl)))) <;> (first | refine ttA ?_ | refine ffA ?_ | (intro hb; first | (cases hb; done) | simp only [hb] | skip))) | ((first | apply awp_exit | apply awp_ret); refine tqA ?_) | (refine ev_nil (hK _ ?_); clear hK K) | (apply ev_call0; (case hys => (simp only [go_sem, H]; try rfl)); (case hs => first | exact a1 .. | exact a2 .. | exact a3 ..); (case hok | hσ => (simp only [go_sem, H]; try rfl))) | (apply ev_step0; (case hr | hσ => (simp only [go_sem, H]; try rfl)); (case hc => exact hcA)) | (apply ev_step; (case hr | hσ => (intros; simp only [go_sem, H]; try rfl)); (case hc => exact hcA); intro g u; (try clear u); (try clear g)) | fail
        all_goals try clear H
        all_goals (refine resR_moreA ?_; simp only [go_sem])
        refine ⟨LeA.refl _, LeA.refl _, trivial⟩
      | false =>
      cases c1 : (decide (cmpV bl al < 0)) with
      | true =>
        cases c2 : (decide (cmpV bi ai > 0)) with
        | true =>
          rw [va] at a1
          rw [vb] at a2
          rw [sm, if_pos rfl] at hsd
          rw [hsd] at a3
          simp only [va, vb, ks, sm, ov, c1, c2, if_true, if_false, Bool.false_eq_true, reduceCtorEq, Bool.and_true, Bool.and_false, Bool.true_and, Bool.false_and, Bool.not_true, Bool.not_false, Bool.true_or, Bool.false_or, Bool.or_true, Bool.or_false, Bool.and_self]
          refine spec_of_awp (fn := Tryd.f39) Tryd.func39 (by kernel_rfl) rfl ?_
          intro w0 C0
          simp only [Tryd.ntmps39, go_sem]
          all_goals have H := And.intro ks (And.intro ov (And.intro c1 (And.intro c2 wn)))
          repeat' first | refine awp_seq ?_ | refine awp_block ?_ | refine awp_skip ?_ | (apply regB; (case hd => exact hdA); intro K hK) | (apply ev_guardU; (case hj | hu | hσ => (simp only [go_sem, H]; try rfl))) | ((first | refine awp_cond _ (by rfl) ?_ ?_ | ((first | apply ev_guardT | apply ev_guardF); (case hj | hb => (simp only [go_sem, H]; try rfl)))) <;> (first | refine ttA ?_ | refine ffA ?_ | (intro hb; first | (cases hb; done) | simp only [hb] | skip))) | ((first | apply awp_exit | apply awp_ret); refine tqA ?_) | (refine ev_nil (hK _ ?_); clear hK K) | (apply ev_call0; (case hys => (simp only [go_sem, H]; try rfl)); (case hs => first | exact a1 .. | exact a2 .. | exact a3 .. | exact a4 .. | exact a5 ..); (case hok | hσ => (simp only [go_sem, H]; try rfl))) | (apply ev_step0; (case hr | hσ => (simp only [go_sem, H]; try rfl)); (case hc => exact hcA)) | (apply ev_step; (case hr | hσ => (intros; simp only [go_sem, H]; try rfl)); (case hc => exact hcA); intro g u; (try clear u); (try clear g)) | fail
          all_goals try clear H
          all_goals (refine resR_moreA ?_; simp only [go_sem])
          refine ⟨LeA.refl _, LeA.refl _, trivial⟩
        | false =>
          rw [va] at a1
          rw [vb] at a2
          rw [sm, if_pos rfl] at hsd
          rw [hsd] at a3
          simp only [va, vb, ks, sm, ov, c1, c2, if_true, if_false, Bool.false_eq_true, reduceCtorEq, Bool.and_true, Bool.and_false, Bool.true_and, Bool.false_and, Bool.not_true, Bool.not_false, Bool.true_or, Bool.false_or, Bool.or_true, Bool.or_false, Bool.and_self]
          refine spec_of_awp (fn := Tryd.f39) Tryd.func39 (by kernel_rfl) rfl ?_
          intro w0 C0
          simp only [Tryd.ntmps39, go_sem]
          all_goals have H := And.intro ks (And.intro ov (And.intro c1 (And.intro c2 wn)))
          repeat' first | refine awp_seq ?_ | refine awp_block ?_ | refine awp_skip ?_ | (apply regB; (case hd => exact hdA); intro K hK) | (apply ev_guardU; (case hj | hu | hσ => (simp only [go_sem, H]; try rfl))) | ((first | refine awp_cond _ (by rfl) ?_ ?_ | ((first | apply ev_guardT | apply ev_guardF); (case hj | hb => (simp only [go_sem, H]; try rfl)))) <;> (first | refine ttA ?_ | refine ffA ?_ | (intro hb; first | (cases hb; done) | simp only [hb] | skip))) | ((first | apply awp_exit | apply awp_ret); refine tqA ?_) | (refine ev_nil (hK _ ?_); clear hK K) | (apply ev_call0; (case hys => (simp only [go_sem, H]; try rfl)); (case hs => first | exact a1 .. | exact a2 .. | exact a3 .. | exact a4 .. | exact a5 ..); (case hok | hσ => (simp only [go_sem, H]; try rfl))) | (apply ev_step0; (case hr | hσ => (simp only [go_sem, H]; try rfl)); (case hc => exact hcA)) | (apply ev_step; (case hr | hσ => (intros; simp only [go_sem, H]; try rfl)); (case hc => exact hcA); intro g u; (try clear u); (try clear g)) | fail
          all_goals try clear H
          all_goals (refine resR_moreA ?_; simp only [go_sem])
          refine ⟨LeA.refl _, LeA.refl _, trivial⟩
      | false =>
        cases c2 : (decide (cmpV bi ai > 0)) with
        | true =>
          rw [va] at a1
          rw [vb] at a2
          rw [sm, if_pos rfl] at hsd
          rw [hsd] at a3
          simp only [va, vb, ks, sm, ov, c1, c2, if_true, if_false, Bool.false_eq_true, reduceCtorEq, Bool.and_true, Bool.and_false, Bool.true_and, Bool.false_and, Bool.not_true, Bool.not_false, Bool.true_or, Bool.false_or, Bool.or_true, Bool.or_false, Bool.and_self]
          refine spec_of_awp (fn := Tryd.f39) Tryd.func39 (by kernel_rfl) rfl ?_
          intro w0 C0
          simp only [Tryd.ntmps39, go_sem]
          all_goals have H := And.intro ks (And.intro ov (And.intro c1 (And.intro c2 wn)))
          repeat' first | refine awp_seq ?_ | refine awp_block ?_ | refine awp_skip ?_ | (apply regB; (case hd => exact hdA); intro K hK) | (apply ev_guardU; (case hj | hu | hσ => (simp only [go_sem, H]; try rfl))) | ((first | refine awp_cond _ (by rfl) ?_ ?_ | ((first | apply ev_guardT | apply ev_guardF); (case hj | hb => (simp only [go_sem, H]; try rfl)))) <;> (first | refine ttA ?_ | refine ffA ?_ | (intro hb; first | (cases hb; done) | simp only [hb] | skip))) | ((first | apply awp_exit | apply awp_ret); refine tqA ?_) | (refine ev_nil (hK _ ?_); clear hK K) | (apply ev_call0; (case hys => (simp only [go_sem, H]; try rfl)); (case hs => first | exact a1 .. | exact a2 .. | exact a3 .. | exact a4 .. | exact a5 ..); (case hok | hσ => (simp only [go_sem, H]; try rfl))) | (apply ev_step0; (case hr | hσ => (simp only [go_sem, H]; try rfl)); (case hc => exact hcA)) | (apply ev_step; (case hr | hσ => (intros; simp only [go_sem, H]; try rfl)); (case hc => exact hcA); intro g u; (try clear u); (try clear g)) | fail
          all_goals try clear H
          all_goals (refine resR_moreA ?_; simp only [go_sem])
          refine ⟨LeA.refl _, LeA.refl _, trivial⟩
        | false =>
          rw [va] at a1
          rw [vb] at a2
          rw [sm, if_pos rfl] at hsd
          rw [hsd] at a3
          simp only [va, vb, ks, sm, ov, c1, c2, if_true, if_false, Bool.false_eq_true, reduceCtorEq, Bool.and_true, Bool.and_false, Bool.true_and, Bool.false_and, Bool.not_true, Bool.not_false, Bool.true_or, Bool.false_or, Bool.or_true, Bool.or_false, Bool.and_self]
          refine spec_of_awp (fn := Tryd.f39) Tryd.func39 (by kernel_rfl) rfl ?_
          intro w0 C0
          simp only [Tryd.ntmps39, go_sem]
          all_goals have H := And.intro ks (And.intro ov (And.intro c1 (And.intro c2 wn)))
          repeat' first | refine awp_seq ?_ | refine awp_block ?_ | refine awp_skip ?_ | (apply regB; (case hd => exact hdA); intro K hK) | (apply ev_guardU; (case hj | hu | hσ => (simp only [go_sem, H]; try rfl))) | ((first | refine awp_cond _ (by rfl) ?_ ?_ | ((first | apply ev_guardT | apply ev_guardF); (case hj | hb => (simp only [go_sem, H]; try rfl)))) <;> (first | refine ttA ?_ | refine ffA ?_ | (intro hb; first | (cases hb; done) | simp only [hb] | skip))) | ((first | apply awp_exit | apply awp_ret); refine tqA ?_) | (refine ev_nil (hK _ ?_); clear hK K) | (apply ev_call0; (case hys => (simp only [go_sem, H]; try rfl)); (case hs => first | exact a1 .. | exact a2 .. | exact a3 .. | exact a4 .. | exact a5 ..); (case hok | hσ => (simp only [go_sem, H]; try rfl))) | (apply ev_step0; (case hr | hσ => (simp only [go_sem, H]; try rfl)); (case hc => exact hcA)) | (apply ev_step; (case hr | hσ => (intros; simp only [go_sem, H]; try rfl)); (case hc => exact hcA); intro g u; (try clear u); (try clear g)) | fail
          all_goals try clear H
          all_goals (refine resR_moreA ?_; simp only [go_sem])
          refine ⟨LeA.refl _, LeA.refl _, trivial⟩
    | false =>
      cases va : (validB ⟨an, true, al, ai, am⟩) with
      | false =>
        rw [va] at a1
        simp only [va, if_true, if_false, Bool.false_eq_true, reduceCtorEq, Bool.and_true, Bool.and_false, Bool.true_and, Bool.false_and, Bool.not_true, Bool.not_false, Bool.true_or, Bool.false_or, Bool.or_true, Bool.or_false, Bool.and_self]
        refine spec_of_awp (fn := Tryd.f39) Tryd.func39 (by kernel_rfl) rfl ?_
        intro w0 C0
        simp only [Tryd.ntmps39, go_sem]
        repeat' first | refine awp_seq ?_ | refine awp_block ?_ | refine awp_skip ?_ | (apply regB; (case hd => exact hdA); intro K hK) | (apply ev_guardU; (case hj | hu | hσ => (simp only [go_sem]; try rfl))) | ((first | refine awp_cond _ (by rfl) ?_ ?_ | ((first | apply ev_guardT | apply ev_guardF); (case hj | hb => (simp only [go_sem]; try rfl)))) <;> (first | refine ttA ?_ | refine ffA ?_ | (intro hb; first | (cases hb; done) | simp only [hb] | skip))) | ((first | apply awp_exit | apply awp_ret); refine tqA ?_) | (refine ev_nil (hK _ ?_); clear hK K) | (apply ev_call0; (case hys => (simp only [go_sem]; try rfl)); (case hs => first | exact a1 ..); (case hok | hσ => (simp only [go_sem]; try rfl))) | (apply ev_step0; (case hr | hσ => (simp only [go_sem]; try rfl)); (case hc => exact hcA)) | (apply ev_step; (case hr | hσ => (intros; simp only [go_sem]; try rfl)); (case hc => exact hcA); intro g u; (try clear u); (try clear g)) | fail
        all_goals (refine resR_moreA ?_; simp only [go_sem])
        refine ⟨LeA.refl _, LeA.refl _, trivial⟩
      | true =>
      cases vb : (validB ⟨bn, false, bl, bi, bm⟩) with
      | false =>
        rw [va] at a1
        rw [vb] at a2
        simp only [va, vb, if_true, if_false, Bool.false_eq_true, reduceCtorEq, Bool.and_true, Bool.and_false, Bool.true_and, Bool.false_and, Bool.not_true, Bool.not_false, Bool.true_or, Bool.false_or, Bool.or_true, Bool.or_false, Bool.and_self]
        refine spec_of_awp (fn := Tryd.f39) Tryd.func39 (by kernel_rfl) rfl ?_
        intro w0 C0
        simp only [Tryd.ntmps39, go_sem]
        repeat' first | refine awp_seq ?_ | refine awp_block ?_ | refine awp_skip ?_ | (apply regB; (case hd => exact hdA); intro K hK) | (apply ev_guardU; (case hj | hu | hσ => (simp only [go_sem]; try rfl))) | ((first | refine awp_cond _ (by rfl) ?_ ?_ | ((first | apply ev_guardT | apply ev_guardF); (case hj | hb => (simp only [go_sem]; try rfl)))) <;> (first | refine ttA ?_ | refine ffA ?_ | (intro hb; first | (cases hb; done) | simp only [hb] | skip))) | ((first | apply awp_exit | apply awp_ret); refine tqA ?_) | (refine ev_nil (hK _ ?_); clear hK K) | (apply ev_call0; (case hys => (simp only [go_sem]; try rfl)); (case hs => first | exact a1 .. | exact a2 ..); (case hok | hσ => (simp only [go_sem]; try rfl))) | (apply ev_step0; (case hr | hσ => (simp only [go_sem]; try rfl)); (case hc => exact hcA)) | (apply ev_step; (case hr | hσ => (intros; simp only [go_sem]; try rfl)); (case hc => exact hcA); intro g u; (try clear u); (try clear g)) | fail
        all_goals (refine resR_moreA ?_; simp only [go_sem])
        refine ⟨LeA.refl _, LeA.refl _, trivial⟩
      | true =>
      have b1 := validB_bd va
      have b2 := validB_bd vb
      simp only at b1 b2
      have wn : IntKind.i64.wrap (an + bn) = an + bn := wrap_id (by omega)
      have hsd : sumD [am, bm] = if small (am + bm) = true then (am + bm, 0) else (0, 2) := by
        have e1 : small am = true := small_iff.2 b1.2
        have e2 : small bm = true := small_iff.2 b2.2
        simp only [sumD, List.all_cons, List.all_nil, e1, e2, Bool.and_self, Bool.true_and, sumL, List.foldr_cons, List.foldr_nil, Int.add_zero]
      cases sm : (small (am + bm)) with
      | false =>
        rw [va] at a1
        rw [vb] at a2
        rw [sm, if_neg Bool.false_ne_true] at hsd
        rw [hsd] at a3
        simp only [va, vb, sm, if_true, if_false, Bool.false_eq_true, reduceCtorEq, Bool.and_true, Bool.and_false, Bool.true_and, Bool.false_and, Bool.not_true, Bool.not_false, Bool.true_or, Bool.false_or, Bool.or_true, Bool.or_false, Bool.and_self]
        refine spec_of_awp (fn := Tryd.f39) Tryd.func39 (by kernel_rfl) rfl ?_
        intro w0 C0
        simp only [Tryd.ntmps39, go_sem]
        repeat' first | refine awp_seq ?_ | refine awp_block ?_ | refine awp_skip ?_ | (apply regB; (case hd => exact hdA); intro K hK) | (apply ev_guardU; (case hj | hu | hσ => (simp only [go_sem]; try rfl))) | ((first | refine awp_cond _ (by rfl) ?_ ?_ | ((first | apply ev_guardT | apply ev_guardF); (case hj | hb => (simp only [go_sem]; try rfl)))) <;> (first | refine ttA ?_ | refine ffA ?_ | (intro hb; first | (cases hb; done) | simp only [hb] | skip))) | ((first | apply awp_exit | apply awp_ret); refine tqA ?_) | (refine ev_nil (hK _ ?_); clear hK K) | (apply ev_call0; (case hys => (simp only [go_sem]; try rfl)); (case hs => first | exact a1 .. | exact a2 .. | exact a3 ..); (case hok | hσ => (simp only [go_sem]; try rfl))) | (apply ev_step0; (case hr | hσ => (simp only [go_sem]; try rfl)); (case hc => exact hcA)) | (apply ev_step; (case hr | hσ => (intros; simp only [go_sem]; try rfl)); (case hc => exact hcA); intro g u; (try clear u); (try clear g)) | fail
        all_goals (refine resR_moreA ?_; simp only [go_sem])
        refine ⟨LeA.refl _, LeA.refl _, trivial⟩
      | true =>
      cases ov : (decide (an + bn > 4000000000000000000)) with
      | true =>
        rw [va] at a1
        rw [vb] at a2
        rw [sm, if_pos rfl] at hsd
        rw [hsd] at a3
        simp only [va, vb, sm, ov, if_true, if_false, Bool.false_eq_true, reduceCtorEq, Bool.and_true, Bool.and_false, Bool.true_and, Bool.false_and, Bool.not_true, Bool.not_false, Bool.true_or, Bool.false_or, Bool.or_true, Bool.or_false, Bool.and_self]
        refine spec_of_awp (fn := Tryd.f39) Tryd.func39 (by kernel_rfl) rfl ?_
        intro w0 C0
        simp only [Tryd.ntmps39, go_sem]
        all_goals have H := And.intro ov wn
        repeat' first | refine awp_seq ?_ | refine awp_block ?_ | refine awp_skip ?_ | (apply regB; (case hd => exact hdA); intro K hK) | (apply ev_guardU; (case hj | hu | hσ => (simp only [go_sem, H]; try rfl))) | ((first | refine awp_cond _ (by rfl) ?_ ?_ | ((first | apply ev_guardT | apply ev_guardF); (case hj | hb => (simp only [go_sem, H]; try rfl)))) <;> (first | refine ttA ?_ | refine ffA ?_ | (intro hb; first | (cases hb; done) | simp only [hb] | skip))) | ((first | apply awp_exit | apply awp_ret); refine tqA ?_) | (refine ev_nil (hK _ ?_); clear hK K) | (apply ev_call0; (case hys => (simp only [go_sem, H]; try rfl)); (case hs => first | exact a1 .. | exact a2 .. | exact a3 ..); (case hok | hσ => (simp only [go_sem, H]; try rfl))) | (apply ev_step0; (case hr | hσ => (simp only [go_sem, H]; try rfl)); (case hc => exact hcA)) | (apply ev_step; (case hr | hσ => (intros; simp only [go_sem, H]; try rfl)); (case hc => exact hcA); intro g u; (try clear u); (try clear g)) | fail
        all_goals try clear H
        all_goals (refine resR_moreA ?_; simp only [go_sem])
        refine ⟨LeA.refl _, LeA.refl _, trivial⟩
      | false =>
      rw [va] at a1
      rw [vb] at a2
      rw [sm, if_pos rfl] at hsd
      rw [hsd] at a3
      simp only [va, vb, sm, ov, if_true, if_false, Bool.false_eq_true, reduceCtorEq, Bool.and_true, Bool.and_false, Bool.true_and, Bool.false_and, Bool.not_true, Bool.not_false, Bool.true_or, Bool.false_or, Bool.or_true, Bool.or_false, Bool.and_self]
      refine spec_of_awp (fn := Tryd.f39) Tryd.func39 (by kernel_rfl) rfl ?_
      intro w0 C0
      simp only [Tryd.ntmps39, go_sem]
      all_goals have H := And.intro ov wn
      repeat' first | refine awp_seq ?_ | refine awp_block ?_ | refine awp_skip ?_ | (apply regB; (case hd => exact hdA); intro K hK) | (apply ev_guardU; (case hj | hu | hσ => (simp only [go_sem, H]; try rfl))) | ((first | refine awp_cond _ (by rfl) ?_ ?_ | ((first | apply ev_guardT | apply ev_guardF); (case hj | hb => (simp only [go_sem, H]; try rfl)))) <;> (first | refine ttA ?_ | refine ffA ?_ | (intro hb; first | (cases hb; done) | simp only [hb] | skip))) | ((first | apply awp_exit | apply awp_ret); refine tqA ?_) | (refine ev_nil (hK _ ?_); clear hK K) | (apply ev_call0; (case hys => (simp only [go_sem, H]; try rfl)); (case hs => first | exact a1 .. | exact a2 .. | exact a3 ..); (case hok | hσ => (simp only [go_sem, H]; try rfl))) | (apply ev_step0; (case hr | hσ => (simp only [go_sem, H]; try rfl)); (case hc => exact hcA)) | (apply ev_step; (case hr | hσ => (intros; simp only [go_sem, H]; try rfl)); (case hc => exact hcA); intro g u; (try clear u); (try clear g)) | fail
      all_goals try clear H
      all_goals (refine resR_moreA ?_; simp only [go_sem])
      refine ⟨LeA.refl _, LeA.refl _, trivial⟩
  | false =>
    cases bh with
    | true =>
      cases va : (validB ⟨an, false, al, ai, am⟩) with
      | false =>
        rw [va] at a1
        simp only [va, if_true, if_false, Bool.false_eq_true, reduceCtorEq, Bool.and_true, Bool.and_false, Bool.true_and, Bool.false_and, Bool.not_true, Bool.not_false, Bool.true_or, Bool.false_or, Bool.or_true, Bool.or_false, Bool.and_self]
        refine spec_of_awp (fn := Tryd.f39) Tryd.func39 (by kernel_rfl) rfl ?_
        intro w0 C0
        simp only [Tryd.ntmps39, go_sem]
        repeat' first | refine awp_seq ?_ | refine awp_block ?_ | refine awp_skip ?_ | (apply regB; (case hd => exact hdA); intro K hK) | (apply ev_guardU; (case hj | hu | hσ => (simp only [go_sem]; try rfl))) | ((first | refine awp_cond _ (by rfl) ?_ ?_ | ((first | apply ev_guardT | apply ev_guardF); (case hj | hb => (simp only [go_sem]; try rfl)))) <;> (first | refine ttA ?_ | refine ffA ?_ | (intro hb; first | (cases hb; done) | simp only [hb] | skip))) | ((first | apply awp_exit | apply awp_ret); refine tqA ?_) | (refine ev_nil (hK _ ?_); clear hK K) | (apply ev_call0; (case hys => (simp only [go_sem]; try rfl)); (case hs => first | exact a1 ..); (case hok | hσ => (simp only [go_sem]; try rfl))) | (apply ev_step0; (case hr | hσ => (simp only [go_sem]; try rfl)); (case hc => exact hcA)) | (apply ev_step; (case hr | hσ => (intros; simp only [go_sem]; try rfl)); (case hc => exact hcA); intro g u; (try clear u); (try clear g)) | fail
        all_goals (refine resR_moreA ?_; simp only [go_sem])
        refine ⟨LeA.refl _, LeA.refl _, trivial⟩
      | true =>
      cases vb : (validB ⟨bn, true, bl, bi, bm⟩) with
      | false =>
        rw [va] at a1
        rw [vb] at a2
        simp only [va, vb, if_true, if_false, Bool.false_eq_true, reduceCtorEq, Bool.and_true, Bool.and_false, Bool.true_and, Bool.false_and, Bool.not_true, Bool.not_false, Bool.true_or, Bool.false_or, Bool.or_true, Bool.or_false, Bool.and_self]
        refine spec_of_awp (fn := Tryd.f39) Tryd.func39 (by kernel_rfl) rfl ?_
        intro w0 C0
        simp only [Tryd.ntmps39, go_sem]
        repeat' first | refine awp_seq ?_ | refine awp_block ?_ | refine awp_skip ?_ | (apply regB; (case hd => exact hdA); intro K hK) | (apply ev_guardU; (case hj | hu | hσ => (simp only [go_sem]; try rfl))) | ((first | refine awp_cond _ (by rfl) ?_ ?_ | ((first | apply ev_guardT | apply ev_guardF); (case hj | hb => (simp only [go_sem]; try rfl)))) <;> (first | refine ttA ?_ | refine ffA ?_ | (intro hb; first | (cases hb; done) | simp only [hb] | skip))) | ((first | apply awp_exit | apply awp_ret); refine tqA ?_) | (refine ev_nil (hK _ ?_); clear hK K) | (apply ev_call0; (case hys => (simp only [go_sem]; try rfl)); (case hs => first | exact a1 .. | exact a2 ..); (case hok | hσ => (simp only [go_sem]; try rfl))) | (apply ev_step0; (case hr | hσ => (simp only [go_sem]; try rfl)); (case hc => exact hcA)) | (apply ev_step; (case hr | hσ => (intros; simp only [go_sem]; try rfl)); (case hc => exact hcA); intro g u; (try clear u); (try clear g)) | fail
        all_goals (refine resR_moreA ?_; simp only [go_sem])
        refine ⟨LeA.refl _, LeA.refl _, trivial⟩
      | true =>
      have b1 := validB_bd va
      have b2 := validB_bd vb
      simp only at b1 b2
      have wn : IntKind.i64.wrap (an + bn) = an + bn := wrap_id (by omega)
      have hsd : sumD [am, bm] = if small (am + bm) = true then (am + bm, 0) else (0, 2) := by
        have e1 : small am = true := small_iff.2 b1.2
        have e2 : small bm = true := small_iff.2 b2.2
        simp only [sumD, List.all_cons, List.all_nil, e1, e2, Bool.and_self, Bool.true_and, sumL, List.foldr_cons, List.foldr_nil, Int.add_zero]
      cases sm : (small (am + bm)) with
      | false =>
        rw [va] at a1
        rw [vb] at a2
        rw [sm, if_neg Bool.false_ne_true] at hsd
        rw [hsd] at a3
        simp only [va, vb, sm, if_true, if_false, Bool.false_eq_true, reduceCtorEq, Bool.and_true, Bool.and_false, Bool.true_and, Bool.false_and, Bool.not_true, Bool.not_false, Bool.true_or, Bool.false_or, Bool.or_true, Bool.or_false, Bool.and_self]
        refine spec_of_awp (fn := Tryd.f39) Tryd.func39 (by kernel_rfl) rfl ?_
        intro w0 C0
        simp only [Tryd.ntmps39, go_sem]
        repeat' first | refine awp_seq ?_ | refine awp_block ?_ | refine awp_skip ?_ | (apply regB; (case hd => exact hdA); intro K hK) | (apply ev_guardU; (case hj | hu | hσ => (simp only [go_sem]; try rfl))) | ((first | refine awp_cond _ (by rfl) ?_ ?_ | ((first | apply ev_guardT | apply ev_guardF); (case hj | hb => (simp only [go_sem]; try rfl)))) <;> (first | refine ttA ?_ | refine ffA ?_ | (intro hb; first | (cases hb; done) | simp only [hb] | skip))) | ((first | apply awp_exit | apply awp_ret); refine tqA ?_) | (refine ev_nil (hK _ ?_); clear hK K) | (apply ev_call0; (case hys => (simp only [go_sem]; try rfl)); (case hs => first | exact a1 .. | exact a2 .. | exact a3 ..); (case hok | hσ => (simp only [go_sem]; try rfl))) | (apply ev_step0; (case hr | hσ => (simp only [go_sem]; try rfl)); (case hc => exact hcA)) | (apply ev_step; (case hr | hσ => (intros; simp only [go_sem]; try rfl)); (case hc => exact hcA); intro g u; (try clear u); (try clear g)) | fail
        all_goals (refine resR_moreA ?_; simp only [go_sem])
        refine ⟨LeA.refl _, LeA.refl _, trivial⟩
      | true =>
      cases ov : (decide (an + bn > 4000000000000000000)) with
      | true =>
        rw [va] at a1
        rw [vb] at a2
        rw [sm, if_pos rfl] at hsd
        rw [hsd] at a3
        simp only [va, vb, sm, ov, if_true, if_false, Bool.false_eq_true, reduceCtorEq, Bool.and_true, Bool.and_false, Bool.true_and, Bool.false_and, Bool.not_true, Bool.not_false, Bool.true_or, Bool.false_or, Bool.or_true, Bool.or_false, Bool.and_self]
        refine spec_of_awp (fn := Tryd.f39) Tryd.func39 (by kernel_rfl) rfl ?_
        intro w0 C0
        simp only [Tryd.ntmps39, go_sem]
        all_goals have H := And.intro ov wn
        repeat' first | refine awp_seq ?_ | refine awp_block ?_ | refine awp_skip ?_ | (apply regB; (case hd => exact hdA); intro K hK) | (apply ev_guardU; (case hj | hu | hσ => (simp only [go_sem, H]; try rfl))) | ((first | refine awp_cond _ (by rfl) ?_ ?_ | ((first | apply ev_guardT | apply ev_guardF); (case hj | hb => (simp only [go_sem, H]; try rfl)))) <;> (first | refine ttA ?_ | refine ffA ?_ | (intro hb; first | (cases hb; done) | simp only [hb] | skip))) | ((first | apply awp_exit | apply awp_ret); refine tqA ?_) | (refine ev_nil (hK _ ?_); clear hK K) | (apply ev_call0; (case hys => (simp only [go_sem, H]; try rfl)); (case hs => first | exact a1 .. | exact a2 .. | exact a3 ..); (case hok | hσ => (simp only [go_sem, H]; try rfl))) | (apply ev_step0; (case hr | hσ => (simp only [go_sem, H]; try rfl)); (case hc => exact hcA)) | (apply ev_step; (case hr | hσ => (intros; simp only [go_sem, H]; try rfl)); (case hc => exact hcA); intro g u; (try clear u); (try clear g)) | fail
        all_goals try clear H
        all_goals (refine resR_moreA ?_; simp only [go_sem])
        refine ⟨LeA.refl _, LeA.refl _, trivial⟩
      | false =>
      rw [va] at a1
      rw [vb] at a2
      rw [sm, if_pos rfl] at hsd
      rw [hsd] at a3
      simp only [va, vb, sm, ov, if_true, if_false, Bool.false_eq_true, reduceCtorEq, Bool.and_true, Bool.and_false, Bool.true_and, Bool.false_and, Bool.not_true, Bool.not_false, Bool.true_or, Bool.false_or, Bool.or_true, Bool.or_false, Bool.and_self]
      refine spec_of_awp (fn := Tryd.f39) Tryd.func39 (by kernel_rfl) rfl ?_
      intro w0 C0
      simp only [Tryd.ntmps39, go_sem]
      all_goals have H := And.intro ov wn
      repeat' first | refine awp_seq ?_ | refine awp_block ?_ | refine awp_skip ?_ | (apply regB; (case hd => exact hdA); intro K hK) | (apply ev_guardU; (case hj | hu | hσ => (simp only [go_sem, H]; try rfl))) | ((first | refine awp_cond _ (by rfl) ?_ ?_ | ((first | apply ev_guardT | apply ev_guardF); (case hj | hb => (simp only [go_sem, H]; try rfl)))) <;> (first | refine ttA ?_ | refine ffA ?_ | (intro hb; first | (cases hb; done) | simp only [hb] | skip))) | ((first | apply awp_exit | apply awp_ret); refine tqA ?_) | (refine ev_nil (hK _ ?_); clear hK K) | (apply ev_call0; (case hys => (simp only [go_sem, H]; try rfl)); (case hs => first | exact a1 .. | exact a2 .. | exact a3 ..); (case hok | hσ => (simp only [go_sem, H]; try rfl))) | (apply ev_step0; (case hr | hσ => (simp only [go_sem, H]; try rfl)); (case hc => exact hcA)) | (apply ev_step; (case hr | hσ => (intros; simp only [go_sem, H]; try rfl)); (case hc => exact hcA); intro g u; (try clear u); (try clear g)) | fail
      all_goals try clear H
      all_goals (refine resR_moreA ?_; simp only [go_sem])
      refine ⟨LeA.refl _, LeA.refl _, trivial⟩
    | false =>
      cases va : (validB ⟨an, false, al, ai, am⟩) with
      | false =>
        rw [va] at a1
        simp only [va, if_true, if_false, Bool.false_eq_true, reduceCtorEq, Bool.and_true, Bool.and_false, Bool.true_and, Bool.false_and, Bool.not_true, Bool.not_false, Bool.true_or, Bool.false_or, Bool.or_true, Bool.or_false, Bool.and_self]
        refine spec_of_awp (fn := Tryd.f39) Tryd.func39 (by kernel_rfl) rfl ?_
        intro w0 C0
        simp only [Tryd.ntmps39, go_sem]
        repeat' first | refine awp_seq ?_ | refine awp_block ?_ | refine awp_skip ?_ | (apply regB; (case hd => exact hdA); intro K hK) | (apply ev_guardU; (case hj | hu | hσ => (simp only [go_sem]; try rfl))) | ((first | refine awp_cond _ (by rfl) ?_ ?_ | ((first | apply ev_guardT | apply ev_guardF); (case hj | hb => (simp only [go_sem]; try rfl)))) <;> (first | refine ttA ?_ | refine ffA ?_ | (intro hb; first | (cases hb; done) | simp only [hb] | skip))) | ((first | apply awp_exit | apply awp_ret); refine tqA ?_) | (refine ev_nil (hK _ ?_); clear hK K) | (apply ev_call0; (case hys => (simp only [go_sem]; try rfl)); (case hs => first | exact a1 ..); (case hok | hσ => (simp only [go_sem]; try rfl))) | (apply ev_step0; (case hr | hσ => (simp only [go_sem]; try rfl)); (case hc => exact hcA)) | (apply ev_step; (case hr | hσ => (intros; simp only [go_sem]; try rfl)); (case hc => exact hcA); intro g u; (try clear u); (try clear g)) | fail
        all_goals (refine resR_moreA ?_; simp only [go_sem])
        refine ⟨LeA.refl _, LeA.refl _, trivial⟩
      | true =>
      cases vb : (validB ⟨bn, false, bl, bi, bm⟩) with
      | false =>
        rw [va] at a1
        rw [vb] at a2
        simp only [va, vb, if_true, if_false, Bool.false_eq_true, reduceCtorEq, Bool.and_true, Bool.and_false, Bool.true_and, Bool.false_and, Bool.not_true, Bool.not_false, Bool.true_or, Bool.false_or, Bool.or_true, Bool.or_false, Bool.and_self]
        refine spec_of_awp (fn := Tryd.f39) Tryd.func39 (by kernel_rfl) rfl ?_
        intro w0 C0
        simp only [Tryd.ntmps39, go_sem]
        repeat' first | refine awp_seq ?_ | refine awp_block ?_ | refine awp_skip ?_ | (apply regB; (case hd => exact hdA); intro K hK) | (apply ev_guardU; (case hj | hu | hσ => (simp only [go_sem]; try rfl))) | ((first | refine awp_cond _ (by rfl) ?_ ?_ | ((first | apply ev_guardT | apply ev_guardF); (case hj | hb => (simp only [go_sem]; try rfl)))) <;> (first | refine ttA ?_ | refine ffA ?_ | (intro hb; first | (cases hb; done) | simp only [hb] | skip))) | ((first | apply awp_exit | apply awp_ret); refine tqA ?_) | (refine ev_nil (hK _ ?_); clear hK K) | (apply ev_call0; (case hys => (simp only [go_sem]; try rfl)); (case hs => first | exact a1 .. | exact a2 ..); (case hok | hσ => (simp only [go_sem]; try rfl))) | (apply ev_step0; (case hr | hσ => (simp only [go_sem]; try rfl)); (case hc => exact hcA)) | (apply ev_step; (case hr | hσ => (intros; simp only [go_sem]; try rfl)); (case hc => exact hcA); intro g u; (try clear u); (try clear g)) | fail
        all_goals (refine resR_moreA ?_; simp only [go_sem])
        refine ⟨LeA.refl _, LeA.refl _, trivial⟩
      | true =>
      have b1 := validB_bd va
      have b2 := validB_bd vb
      simp only at b1 b2
      have wn : IntKind.i64.wrap (an + bn) = an + bn := wrap_id (by omega)
      have hsd : sumD [am, bm] = if small (am + bm) = true then (am + bm, 0) else (0, 2) := by
        have e1 : small am = true := small_iff.2 b1.2
        have e2 : small bm = true := small_iff.2 b2.2
        simp only [sumD, List.all_cons, List.all_nil, e1, e2, Bool.and_self, Bool.true_and, sumL, List.foldr_cons, List.foldr_nil, Int.add_zero]
      cases sm : (small (am + bm)) with
      | false =>
        rw [va] at a1
        rw [vb] at a2
        rw [sm, if_neg Bool.false_ne_true] at hsd
        rw [hsd] at a3
        simp only [va, vb, sm, if_true, if_false, Bool.false_eq_true, reduceCtorEq, Bool.and_true, Bool.and_false, Bool.true_and, Bool.false_and, Bool.not_true, Bool.not_false, Bool.true_or, Bool.false_or, Bool.or_true, Bool.or_false, Bool.and_self]
        refine spec_of_awp (fn := Tryd.f39) Tryd.func39 (by kernel_rfl) rfl ?_
        intro w0 C0
        simp only [Tryd.ntmps39, go_sem]
        repeat' first | refine awp_seq ?_ | refine awp_block ?_ | refine awp_skip ?_ | (apply regB; (case hd => exact hdA); intro K hK) | (apply ev_guardU; (case hj | hu | hσ => (simp only [go_sem]; try rfl))) | ((first | refine awp_cond _ (by rfl) ?_ ?_ | ((first | apply ev_guardT | apply ev_guardF); (case hj | hb => (simp only [go_sem]; try rfl)))) <;> (first | refine ttA ?_ | refine ffA ?_ | (intro hb; first | (cases hb; done) | simp only [hb] | skip))) | ((first | apply awp_exit | apply awp_ret); refine tqA ?_) | (refine ev_nil (hK _ ?_); clear hK K) | (apply ev_call0; (case hys => (simp only [go_sem]; try rfl)); (case hs => first | exact a1 .. | exact a2 .. | exact a3 ..); (case hok | hσ => (simp only [go_sem]; try rfl))) | (apply ev_step0; (case hr | hσ => (simp only [go_sem]; try rfl)); (case hc => exact hcA)) | (apply ev_step; (case hr | hσ => (intros; simp only [go_sem]; try rfl)); (case hc => exact hcA); intro g u; (try clear u); (try clear g)) | fail
        all_goals (refine resR_moreA ?_; simp only [go_sem])
        refine ⟨LeA.refl _, LeA.refl _, trivial⟩
      | true =>
      cases ov : (decide (an + bn > 4000000000000000000)) with
      | true =>
        rw [va] at a1
        rw [vb] at a2
        rw [sm, if_pos rfl] at hsd
        rw [hsd] at a3
        simp only [va, vb, sm, ov, if_true, if_false, Bool.false_eq_true, reduceCtorEq, Bool.and_true, Bool.and_false, Bool.true_and, Bool.false_and, Bool.not_true, Bool.not_false, Bool.true_or, Bool.false_or, Bool.or_true, Bool.or_false, Bool.and_self]
        refine spec_of_awp (fn := Tryd.f39) Tryd.func39 (by kernel_rfl) rfl ?_
        intro w0 C0
        simp only [Tryd.ntmps39, go_sem]
        all_goals have H := And.intro ov wn
        repeat' first | refine awp_seq ?_ | refine awp_block ?_ | refine awp_skip ?_ | (apply regB; (case hd => exact hdA); intro K hK) | (apply ev_guardU; (case hj | hu | hσ => (simp only [go_sem, H]; try rfl))) | ((first | refine awp_cond _ (by rfl) ?_ ?_ | ((first | apply ev_guardT | apply ev_guardF); (case hj | hb => (simp only [go_sem, H]; try rfl)))) <;> (first | refine ttA ?_ | refine ffA ?_ | (intro hb; first | (cases hb; done) | simp only [hb] | skip))) | ((first | apply awp_exit | apply awp_ret); refine tqA ?_) | (refine ev_nil (hK _ ?_); clear hK K) | (apply ev_call0; (case hys => (simp only [go_sem, H]; try rfl)); (case hs => first | exact a1 .. | exact a2 .. | exact a3 ..); (case hok | hσ => (simp only [go_sem, H]; try rfl))) | (apply ev_step0; (case hr | hσ => (simp only [go_sem, H]; try rfl)); (case hc => exact hcA)) | (apply ev_step; (case hr | hσ => (intros; simp only [go_sem, H]; try rfl)); (case hc => exact hcA); intro g u; (try clear u); (try clear g)) | fail
        all_goals try clear H
        all_goals (refine resR_moreA ?_; simp only [go_sem])
        refine ⟨LeA.refl _, LeA.refl _, trivial⟩
      | false =>
      rw [va] at a1
      rw [vb] at a2
      rw [sm, if_pos rfl] at hsd
      rw [hsd] at a3
      simp only [va, vb, sm, ov, if_true, if_false, Bool.false_eq_true, reduceCtorEq, Bool.and_true, Bool.and_false, Bool.true_and, Bool.false_and, Bool.not_true, Bool.not_false, Bool.true_or, Bool.false_or, Bool.or_true, Bool.or_false, Bool.and_self]
      refine spec_of_awp (fn := Tryd.f39) Tryd.func39 (by kernel_rfl) rfl ?_
      intro w0 C0
      simp only [Tryd.ntmps39, go_sem]
      all_goals have H := And.intro ov wn
      repeat' first | refine awp_seq ?_ | refine awp_block ?_ | refine awp_skip ?_ | (apply regB; (case hd => exact hdA); intro K hK) | (apply ev_guardU; (case hj | hu | hσ => (simp only [go_sem, H]; try rfl))) | ((first | refine awp_cond _ (by rfl) ?_ ?_ | ((first | apply ev_guardT | apply ev_guardF); (case hj | hb => (simp only [go_sem, H]; try rfl)))) <;> (first | refine ttA ?_ | refine ffA ?_ | (intro hb; first | (cases hb; done) | simp only [hb] | skip))) | ((first | apply awp_exit | apply awp_ret); refine tqA ?_) | (refine ev_nil (hK _ ?_); clear hK K) | (apply ev_call0; (case hys => (simp only [go_sem, H]; try rfl)); (case hs => first | exact a1 .. | exact a2 .. | exact a3 ..); (case hok | hσ => (simp only [go_sem, H]; try rfl))) | (apply ev_step0; (case hr | hσ => (simp only [go_sem, H]; try rfl)); (case hc => exact hcA)) | (apply ev_step; (case hr | hσ => (intros; simp only [go_sem, H]; try rfl)); (case hc => exact hcA); intro g u; (try clear u); (try clear g)) | fail
      all_goals try clear H
      all_goals (refine resR_moreA ?_; simp only [go_sem])
      refine ⟨LeA.refl _, LeA.refl _, trivial⟩
theorem f14_spec (a b : Bd) (ha : BdOk a) (hb : BdOk b) : Spec Tryd.prog 14 [.agg (bd a), .agg (bd b)] (.agg (got (mergeM a b))) := by
  have h39 := f39_spec a b ha hb
  refine spec_of_awp (fn := Tryd.f14) Tryd.func14 (by kernel_rfl) rfl ?_
  intro w0 C0
  simp only [Tryd.ntmps14, go_sem]
  repeat' first | refine awp_seq ?_ | (apply regB; (case hd => exact hdA); intro K hK) | (apply awp_ret; refine tqA ?_) | (refine ev_nil (hK _ ?_); clear hK K) | (apply ev_call0; (case hys => (simp only [go_sem]; try rfl)); (case hs => first | exact h39 ..); (case hok | hσ => (simp only [go_sem]; try rfl))) | (apply ev_step0; (case hr | hσ => (simp only [go_sem]; try rfl)); (case hc => exact hcA)) | (apply ev_step; (case hr | hσ => (intros; simp only [go_sem]; try rfl)); (case hc => exact hcA); intro g u; (try clear u); (try clear g)) | fail
  all_goals (refine resR_oneA ?_; simp only [go_sem])
  exact LeA.refl _
end
section
set_option linter.unusedVariables false
set_option linter.unusedSimpArgs false
open Go.RowKit
attribute [local irreducible] Spec SpecF SpecN
attribute [local irreducible] AWp evOps evD
structure Sp where
  null : Bool
  has : Bool
  lo : Vl
  hi : Vl
abbrev sp (s : Sp) : List AV := [litB s.null, litB s.has, litI .i64 s.lo.k, litI .i64 s.lo.i, litS s.lo.s, litI .i64 s.hi.k, litI .i64 s.hi.i, litS s.hi.s]
abbrev zeroSp : Sp := ⟨false, false, nullV, nullV⟩
def eqVl (a b : Vl) : Bool := (a.k == b.k) && ((a.i == b.i) && (a.s.toList == b.s.toList))
def isBool (b : Bool) (v : Vl) : Bool := eqVl v (boolV b)
def noM (s : Sp) : Bool := s.has && isBool false s.lo
def yesM (s : Sp) : Bool := s.has && isBool true s.hi
def truthM (no yes un : Bool) : Sp := if (no || yes) = true then ⟨un, true, boolV (!no), boolV yes⟩ else ⟨un, false, nullV, nullV⟩
theorem f116_spec (s : Sp) : Spec Tryd.prog 116 [.agg (sp s)] (litB (eqVl s.lo s.hi)) := by
  refine spec_of_awp (fn := Tryd.f116) Tryd.func116 (by kernel_rfl) rfl ?_
  intro w0 C0
  simp only [Tryd.ntmps116, go_sem]
  repeat' first | refine awp_seq ?_ | (apply regB; (case hd => exact hdA); intro K hK) | (apply awp_ret; refine tqA ?_) | (refine ev_nil (hK _ ?_); clear hK K) | (apply ev_step0; (case hr | hσ => (simp only [go_sem]; try rfl)); (case hc => exact hcA)) | (apply ev_step; (case hr | hσ => (intros; simp only [go_sem]; try rfl)); (case hc => exact hcA); intro g u; (try clear u); (try clear g)) | fail
  all_goals (refine resR_oneA ?_; simp only [go_sem])
  exact LeA.refl _
theorem f44_spec (s : Sp) : Spec Tryd.prog 44 [.agg (sp s)] (litB (noM s)) := by
  obtain ⟨n, h, lo, hi⟩ := s
  cases h
  · refine spec_of_awp (fn := Tryd.f44) Tryd.func44 (by kernel_rfl) rfl ?_
    intro w0 C0
    simp only [Tryd.ntmps44, go_sem]
    repeat' first | refine awp_seq ?_ | (apply regB; (case hd => exact hdA); intro K hK) | (apply ev_guardU; (case hj | hu | hσ => (simp only [go_sem]; try rfl))) | ((((first | apply ev_guardT | apply ev_guardF); (case hj | hb => (simp only [go_sem]; try rfl)))) <;> (first | refine ttA ?_ | refine ffA ?_ | (intro hb; first | (cases hb; done) | simp only [hb] | skip))) | (apply awp_ret; refine tqA ?_) | (refine ev_nil (hK _ ?_); clear hK K) | (apply ev_step0; (case hr | hσ => (simp only [go_sem]; try rfl)); (case hc => exact hcA)) | (apply ev_step; (case hr | hσ => (intros; simp only [go_sem]; try rfl)); (case hc => exact hcA); intro g u; (try clear u); (try clear g)) | fail
    all_goals (refine resR_oneA ?_; simp only [go_sem])
    exact LeA.refl _
  · refine spec_of_awp (fn := Tryd.f44) Tryd.func44 (by kernel_rfl) rfl ?_
    intro w0 C0
    simp only [Tryd.ntmps44, go_sem]
    repeat' first | refine awp_seq ?_ | (apply regB; (case hd => exact hdA); intro K hK) | (apply ev_guardU; (case hj | hu | hσ => (simp only [go_sem]; try rfl))) | ((((first | apply ev_guardT | apply ev_guardF); (case hj | hb => (simp only [go_sem]; try rfl)))) <;> (first | refine ttA ?_ | refine ffA ?_ | (intro hb; first | (cases hb; done) | simp only [hb] | skip))) | (apply awp_ret; refine tqA ?_) | (refine ev_nil (hK _ ?_); clear hK K) | (apply ev_step0; (case hr | hσ => (simp only [go_sem]; try rfl)); (case hc => exact hcA)) | (apply ev_step; (case hr | hσ => (intros; simp only [go_sem]; try rfl)); (case hc => exact hcA); intro g u; (try clear u); (try clear g)) | fail
    all_goals (refine resR_oneA ?_; simp only [go_sem])
    exact LeA.refl _
theorem f45_spec (s : Sp) : Spec Tryd.prog 45 [.agg (sp s)] (litB (yesM s)) := by
  obtain ⟨n, h, lo, hi⟩ := s
  cases h
  · refine spec_of_awp (fn := Tryd.f45) Tryd.func45 (by kernel_rfl) rfl ?_
    intro w0 C0
    simp only [Tryd.ntmps45, go_sem]
    repeat' first | refine awp_seq ?_ | (apply regB; (case hd => exact hdA); intro K hK) | (apply ev_guardU; (case hj | hu | hσ => (simp only [go_sem]; try rfl))) | ((((first | apply ev_guardT | apply ev_guardF); (case hj | hb => (simp only [go_sem]; try rfl)))) <;> (first | refine ttA ?_ | refine ffA ?_ | (intro hb; first | (cases hb; done) | simp only [hb] | skip))) | (apply awp_ret; refine tqA ?_) | (refine ev_nil (hK _ ?_); clear hK K) | (apply ev_step0; (case hr | hσ => (simp only [go_sem]; try rfl)); (case hc => exact hcA)) | (apply ev_step; (case hr | hσ => (intros; simp only [go_sem]; try rfl)); (case hc => exact hcA); intro g u; (try clear u); (try clear g)) | fail
    all_goals (refine resR_oneA ?_; simp only [go_sem])
    exact LeA.refl _
  · refine spec_of_awp (fn := Tryd.f45) Tryd.func45 (by kernel_rfl) rfl ?_
    intro w0 C0
    simp only [Tryd.ntmps45, go_sem]
    repeat' first | refine awp_seq ?_ | (apply regB; (case hd => exact hdA); intro K hK) | (apply ev_guardU; (case hj | hu | hσ => (simp only [go_sem]; try rfl))) | ((((first | apply ev_guardT | apply ev_guardF); (case hj | hb => (simp only [go_sem]; try rfl)))) <;> (first | refine ttA ?_ | refine ffA ?_ | (intro hb; first | (cases hb; done) | simp only [hb] | skip))) | (apply awp_ret; refine tqA ?_) | (refine ev_nil (hK _ ?_); clear hK K) | (apply ev_step0; (case hr | hσ => (simp only [go_sem]; try rfl)); (case hc => exact hcA)) | (apply ev_step; (case hr | hσ => (intros; simp only [go_sem]; try rfl)); (case hc => exact hcA); intro g u; (try clear u); (try clear g)) | fail
    all_goals (refine resR_oneA ?_; simp only [go_sem])
    exact LeA.refl _
theorem f109_spec (no yes un : Bool) : Spec Tryd.prog 109 [litB no, litB yes, litB un] (.agg (sp (truthM no yes un))) := by
  cases no <;> cases yes
  all_goals
    refine spec_of_awp (fn := Tryd.f109) Tryd.func109 (by kernel_rfl) rfl ?_
    intro w0 C0
    simp only [Tryd.ntmps109, go_sem]
    repeat' first | refine awp_seq ?_ | refine awp_block ?_ | refine awp_skip ?_ | (apply regB; (case hd => exact hdA); intro K hK) | (apply ev_guardU; (case hj | hu | hσ => (simp only [go_sem]; try rfl))) | ((first | refine awp_cond _ (by rfl) ?_ ?_ | ((first | apply ev_guardT | apply ev_guardF); (case hj | hb => (simp only [go_sem]; try rfl)))) <;> (first | refine ttA ?_ | refine ffA ?_ | (intro hb; first | (cases hb; done) | simp only [hb] | skip))) | ((first | apply awp_exit | apply awp_ret); refine tqA ?_) | (refine ev_nil (hK _ ?_); clear hK K) | (apply regDB; (case hd => exact hdA); (case' h => (intro K hK; (repeat' first | (apply evd_nil; refine (hK _ ?_); clear hK K) | (apply evd_step0; (case hr | hi | hσ => (simp only [go_sem]; try rfl)); (case hc => exact hcA)) | (apply evd_step; (case hr | hi | hw | hσ => (intros; simp only [go_sem]; try rfl)); (case hc => exact hcA); (case' hk => (intro g u; (try clear u); (try clear g)))) | fail))); (case hB => kernel_rfl)) | (apply ev_step0; (case hr | hσ => (simp only [go_sem]; try rfl)); (case hc => exact hcA)) | (apply ev_step; (case hr | hσ => (intros; simp only [go_sem]; try rfl)); (case hc => exact hcA); intro g u; (try clear u); (try clear g)) | fail
    all_goals (refine resR_oneA ?_; simp only [go_sem])
    exact LeA.refl _
def apartM (s t : Sp) : Bool := decide (cmpV s.hi t.lo < 0) || decide (cmpV t.hi s.lo < 0)
def equalM (s t : Sp) : Sp := truthM (!eqVl s.lo s.hi || !eqVl t.lo t.hi || !eqVl s.lo t.lo) (!apartM s t) false
def lessM (s t : Sp) : Sp := truthM (decide (cmpV s.hi t.lo ≥ 0)) (decide (cmpV s.lo t.hi < 0)) false
theorem f111_spec (s t : Sp) : Spec Tryd.prog 111 [.agg (sp s), .agg (sp t)] (.agg (sp (lessM s t))) := by
  have a1 := f41_spec s.hi t.lo
  have a2 := f41_spec s.lo t.hi
  have a3 := f109_spec (decide (cmpV s.hi t.lo ≥ 0)) (decide (cmpV s.lo t.hi < 0)) false
  refine spec_of_awp (fn := Tryd.f111) Tryd.func111 (by kernel_rfl) rfl ?_
  intro w0 C0
  simp only [Tryd.ntmps111, go_sem]
  repeat' first | refine awp_seq ?_ | (apply regB; (case hd => exact hdA); intro K hK) | (apply awp_ret; refine tqA ?_) | (refine ev_nil (hK _ ?_); clear hK K) | (apply regDB; (case hd => exact hdA); (case' h => (intro K hK; (repeat' first | (apply evd_nil; refine (hK _ ?_); clear hK K) | (apply evd_call0; (case hi | hys => (simp only [go_sem]; try rfl)); (case hs => first | exact a1 .. | exact a2 .. | exact a3 ..); (case hok | hw | hσ => (simp only [go_sem]; try rfl))) | (apply evd_step0; (case hr | hi | hσ => (simp only [go_sem]; try rfl)); (case hc => exact hcA)) | (apply evd_step; (case hr | hi | hw | hσ => (intros; simp only [go_sem]; try rfl)); (case hc => exact hcA); (case' hk => (intro g u; (try clear u); (try clear g)))) | fail))); (case hB => kernel_rfl)) | (apply ev_step0; (case hr | hσ => (simp only [go_sem]; try rfl)); (case hc => exact hcA)) | (apply ev_step; (case hr | hσ => (intros; simp only [go_sem]; try rfl)); (case hc => exact hcA); intro g u; (try clear u); (try clear g)) | fail
  all_goals (refine resR_oneA ?_; simp only [go_sem])
  exact LeA.refl _
set_option maxHeartbeats 4000000 in
theorem f110_spec (s t : Sp) : Spec Tryd.prog 110 [.agg (sp s), .agg (sp t)] (.agg (sp (equalM s t))) := by
  have a1 := f41_spec s.hi t.lo
  have a2 := f41_spec t.hi s.lo
  have b1 := f116_spec s
  have b2 := f116_spec t
  have a3 := f109_spec (!eqVl s.lo s.hi || !eqVl t.lo t.hi || !eqVl s.lo t.lo) (!apartM s t) false
  have hq : ((s.lo.k == t.lo.k) && ((s.lo.i == t.lo.i) && (s.lo.s.toList == t.lo.s.toList))) = eqVl s.lo t.lo := rfl
  unfold equalM
  unfold apartM at a3 ⊢
  generalize eqVl s.lo s.hi = e1 at *
  generalize eqVl t.lo t.hi = e2 at *
  cases d1 : decide (cmpV s.hi t.lo < 0) <;> cases d2 : decide (cmpV t.hi s.lo < 0) <;> rw [d1, d2] at a3 <;> simp only [Bool.not_true, Bool.not_false, Bool.or_true, Bool.or_false, Bool.true_or, Bool.false_or, Bool.or_self] at a3 ⊢ <;> cases e1 <;> cases e2 <;> simp only [Bool.not_true, Bool.not_false, Bool.or_true, Bool.or_false, Bool.true_or, Bool.false_or, Bool.or_self] at a3 ⊢
  all_goals
    refine spec_of_awp (fn := Tryd.f110) Tryd.func110 (by kernel_rfl) rfl ?_
    intro w0 C0
    simp only [Tryd.ntmps110, go_sem]
    all_goals have H := And.intro d1 (And.intro d2 hq)
    repeat' first | refine awp_seq ?_ | (apply regB; (case hd => exact hdA); intro K hK) | (apply ev_guardU; (case hj | hu | hσ => (simp only [go_sem, H]; try rfl))) | ((((first | apply ev_guardT | apply ev_guardF); (case hj | hb => (simp only [go_sem, H]; try rfl)))) <;> (first | refine ttA ?_ | refine ffA ?_ | (intro hb; first | (cases hb; done) | simp only [hb] | skip))) | (apply awp_ret; refine tqA ?_) | (refine ev_nil (hK _ ?_); clear hK K) | (apply ev_call0; (case hys => (simp only [go_sem, H]; try rfl)); (case hs => first | exact a1 .. | exact a2 .. | exact b1 .. | exact b2 .. | exact a3 ..); (case hok | hσ => (simp only [go_sem, H]; try rfl))) | (apply ev_step0; (case hr | hσ => (simp only [go_sem, H]; try rfl)); (case hc => exact hcA)) | (apply ev_step; (case hr | hσ => (intros; simp only [go_sem, H]; try rfl)); (case hc => exact hcA); intro g u; (try clear u); (try clear g)) | fail
    all_goals try clear H
    all_goals (refine resR_oneA ?_; simp only [go_sem])
    exact LeA.refl _
end
end Go.Proofs.YtopigomfhggkoaaDoor.A
