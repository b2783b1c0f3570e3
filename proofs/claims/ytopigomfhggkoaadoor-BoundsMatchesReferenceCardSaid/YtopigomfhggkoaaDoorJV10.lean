/- Ranges of expressions: operators with one argument. (Written by mk11.py.) Ranges of typed expressions: the walk, and that wider bounds give wider ranges. Ranges of comparisons in the reference: the walk. -/
import Derived.Test.YtopigomfhggkoaaDoorJV4
import Derived.Test.YtopigomfhggkoaaDoorJV8
import Derived.Test.YtopigomfhggkoaaDoorJV9
namespace Go.Proofs.YtopigomfhggkoaaDoor.A
section
set_option linter.unusedVariables false
set_option linter.unusedSimpArgs false
open Go.RowKit
attribute [local irreducible] Spec SpecF SpecN
attribute [local irreducible] AWp evOps evD
set_option maxHeartbeats 4000000 in
theorem f43_un8 (B : Dat) (e1 : Ex) (s r : Sp) (h1 : Spec Tryd.prog 43 [.d B, .agg (exA e1)] (.agg (sp s))) (hf : Spec Tryd.prog 107 [.agg (sp s), .agg (sp zeroSp)] (.agg (sp r))) : Spec Tryd.prog 43 [.d B, .agg (exA (.un 8 e1))] (.agg (sp r)) := by
  simp only [exA, opE_un, cE_un, vE_un, argsD_un] at h1 ⊢
  refine spec_of_awp (fn := Tryd.f43) Tryd.func43 (by kernel_rfl) rfl ?_
  intro w0 C0
  simp only [Tryd.ntmps43, go_sem]
  repeat' first | refine awp_seq ?_ | refine awp_block ?_ | refine awp_skip ?_ | (apply regB; (case hd => exact hdA); intro K hK) | (apply ev_guardU; (case hj | hu | hσ => (simp only [go_sem]; try rfl))) | ((first | refine awp_cond _ (by rfl) ?_ ?_ | ((first | apply ev_guardT | apply ev_guardF); (case hj | hb => (simp only [go_sem]; try rfl)))) <;> (first | refine ttA ?_ | refine ffA ?_ | (intro hb; first | (cases hb; done) | simp only [hb] | skip))) | ((first | apply awp_exit | apply awp_ret); refine tqA ?_) | (refine ev_nil (hK _ ?_); clear hK K) | (apply ev_step0; (case hr | hσ => (simp only [go_sem]; try rfl)); (case hc => exact hcA)) | (apply ev_step; (case hr | hσ => (intros; simp only [go_sem]; try rfl)); (case hc => exact hcA); intro g u; (try clear u); (try clear g)) | fail
  rename_i g3 g4
  revert g; intro g6
  refine awp_loopI (fun i : Nat => i ≤ 1) (fun i => 1 - i) (fun i => ⟨[.d B, .any, .any, .ptr 3 g3 0, .ptr 4 g4 0, .any, .ptr 6 g6 0, .any, .any, .any, .any, .any, .any, .any, .any, .any, .any, .any, .any, .any, .any, .any, .any, .any, .any, .any, .any, .any, .any, .any, .any, .any, .any, .any, .any, .any, .any, .any, .any, .d (.sl 6 [exD e1]), litI .i64 1, litI .i64 i, .any, .any, .any, .any, .any, .any, .any, .any, .any, .any, .any, .any, .any, .any, .any, .any, .any, .any, .any, .any, .any, .any, .any, .any, .any, .any, .any, .any, .any, .any, .any, .any, .any, .any, .any, .any, .any, .any, .any, .any, .any, .any, .any, .any, .any, .any, .any, .any, .any, .any, .any, .any, .any, .any, .any], [.no, .no, .no, .box g3 (exA (.un 8 e1)), .box g4 zsp, .no, .box g6 (arrS s zeroSp i), .no, .no, .no, .no, .no, .no, .no, .no, .no, .no, .no, .no, .no, .no, .no, .no, .no, .no, .no, .no, .no, .no, .no, .no, .no, .no, .no, .no, .no, .no, .no, .no, .no, .no, .no, .no, .no, .no, .no, .no, .no, .no, .no, .no, .no, .no, .no, .no, .no, .no, .no, .no, .no, .no, .no, .no, .no, .no, .no, .no, .no, .no, .no, .no, .no, .no, .no, .no, .no, .no, .no, .no, .no, .no, .no, .no, .no, .no, .no, .no, .no, .no, .no, .no, .no, .no, .no, .no, .no, .no]⟩) 0 (by omega) ?_ ?_
  · simp only [arrS, exA, opE_un, cE_un, vE_un, argsD_un]
    exact wkA
  intro i hi
  simp only [litI, litB, litS] at hi h1 hf ⊢
  obtain rfl | rfl : i = 0 ∨ i = 1 := by omega
  · simp only [arrS, exA, opE_un, cE_un, vE_un, argsD_un, litI, litB, litS]
    have d1 : decide (((0 : Nat) : Int) < 1) = true := by decide
    repeat' first | refine awp_seq ?_ | refine awp_block ?_ | refine awp_skip ?_ | (apply regB; (case hd => exact hdA); intro K hK) | (apply ev_guardU; (case hj | hu | hσ => (simp only [go_sem, d1]; try rfl))) | ((first | refine awp_cond _ (by rfl) ?_ ?_ | ((first | apply ev_guardT | apply ev_guardF); (case hj | hb => (simp only [go_sem, d1]; try rfl)))) <;> (first | refine ttA ?_ | refine ffA ?_ | (intro hb; first | (cases hb; done) | simp only [hb] | skip))) | ((first | apply awp_exit | apply awp_ret); refine tqA ?_) | (refine ev_nil (hK _ ?_); clear hK K) | (apply ev_call0; (case hys => (simp only [go_sem, d1]; try rfl)); (case hs => first | exact h1 ..); (case hok | hσ => (simp only [go_sem, d1]; try rfl))) | (apply ev_callC; (case hf | hys => (simp only [go_sem, d1]; try rfl)); (case hs => first | exact h1 ..); (case hok | hσ => (simp only [go_sem, d1]; try rfl))) | (apply ev_step0; (case hr | hσ => (simp only [go_sem, d1]; try rfl)); (case hc => exact hcA)) | (apply ev_step; (case hr | hσ => (intros; simp only [go_sem, d1]; try rfl)); (case hc => exact hcA); intro g u; (try clear u); (try clear g)) | fail
    refine Exists.intro 1 ⟨by omega, by omega, ?_⟩
    simp only [arrS, exA, opE_un, cE_un, vE_un, argsD_un]
    exact wkA
  simp only [arrS, exA, opE_un, cE_un, vE_un, argsD_un, litI, litB, litS]
  have d1 : decide (((1 : Nat) : Int) < 1) = false := by decide
  repeat' first | refine awp_seq ?_ | refine awp_block ?_ | refine awp_skip ?_ | (apply regB; (case hd => exact hdA); intro K hK) | (apply ev_guardU; (case hj | hu | hσ => (simp only [go_sem, d1]; try rfl))) | ((first | refine awp_cond _ (by rfl) ?_ ?_ | ((first | apply ev_guardT | apply ev_guardF); (case hj | hb => (simp only [go_sem, d1]; try rfl)))) <;> (first | refine ttA ?_ | refine ffA ?_ | (intro hb; first | (cases hb; done) | simp only [hb] | skip))) | ((first | apply awp_exit | apply awp_ret); refine tqA ?_) | (refine ev_nil (hK _ ?_); clear hK K) | (apply ev_call0; (case hys => (simp only [go_sem, d1]; try rfl)); (case hs => first | exact hf ..); (case hok | hσ => (simp only [go_sem, d1]; try rfl))) | (apply ev_callC; (case hf | hys => (simp only [go_sem, d1]; try rfl)); (case hs => first | exact hf ..); (case hok | hσ => (simp only [go_sem, d1]; try rfl))) | (apply ev_step0; (case hr | hσ => (simp only [go_sem, d1]; try rfl)); (case hc => exact hcA)) | (apply ev_step; (case hr | hσ => (intros; simp only [go_sem, d1]; try rfl)); (case hc => exact hcA); intro g u; (try clear u); (try clear g)) | fail
  all_goals (refine resR_oneA ?_; simp only [go_sem])
  exact LeA.refl _
set_option maxHeartbeats 4000000 in
theorem f43_un9 (B : Dat) (e1 : Ex) (s r : Sp) (h1 : Spec Tryd.prog 43 [.d B, .agg (exA e1)] (.agg (sp s))) (hf : Spec Tryd.prog 108 [.agg (sp s), .agg (sp zeroSp)] (.agg (sp r))) : Spec Tryd.prog 43 [.d B, .agg (exA (.un 9 e1))] (.agg (sp r)) := by
  simp only [exA, opE_un, cE_un, vE_un, argsD_un] at h1 ⊢
  refine spec_of_awp (fn := Tryd.f43) Tryd.func43 (by kernel_rfl) rfl ?_
  intro w0 C0
  simp only [Tryd.ntmps43, go_sem]
  repeat' first | refine awp_seq ?_ | refine awp_block ?_ | refine awp_skip ?_ | (apply regB; (case hd => exact hdA); intro K hK) | (apply ev_guardU; (case hj | hu | hσ => (simp only [go_sem]; try rfl))) | ((first | refine awp_cond _ (by rfl) ?_ ?_ | ((first | apply ev_guardT | apply ev_guardF); (case hj | hb => (simp only [go_sem]; try rfl)))) <;> (first | refine ttA ?_ | refine ffA ?_ | (intro hb; first | (cases hb; done) | simp only [hb] | skip))) | ((first | apply awp_exit | apply awp_ret); refine tqA ?_) | (refine ev_nil (hK _ ?_); clear hK K) | (apply ev_step0; (case hr | hσ => (simp only [go_sem]; try rfl)); (case hc => exact hcA)) | (apply ev_step; (case hr | hσ => (intros; simp only [go_sem]; try rfl)); (case hc => exact hcA); intro g u; (try clear u); (try clear g)) | fail
  rename_i g3 g4
  revert g; intro g6
  refine awp_loopI (fun i : Nat => i ≤ 1) (fun i => 1 - i) (fun i => ⟨[.d B, .any, .any, .ptr 3 g3 0, .ptr 4 g4 0, .any, .ptr 6 g6 0, .any, .any, .any, .any, .any, .any, .any, .any, .any, .any, .any, .any, .any, .any, .any, .any, .any, .any, .any, .any, .any, .any, .any, .any, .any, .any, .any, .any, .any, .any, .any, .any, .d (.sl 6 [exD e1]), litI .i64 1, litI .i64 i, .any, .any, .any, .any, .any, .any, .any, .any, .any, .any, .any, .any, .any, .any, .any, .any, .any, .any, .any, .any, .any, .any, .any, .any, .any, .any, .any, .any, .any, .any, .any, .any, .any, .any, .any, .any, .any, .any, .any, .any, .any, .any, .any, .any, .any, .any, .any, .any, .any, .any, .any, .any, .any, .any, .any], [.no, .no, .no, .box g3 (exA (.un 9 e1)), .box g4 zsp, .no, .box g6 (arrS s zeroSp i), .no, .no, .no, .no, .no, .no, .no, .no, .no, .no, .no, .no, .no, .no, .no, .no, .no, .no, .no, .no, .no, .no, .no, .no, .no, .no, .no, .no, .no, .no, .no, .no, .no, .no, .no, .no, .no, .no, .no, .no, .no, .no, .no, .no, .no, .no, .no, .no, .no, .no, .no, .no, .no, .no, .no, .no, .no, .no, .no, .no, .no, .no, .no, .no, .no, .no, .no, .no, .no, .no, .no, .no, .no, .no, .no, .no, .no, .no, .no, .no, .no, .no, .no, .no, .no, .no, .no, .no, .no, .no]⟩) 0 (by omega) ?_ ?_
  · simp only [arrS, exA, opE_un, cE_un, vE_un, argsD_un]
    exact wkA
  intro i hi
  simp only [litI, litB, litS] at hi h1 hf ⊢
  obtain rfl | rfl : i = 0 ∨ i = 1 := by omega
  · simp only [arrS, exA, opE_un, cE_un, vE_un, argsD_un, litI, litB, litS]
    have d1 : decide (((0 : Nat) : Int) < 1) = true := by decide
    repeat' first | refine awp_seq ?_ | refine awp_block ?_ | refine awp_skip ?_ | (apply regB; (case hd => exact hdA); intro K hK) | (apply ev_guardU; (case hj | hu | hσ => (simp only [go_sem, d1]; try rfl))) | ((first | refine awp_cond _ (by rfl) ?_ ?_ | ((first | apply ev_guardT | apply ev_guardF); (case hj | hb => (simp only [go_sem, d1]; try rfl)))) <;> (first | refine ttA ?_ | refine ffA ?_ | (intro hb; first | (cases hb; done) | simp only [hb] | skip))) | ((first | apply awp_exit | apply awp_ret); refine tqA ?_) | (refine ev_nil (hK _ ?_); clear hK K) | (apply ev_call0; (case hys => (simp only [go_sem, d1]; try rfl)); (case hs => first | exact h1 ..); (case hok | hσ => (simp only [go_sem, d1]; try rfl))) | (apply ev_callC; (case hf | hys => (simp only [go_sem, d1]; try rfl)); (case hs => first | exact h1 ..); (case hok | hσ => (simp only [go_sem, d1]; try rfl))) | (apply ev_step0; (case hr | hσ => (simp only [go_sem, d1]; try rfl)); (case hc => exact hcA)) | (apply ev_step; (case hr | hσ => (intros; simp only [go_sem, d1]; try rfl)); (case hc => exact hcA); intro g u; (try clear u); (try clear g)) | fail
    refine Exists.intro 1 ⟨by omega, by omega, ?_⟩
    simp only [arrS, exA, opE_un, cE_un, vE_un, argsD_un]
    exact wkA
  simp only [arrS, exA, opE_un, cE_un, vE_un, argsD_un, litI, litB, litS]
  have d1 : decide (((1 : Nat) : Int) < 1) = false := by decide
  repeat' first | refine awp_seq ?_ | refine awp_block ?_ | refine awp_skip ?_ | (apply regB; (case hd => exact hdA); intro K hK) | (apply ev_guardU; (case hj | hu | hσ => (simp only [go_sem, d1]; try rfl))) | ((first | refine awp_cond _ (by rfl) ?_ ?_ | ((first | apply ev_guardT | apply ev_guardF); (case hj | hb => (simp only [go_sem, d1]; try rfl)))) <;> (first | refine ttA ?_ | refine ffA ?_ | (intro hb; first | (cases hb; done) | simp only [hb] | skip))) | ((first | apply awp_exit | apply awp_ret); refine tqA ?_) | (refine ev_nil (hK _ ?_); clear hK K) | (apply ev_call0; (case hys => (simp only [go_sem, d1]; try rfl)); (case hs => first | exact hf ..); (case hok | hσ => (simp only [go_sem, d1]; try rfl))) | (apply ev_callC; (case hf | hys => (simp only [go_sem, d1]; try rfl)); (case hs => first | exact hf ..); (case hok | hσ => (simp only [go_sem, d1]; try rfl))) | (apply ev_step0; (case hr | hσ => (simp only [go_sem, d1]; try rfl)); (case hc => exact hcA)) | (apply ev_step; (case hr | hσ => (intros; simp only [go_sem, d1]; try rfl)); (case hc => exact hcA); intro g u; (try clear u); (try clear g)) | fail
  all_goals (refine resR_oneA ?_; simp only [go_sem])
  exact LeA.refl _
end
section
set_option linter.unusedVariables false
set_option linter.unusedSimpArgs false
open Go.RowKit
def colS (b : Bd) : Sp := ⟨decide (b.nulls > 0), b.has, b.lo, b.hi⟩
def plusM (s t : Sp) : Sp := numbersM (s.lo.i + t.lo.i) (s.hi.i + t.hi.i)
def minusM (s t : Sp) : Sp := numbersM (s.lo.i - t.hi.i) (s.hi.i - t.lo.i)
def biM (op : Int) (s t : Sp) : Sp :=
  if op = 3 then strictM s t (equalM s t) else if op = 4 then strictM s t (lessM s t) else if op = 5 then strictM s t (mostM s t)
  else if op = 6 then andM s t else if op = 7 then orM s t
  else if op = 10 then strictM s t (plusM s t) else if op = 11 then strictM s t (minusM s t) else strictM s t (prefixM s t)
def rangeM (B : List Bd) : Ex → Sp
  | .leaf op c v => if op = 1 then ⟨false, true, v, v⟩ else colS (B.getD c.toNat zeroBd)
  | .un op a => if op = 8 then notM (rangeM B a) else isNullM (rangeM B a)
  | .bi op a b => biM op (rangeM B a) (rangeM B b)
theorem KS.lo_bd {s : Sp} (h : KS 2 s) : (-4000000000000000000 ≤ s.lo.i ∧ s.lo.i ≤ 4000000000000000000) ∧ -4000000000000000000 ≤ s.hi.i ∧ s.hi.i ≤ 4000000000000000000 := by
  cases hh : s.has with
  | true =>
    have := h.has hh
    have h1 := this.1.num rfl
    have h2 := this.2.1.num rfl
    exact ⟨⟨h1.1, h1.2.1⟩, h2.1, h2.2.1⟩
  | false =>
    have := h.no hh
    rw [this.1, this.2]
    decide
theorem KS.sizes {k : Int} {s : Sp} (h : KS k s) : s.lo.s.size ≤ 4611686018427387904 ∧ s.hi.s.size ≤ 4611686018427387904 := by
  cases hh : s.has with
  | true => exact ⟨(h.has hh).1.size, (h.has hh).2.1.size⟩
  | false =>
    have := h.no hh
    rw [this.1, this.2]
    exact ⟨empty_size, empty_size⟩
theorem KS.plus {s t : Sp} (hs : KS 2 s) (ht : KS 2 t) : KS 2 (strictM s t (plusM s t)) := by
  refine KS.strict fun h => ?_
  rw [Bool.and_eq_true] at h
  have h1 := hs.has h.1
  have h2 := ht.has h.2
  have h3 := (leV_num h1.1 h1.2.1).1 h1.2.2
  have h4 := (leV_num h2.1 h2.2.1).1 h2.2.2
  exact KS.numbers (by omega)
theorem KS.minus {s t : Sp} (hs : KS 2 s) (ht : KS 2 t) : KS 2 (strictM s t (minusM s t)) := by
  refine KS.strict fun h => ?_
  rw [Bool.and_eq_true] at h
  have h1 := hs.has h.1
  have h2 := ht.has h.2
  have h3 := (leV_num h1.1 h1.2.1).1 h1.2.2
  have h4 := (leV_num h2.1 h2.2.1).1 h2.2.2
  exact KS.numbers (by omega)
def BdsOk (ts : List Ty) (B : List Bd) : Prop := B.length ≥ ts.length ∧ ∀ c, c < ts.length → KS (ts.getD c dTy).k (colS (B.getD c zeroBd))
theorem range_ks {ts : List Ty} {B : List Bd} (hB : BdsOk ts B) {k : Int} {e : Ex} (h : Typ ts k e) : KS k (rangeM B e) := by
  induction h with
  | con hk hv hval => exact ⟨fun _ => ⟨hv, hv, leV_refl _⟩, fun h => by cases h⟩
  | col c hc => exact hB.2 c hc
  | not _ ih => exact KS.truth _ _ _
  | isn _ ih => exact KS.truth _ _ _
  | cmp hop _ _ ih1 ih2 =>
    rcases hop with rfl | rfl | rfl
    · exact KS.strict fun _ => KS.truth _ _ _
    · exact KS.strict fun _ => KS.truth _ _ _
    · exact KS.strict fun _ => KS.truth _ _ _
  | log hop _ _ ih1 ih2 =>
    rcases hop with rfl | rfl
    · exact KS.truth _ _ _
    · exact KS.truth _ _ _
  | num hop _ _ ih1 ih2 =>
    rcases hop with rfl | rfl
    · exact KS.plus ih1 ih2
    · exact KS.minus ih1 ih2
  | pre _ _ ih1 ih2 =>
    refine KS.strict fun _ => ?_
    unfold prefixM
    split <;> exact KS.truth _ _ _
theorem range_spec {ts : List Ty} {B : List Bd} (hB : BdsOk ts B) {k : Int} {e : Ex} (h : Typ ts k e) : Spec Tryd.prog 43 [.d (bds B), .agg (exA e)] (.agg (sp (rangeM B e))) := by
  induction h with
  | con hk hv hval => exact f43_const _ _ _
  | col c hc => exact f43_col B c nullV (by have := hB.1; omega)
  | not _ ih => exact f43_un8 _ _ _ _ ih (f107_spec _ _)
  | isn _ ih => exact f43_un9 _ _ _ _ ih (f108_spec _ _)
  | cmp hop _ _ ih1 ih2 =>
    rcases hop with rfl | rfl | rfl
    · exact f43_op3 _ _ _ _ _ _ ih1 ih2 (f110_spec _ _)
    · exact f43_op4 _ _ _ _ _ _ ih1 ih2 (f111_spec _ _)
    · exact f43_op5 _ _ _ _ _ _ ih1 ih2 (f112_spec _ _)
  | log hop _ _ ih1 ih2 =>
    rcases hop with rfl | rfl
    · exact f43_op6 _ _ _ _ _ _ ih1 ih2 (f105_spec _ _)
    · exact f43_op7 _ _ _ _ _ _ ih1 ih2 (f106_spec _ _)
  | num hop h1 h2 ih1 ih2 =>
    have b1 := (range_ks hB h1).lo_bd
    have b2 := (range_ks hB h2).lo_bd
    rcases hop with rfl | rfl
    · exact f43_op10 _ _ _ _ _ _ ih1 ih2 (f114_spec _ _ (by omega) (by omega))
    · exact f43_op11 _ _ _ _ _ _ ih1 ih2 (f115_spec _ _ (by omega) (by omega))
  | pre h1 h2 ih1 ih2 =>
    have b1 := (range_ks hB h1).sizes
    have b2 := (range_ks hB h2).sizes
    exact f43_op12 _ _ _ _ _ _ ih1 ih2 (f113_spec _ _ b1.1 b1.2 b2.1)
theorem SubS.refl (s : Sp) (h : s.has = true → True) : SubS s s := ⟨fun h => h, fun h => ⟨h, leV_refl _, leV_refl _⟩⟩
end
section
set_option linter.unusedVariables false
set_option linter.unusedSimpArgs false
open Go.RowKit
attribute [local irreducible] Spec SpecF SpecN
attribute [local irreducible] AWp evOps evD
def compM (op : Int) (s t : Sp) : Sp :=
  if op = 3 then truthM (!eqVl s.lo s.hi || !eqVl t.lo t.hi || !eqVl s.lo t.lo) (decide (cmpV s.hi t.lo ≥ 0) && decide (cmpV t.hi s.lo ≥ 0)) (s.null || t.null)
  else if op = 4 then truthM (decide (cmpV s.hi t.lo ≥ 0)) (decide (cmpV s.lo t.hi < 0)) (s.null || t.null)
  else if op = 5 then truthM (decide (cmpV s.hi t.lo > 0)) (decide (cmpV s.lo t.hi ≤ 0)) (s.null || t.null)
  else if eqVl t.lo t.hi = false then truthM true true (s.null || t.null)
  else truthM (!hasPre s.lo.s t.lo.s || !hasPre s.hi.s t.lo.s) (decide (cmpV s.hi t.lo ≥ 0) && (decide (cmpV s.lo t.lo ≤ 0) || hasPre s.lo.s t.lo.s)) (s.null || t.null)
structure SpSz (s : Sp) : Prop where
  lo : s.lo.s.size ≤ 4611686018427387904
  hi : s.hi.s.size ≤ 4611686018427387904
set_option maxHeartbeats 16000000 in
theorem f70_eq (s t : Sp) (hs : SpSz s) (ht : SpSz t) : Spec Tryd.prog 70 [litI .i64 3, .agg (sp s), .agg (sp t)] (.agg (sp (compM 3 s t))) := by
  obtain ⟨n1, h1, lo1, hi1⟩ := s
  obtain ⟨n2, h2, lo2, hi2⟩ := t
  have a1 := f37_same hi1 lo2 hs.hi ht.lo
  have a2 := f37_same hi2 lo1 ht.hi hs.lo
  unfold compM
  rw [if_pos rfl]
  simp only
  obtain ⟨e1, q1⟩ : ∃ e1, eqVl lo1 hi1 = e1 := ⟨_, rfl⟩
  obtain ⟨e2, q2⟩ : ∃ e2, eqVl lo2 hi2 = e2 := ⟨_, rfl⟩
  obtain ⟨e3, q3⟩ : ∃ e3, eqVl lo1 lo2 = e3 := ⟨_, rfl⟩
  have k1 : ((lo1.k == hi1.k) && ((lo1.i == hi1.i) && (lo1.s.toList == hi1.s.toList))) = e1 := q1
  have k2 : ((lo2.k == hi2.k) && ((lo2.i == hi2.i) && (lo2.s.toList == hi2.s.toList))) = e2 := q2
  have k3 : ((lo1.k == lo2.k) && ((lo1.i == lo2.i) && (lo1.s.toList == lo2.s.toList))) = e3 := q3
  rw [q1, q2, q3]
  clear q1 q2 q3
  generalize cmpV hi1 lo2 = c1 at *
  generalize cmpV hi2 lo1 = c2 at *
  cases n1 <;> cases e1 <;> cases e2 <;> cases d1 : decide (c1 ≥ 0)
  all_goals
    refine spec_of_awp (fn := Tryd.f70) Tryd.func70 (by kernel_rfl) rfl ?_
    intro w0 C0
    simp only [Tryd.ntmps70, go_sem]
    all_goals have H := And.intro k1 (And.intro k2 (And.intro k3 d1))
    repeat' first | refine awp_seq ?_ | refine awp_block ?_ | refine awp_skip ?_ | (apply regB; (case hd => exact hdA); intro K hK) | (apply ev_guardU; (case hj | hu | hσ => (simp only [go_sem, H]; try rfl))) | ((first | refine awp_cond _ (by rfl) ?_ ?_ | ((first | apply ev_guardT | apply ev_guardF); (case hj | hb => (simp only [go_sem, H]; try rfl)))) <;> (first | refine ttA ?_ | refine ffA ?_ | (intro hb; first | (cases hb; done) | simp only [hb] | skip))) | ((first | apply awp_exit | apply awp_ret); refine tqA ?_) | (refine ev_nil (hK _ ?_); clear hK K) | (apply ev_call0; (case hys => (simp only [go_sem, H]; try rfl)); (case hs => first | exact a1 .. | exact a2 .. | exact f68_spec ..); (case hok | hσ => (simp only [go_sem, H]; try rfl))) | (apply regDB; (case hd => exact hdA); (case' h => (intro K hK; (repeat' first | (apply evd_nil; refine (hK _ ?_); clear hK K) | (apply evd_guardU0; (case hj | hu | hσ => (simp only [go_sem, H]; try rfl))) | (apply evd_guardU; (case hj | hu | hσ => (simp only [go_sem, H]; try rfl))) | (apply evd_skipT0; (case hj | hb | hσ => (simp only [go_sem, H]; try rfl))) | (apply evd_skipF0; (case hj | hb | hσ => (simp only [go_sem, H]; try rfl))) | (apply evd_skipT; (case hj | hb | hσ => (simp only [go_sem, H]; try rfl))) | (apply evd_skipF; (case hj | hb | hσ => (simp only [go_sem, H]; try rfl))) | (apply evd_guardT; (case hj | hb => (simp only [go_sem, H]; try rfl)); (case' h2 => (intro hb; first | (cases hb; done) | (simp only [hb]) | skip)); (case' h1 => (intro hb; first | (cases hb; done) | (simp only [hb]) | skip))) | (apply evd_guardF; (case hj | hb => (simp only [go_sem, H]; try rfl)); (case' h2 => (intro hb; first | (cases hb; done) | (simp only [hb]) | skip)); (case' h1 => (intro hb; first | (cases hb; done) | (simp only [hb]) | skip))) | (apply evd_call0; (case hi | hys => (simp only [go_sem, H]; try rfl)); (case hs => first | exact a1 .. | exact a2 .. | exact f68_spec ..); (case hok | hw | hσ => (simp only [go_sem, H]; try rfl))) | (apply evd_step0; (case hr | hi | hσ => (simp only [go_sem, H]; try rfl)); (case hc => exact hcA)) | (apply evd_step; (case hr | hi | hw | hσ => (intros; simp only [go_sem, H]; try rfl)); (case hc => exact hcA); (case' hk => (intro g u; (try clear u); (try clear g)))) | fail))); (case hB => kernel_rfl)) | (apply ev_step0; (case hr | hσ => (simp only [go_sem, H]; try rfl)); (case hc => exact hcA)) | (apply ev_step; (case hr | hσ => (intros; simp only [go_sem, H]; try rfl)); (case hc => exact hcA); intro g u; (try clear u); (try clear g)) | fail
    all_goals try clear H
    all_goals (refine resR_oneA ?_; simp only [go_sem])
    exact LeA.refl _
set_option maxHeartbeats 4000000 in
theorem f70_lt (op : Int) (hop : op = 4 ∨ op = 5) (s t : Sp) (hs : SpSz s) (ht : SpSz t) : Spec Tryd.prog 70 [litI .i64 op, .agg (sp s), .agg (sp t)] (.agg (sp (compM op s t))) := by
  obtain ⟨n1, h1, lo1, hi1⟩ := s
  obtain ⟨n2, h2, lo2, hi2⟩ := t
  have a1 := f37_same hi1 lo2 hs.hi ht.lo
  have a2 := f37_same lo1 hi2 hs.lo ht.hi
  unfold compM
  rcases hop with rfl | rfl <;> cases n1
  all_goals
    refine spec_of_awp (fn := Tryd.f70) Tryd.func70 (by kernel_rfl) rfl ?_
    intro w0 C0
    simp only [Tryd.ntmps70, go_sem]
    repeat' first | refine awp_seq ?_ | refine awp_block ?_ | refine awp_skip ?_ | (apply regB; (case hd => exact hdA); intro K hK) | (apply ev_guardU; (case hj | hu | hσ => (simp only [go_sem]; try rfl))) | ((first | refine awp_cond _ (by rfl) ?_ ?_ | ((first | apply ev_guardT | apply ev_guardF); (case hj | hb => (simp only [go_sem]; try rfl)))) <;> (first | refine ttA ?_ | refine ffA ?_ | (intro hb; first | (cases hb; done) | simp only [hb] | skip))) | ((first | apply awp_exit | apply awp_ret); refine tqA ?_) | (refine ev_nil (hK _ ?_); clear hK K) | (apply ev_call0; (case hys => (simp only [go_sem]; try rfl)); (case hs => first | exact a1 .. | exact a2 .. | exact f68_spec ..); (case hok | hσ => (simp only [go_sem]; try rfl))) | (apply regDB; (case hd => exact hdA); (case' h => (intro K hK; (repeat' first | (apply evd_nil; refine (hK _ ?_); clear hK K) | (apply evd_guardU0; (case hj | hu | hσ => (simp only [go_sem]; try rfl))) | (apply evd_guardU; (case hj | hu | hσ => (simp only [go_sem]; try rfl))) | (apply evd_skipT0; (case hj | hb | hσ => (simp only [go_sem]; try rfl))) | (apply evd_skipF0; (case hj | hb | hσ => (simp only [go_sem]; try rfl))) | (apply evd_skipT; (case hj | hb | hσ => (simp only [go_sem]; try rfl))) | (apply evd_skipF; (case hj | hb | hσ => (simp only [go_sem]; try rfl))) | (apply evd_guardT; (case hj | hb => (simp only [go_sem]; try rfl)); (case' h2 => (intro hb; first | (cases hb; done) | (simp only [hb]) | skip)); (case' h1 => (intro hb; first | (cases hb; done) | (simp only [hb]) | skip))) | (apply evd_guardF; (case hj | hb => (simp only [go_sem]; try rfl)); (case' h2 => (intro hb; first | (cases hb; done) | (simp only [hb]) | skip)); (case' h1 => (intro hb; first | (cases hb; done) | (simp only [hb]) | skip))) | (apply evd_call0; (case hi | hys => (simp only [go_sem]; try rfl)); (case hs => first | exact a1 .. | exact a2 .. | exact f68_spec ..); (case hok | hw | hσ => (simp only [go_sem]; try rfl))) | (apply evd_step0; (case hr | hi | hσ => (simp only [go_sem]; try rfl)); (case hc => exact hcA)) | (apply evd_step; (case hr | hi | hw | hσ => (intros; simp only [go_sem]; try rfl)); (case hc => exact hcA); (case' hk => (intro g u; (try clear u); (try clear g)))) | fail))); (case hB => kernel_rfl)) | (apply ev_step0; (case hr | hσ => (simp only [go_sem]; try rfl)); (case hc => exact hcA)) | (apply ev_step; (case hr | hσ => (intros; simp only [go_sem]; try rfl)); (case hc => exact hcA); intro g u; (try clear u); (try clear g)) | fail
    all_goals (refine resR_oneA ?_; simp only [go_sem])
    exact LeA.refl _
set_option maxHeartbeats 16000000 in
theorem f70_pre (s t : Sp) (hs : SpSz s) (ht : SpSz t) : Spec Tryd.prog 70 [litI .i64 12, .agg (sp s), .agg (sp t)] (.agg (sp (compM 12 s t))) := by
  obtain ⟨n1, h1, lo1, hi1⟩ := s
  obtain ⟨n2, h2, lo2, hi2⟩ := t
  have a1 := f37_same hi1 lo2 hs.hi ht.lo
  have a2 := f37_same lo1 lo2 hs.lo ht.lo
  have b1 := f81_spec lo1 lo2 hs.lo ht.lo
  have b2 := f81_spec hi1 lo2 hs.hi ht.lo
  unfold compM
  rw [if_neg (by decide), if_neg (by decide), if_neg (by decide)]
  simp only
  obtain ⟨e2, q2⟩ : ∃ e2, eqVl lo2 hi2 = e2 := ⟨_, rfl⟩
  have k2 : ((lo2.k == hi2.k) && ((lo2.i == hi2.i) && (lo2.s.toList == hi2.s.toList))) = e2 := q2
  rw [q2]
  clear q2
  generalize cmpV hi1 lo2 = c1 at *
  generalize cmpV lo1 lo2 = c2 at *
  generalize hasPre lo1.s lo2.s = p1 at *
  generalize hasPre hi1.s lo2.s = p2 at *
  cases e2 with
  | false =>
    rw [if_pos rfl]
    cases n1
    all_goals
      refine spec_of_awp (fn := Tryd.f70) Tryd.func70 (by kernel_rfl) rfl ?_
      intro w0 C0
      simp only [Tryd.ntmps70, go_sem]
      repeat' first | refine awp_seq ?_ | refine awp_block ?_ | refine awp_skip ?_ | (apply regB; (case hd => exact hdA); intro K hK) | (apply ev_guardU; (case hj | hu | hσ => (simp only [go_sem, k2]; try rfl))) | ((first | refine awp_cond _ (by rfl) ?_ ?_ | ((first | apply ev_guardT | apply ev_guardF); (case hj | hb => (simp only [go_sem, k2]; try rfl)))) <;> (first | refine ttA ?_ | refine ffA ?_ | (intro hb; first | (cases hb; done) | simp only [hb] | skip))) | ((first | apply awp_exit | apply awp_ret); refine tqA ?_) | (refine ev_nil (hK _ ?_); clear hK K) | (apply ev_call0; (case hys => (simp only [go_sem, k2]; try rfl)); (case hs => first | exact f68_spec ..); (case hok | hσ => (simp only [go_sem, k2]; try rfl))) | (apply regDB; (case hd => exact hdA); (case' h => (intro K hK; (repeat' first | (apply evd_nil; refine (hK _ ?_); clear hK K) | (apply evd_guardU0; (case hj | hu | hσ => (simp only [go_sem, k2]; try rfl))) | (apply evd_guardU; (case hj | hu | hσ => (simp only [go_sem, k2]; try rfl))) | (apply evd_skipT0; (case hj | hb | hσ => (simp only [go_sem, k2]; try rfl))) | (apply evd_skipF0; (case hj | hb | hσ => (simp only [go_sem, k2]; try rfl))) | (apply evd_skipT; (case hj | hb | hσ => (simp only [go_sem, k2]; try rfl))) | (apply evd_skipF; (case hj | hb | hσ => (simp only [go_sem, k2]; try rfl))) | (apply evd_guardT; (case hj | hb => (simp only [go_sem, k2]; try rfl)); (case' h2 => (intro hb; first | (cases hb; done) | (simp only [hb]) | skip)); (case' h1 => (intro hb; first | (cases hb; done) | (simp only [hb]) | skip))) | (apply evd_guardF; (case hj | hb => (simp only [go_sem, k2]; try rfl)); (case' h2 => (intro hb; first | (cases hb; done) | (simp only [hb]) | skip)); (case' h1 => (intro hb; first | (cases hb; done) | (simp only [hb]) | skip))) | (apply evd_call0; (case hi | hys => (simp only [go_sem, k2]; try rfl)); (case hs => first | exact f68_spec ..); (case hok | hw | hσ => (simp only [go_sem, k2]; try rfl))) | (apply evd_step0; (case hr | hi | hσ => (simp only [go_sem, k2]; try rfl)); (case hc => exact hcA)) | (apply evd_step; (case hr | hi | hw | hσ => (intros; simp only [go_sem, k2]; try rfl)); (case hc => exact hcA); (case' hk => (intro g u; (try clear u); (try clear g)))) | fail))); (case hB => kernel_rfl)) | (apply ev_step0; (case hr | hσ => (simp only [go_sem, k2]; try rfl)); (case hc => exact hcA)) | (apply ev_step; (case hr | hσ => (intros; simp only [go_sem, k2]; try rfl)); (case hc => exact hcA); intro g u; (try clear u); (try clear g)) | fail
      all_goals (refine resR_oneA ?_; simp only [go_sem])
      exact LeA.refl _
  | true =>
    rw [if_neg (by decide)]
    cases n1 <;> cases p1 <;> cases d1 : decide (c1 ≥ 0) <;> cases d2 : decide (c2 ≤ 0)
    all_goals
      refine spec_of_awp (fn := Tryd.f70) Tryd.func70 (by kernel_rfl) rfl ?_
      intro w0 C0
      simp only [Tryd.ntmps70, go_sem]
      all_goals have H := And.intro k2 (And.intro d1 d2)
      repeat' first | refine awp_seq ?_ | refine awp_block ?_ | refine awp_skip ?_ | (apply regB; (case hd => exact hdA); intro K hK) | (apply ev_guardU; (case hj | hu | hσ => (simp only [go_sem, H]; try rfl))) | ((first | refine awp_cond _ (by rfl) ?_ ?_ | ((first | apply ev_guardT | apply ev_guardF); (case hj | hb => (simp only [go_sem, H]; try rfl)))) <;> (first | refine ttA ?_ | refine ffA ?_ | (intro hb; first | (cases hb; done) | simp only [hb] | skip))) | ((first | apply awp_exit | apply awp_ret); refine tqA ?_) | (refine ev_nil (hK _ ?_); clear hK K) | (apply ev_call0; (case hys => (simp only [go_sem, H]; try rfl)); (case hs => first | exact a1 .. | exact a2 .. | exact b1 .. | exact b2 .. | exact f68_spec ..); (case hok | hσ => (simp only [go_sem, H]; try rfl))) | (apply regDB; (case hd => exact hdA); (case' h => (intro K hK; (repeat' first | (apply evd_nil; refine (hK _ ?_); clear hK K) | (apply evd_guardU0; (case hj | hu | hσ => (simp only [go_sem, H]; try rfl))) | (apply evd_guardU; (case hj | hu | hσ => (simp only [go_sem, H]; try rfl))) | (apply evd_skipT0; (case hj | hb | hσ => (simp only [go_sem, H]; try rfl))) | (apply evd_skipF0; (case hj | hb | hσ => (simp only [go_sem, H]; try rfl))) | (apply evd_skipT; (case hj | hb | hσ => (simp only [go_sem, H]; try rfl))) | (apply evd_skipF; (case hj | hb | hσ => (simp only [go_sem, H]; try rfl))) | (apply evd_guardT; (case hj | hb => (simp only [go_sem, H]; try rfl)); (case' h2 => (intro hb; first | (cases hb; done) | (simp only [hb]) | skip)); (case' h1 => (intro hb; first | (cases hb; done) | (simp only [hb]) | skip))) | (apply evd_guardF; (case hj | hb => (simp only [go_sem, H]; try rfl)); (case' h2 => (intro hb; first | (cases hb; done) | (simp only [hb]) | skip)); (case' h1 => (intro hb; first | (cases hb; done) | (simp only [hb]) | skip))) | (apply evd_call0; (case hi | hys => (simp only [go_sem, H]; try rfl)); (case hs => first | exact a1 .. | exact a2 .. | exact b1 .. | exact b2 .. | exact f68_spec ..); (case hok | hw | hσ => (simp only [go_sem, H]; try rfl))) | (apply evd_step0; (case hr | hi | hσ => (simp only [go_sem, H]; try rfl)); (case hc => exact hcA)) | (apply evd_step; (case hr | hi | hw | hσ => (intros; simp only [go_sem, H]; try rfl)); (case hc => exact hcA); (case' hk => (intro g u; (try clear u); (try clear g)))) | fail))); (case hB => kernel_rfl)) | (apply ev_step0; (case hr | hσ => (simp only [go_sem, H]; try rfl)); (case hc => exact hcA)) | (apply ev_step; (case hr | hσ => (intros; simp only [go_sem, H]; try rfl)); (case hc => exact hcA); intro g u; (try clear u); (try clear g)) | fail
      all_goals try clear H
      all_goals (refine resR_oneA ?_; simp only [go_sem])
      exact LeA.refl _
theorem strict_truth (s t : Sp) (h : (s.has && t.has) = true) (n y : Bool) : strictM s t (truthM n y false) = truthM n y (s.null || t.null) := by
  unfold strictM truthM
  rw [if_pos h]
  cases n <;> cases y <;> simp
theorem comp12 (s t : Sp) : compM 12 s t = if eqVl t.lo t.hi = false then truthM true true (s.null || t.null)
    else truthM (!hasPre s.lo.s t.lo.s || !hasPre s.hi.s t.lo.s) (decide (cmpV s.hi t.lo ≥ 0) && (decide (cmpV s.lo t.lo ≤ 0) || hasPre s.lo.s t.lo.s)) (s.null || t.null) := by
  unfold compM
  rw [if_neg (show ¬ (12 : Int) = 3 by decide), if_neg (show ¬ (12 : Int) = 4 by decide), if_neg (show ¬ (12 : Int) = 5 by decide)]
theorem bi12 (s t : Sp) : biM 12 s t = strictM s t (prefixM s t) := rfl
theorem comp_strict (op : Int) (s t : Sp) (h : (s.has && t.has) = true) (hop : op = 3 ∨ op = 4 ∨ op = 5 ∨ (op = 12 ∧ KS 3 s ∧ KS 3 t)) : compM op s t = biM op s t := by
  rcases hop with rfl | rfl | rfl | ⟨rfl, ks, kt⟩
  all_goals first | (show compM 12 s t = _; skip) | unfold compM biM
  · rw [if_pos rfl, if_pos rfl, equalM, strict_truth s t h]
    congr 1
    unfold apartM
    have e : ∀ a : Int, decide (a ≥ 0) = !decide (a < 0) := fun a => by by_cases ha : a < 0 <;> simp [ha] <;> omega
    rw [e, e]
    cases decide (cmpV s.hi t.lo < 0) <;> cases decide (cmpV t.hi s.lo < 0) <;> rfl
  · rw [if_neg (by decide), if_pos rfl, if_neg (by decide), if_pos rfl, lessM, strict_truth s t h]
  · rw [if_neg (by decide), if_neg (by decide), if_pos rfl, if_neg (by decide), if_neg (by decide), if_pos rfl, mostM, strict_truth s t h]
  · show compM 12 s t = biM 12 s t
    rw [comp12, bi12]
    unfold prefixM
    rw [Bool.and_eq_true] at h
    have k1 := ks.has h.1
    have k2 := kt.has h.2
    have hh : (s.has && t.has) = true := by rw [Bool.and_eq_true]; exact h
    split
    · rw [strict_truth s t hh]
    · rw [strict_truth s t hh]
      congr 1
      have e1 : decide (cmpV s.hi t.lo ≥ 0) = geS s.hi.s t.lo.s := by
        rw [Bool.eq_iff_iff, decide_eq_true_eq, ge_iff, leV_text k2.1 k1.2.1, geS_iff]
      have e2 : decide (cmpV s.lo t.lo ≤ 0) = leS s.lo.s t.lo.s := by
        rw [Bool.eq_iff_iff, decide_eq_true_eq, leS_iff, ← leV_text k1.1 k2.1]; exact Iff.rfl
      rw [e1, e2]
theorem num_strict (s t : Sp) (lo hi : Int) (h : (s.has && t.has) = true) (hl : lo ≤ hi) : numM lo hi (s.null || t.null) = strictM s t (numbersM lo hi) := by
  unfold numM strictM numbersM
  rw [if_pos h]
  by_cases h1 : hi < -4000000000000000000
  · rw [if_pos (by simp [h1]), if_neg (by simp; omega)]
    have : lo < -4000000000000000000 := by omega
    simp [this]
  by_cases h2 : lo > 4000000000000000000
  · rw [if_pos (by simp [h2]), if_neg (by simp; omega)]
    have : hi > 4000000000000000000 := by omega
    simp [this]
  rw [if_neg (by simp; omega), if_pos (by simp; omega)]
  simp only [Sp.mk.injEq, and_true]
  by_cases h3 : lo < -4000000000000000000 <;> by_cases h4 : hi > 4000000000000000000 <;> cases s.null <;> cases t.null <;> simp [h3, h4] <;> omega
end
end Go.Proofs.YtopigomfhggkoaaDoor.A
